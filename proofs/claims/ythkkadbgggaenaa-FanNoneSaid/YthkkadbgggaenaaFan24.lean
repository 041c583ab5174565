/-
  Layer 14: the law FanBares: true for every input.
-/
import Derived.Test.YthkkadbgggaenaaFan23
import Derived.Test.YthkkadbgggaenaaFan13
namespace Go.Proofs.Ythkkadbgggaenaa
set_option linter.unusedSimpArgs false
set_option linter.unusedVariables false
set_option linter.unusedSectionVars false
open Go.RowKit

theorem bareRd {W : World} {B : Nat} {A : Option Addr} {R : List Hd} (h : R = [] ∨ ∃ g cur', A = some ⟨g, 0, none⟩ ∧ B ≤ g ∧ RowC W g cur' R) : Reads W W.heap.size 4 A R.length (hcs R) := by
  rcases h with rfl | ⟨g, cur, rfl, _, hr⟩
  · exact reads_no _ _ _
  · haveI := hr.b
    have := row_rd0 hr R.length (Nat.le_refl _) W
    rw [List.take_length] at this; exact this
theorem bareBx {W : World} {B : Nat} {A : Option Addr} {R : List Hd} (h : R = [] ∨ ∃ g cur', A = some ⟨g, 0, none⟩ ∧ B ≤ g ∧ RowC W g cur' R) : R = [] ∨ ∃ g cur', A = some ⟨g, 0, none⟩ ∧ B ≤ g ∧ BoxAt W g cur' 29 ∧ R.length * 4 ≤ cur'.size := by
  rcases h with h | ⟨g, cur, h1, h2, hr⟩
  · exact Or.inl h
  · exact Or.inr ⟨g, cur, h1, h2, hr.b, hr.sz⟩
set_option maxRecDepth 100000 in
set_option maxHeartbeats 4000000 in
theorem fanBaresY (A : Option Addr) (c : Nat) (F : List (Int × List Hd)) (w : World) (h : FanR w A F) (hfl : F.length ≤ 140737488351232) (hl : ∀ f ∈ F, f.2.length ≤ 140737488351232) (h3 : sumF F ≤ 300) :
    Calls Try.prog 4 #[.slice A F.length c] w (RetB w true) := by
  have HF := hide h
  have q1 := sumF_len F
  have q2 := sumF_all F
  have TM := hide (many_s A c F w h hfl hl)
  rw [decide_eq_false (show ¬ 300 < sumF F by omega)] at TM
  have hm : ∀ f ∈ F, f.2.length ≤ 100000 := fun f hf => by have := sumF_mem hf; omega
  have TO := hide (fun W (h : FanR W A F) => rown_s A c F W h (by omega) hm)
  have TB := hide (fun W (h : FanR W A F) => bareAll_s A c F W h (by omega) (by omega))
  have TR := hide (fun W A' c' (h : FanR W A' F) => rbare_s A' c' F W h (by omega) hm (by omega))
  have TS : Hid (∀ (R S : List Hd) A' c' A2 c2 W, Srt R → Srt S → Fib (allH F) R → Fib (allH F) S → Reads W W.heap.size 4 A' R.length (hcs R) → Reads W W.heap.size 4 A2 S.length (hcs S) → Calls Try.prog 17 #[.slice A' R.length c', .slice A2 S.length c2] W (RetB W true)) := hide (fun R S A' c' A2 c2 W h1 h2 h3 h4 h5 h6 => by
    have e := srt_uniq h1 h2 (h3.symm.trans h4)
    have k1 := h3.len
    have k2 := h4.len
    have := sameH_s A' c' R A2 c2 S W h5 h6 (by omega) (by omega)
    rw [decide_eq_true e] at this
    exact this)
  have TF := hide (fun W A' c' (h : FanR W A F) (h' : FanR W A' F) => (by
    have := sameF_s A c F A' c' F W h h' (by omega) (by omega) (fun f hf => by have := hm f hf; omega) (fun f hf => by have := hm f hf; omega)
    rw [decide_eq_true rfl] at this
    exact this : Calls Try.prog 15 #[.slice A F.length c, .slice A' F.length c'] W (RetB W true)))
  have TA := hide (fun W => awake14_t W)
  have hR2 : ∀ R, Fib (allH F) R → R.length ≤ 300 := fun R hR => by rw [← hR.len]; omega
  have HR2 := hide hR2
  clear h hfl hl h3 q1 q2 hm hR2
  go_enter Try.func4, Try.ntmps4
  go_wp2_with fail
  (with_reducible refine TM.out.mono ?_)
  rintro e w1 ⟨rfl, hb1⟩
  haveI : Stp _ w1 := ⟨hb1⟩
  clear hb1
  go_wp2_with fail
  (with_reducible refine (TO.out _ HF.out.tc).mono ?_)
  rintro e w2 ⟨v, rfl, hO, hb2⟩
  haveI : Stp _ w2 := ⟨hb2⟩
  obtain ⟨A2, c2, rfl, HW⟩ : ∃ A2 c2, v = .slice A2 F.length c2 ∧ FanR w2 A2 F := by
    obtain ⟨X, k1, k2, k3⟩ := hO
    obtain ⟨A', c', e, _, _⟩ := own_slice k2
    subst e
    exact ⟨A', c', rfl, FanO.read ⟨X, k1, k2, k3⟩⟩
  have HW := hide HW
  clear hO hb2
  go_wp2_with fail
  (with_reducible refine (TB.out _ HF.out.tc).mono ?_)
  rintro e w3 ⟨R, A3, c3, hs3, hf3, rfl, hr3, hb3⟩
  haveI : Stp _ w3 := ⟨hb3⟩
  have zz := hb3.size
  have HS3 := hide (And.intro hs3 hf3)
  have hRl := HR2.out R hf3
  have HB3 := hide (bareBx hr3)
  haveI : Src w3 A3 R.length 4 (hcs R) := ⟨bareRd hr3⟩
  clear hs3 hf3 hb3 hr3
  go_wp2_with fail
  (with_reducible refine (TR.out _ A2 c2 HW.out.tc).mono ?_)
  rintro e w4 ⟨S, A4, c4, hs4, hf4, rfl, hr4, hb4⟩
  haveI : Stp _ w4 := ⟨hb4⟩
  have HS4 := hide (And.intro hs4 hf4)
  haveI : Src w4 A4 S.length 4 (hcs S) := ⟨bareRd hr4⟩
  clear hs4 hf4 hb4 hr4
  go_wp2_with fail
  (with_reducible refine (TS.out R S A3 c3 A4 c4 _ HS3.out.1 HS4.out.1 HS3.out.2 HS4.out.2 src src).mono ?_)
  rintro e w5 ⟨rfl, hb5⟩
  haveI : Stp _ w5 := ⟨hb5⟩
  clear hb5
  go_wp2_with fail
  go_loopw [5] (fun j wr => ∃ k : Nat, k ≤ R.length ∧ j = .int .i64 k ∧ Below w2.heap.size w2 wr ∧ (R = [] ∨ ∃ g cur', A3 = some ⟨g, 0, none⟩ ∧ w2.heap.size ≤ g ∧ BoxAt wr g cur' 29 ∧ R.length * 4 ≤ cur'.size)) (fun j _ => R.length - (intOf j).toNat)
  case atStart =>
    refine ⟨0, Nat.zero_le _, rfl, blw, ?_⟩
    rcases HB3.out with h | ⟨g, cur, h1, h2, h3, h4⟩
    · exact Or.inl h
    · haveI := h3
      exact Or.inr ⟨g, cur, h1, h2, inferInstance, h4⟩
  case round =>
    obtain ⟨k, hk, rfl, hB, hbx⟩ := hrel
    haveI : Stp w2 wr := ⟨hB⟩
    clear hB
    by_cases hlt : k < R.length
    · obtain ⟨g, cur, rfl, hg, hbb, hsz⟩ := hbx.resolve_left (fun e => by rw [e] at hlt; simp at hlt)
      haveI := hbb
      haveI : LeN w2.heap.size g := ⟨hg⟩
      haveI : InW g wr := ⟨hbb.lt⟩
      have i0 : (0 : Int) ≤ (k : Int) := by omega
      have i1 : (k : Int) < (R.length : Int) := by omega
      have HSZ := hide hsz
      obtain ⟨x0, d0⟩ : ∃ x, cur[k * 4]? = some x := ⟨_, Array.getElem?_eq_getElem (by omega)⟩
      obtain ⟨x1, d1⟩ : ∃ x, cur[k * 4 + 1]? = some x := ⟨_, Array.getElem?_eq_getElem (by omega)⟩
      obtain ⟨x2, d2⟩ : ∃ x, cur[k * 4 + 2]? = some x := ⟨_, Array.getElem?_eq_getElem (by omega)⟩
      obtain ⟨x3, d3⟩ : ∃ x, cur[k * 4 + 3]? = some x := ⟨_, Array.getElem?_eq_getElem (by omega)⟩
      have e01 : ∀ (A : Array Value) (v : Value), (A.setIfInBounds (k * 4) v)[k * 4 + 1]? = A[k * 4 + 1]? := fun A v => Array.getElem?_setIfInBounds_ne (by omega)
      have e02 : ∀ (A : Array Value) (v : Value), (A.setIfInBounds (k * 4) v)[k * 4 + 2]? = A[k * 4 + 2]? := fun A v => Array.getElem?_setIfInBounds_ne (by omega)
      have e03 : ∀ (A : Array Value) (v : Value), (A.setIfInBounds (k * 4) v)[k * 4 + 3]? = A[k * 4 + 3]? := fun A v => Array.getElem?_setIfInBounds_ne (by omega)
      have e12 : ∀ (A : Array Value) (v : Value), (A.setIfInBounds (k * 4 + 1) v)[k * 4 + 2]? = A[k * 4 + 2]? := fun A v => Array.getElem?_setIfInBounds_ne (by omega)
      have e13 : ∀ (A : Array Value) (v : Value), (A.setIfInBounds (k * 4 + 1) v)[k * 4 + 3]? = A[k * 4 + 3]? := fun A v => Array.getElem?_setIfInBounds_ne (by omega)
      have e23 : ∀ (A : Array Value) (v : Value), (A.setIfInBounds (k * 4 + 2) v)[k * 4 + 3]? = A[k * 4 + 3]? := fun A v => Array.getElem?_setIfInBounds_ne (by omega)
      clear hsz
      go_wp2_with fail
      go_roundw
      case rel => exact ⟨k + 1, by omega, by go_num, blw, Or.inr ⟨g, _, rfl, hg, (inferInstance : BoxAt _ g _ _), by have := HSZ.out; simpa using this⟩⟩
      case measure => simp [intOf]; omega
    · obtain rfl : k = R.length := by omega
      go_wp2_with fail
      (with_reducible refine (TF.out _ A2 c2 HF.out.tc HW.out.tc).mono ?_)
      rintro e w6 ⟨rfl, hb6⟩
      haveI : Stp _ w6 := ⟨hb6⟩
      clear hb6
      go_wp2_with fail
      (with_reducible refine (TA.out _).mono ?_)
      rintro e w7 ⟨rfl, hb7⟩
      haveI : Stp _ w7 := ⟨hb7⟩
      clear hb7
      go_wp2
      go_ret
      exact ⟨rfl, blw⟩
set_option maxRecDepth 100000 in
theorem fanBares_true (A : Option Addr) (c : Nat) (F : List (Int × List Hd)) (w : World) (h : FanR w A F) (hfl : F.length ≤ 140737488351232) (hl : ∀ f ∈ F, f.2.length ≤ 140737488351232) :
    Calls Try.prog 4 #[.slice A F.length c] w (RetB w true) := by
  by_cases h3 : sumF F ≤ 300
  · exact fanBaresY A c F w h hfl hl h3
  · have TM := hide (many_s A c F w h hfl hl)
    rw [decide_eq_true (show 300 < sumF F by omega)] at TM
    have TA := hide (fun W => awake14_t W)
    clear h hfl hl h3
    go_enter Try.func4, Try.ntmps4
    go_wp2_with fail
    (with_reducible refine TM.out.mono ?_)
    rintro e w1 ⟨rfl, hb1⟩
    haveI : Stp _ w1 := ⟨hb1⟩
    clear hb1
    go_wp2_with fail
    (with_reducible refine (TA.out _).mono ?_)
    rintro e w7 ⟨rfl, hb7⟩
    haveI : Stp _ w7 := ⟨hb7⟩
    clear hb7
    go_wp2
    go_ret
    exact ⟨rfl, blw⟩
end Go.Proofs.Ythkkadbgggaenaa
