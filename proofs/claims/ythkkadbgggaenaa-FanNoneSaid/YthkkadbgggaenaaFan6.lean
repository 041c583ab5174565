/-
  Layer 14: contracts of the reference: SameHeads, Same.
-/
import Derived.Test.YthkkadbgggaenaaFan5
namespace Go.Proofs.Ythkkadbgggaenaa
set_option linter.unusedSimpArgs false
set_option linter.unusedVariables false
set_option linter.unusedSectionVars false
open Go.RowKit

theorem Try.stoodHf : Try.prog.stoodInHeld 29 = false := by kernel_rfl
theorem Try.guardHf : Try.prog.eqGuardType Try.prog.depth 29 = false := by kernel_rfl
def eqHf (a b c d a' b' c' d' : Int) : Bool := decide (a = a' ∧ b = b' ∧ c = c' ∧ d = d')
theorem equalInHf (a b c d a' b' c' d' : Int) (w : World) : (Op.equalIn 10000 29 (.agg #[.int .i64 a, .int .u64 b, .int .u64 c, .int .u64 d]) (.agg #[.int .i64 a', .int .u64 b', .int .u64 c', .int .u64 d'])).run Try.prog w = .ok (eqHf a b c d a' b' c' d') w := by
  have hu := Try.underlying29
  have hs := Try.stoodHf
  unfold eqHf
  by_cases h1 : a = a' <;> by_cases h2 : b = b' <;> by_cases h3 : c = c' <;> by_cases h4 : d = d' <;> simp [go_sem, hs, h1, h2, h3, h4]
@[go_sem ↓] theorem neqHf (a b c d a' b' c' d' : Int) (w : World) : (binOp .neq 29 (.agg #[.int .i64 a, .int .u64 b, .int .u64 c, .int .u64 d]) (.agg #[.int .i64 a', .int .u64 b', .int .u64 c', .int .u64 d'])).run Try.prog w = .ok (.bool (!eqHf a b c d a' b' c' d')) w := by
  rw [run_neq_struct, equalInHf]; rfl
@[go_sem ↓] theorem eqGuardHf (op : BinOp) (x y : Operand) (xs ys : Array Value) (w : World) : (eqGuard op 29 x y (.agg xs) (.agg ys)).run Try.prog w = .ok () w := run_eqGuard_agg w op _ x y xs ys Try.guardHf
theorem eqHf_iff (p q : Hd) : eqHf p.d p.c p.s p.i q.d q.c q.s q.i = decide (p = q) := by
  obtain ⟨a, b, c, d⟩ := p
  obtain ⟨a', b', c', d'⟩ := q
  simp [eqHf]
theorem take_eq {α : Type} {l l' : List α} {m : Nat} {p p' : α} (h : l[m]? = some p) (h' : l'[m]? = some p') (ht : l.take m = l'.take m) (e : p = p') : l.take (m + 1) = l'.take (m + 1) := by
  rw [take_succ_of h, take_succ_of h', ht, e]
set_option maxRecDepth 100000 in
set_option maxHeartbeats 2000000 in
theorem sameH_s (A : Option Addr) (c : Nat) (x : List Hd) (B : Option Addr) (d : Nat) (y : List Hd) (w : World) (h : Reads w w.heap.size 4 A x.length (hcs x)) (h' : Reads w w.heap.size 4 B y.length (hcs y)) (hl : x.length ≤ 1000000) (hl' : y.length ≤ 1000000) :
    Calls Try.prog 17 #[.slice A x.length c, .slice B y.length d] w (RetB w (decide (x = y))) := by
  haveI : Src w A x.length 4 (hcs x) := ⟨h⟩
  haveI : Src w B y.length 4 (hcs y) := ⟨h'⟩
  clear h h'
  cases f1 : ((x.length : Int) != (y.length : Int))
  · have hlen : x.length = y.length := by have := f1; simp at this; omega
    have HLEN := hide hlen
    clear hlen
    go_enter Try.func17, Try.ntmps17
    go_wp2
    go_loopw [5] (fun j wr => ∃ m : Nat, m ≤ x.length ∧ j = .int .i64 m ∧ Below w.heap.size w wr ∧ x.take m = y.take m) (fun j _ => x.length - (intOf j).toNat)
    case atStart => exact ⟨0, Nat.zero_le _, rfl, blw, rfl⟩
    case round =>
      obtain ⟨m, hm, rfl, hB, htk⟩ := hrel
      haveI : Blw w wr := ⟨hB⟩
      have HN := hide htk
      clear htk hB
      by_cases hlt : m < x.length
      · have hlt' : m < y.length := by have := HLEN.out; omega
        obtain ⟨b, off, p, rfl, hb, hp1, g1, g2, g3, g4⟩ := (show Reads wr w.heap.size 4 A x.length (hcs x) from srcB).at4 hlt
        obtain ⟨b', off', p', rfl, hb', hp1', e1, e2, e3, e4⟩ := (show Reads wr w.heap.size 4 B y.length (hcs y) from srcB).at4 hlt'
        have HP := hide hp1
        have HP' := hide hp1'
        haveI : InW b wr := ⟨Nat.lt_of_lt_of_le hb (Blw.h (a := w) (W := wr)).size⟩
        haveI : InW b' wr := ⟨Nat.lt_of_lt_of_le hb' (Blw.h (a := w) (W := wr)).size⟩
        have i0 : (0 : Int) ≤ (m : Int) := by omega
        have i1 : (m : Int) < (x.length : Int) := by omega
        have i2 : (m : Int) < (y.length : Int) := by omega
        clear hp1 hp1'
        cases he : eqHf p.d p.c p.s p.i p'.d p'.c p'.s p'.i
        · have H := hide (show decide (x = y) = false from decide_eq_false (by
            intro h; subst h
            have := HP.out.symm.trans HP'.out
            injection this with this
            rw [eqHf_iff] at he
            exact absurd this (of_decide_eq_false he)))
          go_wp2_with fail
          go_quiet (fail)
          go_wp2
          go_ret
          exact ⟨ret_b H.out.symm, blw⟩
        · have H := hide (take_eq HP.out HP'.out HN.out (by rw [eqHf_iff] at he; exact of_decide_eq_true he))
          go_wp2_with fail
          go_quiet (fail)
          go_wp2
          go_roundw
          case rel => exact ⟨m + 1, by omega, by go_num, blw, H.out⟩
          case measure => simp [intOf]; omega
      · have H := hide (show decide (x = y) = true from decide_eq_true (by
          have := HN.out
          have hm' : m = x.length := by omega
          rw [hm', List.take_length, HLEN.out, List.take_length] at this; exact this))
        go_wp2
        go_ret
        exact ⟨ret_b H.out.symm, blw⟩
  · have H := hide (show decide (x = y) = false from decide_eq_false (by
      intro h; subst h; simp at f1))
    go_enter Try.func17, Try.ntmps17
    go_wp2
    go_ret
    exact ⟨ret_b H.out.symm, blw⟩
/-- fans that can be read -/
def FanR (W : World) (A : Option Addr) (F : List (Int × List Hd)) : Prop := ∃ X : List (Int × Value), X.map (·.1) = F.map (·.1) ∧ Reads W W.heap.size 2 A F.length (fvs X) ∧ ∀ (j : Nat) (x : Int × Value) (f : Int × List Hd), X[j]? = some x → F[j]? = some f → ∃ A' c, x.2 = .slice A' f.2.length c ∧ Reads W W.heap.size 4 A' f.2.length (hcs f.2)
theorem FanO.read {W : World} {B n c : Nat} {A : Option Addr} {F : List (Int × List Hd)} (h : FanO W B (.slice A n c) F) : FanR W A F := by
  obtain ⟨X, h1, h2, h3⟩ := h
  obtain ⟨A', c', e, _, _⟩ := own_slice h2
  injection e with e1 e2 e3
  subst e1 e2
  refine ⟨X, h1, Reads.of_own h2, fun j x f hx hf => ?_⟩
  have ho := h3 j x f hx hf
  obtain ⟨A5, c5, e5, _, _⟩ := own_slice ho
  rw [e5] at ho
  exact ⟨A5, c5, e5, Reads.of_own ho⟩
theorem FanR.tc {a W : World} {A : Option Addr} {F : List (Int × List Hd)} (h : FanR a A F) [b : Blw a W] : FanR W A F := by
  obtain ⟨X, h1, h2, h3⟩ := h
  refine ⟨X, h1, (h2.below b.h).more b.h.size, fun j x f hx hf => ?_⟩
  obtain ⟨A', c, e, hr⟩ := h3 j x f hx hf
  exact ⟨A', c, e, (hr.below b.h).more b.h.size⟩
theorem fvs_get {X : List (Int × Value)} {j : Nat} {x : Int × Value} (h : X[j]? = some x) : (fvs X)[j * 2]? = some (.int .i64 x.1) ∧ (fvs X)[j * 2 + 1]? = some x.2 := by
  constructor
  · have := flat_get (enc := fvc) (k := 2) (fun _ => rfl) X j 0 x h (by omega)
    exact this
  · have := flat_get (enc := fvc) (k := 2) (fun _ => rfl) X j 1 x h (by omega)
    exact this
theorem FanR.at {W : World} {A : Option Addr} {F : List (Int × List Hd)} (h : FanR W A F) {k : Nat} (hk : k < F.length) :
    ∃ b off f A' c, A = some ⟨b, off, none⟩ ∧ b < W.heap.size ∧ F[k]? = some f ∧ W.cell? ⟨b, off + k * 2, none⟩ = some (.int .i64 f.1) ∧ W.cell? ⟨b, off + k * 2 + 1, none⟩ = some (.slice A' f.2.length c) ∧ Reads W W.heap.size 4 A' f.2.length (hcs f.2) := by
  obtain ⟨X, h1, h2, h3⟩ := h
  have hxl : X.length = F.length := by have := congrArg List.length h1; simpa using this
  obtain ⟨b, off, rfl, hb, hc⟩ := h2.2 (by omega)
  have hx : X[k]? = some X[k] := List.getElem?_eq_getElem (by omega)
  have hf : F[k]? = some F[k] := List.getElem?_eq_getElem hk
  obtain ⟨A', c, e, hr⟩ := h3 k _ _ hx hf
  obtain ⟨c1, c2⟩ := fvs_get hx
  have he : X[k].1 = F[k].1 := by
    have : (X.map (·.1))[k]? = (F.map (·.1))[k]? := by rw [h1]
    rw [List.getElem?_map, List.getElem?_map, hx, hf] at this
    simpa using this
  refine ⟨b, off, F[k], A', c, rfl, hb, hf, ?_, ?_, hr⟩
  · rw [← he]; exact hc _ _ c1
  · rw [← e, Nat.add_assoc]; exact hc _ _ c2
set_option maxRecDepth 100000 in
set_option maxHeartbeats 4000000 in
theorem sameF_s (A : Option Addr) (c : Nat) (F : List (Int × List Hd)) (B : Option Addr) (d : Nat) (G : List (Int × List Hd)) (w : World) (h : FanR w A F) (h' : FanR w B G) (hl : F.length ≤ 1000000) (hl' : G.length ≤ 1000000) (hf : ∀ f ∈ F, f.2.length ≤ 1000000) (hg : ∀ f ∈ G, f.2.length ≤ 1000000) :
    Calls Try.prog 15 #[.slice A F.length c, .slice B G.length d] w (RetB w (decide (F = G))) := by
  have HF := hide h
  have HG := hide h'
  have HLF := hide hf
  have HLG := hide hg
  clear h h' hf hg
  cases f1 : ((F.length : Int) != (G.length : Int))
  · have hlen : F.length = G.length := by have := f1; simp at this; omega
    have HLEN := hide hlen
    clear hlen
    go_enter Try.func15, Try.ntmps15
    go_wp2
    go_loopw [5] (fun j wr => ∃ m : Nat, m ≤ F.length ∧ j = .int .i64 m ∧ Below w.heap.size w wr ∧ F.take m = G.take m) (fun j _ => F.length - (intOf j).toNat)
    case atStart => exact ⟨0, Nat.zero_le _, rfl, blw, rfl⟩
    case round =>
      obtain ⟨m, hm, rfl, hB, htk⟩ := hrel
      haveI : Blw w wr := ⟨hB⟩
      have HN := hide htk
      clear htk hB
      by_cases hlt : m < F.length
      · have hlt' : m < G.length := by have := HLEN.out; omega
        obtain ⟨b, off, p, A5, c5, rfl, hb, hp1, g1, g2, hr1⟩ := (HF.out.tc (W := wr)).at hlt
        obtain ⟨b', off', p', A6, c6, rfl, hb', hp1', e1, e2, hr2⟩ := (HG.out.tc (W := wr)).at hlt'
        have HP := hide hp1
        have HP' := hide hp1'
        have T := hide (fun W (h : Reads W W.heap.size 4 A5 p.2.length (hcs p.2)) (h' : Reads W W.heap.size 4 A6 p'.2.length (hcs p'.2)) => sameH_s A5 c5 p.2 A6 c6 p'.2 W h h' (HLF.out p (List.mem_of_getElem? hp1)) (HLG.out p' (List.mem_of_getElem? hp1')))
        haveI : InW b wr := ⟨hb⟩
        haveI : InW b' wr := ⟨hb'⟩
        haveI : Src wr A5 p.2.length 4 (hcs p.2) := ⟨hr1⟩
        haveI : Src wr A6 p'.2.length 4 (hcs p'.2) := ⟨hr2⟩
        have i0 : (0 : Int) ≤ (m : Int) := by omega
        have i1 : (m : Int) < (F.length : Int) := by omega
        have i2 : (m : Int) < (G.length : Int) := by omega
        clear hp1 hp1' hr1 hr2
        cases q1 : (p.1 != p'.1)
        · cases q2 : decide (p.2 = p'.2)
          · rw [q2] at T
            have H := hide (show decide (F = G) = false from decide_eq_false (by
              intro h; subst h
              have := HP.out.symm.trans HP'.out
              injection this with this
              subst this
              simp at q2))
            go_wp2_with fail
            (refine wp_region_gw (by kernel_rfl) (by kernel_rfl) ?_; (repeat (go_big_quiet_step ((first | (go_at_call 17; with_reducible exact calls_gw (T.out _ src src)) | fail)))); refine wpQuiet_nil ?_; intro _ hw'; obtain ⟨⟨dq, osq⟩, hw''⟩ := hw'; subst hw'')
            go_wp2
            go_ret
            exact ⟨ret_b H.out.symm, blw⟩
          · rw [q2] at T
            have H := hide (take_eq HP.out HP'.out HN.out (Prod.ext (by simpa using q1) (of_decide_eq_true q2)))
            go_wp2_with fail
            (refine wp_region_gw (by kernel_rfl) (by kernel_rfl) ?_; (repeat (go_big_quiet_step ((first | (go_at_call 17; with_reducible exact calls_gw (T.out _ src src)) | fail)))); refine wpQuiet_nil ?_; intro _ hw'; obtain ⟨⟨dq, osq⟩, hw''⟩ := hw'; subst hw'')
            go_wp2
            go_roundw
            case rel => exact ⟨m + 1, by omega, by go_num, blw, H.out⟩
            case measure => simp [intOf]; omega
        · have H := hide (show decide (F = G) = false from decide_eq_false (by
            intro h; subst h
            have := HP.out.symm.trans HP'.out
            injection this with this
            subst this
            simp at q1))
          go_wp2_with fail
          (refine wp_region_gw (by kernel_rfl) (by kernel_rfl) ?_; (repeat (go_big_quiet_step ((fail)))); refine wpQuiet_nil ?_; intro _ hw'; obtain ⟨⟨dq, osq⟩, hw''⟩ := hw'; subst hw'')
          go_wp2
          go_ret
          exact ⟨ret_b H.out.symm, blw⟩
      · have H := hide (show decide (F = G) = true from decide_eq_true (by
          have := HN.out
          have hm' : m = F.length := by omega
          rw [hm', List.take_length, HLEN.out, List.take_length] at this; exact this))
        go_wp2
        go_ret
        exact ⟨ret_b H.out.symm, blw⟩
  · have H := hide (show decide (F = G) = false from decide_eq_false (by
      intro h; subst h; simp at f1))
    go_enter Try.func15, Try.ntmps15
    go_wp2
    go_ret
    exact ⟨ret_b H.out.symm, blw⟩
end Go.Proofs.Ythkkadbgggaenaa
