/-
  Layer 14: contract: the reference's Bare.
-/
import Derived.Test.YthkkadbgggaenaaFan22
namespace Go.Proofs.Ythkkadbgggaenaa
set_option linter.unusedSimpArgs false
set_option linter.unusedVariables false
set_option linter.unusedSectionVars false
open Go.RowKit

theorem row_rd {X : World} {g : Nat} {cur : Array Value} {L : List Hd} (h : RowC X g cur L) (a n : Nat) (han : a + n ≤ L.length) (W : World) [b : BoxAt W g cur 29] : Reads W W.heap.size 4 (some ⟨g, a * 4, none⟩) n (hcs ((L.drop a).take n)) := by
  refine ⟨by rw [hcs_len, List.length_take, List.length_drop]; omega, fun _ => ⟨_, _, rfl, b.lt, fun j u hu => ?_⟩⟩
  have hj : j < n * 4 := by
    have := (List.getElem?_eq_some_iff.1 hu).1
    rw [hcs_len, List.length_take, List.length_drop] at this; omega
  have hq : j / 4 < n := by omega
  have hp : ((L.drop a).take n)[j / 4]? = some (L[a + j / 4]'(by omega)) := by
    rw [List.getElem?_take_of_lt hq, List.getElem?_drop, List.getElem?_eq_getElem (by omega)]
  have e1 := flat_get hc_len _ (j / 4) (j % 4) _ hp (by omega)
  rw [show j / 4 * 4 + j % 4 = j by omega] at e1
  have e2 := h.c (a + j / 4) (j % 4) _ (List.getElem?_eq_getElem (by omega)) (by omega)
  rw [cell?_box]
  rw [show a * 4 + j = (a + j / 4) * 4 + j % 4 by omega, e2, ← e1]
  exact hu
theorem row_rd0 {X : World} {g : Nat} {cur : Array Value} {L : List Hd} (h : RowC X g cur L) (a : Nat) (ha : a ≤ L.length) (W : World) [b : BoxAt W g cur 29] : Reads W W.heap.size 4 (some ⟨g, 0, none⟩) a (hcs (L.take a)) := by
  have := row_rd h 0 a (by omega) W
  rw [List.drop_zero, Nat.zero_mul] at this; exact this
theorem row_rdE {X : World} {g : Nat} {cur : Array Value} {L : List Hd} (h : RowC X g cur L) (a : Nat) (ha : a ≤ L.length) (W : World) [b : BoxAt W g cur 29] : Reads W W.heap.size 4 (some ⟨g, a * 4, none⟩) (L.length - a) (hcs (L.drop a)) := by
  have := row_rd h a (L.length - a) (by omega) W
  rw [List.take_of_length_le (by rw [List.length_drop]; omega)] at this; exact this
theorem row_rdF {X : World} {g : Nat} {cur : Array Value} {L : List Hd} (h : RowC X g cur L) (a : Nat) (ha : a ≤ L.length) (c : Nat) (hc : L.length ≤ c) (W : World) [b : BoxAt W g cur 29] : Reads W W.heap.size 4 (if c = a then some ⟨g, 0, none⟩ else some ⟨g, a * 4, none⟩) (L.length - a) (hcs (L.drop a)) := by
  have := row_rdE h a ha W
  split
  · exact ⟨this.1, fun h => by omega⟩
  · exact this
theorem reads_no (W : World) (B : Nat) (A : Option Addr) : Reads W B 4 A 0 [] := ⟨rfl, fun h => absurd h (by omega)⟩
theorem Srt.takes {R : List Hd} (h : Srt R) (a : Nat) : Srt (R.take a) := List.Pairwise.sublist (List.take_sublist _ _) h
theorem Srt.drops {R : List Hd} (h : Srt R) (a : Nat) : Srt (R.drop a) := List.Pairwise.sublist (List.drop_sublist _ _) h
theorem insR_fin {P R : List Hd} {h : Hd} {a : Nat} (hs : Srt R) (hf : Fib P R) (ha : a ≤ R.length) (hi : ∀ q ∈ R.drop a, h.d < q.d) (lo : a = 0 ∨ ∃ q, R[a - 1]? = some q ∧ q.d ≤ h.d) :
    Srt (R.take a ++ ([h] ++ R.drop a)) ∧ Fib (P ++ [h]) (R.take a ++ ([h] ++ R.drop a)) := by
  have hlo : ∀ x ∈ R.take a, x.d ≤ h.d := fun x hx => by
    rcases lo with h0 | ⟨q, hq, hqd⟩
    · subst h0; simp at hx
    · obtain ⟨i, hi1, rfl⟩ := List.mem_iff_getElem.1 hx
      have hi2 : i < a := by rw [List.length_take] at hi1; omega
      have e : R[i]? = some (R.take a)[i] := by rw [← List.getElem?_take_of_lt hi2]; exact List.getElem?_eq_getElem hi1
      have := hs.at (show i ≤ a - 1 by omega) e hq
      omega
  refine ⟨(hs.takes a).app ((Srt.one h).app (hs.drops a) (fun x hx y hy => ?_)) (fun x hx y hy => ?_), ?_⟩
  · simp at hx; subst hx; have := hi y hy; omega
  · rcases List.mem_append.1 hy with k | k
    · simp at k; subst k; exact hlo x hx
    · have h1 := hlo x hx; have h2 := hi y k; omega
  · refine (hf.app (Fib.refl [h])).trans ?_
    conv => lhs; rw [← List.take_append_drop a R, List.append_assoc]
    refine (Fib.refl _).app (Fib.comm (fun x hx y hy => ?_))
    simp at hy; subst hy
    have := hi x hx; omega
theorem hc4 (p : Hd) : hc p = [.int .i64 p.d, .int .u64 p.c, .int .u64 p.s, .int .u64 p.i] := rfl
set_option maxRecDepth 100000 in
set_option maxHeartbeats 8000000 in
theorem rbare_s (A : Option Addr) (c : Nat) (F : List (Int × List Hd)) (w : World) (h : FanR w A F) (hfl : F.length ≤ 100000) (hl : ∀ f ∈ F, f.2.length ≤ 100000) (hl2 : (allH F).length ≤ 100000) :
    Calls Try.prog 21 #[.slice A F.length c] w (RetBare w (allH F)) := by
  have HF := hide h
  have HL := hide hl
  clear h hl
  go_enter Try.func21, Try.ntmps21
  go_wp2_with fail
  go_loopw [4, 3] (fun j v wr => ∃ (m : Nat) (R : List Hd), m ≤ F.length ∧ j = .int .i64 m ∧ wr.ownsRow w.heap.size 29 4 v R.length (hcs R) ∧ Srt R ∧ Fib (allH (F.take m)) R ∧ Below w.heap.size w wr) (fun j _ _ => F.length - (intOf j).toNat)
  case atStart => exact ⟨0, [], Nat.zero_le _, rfl, World.ownsRow_nil _ _ _ _, Srt.nil, Fib.refl _, Below.refl _ _⟩
  case round =>
    obtain ⟨m, R, hm, rfl, ho, hsr, hfb, hB⟩ := hrel
    haveI : Blw w wr := ⟨hB⟩
    have HO := hide ho
    have HS := hide hsr
    have HFB := hide hfb
    have zr := hB.size
    clear ho hsr hfb hB
    by_cases hlt : m < F.length
    · have hle := allH_le F (m + 1)
      obtain ⟨b, off, p, A6, c6, rfl, hb, hp, g1, g2, hr⟩ := (HF.out.tc (W := wr)).at hlt
      have HTK := hide (show allH (F.take (m + 1)) = allH (F.take m) ++ p.2 by rw [take_succ_of hp]; simp [allH])
      rw [HTK.out, List.length_append] at hle
      have HP := hide hp
      have i0 : (0 : Int) ≤ (m : Int) := by omega
      have i1 : (m : Int) < (F.length : Int) := by omega
      have hpl := HL.out p (List.mem_of_getElem? hp)
      generalize allH (F.take m) = al at HTK HFB hle
      obtain ⟨wo, rfl⟩ : ∃ wo, wo = wr := ⟨wr, rfl⟩
      haveI : CellAt wo b (off + m * 2 + 1) _ := ⟨hb, g2⟩
      haveI : LtN b wo.heap.size := ⟨hb⟩
      haveI : LeN w.heap.size wo.heap.size := ⟨zr⟩
      haveI : Src wo A6 p.2.length 4 (hcs p.2) := ⟨hr⟩
      have HAL := hide hle
      clear hp hr g1 g2 hb hle
      go_wp2_with fail
      go_loopw [5, 3] (fun j v wr => ∃ (k : Nat) (R : List Hd), k ≤ p.2.length ∧ j = .int .i64 k ∧ wr.ownsRow w.heap.size 29 4 v R.length (hcs R) ∧ Srt R ∧ Fib (al ++ p.2.take k) R ∧ Below wo.heap.size wo wr) (fun j _ _ => p.2.length - (intOf j).toNat)
      case atStart => exact ⟨0, R, Nat.zero_le _, rfl, HO.out, HS.out, by simpa using HFB.out, Below.refl _ _⟩
      case round =>
        obtain ⟨k, R2, hk, rfl, ho, hsr, hfb, hB⟩ := hrel
        haveI : Stp wo wr := ⟨hB⟩
        have zr2 := hB.size
        have HO2 := hide ho
        have HS2 := hide hsr
        have HFB2 := hide hfb
        have hR2l : R2.length ≤ 100000 := by
          rw [← hfb.len, List.length_append, List.length_take]; have := HAL.out; omega
        clear ho hsr hfb hB
        by_cases hkl : k < p.2.length
        · obtain ⟨b7, off7, hd, rfl, hb7, hh, e1, e2, e3, e4⟩ := (show Reads wr wr.heap.size 4 A6 p.2.length (hcs p.2) from src).at4 hkl
          have HH := hide (show p.2.take (k + 1) = p.2.take k ++ [hd] from take_succ_of hh)
          have HK := hide hk
          haveI : InW b7 wr := ⟨hb7⟩
          have i2 : (0 : Int) ≤ (k : Int) := by omega
          have i3 : (k : Int) < (p.2.length : Int) := by omega
          obtain ⟨A5, c5, rfl, hc5, _⟩ := own_slice HO2.out
          obtain ⟨w2, rfl⟩ : ∃ v, v = wr := ⟨wr, rfl⟩
          clear hh
          --THIRD
          rcases RowC.of0 HO2.out with ⟨e0, e5⟩ | ⟨g, cur, rfl, hg, hr⟩
          · injection e5 with e6 e7 e8
            have HE0 := hide e0
            rw [e0] at e7
            subst e6 e8
            have HF2 := hide (show Fib (al ++ p.2.take (k + 1)) [hd] by
              rw [HH.out, ← List.append_assoc]
              have := HFB2.out.app (Fib.refl [hd])
              rw [HE0.out] at this
              simpa using this)
            have hR0 : R2.length = 0 := by rw [e0]; rfl
            rw [hR0]
            clear HO2 HFB2 HS2 e0 e7 hR0 hR2l
            go_wp2_with fail
            go_loopw [7] (fun av wr => av = .int .i64 0 ∧ BoxAt wr w2.heap.size #[.int .i64 hd.d, .int .u64 hd.c, .int .u64 hd.s, .int .u64 hd.i] 29 ∧ Below w2.heap.size w2 wr) (fun a _ => 0)
            case atStart => exact ⟨rfl, inferInstance, blw⟩
            case round =>
              obtain ⟨rfl, hbx, hB⟩ := hrel
              haveI := hbx
              haveI : Stp w2 wr := ⟨hB⟩
              have zr3 := hB.size
              haveI : LtN w2.heap.size wr.heap.size := ⟨hbx.lt⟩
              haveI : LeN wo.heap.size wr.heap.size := ⟨Nat.le_trans zr2 zr3⟩
              haveI : LeN w.heap.size wr.heap.size := ⟨Nat.le_trans zr (Nat.le_trans zr2 zr3)⟩
              clear hB
              go_wp2_with fail
              go_quiet (fail)
              go_wp2_with (first
                | (at_builtin; refine wpList_append_w Try.okHd rfl (.tmp 50) (.tmp 53) rfl wr.heap.size (.slice (some ⟨wr.heap.size, 0, none⟩) 0 0) 0 [] 0 (hcs []) ?_ ?_ ?_ ?_ ?_ ?_ ?_ ?_; go_must ((focus (first | rfl | (simp [Act.eval, Act.put]; done))); (focus (exact own_emH _ wr.heap.size (by simp))); (focus (refine ⟨_, _, rfl, ?_⟩; exact reads_no _ _ _)); (focus (exact hc_one _)); (focus (unfold maxLen; omega)); (focus omega); (focus (first | omega | (simp; done) | (simp; omega) | exact BoxAt.lt (n := w.heap.size) inferInstance)); intro v8 w8 ho8 hg8; rw [Nat.zero_add, List.nil_append, show hcs [] = [] from rfl] at ho8; haveI : StpB wr.heap.size _ w8 := ⟨grown_belowT hg8 (by simp) (fun q hq => by have e : wr.heap.size = q := Option.some.inj hq; omega)⟩; obtain ⟨A8, c8, rfl, _, _⟩ := own_slice ho8; have hs8 : wr.heap.size ≤ w8.heap.size := (by have := hg8.size; simp at this; omega); have O8 := hide ho8; clear ho8 hg8))
                | (at_builtin; refine wpList_append_w Try.okHd rfl (.tmp 55) (.tmp 57) rfl wr.heap.size (.slice A8 0 c8) 0 [] 1 (hcs [hd]) ?_ ?_ ?_ ?_ ?_ ?_ ?_ ?_; go_must ((focus (first | rfl | (simp [Act.eval, Act.put]; done))); (focus (exact own_tc O8.out)); (focus (refine ⟨_, _, rfl, ?_⟩; exact reads_h1x _ _ hd)); (focus (exact hc_one _)); (focus (unfold maxLen; omega)); (focus omega); (focus (first | omega | (simp; done) | (simp; omega) | exact BoxAt.lt (n := w.heap.size) inferInstance)); intro v9 w9 ho9 hg9; rw [Nat.zero_add, List.nil_append] at ho9; haveI : StpB wr.heap.size _ w9 := ⟨grown_belowT hg9 (by simp; omega) (fun q hq => (O8.out.lt q hq).1)⟩; obtain ⟨A9, c9, rfl, _, _⟩ := own_slice ho9; have hs9 : wr.heap.size ≤ w9.heap.size := (by have := hg9.size; simp at this; omega); have O9 := hide ho9; clear ho9 hg9))
                | (at_builtin; refine wpList_append_w Try.okHd rfl (.tmp 59) (.tmp 62) rfl wr.heap.size (.slice A9 1 c9) 1 (hcs [hd]) 0 (hcs []) ?_ ?_ ?_ ?_ ?_ ?_ ?_ ?_; go_must ((focus (first | rfl | (simp [Act.eval, Act.put]; done))); (focus (exact own_tc O9.out)); (focus (refine ⟨_, _, rfl, ?_⟩; exact reads_no _ _ _)); (focus (exact hc_one _)); (focus (unfold maxLen; omega)); (focus omega); (focus (first | omega | (simp; done) | (simp; omega) | exact BoxAt.lt (n := w.heap.size) inferInstance)); intro v10 w10 ho10 hg10; rw [show hcs [] = [] from rfl, List.append_nil] at ho10; haveI : StpB wr.heap.size _ w10 := ⟨grown_belowT hg10 (by (try simp) <;> omega) (fun q hq => (O9.out.lt q hq).1)⟩; have O10 := hide (own_base ho10 (show w.heap.size ≤ wr.heap.size by omega)); clear ho10 hg10)))
              go_wp2
              go_roundw
              case rel => exact ⟨k + 1, [hd], by omega, by go_num, O10.out, Srt.one hd, HF2.out, blw⟩
              case measure => simp [intOf]; omega
          · have HROW := hide hr
            haveI := hr.b
            haveI : LtN g w2.heap.size := ⟨hr.b.lt⟩
            clear hr
            go_wp2_with fail
            go_loopw [7] (fun av wr => ∃ a : Nat, a ≤ R2.length ∧ av = .int .i64 a ∧ (∀ q ∈ R2.drop a, hd.d < q.d) ∧ BoxAt wr w2.heap.size #[.int .i64 hd.d, .int .u64 hd.c, .int .u64 hd.s, .int .u64 hd.i] 29 ∧ Below w2.heap.size w2 wr) (fun a _ => (intOf a).toNat)
            case atStart => exact ⟨R2.length, Nat.le_refl _, rfl, by simp, inferInstance, blw⟩
            case round =>
              obtain ⟨a, ha, rfl, hgt, hbx, hB⟩ := hrel
              haveI := hbx
              haveI : Stp w2 wr := ⟨hB⟩
              have zr3 := hB.size
              haveI : LtN g wr.heap.size := ⟨Nat.lt_of_lt_of_le HROW.out.b.lt zr3⟩
              haveI : LtN w2.heap.size wr.heap.size := ⟨hbx.lt⟩
              haveI : LeN wo.heap.size wr.heap.size := ⟨Nat.le_trans zr2 zr3⟩
              haveI : LeN w.heap.size wr.heap.size := ⟨Nat.le_trans zr (Nat.le_trans zr2 zr3)⟩
              have HGT := hide hgt
              clear hgt hB
              by_cases ha0 : a = 0
              · have HLO := hide (show a = 0 ∨ ∃ q, R2[a - 1]? = some q ∧ q.d ≤ hd.d from Or.inl ha0)
                have d1 : decide (0 < a) = false := decide_eq_false (by omega)
                have d2 : decide ((0 : Int) < (a : Int)) = false := decide_eq_false (by omega)
                have hac : a ≤ c5 := by omega
                clear ha0
                have HR := hide (insR_fin HS2.out HFB2.out ha HGT.out HLO.out)
                have HFIN := hide (fun (W : World) (v : Value) (ho : W.ownsRow wr.heap.size 29 4 v (a + 1 + (R2.length - a)) (hcs (R2.take a) ++ hcs [hd] ++ hcs (R2.drop a))) => (by
                  have e : (R2.take a ++ ([hd] ++ R2.drop a)).length = a + 1 + (R2.length - a) := by simp; omega
                  rw [e, hcs_app, hcs_app, ← List.append_assoc]
                  exact own_base ho (by have := (blw : Below wo.heap.size wo wr).size; omega) : W.ownsRow w.heap.size 29 4 v (R2.take a ++ ([hd] ++ R2.drop a)).length (hcs (R2.take a ++ ([hd] ++ R2.drop a)))))
                go_wp2_with fail
                go_quiet (fail)
                go_wp2_with (first
                  | (at_builtin; refine wpList_append_w Try.okHd rfl (.tmp 50) (.tmp 53) rfl wr.heap.size (.slice (some ⟨wr.heap.size, 0, none⟩) 0 0) 0 [] a (hcs (R2.take a)) ?_ ?_ ?_ ?_ ?_ ?_ ?_ ?_; go_must ((focus (first | rfl | (simp [Act.eval, Act.put]; done))); (focus (exact own_emH _ wr.heap.size (by simp))); (focus (refine ⟨_, _, rfl, ?_⟩; exact row_rd0 HROW.out a (by omega) _)); (focus (exact hc_one _)); (focus (unfold maxLen; omega)); (focus omega); (focus (first | omega | (simp; done) | (simp; omega) | exact BoxAt.lt (n := w.heap.size) inferInstance)); intro v8 w8 ho8 hg8; rw [Nat.zero_add, List.nil_append] at ho8; haveI : StpB wr.heap.size _ w8 := ⟨grown_belowT hg8 (by simp) (fun q hq => by have e : wr.heap.size = q := Option.some.inj hq; omega)⟩; obtain ⟨A8, c8, rfl, _, _⟩ := own_slice ho8; have hs8 : wr.heap.size ≤ w8.heap.size := (by have := hg8.size; simp at this; omega); have O8 := hide ho8; clear ho8 hg8))
                  | (at_builtin; refine wpList_append_w Try.okHd rfl (.tmp 55) (.tmp 57) rfl wr.heap.size (.slice A8 a c8) a (hcs (R2.take a)) 1 (hcs [hd]) ?_ ?_ ?_ ?_ ?_ ?_ ?_ ?_; go_must ((focus (first | rfl | (simp [Act.eval, Act.put]; done))); (focus (exact own_tc O8.out)); (focus (refine ⟨_, _, rfl, ?_⟩; exact reads_h1x _ _ hd)); (focus (exact hc_one _)); (focus (unfold maxLen; omega)); (focus omega); (focus (first | omega | (simp; done) | (simp; omega) | exact BoxAt.lt (n := w.heap.size) inferInstance)); intro v9 w9 ho9 hg9; haveI : StpB wr.heap.size _ w9 := ⟨grown_belowT hg9 (by simp; omega) (fun q hq => (O8.out.lt q hq).1)⟩; obtain ⟨A9, c9, rfl, _, _⟩ := own_slice ho9; have hs9 : wr.heap.size ≤ w9.heap.size := (by have := hg9.size; simp at this; omega); have O9 := hide ho9; clear ho9 hg9))
                  | (at_builtin; refine wpList_append_w Try.okHd rfl (.tmp 59) (.tmp 62) rfl wr.heap.size (.slice A9 (a + 1) c9) (a + 1) (hcs (R2.take a) ++ hcs [hd]) (R2.length - a) (hcs (R2.drop a)) ?_ ?_ ?_ ?_ ?_ ?_ ?_ ?_; go_must ((focus (first | rfl | (simp [Act.eval, Act.put]; done))); (focus (exact own_tc O9.out)); (focus (refine ⟨_, _, rfl, ?_⟩; exact row_rdF HROW.out a (by omega) c5 (by omega) _)); (focus (exact hc_one _)); (focus (unfold maxLen; omega)); (focus omega); (focus (first | omega | (simp; done) | (simp; omega) | exact BoxAt.lt (n := w.heap.size) inferInstance)); intro v10 w10 ho10 hg10; haveI : StpB wr.heap.size _ w10 := ⟨grown_belowT hg10 (by (try simp) <;> omega) (fun q hq => (O9.out.lt q hq).1)⟩; have O10 := hide ho10; clear ho10 hg10)))
                go_wp2
                go_roundw
                case rel => exact ⟨k + 1, R2.take a ++ ([hd] ++ R2.drop a), by omega, by go_num, HFIN.out _ _ O10.out, HR.out.1, by rw [HH.out, ← List.append_assoc]; exact HR.out.2, blw⟩
                case measure => simp [intOf]; omega
              · obtain ⟨a1, rfl⟩ : ∃ a1, a = a1 + 1 := ⟨a - 1, by omega⟩
                have HR1 := HROW.out
                have hq := getD_at R2 (i := a1) (by omega)
                generalize R2.getD a1 default = q at hq
                have HQ := hide hq
                have x0 : cur[a1 * 4]? = some (.int .i64 q.d) := HROW.out.c a1 0 q hq (by omega)
                have d1 : decide (0 < a1 + 1) = true := decide_eq_true (by omega)
                have d2 : decide ((0 : Int) < (a1 : Int) + 1) = true := decide_eq_true (by omega)
                have j1 : (0 : Int) ≤ (a1 : Int) := by omega
                have j2 : (a1 : Int) < (R2.length : Int) := by omega
                have c2 : ((a1 + 1 : Nat) : Int) - 1 = (a1 : Int) := by omega
                clear HR1 hq
                by_cases hc : hd.d < q.d
                · have HN := hide (show ∀ x ∈ R2.drop a1, hd.d < x.d from fun x hx => by
                    rw [List.drop_eq_getElem_cons (by omega)] at hx
                    rcases List.mem_cons.1 hx with e | e
                    · have := HQ.out
                      rw [List.getElem?_eq_getElem (by omega)] at this
                      injection this with this
                      rw [e, this]; exact hc
                    · exact HGT.out x e)
                  go_wp2_with fail
                  go_quiet (fail)
                  go_wp2
                  go_roundw
                  case rel => exact ⟨a1, by omega, by go_num, HN.out, inferInstance, blw⟩
                  case measure => simp [intOf]
                · obtain ⟨a, hea⟩ : ∃ a, a = a1 + 1 := ⟨_, rfl⟩
                  rw [← hea] at ha HGT d1 ⊢
                  have HLO := hide (show a = 0 ∨ ∃ q, R2[a - 1]? = some q ∧ q.d ≤ hd.d from Or.inr ⟨q, by rw [hea]; exact HQ.out, by omega⟩)
                  have d3 : decide ((0 : Int) < (a : Int)) = true := decide_eq_true (by omega)
                  have hac : a ≤ c5 := by omega
                  have d4 : decide (hd.d < q.d) = false := decide_eq_false hc
                  have c3 : (a : Int) - 1 = (a1 : Int) := by omega
                  clear c2 d2 hea
                  have HR := hide (insR_fin HS2.out HFB2.out ha HGT.out HLO.out)
                  have HFIN := hide (fun (W : World) (v : Value) (ho : W.ownsRow wr.heap.size 29 4 v (a + 1 + (R2.length - a)) (hcs (R2.take a) ++ hcs [hd] ++ hcs (R2.drop a))) => (by
                    have e : (R2.take a ++ ([hd] ++ R2.drop a)).length = a + 1 + (R2.length - a) := by simp; omega
                    rw [e, hcs_app, hcs_app, ← List.append_assoc]
                    exact own_base ho (by have := (blw : Below wo.heap.size wo wr).size; omega) : W.ownsRow w.heap.size 29 4 v (R2.take a ++ ([hd] ++ R2.drop a)).length (hcs (R2.take a ++ ([hd] ++ R2.drop a)))))
                  go_wp2_with fail
                  go_quiet (fail)
                  go_wp2_with (first
                    | (at_builtin; refine wpList_append_w Try.okHd rfl (.tmp 50) (.tmp 53) rfl wr.heap.size (.slice (some ⟨wr.heap.size, 0, none⟩) 0 0) 0 [] a (hcs (R2.take a)) ?_ ?_ ?_ ?_ ?_ ?_ ?_ ?_; go_must ((focus (first | rfl | (simp [Act.eval, Act.put]; done))); (focus (exact own_emH _ wr.heap.size (by simp))); (focus (refine ⟨_, _, rfl, ?_⟩; exact row_rd0 HROW.out a (by omega) _)); (focus (exact hc_one _)); (focus (unfold maxLen; omega)); (focus omega); (focus (first | omega | (simp; done) | (simp; omega) | exact BoxAt.lt (n := w.heap.size) inferInstance)); intro v8 w8 ho8 hg8; rw [Nat.zero_add, List.nil_append] at ho8; haveI : StpB wr.heap.size _ w8 := ⟨grown_belowT hg8 (by simp) (fun q hq => by have e : wr.heap.size = q := Option.some.inj hq; omega)⟩; obtain ⟨A8, c8, rfl, _, _⟩ := own_slice ho8; have hs8 : wr.heap.size ≤ w8.heap.size := (by have := hg8.size; simp at this; omega); have O8 := hide ho8; clear ho8 hg8))
                    | (at_builtin; refine wpList_append_w Try.okHd rfl (.tmp 55) (.tmp 57) rfl wr.heap.size (.slice A8 a c8) a (hcs (R2.take a)) 1 (hcs [hd]) ?_ ?_ ?_ ?_ ?_ ?_ ?_ ?_; go_must ((focus (first | rfl | (simp [Act.eval, Act.put]; done))); (focus (exact own_tc O8.out)); (focus (refine ⟨_, _, rfl, ?_⟩; exact reads_h1x _ _ hd)); (focus (exact hc_one _)); (focus (unfold maxLen; omega)); (focus omega); (focus (first | omega | (simp; done) | (simp; omega) | exact BoxAt.lt (n := w.heap.size) inferInstance)); intro v9 w9 ho9 hg9; haveI : StpB wr.heap.size _ w9 := ⟨grown_belowT hg9 (by simp; omega) (fun q hq => (O8.out.lt q hq).1)⟩; obtain ⟨A9, c9, rfl, _, _⟩ := own_slice ho9; have hs9 : wr.heap.size ≤ w9.heap.size := (by have := hg9.size; simp at this; omega); have O9 := hide ho9; clear ho9 hg9))
                    | (at_builtin; refine wpList_append_w Try.okHd rfl (.tmp 59) (.tmp 62) rfl wr.heap.size (.slice A9 (a + 1) c9) (a + 1) (hcs (R2.take a) ++ hcs [hd]) (R2.length - a) (hcs (R2.drop a)) ?_ ?_ ?_ ?_ ?_ ?_ ?_ ?_; go_must ((focus (first | rfl | (simp [Act.eval, Act.put]; done))); (focus (exact own_tc O9.out)); (focus (refine ⟨_, _, rfl, ?_⟩; exact row_rdF HROW.out a (by omega) c5 (by omega) _)); (focus (exact hc_one _)); (focus (unfold maxLen; omega)); (focus omega); (focus (first | omega | (simp; done) | (simp; omega) | exact BoxAt.lt (n := w.heap.size) inferInstance)); intro v10 w10 ho10 hg10; haveI : StpB wr.heap.size _ w10 := ⟨grown_belowT hg10 (by (try simp) <;> omega) (fun q hq => (O9.out.lt q hq).1)⟩; have O10 := hide ho10; clear ho10 hg10)))
                  go_wp2
                  go_roundw
                  case rel => exact ⟨k + 1, R2.take a ++ ([hd] ++ R2.drop a), by omega, by go_num, HFIN.out _ _ O10.out, HR.out.1, by rw [HH.out, ← List.append_assoc]; exact HR.out.2, blw⟩
                  case measure => simp [intOf]; omega
        · obtain rfl : k = p.2.length := by omega
          have HN := hide (show Fib (allH (F.take (m + 1))) R2 by rw [HTK.out]; have := HFB2.out; rwa [List.take_length] at this)
          go_wp2
          go_roundw
          case rel => exact ⟨m + 1, R2, by omega, by go_num, HO2.out, HS2.out, HN.out, blw⟩
          case measure => simp [intOf]; omega
    · obtain rfl : m = F.length := by omega
      obtain ⟨A5, c5, rfl, _, _⟩ := own_slice HO.out
      rw [List.take_length] at HFB
      have HBw := hide (show Below w.heap.size w wr from blw)
      go_wp2
      go_ret
      refine ⟨R, A5, c5, HS.out, HFB.out, rfl, ?_, HBw.out⟩
      rcases RowC.of0 HO.out with ⟨e0, _⟩ | ⟨g, cur, rfl, hg, hr⟩
      · exact Or.inl e0
      · exact Or.inr ⟨g, cur, rfl, hg, hr⟩
end Go.Proofs.Ythkkadbgggaenaa
