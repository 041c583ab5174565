/-
  Layer 16, the document's: contract: Take.
-/
import Derived.Test.YtniogmefbjfoaaaGreatR32
import Derived.Test.YtniogmefbjfoaaaGreatRefK7
import Derived.Test.YtniogmefbjfoaaaGreatSn
import Derived.Test.YtniogmefbjfoaaaGreatZr
import Derived.Test.YtniogmefbjfoaaaGreatOwnK
import Derived.Test.YtniogmefbjfoaaaGreatOpSx
import Derived.Deep.MidRow
namespace Go.Proofs.YtniogmefbjfoaaaGreat
set_option linter.unusedSimpArgs false
set_option linter.unusedVariables false
set_option linter.unusedSectionVars false
open Go.RowKit Go.Maps

section
variable {E : List Nat} {x b c : Nat} {m : En}
/-- behind the call: what is handed back is written into the result's box -/
structure AfT (w : World) (E : List Nat) (x b c : Nat) (r : En × An) (v : Value) (W : World) : Prop where
  a : AnsM (w.heap.size + 2) W v r.2
  m : RfM W ((w.heap.size + 1) :: E) x b c r.1
  g : Gr [b] w W
theorem AfT.fin {w W Wf : World} {r : En × An} {v : Value} (h : AfT w E x b c r v W) (hbE : b ∈ E) (hbw : b < w.heap.size) (g : Gr [w.heap.size + 1] W Wf) : RetTxr w E x b c r (.returned v) Wf := by
  refine ⟨v, rfl, (h.a.gr g (by intro j hj; rw [List.mem_singleton] at hj; omega)).lo (by omega), RfM.box1 (D := [w.heap.size + 1]) h.m g (by simp) (by omega) hbE, ?_⟩
  exact ((h.g.mono' (D := [w.heap.size + 1, b]) (by simp)).trans (g.mono' (by simp))).less (fun j hj => by
    simp at hj
    rcases hj with rfl | rfl
    · exact .inr (by omega)
    · exact .inl (by simp))
theorem may_life {p : Pk} (h : p.mayB = true) (hk : p.k = 2) : 1 ≤ p.i := by
  unfold Pk.mayB mayKB at h
  rw [hk, if_neg (by decide), if_pos rfl] at h
  unfold dataB sentB at h
  simp only [Bool.and_eq_true] at h
  have h1 := h.1.1
  unfold lifeB mayB at h1
  simp at h1
  omega
set_option maxRecDepth 100000 in
set_option maxHeartbeats 16000000 in
theorem take16r_s (w : World) (h : RfM w E x b c m) (now : Int) (now0 : 0 ≤ now) (now1 : now ≤ 18446744073709551615) (p : Pk) (HA : Option Addr) (hcp : Nat) (BA : Option Addr) (bcp : Nat) (PA : Option Addr) (pcp : Nat) (hin : PkIn w p HA BA PA) (hF : PkF p) (hpl : p.ps.length ≤ 999999) (hB : RO w E 1 BA p.bs.length (bcs p.bs)) (hH : RO w E 4 HA p.hs.length (hcs p.hs)) :
    Calls Tryz.prog 26 #[.pointer (some ⟨x, 0, none⟩), .int .u64 now, p.at HA hcp BA bcp PA pcp] w (RetTxr w E x b c (m.take now p)) := by
  have HE := hide h
  have HbE := hide h.bE
  have HBW := hide h.fz.lt
  have HIN := hide hin
  have HB := hide hB
  have HH := hide hH
  have hxl := h.bx.lt
  haveI : LtN x w.heap.size := ⟨hxl⟩
  have TM := hide (fun W (hW : Below w.heap.size w W) => rmay_s p HA hcp BA bcp PA pcp W (hin.stp hW) hF hpl)
  have fin : ∀ W : World, Below w.heap.size w W → RetTxr w E x b c (m, an0) (.returned nilA) W := fun W hb => ⟨_, rfl, .nil _ _, HE.out.below hb, .of hb⟩
  clear h hin hB hF hpl hH
  have hun : ∀ b : Bool, (some undef = some (Value.bool b)) = False := fun b => by simp [undef]
  cases hm : p.mayB with
  | false =>
    have er : m.take now p = (m, an0) := by unfold En.take; rw [hm]; rfl
    rw [hm] at TM
    rw [er]
    clear er hm
    go_enter Tryz.func26, Tryz.ntmps26
    go_wp2_with (go_at_call 48; (with_reducible refine (TM.out _ (by exact blw)).mono ?_); rintro e w1 ⟨rfl, hb1⟩; haveI : Stp _ w1 := ⟨hb1⟩; clear hb1)
    refine bodyPost_ret (v := nilA) (by simp [results, Tryz.results26, go_sem]) rfl ?_
    exact fin _ blw
  | true =>
    have HM := hide hm
    rw [hm] at TM
    clear hm
    go_enter Tryz.func26, Tryz.ntmps26
    go_wp2_with (go_at_call 48; (with_reducible refine (TM.out _ (by exact blw)).mono ?_); rintro e w1 ⟨rfl, hb1⟩; haveI : Stp _ w1 := ⟨hb1⟩; clear hb1)
    have HE6 : Hid (∀ W, Below w.heap.size w W → w.heap.size + 1 < W.heap.size → RfM W ((w.heap.size + 1) :: E) x b c m) := hide (fun W hb hz => HE.out.keep ⟨.of hb, fun j hj => by
      rcases List.mem_cons.1 hj with rfl | hj
      · exact .inr (by omega)
      · exact .inl hj⟩ (hb.block b HBW.out) (List.mem_cons_of_mem _ HbE.out) (fun j hj => by
      rcases List.mem_cons.1 hj with rfl | hj
      · exact hz
      · have := HE.out.ltE j hj; have := hb.size; omega))
    have HB6 : Hid (∀ W, Below w.heap.size w W → RO W ((w.heap.size + 1) :: E) 1 BA p.bs.length (bcs p.bs)) := hide (fun W hb => HB.out.tr ⟨.of hb, fun j hj => by
      rcases List.mem_cons.1 hj with rfl | hj
      · exact .inr (by omega)
      · exact .inl hj⟩)
    have hhl := HIN.out.hl
    go_loopw [7] (fun j wr => ∃ k : Nat, k ≤ p.hs.length ∧ j = .int .i64 k ∧ (∀ z ∈ p.hs.take k, z.d ≠ m.n) ∧ Below w.heap.size w wr ∧ BoxAt wr w.heap.size (csK p.k p.n p.i p.hp HA p.hs.length hcp BA p.bs.length bcp p.an p.ai p.sq PA p.ps.length pcp) 43 ∧ BoxAt wr (w.heap.size + 1) #[.slice none 0 0, .slice none 0 0, .slice none 0 0] 52) (fun j _ => p.hs.length - (intOf j).toNat)
    case atStart => exact ⟨0, Nat.zero_le _, rfl, by simp, blw, inferInstance, inferInstance⟩
    case round =>
      obtain ⟨k, hk, rfl, hbf, hBw, hb0, hb1⟩ := hrel
      haveI : Blw w wr := ⟨hBw⟩
      haveI := hb0
      haveI := hb1
      haveI := (HE.out.below hBw).bx
      have hsz := hBw.size
      have hsz1 := hb1.lt
      have HBF := hide hbf
      have HBW2 := hide hBw
      clear hbf hBw
      by_cases hlt : k < p.hs.length
      · have hRd := (HIN.out.stp HBW2.out).h
        obtain ⟨q, off, y, hqA, hb, hy, g1, g2, g3, g4⟩ := hRd.at4 hlt
        have hqE := HH.out.2 (by omega) _ hqA
        subst hqA
        have HQB : Hid (q ≠ b) := hide (fun e => hqE (by rw [e]; exact HbE.out))
        haveI : CellAt wr q (off + k * 4) (.int .i64 y.d) := ⟨hb, g1⟩
        haveI : CellAt wr q (off + k * 4 + 1) (.int .u64 y.c) := ⟨hb, g2⟩
        haveI : CellAt wr q (off + k * 4 + 2) (.int .u64 y.s) := ⟨hb, g3⟩
        haveI : CellAt wr q (off + k * 4 + 3) (.int .u64 y.i) := ⟨hb, g4⟩
        have HY := hide hy
        have hym := List.mem_of_getElem? hy
        have i0 : (0 : Int) ≤ (k : Int) := by omega
        have i1 : (k : Int) < (p.hs.length : Int) := by omega
        have hql : q < w.heap.size := by
          obtain ⟨q', off', e, hq', _⟩ := HH.out.1.2 (by omega)
          injection e with e
          injection e with e
          omega
        haveI : LtN q w.heap.size := ⟨hql⟩
        clear hRd hb hy g1 g2 g3 g4 hqE
        by_cases hd : y.d = m.n
        · have d1 : (y.d == m.n) = true := by simpa using hd
          have HF := hide (find_at HY.out hd HBF.out)
          clear hd
          by_cases hk2 : p.k = 2
          · have d2 : (p.k == 2) = true := by simpa using hk2
            have hnd := may_data HM.out hk2
            have HER : Hid (m.take now p = m.takeData p.n p.i y p.bs) := hide (by unfold En.take; rw [HM.out, if_pos rfl, HF.out]; simp only [if_pos hk2])
            have TX : Hid (∀ W, Below w.heap.size w W → BoxAt W w.heap.size (csK p.k p.n p.i p.hp (some ⟨q, off, none⟩) p.hs.length hcp BA p.bs.length bcp p.an p.ai p.sq PA p.ps.length pcp) 43 → BoxAt W (w.heap.size + 1) #[.slice none 0 0, .slice none 0 0, .slice none 0 0] 52 → CellAt W q (off + k * 4) (.int .i64 y.d) → CellAt W q (off + k * 4 + 1) (.int .u64 y.c) → CellAt W q (off + k * 4 + 2) (.int .u64 y.s) → CellAt W q (off + k * 4 + 3) (.int .u64 y.i) → Calls Tryz.prog 49 #[.pointer (some ⟨x, 0, none⟩), p.at (some ⟨q, off, none⟩) hcp BA bcp PA pcp, .agg #[.int .i64 y.d, .int .u64 y.c, .int .u64 y.s, .int .u64 y.i]] W (fun e w2 => ∃ A1 c1 A2 c2 A3 c3, e = .returned (.agg #[.slice A1 (m.takeData p.n p.i y p.bs).2.ps.length c1, .slice A2 (m.takeData p.n p.i y p.bs).2.bs.length c2, .slice A3 (m.takeData p.n p.i y p.bs).2.fl.length c3]) ∧ AfT w E x b c (m.takeData p.n p.i y p.bs) (.agg #[.slice A1 (m.takeData p.n p.i y p.bs).2.ps.length c1, .slice A2 (m.takeData p.n p.i y p.bs).2.bs.length c2, .slice A3 (m.takeData p.n p.i y p.bs).2.fl.length c3]) w2 ∧ BoxAt w2 w.heap.size (csK p.k p.n p.i p.hp (some ⟨q, off, none⟩) p.hs.length hcp BA p.bs.length bcp p.an p.ai p.sq PA p.ps.length pcp) 43 ∧ BoxAt w2 (w.heap.size + 1) #[.slice none 0 0, .slice none 0 0, .slice none 0 0] 52 ∧ CellAt w2 q (off + k * 4) (.int .i64 y.d) ∧ CellAt w2 q (off + k * 4 + 1) (.int .u64 y.c) ∧ CellAt w2 q (off + k * 4 + 2) (.int .u64 y.s) ∧ CellAt w2 q (off + k * 4 + 3) (.int .u64 y.i))) := hide (fun W hW k1 k2 k3 k4 k5 k6 => by
              have hz := k2.lt
              refine (text16r_s W (HE6.out W hW hz) p (some ⟨q, off, none⟩) hcp BA bcp PA pcp hnd.1 (may_life HM.out hk2) y (hnd.2 y hym).1 (hnd.2 y hym).2 (HB6.out W hW) HIN.out.bl).mono ?_
              rintro e w2 ⟨v, rfl, ha, hr, hg⟩
              obtain ⟨A1, c1, A2, c2, A3, c3, rfl⟩ := ha.form
              have hne : ∀ j, j ≠ b → j < W.heap.size → w2.heap[j]? = W.heap[j]? := fun j h1 h2 => hg.blk j h2 (fun hm => by rw [List.mem_singleton] at hm; exact h1 hm)
              have hbw := HBW.out
              exact ⟨A1, c1, A2, c2, A3, c3, rfl, ⟨ha.lo (by omega), hr, (Gr.of hW).trans hg⟩, ⟨by rw [hne _ (by omega) (by omega)]; exact k1.eq⟩, ⟨by rw [hne _ (by omega) (by omega)]; exact k2.eq⟩, k3.tr8 (E := []) (E' := []) (hne q HQB.out k3.lt), k4.tr8 (E := []) (E' := []) (hne q HQB.out k3.lt), k5.tr8 (E := []) (E' := []) (hne q HQB.out k3.lt), k6.tr8 (E := []) (E' := []) (hne q HQB.out k3.lt)⟩)
            clear hk2 hym hnd hql
            go_upto_region 6 with fail
            go_quiet (fail)
            go_upto_region 7 with fail
            go_region_held3 (fun w' => w'.cell? ⟨w.heap.size, 0, none⟩ = some (.int .i64 p.k) ∧ w'.cell? ⟨w.heap.size, 1, none⟩ = some (.int .i64 p.n) ∧ w'.cell? ⟨w.heap.size, 2, none⟩ = some (.int .u64 p.i) ∧ w'.cell? ⟨w.heap.size, 3, none⟩ = some (.int .i64 p.hp) ∧ w'.cell? ⟨w.heap.size, 4, none⟩ = some (.slice (some ⟨q, off, none⟩) p.hs.length hcp) ∧ w'.cell? ⟨w.heap.size, 5, none⟩ = some (.slice BA p.bs.length bcp) ∧ w'.cell? ⟨w.heap.size, 6, none⟩ = some (.int .i64 p.an) ∧ w'.cell? ⟨w.heap.size, 7, none⟩ = some (.int .u64 p.ai) ∧ w'.cell? ⟨w.heap.size, 8, none⟩ = some (.int .u64 p.sq) ∧ w'.cell? ⟨w.heap.size, 9, none⟩ = some (.slice PA p.ps.length pcp) ∧ w'.cell? ⟨q, off + k * 4, none⟩ = some (.int .i64 y.d) ∧ w'.cell? ⟨q, off + k * 4 + 1, none⟩ = some (.int .u64 y.c) ∧ w'.cell? ⟨q, off + k * 4 + 2, none⟩ = some (.int .u64 y.s) ∧ w'.cell? ⟨q, off + k * 4 + 3, none⟩ = some (.int .u64 y.i)) ((refine ⟨?_, ?_, ?_, ?_, ?_, ?_, ?_, ?_, ?_, ?_, ?_, ?_, ?_, ?_⟩ <;> (first | (rw [cell?_box]; rfl) | exact CellAt.h))) (first | (go_at_call 49; (with_reducible refine (TX.out _ (by exact blw) inferInstance inferInstance inferInstance inferInstance inferInstance inferInstance).mono ?_); rintro e w2 ⟨A1, c1, A2, c2, A3, c3, rfl, ha, k1, k2, k3, k4, k5, k6⟩; haveI := k1; haveI := k2; haveI := k3; haveI := k4; haveI := k5; haveI := k6; have HA2 := hide ha; clear ha) | fail)
            all_goals
              go_wp2_with fail
              refine bodyPost_ret (v := .agg #[.slice A1 (m.takeData p.n p.i y p.bs).2.ps.length c1, .slice A2 (m.takeData p.n p.i y p.bs).2.bs.length c2, .slice A3 (m.takeData p.n p.i y p.bs).2.fl.length c3]) (by simp [results, Tryz.results26, go_sem]) rfl ?_
              rw [HER.out]
              exact HA2.out.fin HbE.out HBW.out (((Gr.set (m := w.heap.size + 1) _ 0 (.slice A1 (m.takeData p.n p.i y p.bs).2.ps.length c1) (by simp)).trans (Gr.set (m := w.heap.size + 1) _ 1 (.slice A2 (m.takeData p.n p.i y p.bs).2.bs.length c2) (by simp))).trans (Gr.set (m := w.heap.size + 1) _ 2 (.slice A3 (m.takeData p.n p.i y p.bs).2.fl.length c3) (by simp)))
          · have d2 : (p.k == 2) = false := by simpa using hk2
            have hnd := may_ack HM.out hk2 y hym
            have HER : Hid (m.take now p = m.takeAck now p.n p.i y) := hide (by unfold En.take; rw [HM.out, if_pos rfl, HF.out]; simp only [if_neg hk2])
            obtain ⟨kk, hkk⟩ : ∃ kk : Nat, p.n = kk := ⟨p.n.toNat, by omega⟩
            have TX : Hid (∀ W, Below w.heap.size w W → BoxAt W w.heap.size (csK p.k p.n p.i p.hp (some ⟨q, off, none⟩) p.hs.length hcp BA p.bs.length bcp p.an p.ai p.sq PA p.ps.length pcp) 43 → BoxAt W (w.heap.size + 1) #[.slice none 0 0, .slice none 0 0, .slice none 0 0] 52 → CellAt W q (off + k * 4) (.int .i64 y.d) → CellAt W q (off + k * 4 + 1) (.int .u64 y.c) → CellAt W q (off + k * 4 + 2) (.int .u64 y.s) → CellAt W q (off + k * 4 + 3) (.int .u64 y.i) → Calls Tryz.prog 50 #[.pointer (some ⟨x, 0, none⟩), .int .u64 now, .agg #[.int .i64 p.n, .int .u64 p.i], .agg #[.int .i64 y.d, .int .u64 y.c, .int .u64 y.s, .int .u64 y.i]] W (fun e w2 => ∃ A1 c1 A2 c2 A3 c3, e = .returned (.agg #[.slice A1 (m.takeAck now p.n p.i y).2.ps.length c1, .slice A2 (m.takeAck now p.n p.i y).2.bs.length c2, .slice A3 (m.takeAck now p.n p.i y).2.fl.length c3]) ∧ AfT w E x b c (m.takeAck now p.n p.i y) (.agg #[.slice A1 (m.takeAck now p.n p.i y).2.ps.length c1, .slice A2 (m.takeAck now p.n p.i y).2.bs.length c2, .slice A3 (m.takeAck now p.n p.i y).2.fl.length c3]) w2 ∧ BoxAt w2 w.heap.size (csK p.k p.n p.i p.hp (some ⟨q, off, none⟩) p.hs.length hcp BA p.bs.length bcp p.an p.ai p.sq PA p.ps.length pcp) 43 ∧ BoxAt w2 (w.heap.size + 1) #[.slice none 0 0, .slice none 0 0, .slice none 0 0] 52 ∧ CellAt w2 q (off + k * 4) (.int .i64 y.d) ∧ CellAt w2 q (off + k * 4 + 1) (.int .u64 y.c) ∧ CellAt w2 q (off + k * 4 + 2) (.int .u64 y.s) ∧ CellAt w2 q (off + k * 4 + 3) (.int .u64 y.i))) := hide (fun W hW k1 k2 k3 k4 k5 k6 => by
              have hz := k2.lt
              refine ((by rw [hkk]; exact ack16r_s W (HE6.out W hW hz) now now0 now1 kk (by omega) (by omega) p.i y : Calls Tryz.prog 50 #[.pointer (some ⟨x, 0, none⟩), .int .u64 now, .agg #[.int .i64 p.n, .int .u64 p.i], .agg #[.int .i64 y.d, .int .u64 y.c, .int .u64 y.s, .int .u64 y.i]] W (RetTxr W ((w.heap.size + 1) :: E) x b c (m.takeAck now p.n p.i y)))).mono ?_
              rintro e w2 ⟨v, rfl, ha, hr, hg⟩
              obtain ⟨A1, c1, A2, c2, A3, c3, rfl⟩ := ha.form
              have hne : ∀ j, j ≠ b → j < W.heap.size → w2.heap[j]? = W.heap[j]? := fun j h1 h2 => hg.blk j h2 (fun hm => by rw [List.mem_singleton] at hm; exact h1 hm)
              have hbw := HBW.out
              exact ⟨A1, c1, A2, c2, A3, c3, rfl, ⟨ha.lo (by omega), hr, (Gr.of hW).trans hg⟩, ⟨by rw [hne _ (by omega) (by omega)]; exact k1.eq⟩, ⟨by rw [hne _ (by omega) (by omega)]; exact k2.eq⟩, k3.tr8 (E := []) (E' := []) (hne q HQB.out k3.lt), k4.tr8 (E := []) (E' := []) (hne q HQB.out k3.lt), k5.tr8 (E := []) (E' := []) (hne q HQB.out k3.lt), k6.tr8 (E := []) (E' := []) (hne q HQB.out k3.lt)⟩)
            clear hk2 hym hnd hql hkk
            go_upto_region 6 with fail
            go_quiet (fail)
            go_upto_region 8 with fail
            go_quiet (fail)
            go_upto_region 9 with fail
            go_region_held3 (fun w' => w'.cell? ⟨w.heap.size, 1, none⟩ = some (.int .i64 p.n) ∧ w'.cell? ⟨w.heap.size, 2, none⟩ = some (.int .u64 p.i) ∧ w'.cell? ⟨w.heap.size, 4, none⟩ = some (.slice (some ⟨q, off, none⟩) p.hs.length hcp) ∧ w'.cell? ⟨q, off + k * 4, none⟩ = some (.int .i64 y.d) ∧ w'.cell? ⟨q, off + k * 4 + 1, none⟩ = some (.int .u64 y.c) ∧ w'.cell? ⟨q, off + k * 4 + 2, none⟩ = some (.int .u64 y.s) ∧ w'.cell? ⟨q, off + k * 4 + 3, none⟩ = some (.int .u64 y.i)) ((refine ⟨?_, ?_, ?_, ?_, ?_, ?_, ?_⟩ <;> (first | (rw [cell?_box]; rfl) | exact CellAt.h))) (first | (go_at_call 50; (with_reducible refine (TX.out _ (by exact blw) inferInstance inferInstance inferInstance inferInstance inferInstance inferInstance).mono ?_); rintro e w2 ⟨A1, c1, A2, c2, A3, c3, rfl, ha, k1, k2, k3, k4, k5, k6⟩; haveI := k1; haveI := k2; haveI := k3; haveI := k4; haveI := k5; haveI := k6; have HA2 := hide ha; clear ha) | fail)
            all_goals
              go_wp2_with fail
              refine bodyPost_ret (v := .agg #[.slice A1 (m.takeAck now p.n p.i y).2.ps.length c1, .slice A2 (m.takeAck now p.n p.i y).2.bs.length c2, .slice A3 (m.takeAck now p.n p.i y).2.fl.length c3]) (by simp [results, Tryz.results26, go_sem]) rfl ?_
              rw [HER.out]
              exact HA2.out.fin HbE.out HBW.out (((Gr.set (m := w.heap.size + 1) _ 0 (.slice A1 (m.takeAck now p.n p.i y).2.ps.length c1) (by simp)).trans (Gr.set (m := w.heap.size + 1) _ 1 (.slice A2 (m.takeAck now p.n p.i y).2.bs.length c2) (by simp))).trans (Gr.set (m := w.heap.size + 1) _ 2 (.slice A3 (m.takeAck now p.n p.i y).2.fl.length c3) (by simp)))
        · have d1 : (y.d == m.n) = false := by simpa using hd
          have HD := hide hd
          clear hd
          go_upto_region 6 with fail
          go_quiet (fail)
          go_upto_region 8 with fail
          go_quiet (fail)
          go_wp2_with fail
          go_roundw
          case rel => exact ⟨k + 1, by omega, by go_num, fun z hz => by
            rw [take_succ_of HY.out, List.mem_append, List.mem_singleton] at hz
            rcases hz with hz | rfl
            · exact HBF.out z hz
            · exact HD.out, blw, inferInstance, inferInstance⟩
          case measure => simp [intOf]; omega
      · have hke : k = p.hs.length := by omega
        subst hke
        have HER : Hid (m.take now p = (m, an0)) := hide (by
          unfold En.take
          rw [HM.out, if_pos rfl, List.find?_eq_none.2 (fun z hz => by
            have := HBF.out z (by rw [List.take_length]; exact hz)
            simpa using this)])
        go_wp2_with fail
        refine bodyPost_ret (v := nilA) (by simp [results, Tryz.results26, go_sem]) rfl ?_
        rw [HER.out]
        exact fin _ blw
end
end Go.Proofs.YtniogmefbjfoaaaGreat

namespace Go.Proofs.YtniogmefbjfoaaaGreat
set_option linter.unusedSimpArgs false
set_option linter.unusedVariables false
set_option linter.unusedSectionVars false
open Go.RowKit Go.Maps

/-- behind a call of the program's end: its own blocks are C1, what it answered lies in D -/
structure Md (w : World) (E C1 D : List Nat) (x y b c : Nat) (m1 m' : En) (a : An) (v : Value) (W : World) : Prop where
  t : Two W (D ++ (C1 ++ E)) C1 x y b c m1 m'
  a : AnsL w.heap.size D W v a
  d : ∀ i ∈ D, w.heap.size ≤ i ∧ i ∉ C1
section
variable {w W : World} {E C C1 D : List Nat} {x y b c : Nat} {m m' m1 m2 : En} {a : An} {v : Value}
theorem Md.bD (h : Md w E C1 D x y b c m1 m' a v W) (hb : b < w.heap.size) : b ∉ D := fun hm => by
  have := (h.d b hm).1
  omega
/-- a call of the document's end -/
theorem Md.ref {W' : World} (h : Md w E C1 D x y b c m1 m' a v W) (hb : b < w.heap.size) (hr : RfM W' (D ++ (C1 ++ E)) y b c m2) (g : Gr [b] W W') : Md w E C1 D x y b c m1 m2 a v W' :=
  ⟨h.t.ref hr g, h.a.gr g (by intro i hi; rw [List.mem_singleton] at hi; omega), h.d⟩
theorem Md.below {W' : World} (h : Md w E C1 D x y b c m1 m' a v W) (hb : Below W.heap.size W W') : Md w E C1 D x y b c m1 m' a v W' :=
  ⟨h.t.below hb, h.a.gr (Gr.of (C := []) hb) (by simp), h.d⟩
/-- blocks of the frame are written -/
theorem Md.wr {W' : World} {F : List Nat} (h : Md w E C1 D x y b c m1 m' a v W) (g : Gr F W W') (hF : ∀ i ∈ F, i ∈ E) (hC : ∀ i ∈ C1, i ∉ F) (hw : ∀ i ∈ F, i < w.heap.size) (hb : b ∉ F) : Md w E C1 D x y b c m1 m' a v W' :=
  ⟨h.t.wr g (fun i hi => List.mem_append_right _ (List.mem_append_right _ (hF i hi))) hC hb, h.a.gr g hw, h.d⟩
/-- the answer is written over -/
theorem Md.spoil (h : Md w E C1 D x y b c m1 m' a v W) (hb : b < w.heap.size) (hs : a.small) : Calls Tryz.prog 31 #[v] W fun e W' => e = .returned (.tuple #[]) ∧ Two W' (D ++ (C1 ++ E)) C1 x y b c m1 m' ∧ Gr D W W' := by
  refine (spoil_t W w.heap.size D v a h.a (fun j hj => h.t.ltE j (List.mem_append_left _ hj)) hs).mono ?_
  rintro e W' ⟨rfl, hg⟩
  exact ⟨rfl, h.t.wr hg (fun i hi => List.mem_append_left _ hi) (fun i hi hm => (h.d i hm).2 hi) (h.bD hb), hg⟩
theorem Md.of {B0 : Nat} (h : Two w E C x y b c m m') (ha : AnsI w.heap.size B0 W v a) (hB : w.heap.size ≤ B0) (hC : ∀ i ∈ C1, i < B0) (hE : EnO W (rgB B0 W ++ (C1 ++ E)) C1 x m1) (t : Tr C C1 w W) : Md w E C1 (rgB B0 W) x y b c m1 m' a v W :=
  ⟨h.prog hE (fun i hi => by have := mem_rgB.1 hi; omega) t, .of ha, fun i hi => by
    have h1 := mem_rgB.1 hi
    exact ⟨by omega, fun hm => by have := hC i hm; omega⟩⟩
/-- what a call of the program's end leaves -/
def RetMd (w : World) (E C : List Nat) (x y b c : Nat) (m' m1 : En) (a : An) (v : Value) (W : World) : Prop := ∃ C1 D, Md w E C1 D x y b c m1 m' a v W ∧ Tr C C1 w W
theorem md_take (h : Two w E C x y b c m m') (now : Int) (now0 : 0 ≤ now) (now1 : now ≤ 18446744073709551615) (p : Pk) (HA : Option Addr) (hcp : Nat) (BA : Option Addr) (bcp : Nat) (PA : Option Addr) (pcp : Nat) (hin : PkIn w p HA BA PA) (hB : RO w C 1 BA p.bs.length (bcs p.bs)) :
    Calls Tryz.prog 13 #[.pointer (some ⟨x, 0, none⟩), .int .u64 now, p.at HA hcp BA bcp PA pcp] w fun e W => ∃ v, e = .returned v ∧ RetMd w E C x y b c m' (m.take now p).1 (m.take now p).2 v W := by
  obtain ⟨rb, fb, rp, cp, hx⟩ := h.e
  refine (take16_s w hx now now0 now1 p HA hcp BA bcp PA pcp hin hB).mono ?_
  rintro e W' ⟨v, C', cp', B0, rfl, ha, hB0, hC, hE, ht⟩
  exact ⟨v, rfl, C', _, .of h ha hB0 hC ⟨_, _, _, _, hE⟩ ht, ht⟩
theorem md_tick (h : Two w E C x y b c m m') (now : Int) (now0 : 0 ≤ now) (now1 : now ≤ 18446744073709551615) :
    Calls Tryz.prog 14 #[.pointer (some ⟨x, 0, none⟩), .int .u64 now] w fun e W => ∃ v, e = .returned v ∧ RetMd w E C x y b c m' (m.tick now).1 (m.tick now).2 v W := by
  have hl := h.ltC
  obtain ⟨rb, fb, rp, cp, hx⟩ := h.e
  refine (tick_s w hx now now0 now1).mono ?_
  rintro e W' ⟨v, B0, rfl, ha, hB0, hE, ht⟩
  exact ⟨v, rfl, C, _, .of h ha hB0 (fun i hi => Nat.lt_of_lt_of_le (hl i hi) hB0) ⟨_, _, _, _, hE.addC hx.CE⟩ (.of ht), .of ht⟩
theorem md_send (h : Two w E C x y b c m m') (now : Int) (now0 : 0 ≤ now) (now1 : now ≤ 18446744073709551615) (BA : Option Addr) (bc : Nat) (body : List Int) (hB : RO w C 1 BA body.length (bcs body)) (hbl : body.length ≤ 1000000)
    (DA : Option Addr) (dc : Nat) (dsts : List Int) (hD : RO w C 1 DA dsts.length (ics dsts)) (hdl : dsts.length ≤ 1000000) (hwf : ∀ n ∈ dsts, wfI n) :
    Calls Tryz.prog 12 #[.pointer (some ⟨x, 0, none⟩), .int .u64 now, .slice BA body.length bc, .slice DA dsts.length dc] w fun e W => ∃ v, e = .returned (.tuple #[v, .int .i64 (m.send now body dsts).2.2]) ∧ RetMd w E C x y b c m' (m.send now body dsts).1 (m.send now body dsts).2.1 v W := by
  have hl := h.ltC
  obtain ⟨rb, fb, rp, cp, hx⟩ := h.e
  refine (send16_s w hx now now0 now1 BA bc body hB hbl DA dc dsts hD hdl hwf).mono ?_
  rintro e W' ⟨v, B0, rfl, ha, hB0, hE, ht⟩
  exact ⟨v, rfl, C, _, .of h ha hB0 (fun i hi => Nat.lt_of_lt_of_le (hl i hi) hB0) ⟨_, _, _, _, hE.addC hx.CE⟩ (.of ht), .of ht⟩
theorem two_reliable (h : Two w E C x y b c m m') (A : Option Addr) (cc : Nat) (l : List Int) (hl : RO w C 1 A l.length (ics l)) (hn : l.length ≤ 1000000) :
    Calls Tryz.prog 11 #[.pointer (some ⟨x, 0, none⟩), .slice A l.length cc] w fun e W => e = .returned (.tuple #[]) ∧ Two W E C x y b c (m.reliable l) m' ∧ Gr C w W := by
  have hEl := h.ltE
  have hCE := h.CE
  obtain ⟨⟨rb, fb, rp, cp, hx⟩, hr, hn'⟩ := h
  refine (reliable16_s w hx A cc l hl hn).mono ?_
  rintro e W' ⟨rfl, hE, ht⟩
  exact ⟨rfl, ⟨⟨rb, fb, rp, cp, hE⟩, hr.keep (.of (ht.mono' hCE)) (ht.blk b hr.fz.lt hn') hr.bE (fun i hi => Nat.lt_of_lt_of_le (hEl i hi) ht.size), hn'⟩, ht⟩
end
/-! ### what is kept over a step -/
/-- blocks from B on are kept -/
class GrB (B : outParam Nat) (X : outParam World) (W : World) : Prop where
  z : X.heap.size ≤ W.heap.size
  h : ∀ i, B ≤ i → i < X.heap.size → W.heap[i]? = X.heap[i]?
theorem GrB.of {B : Nat} {C : List Nat} {X W : World} (g : Gr C X W) (h : ∀ i ∈ C, i < B) : GrB B X W := ⟨g.size, fun i h1 h2 => g.blk i h2 (fun hm => by have := h i hm; omega)⟩
instance BoxAt.grB (B n : Nat) (X W : World) (cs : Array Value) (t : TypeId) [g : GrB B X W] [k : BoxAt X n cs t] [l : LeN B n] : BoxAt W n cs t := ⟨(g.h n l.h k.lt).trans k.eq⟩
end Go.Proofs.YtniogmefbjfoaaaGreat

namespace Go.Proofs.YtniogmefbjfoaaaGreat
set_option linter.unusedSimpArgs false
set_option linter.unusedVariables false
set_option linter.unusedSectionVars false
open Go.RowKit Go.Maps

/-- a packet whose rows lie from B on, and may be written -/
structure OwnPk (W : World) (B : Nat) (x : Pk) (HA BA PA : Option Addr) : Prop where
  i : PkIn W x HA BA PA
  h : 0 < x.hs.length → ∀ a, HA = some a → B ≤ a.block ∧ FrzAt W a.block
  b : 0 < x.bs.length → ∀ a, BA = some a → B ≤ a.block ∧ FrzAt W a.block
  p : 0 < x.ps.length → ∀ a, PA = some a → B ≤ a.block
  d : 0 < x.hs.length → ∀ a, HA = some a → (0 < x.bs.length → ∀ c, BA = some c → c.block ≠ a.block) ∧ (0 < x.ps.length → ∀ c, PA = some c → c.block ≠ a.block)
theorem FrzAt.bel {X W : World} {b : Nat} (h : FrzAt X b) (hb : Below X.heap.size X W) : FrzAt W b := haveI : Stp X W := ⟨hb⟩; inferInstance
theorem OwnPk.below {X W : World} {B : Nat} {x : Pk} {HA BA PA : Option Addr} (h : OwnPk X B x HA BA PA) (hb : Below X.heap.size X W) : OwnPk W B x HA BA PA :=
  ⟨h.i.stp hb, fun h0 a ha => ⟨(h.h h0 a ha).1, (h.h h0 a ha).2.bel hb⟩, fun h0 a ha => ⟨(h.b h0 a ha).1, (h.b h0 a ha).2.bel hb⟩, h.p, h.d⟩
theorem own_bound {W : World} {base k n c : Nat} {e : TypeId} {A : Option Addr} {xs : List Value} (h : W.ownsRow base e k (.slice A n c) n xs) (a : Addr) (ha : A = some a) : (base ≤ a.block ∧ a.block < W.heap.size) ∧ FrzAt W a.block := by
  subst ha
  have h1 := h.lt _ rfl
  refine ⟨h1, h1.2, fun i => ?_⟩
  rcases h.2 with ⟨e, _⟩ | ⟨g, cap, cur, hv, _, hg, _⟩
  · cases e
  · injection hv with hv
    injection hv with hv
    subst hv
    exact h.frozenAt i
def RetOw2 (w : World) (x : Pk) (e : Ending) (w' : World) : Prop := ∃ HA hcp BA bcp PA pcp, e = .returned (x.at HA hcp BA bcp PA pcp) ∧ OwnPk w' w.heap.size x HA BA PA ∧ Below w.heap.size w w'
theorem ownpk_mk {W W1 : World} {B B2 c1 c2 c3 : Nat} {x : Pk} {A1 A2 A3 : Option Addr} {e1 e2 e3 : TypeId} (h1 : W1.ownsRow B e1 4 (.slice A1 x.hs.length c1) x.hs.length (hcs x.hs)) (o1 : W.ownsRow B e1 4 (.slice A1 x.hs.length c1) x.hs.length (hcs x.hs)) (o2 : W.ownsRow W1.heap.size e2 1 (.slice A2 x.bs.length c2) x.bs.length (bcs x.bs)) (o3 : W.ownsRow B2 e3 2 (.slice A3 x.ps.length c3) x.ps.length (pcs x.ps)) (hB : B ≤ W1.heap.size) (hB2 : W1.heap.size ≤ B2) (hl1 : x.hs.length ≤ 1000000) (hl2 : x.bs.length ≤ 1000000) (hl3 : x.ps.length ≤ 1000000) {lo : Nat} (hlo : lo ≤ B) : OwnPk W lo x A1 A2 A3 where
  i := ⟨Reads.of_own o1, Reads.of_own o2, Reads.of_own o3, hl1, hl2, hl3⟩
  h := fun _ a ha => ⟨by have := (own_bound o1 a ha).1; omega, (own_bound o1 a ha).2⟩
  b := fun _ a ha => ⟨by have := (own_bound o2 a ha).1; omega, (own_bound o2 a ha).2⟩
  p := fun _ a ha => by have := (own_bound o3 a ha).1; omega
  d := fun _ a ha => ⟨fun _ c hc => by have := (own_bound h1 a ha).1; have := (own_bound o2 c hc).1; omega, fun _ c hc => by have := (own_bound h1 a ha).1; have := (own_bound o3 c hc).1; omega⟩
set_option maxRecDepth 100000 in
set_option maxHeartbeats 4000000 in
theorem rown2_s (x : Pk) (HA : Option Addr) (hcp : Nat) (BA : Option Addr) (bcp : Nat) (PA : Option Addr) (pcp : Nat) (w : World) (h : PkIn w x HA BA PA) :
    Calls Tryz.prog 24 #[x.at HA hcp BA bcp PA pcp] w (RetOw2 w x) := by
  obtain ⟨h1, h2, h3, h4, h5, h6⟩ := h
  obtain ⟨k, n, i, hp, hs, bs, an, ai, sq, ps⟩ := x
  simp only at h1 h2 h3 h4 h5 h6
  haveI : Src w HA hs.length 4 (hcs hs) := ⟨h1⟩
  haveI : Src w BA bs.length 1 (bcs bs) := ⟨h2⟩
  haveI : Src w PA ps.length 2 (pcs ps) := ⟨h3⟩
  unfold RetOw2
  simp only [Pk.at]
  clear h1 h2 h3
  go_enter Tryz.func24, Tryz.ntmps24
  go_wp2_with (first | (at_builtin; refine wpList_append_w Tryz.okHd rfl (.tmp 3) (.tmp 5) rfl (w.heap.size + 1 + 1) (.slice (some ⟨w.heap.size + 1 + 1, 0, none⟩) 0 0) 0 [] hs.length (hcs hs) ?_ ?_ ?_ ?_ ?_ ?_ ?_ ?_; go_must ((focus (first | rfl | (simp [Act.eval, Act.put]; done))); (focus (exact own_emH _ (w.heap.size + 1 + 1) (by simp))); (focus (refine ⟨_, _, rfl, ?_⟩; exact src)); (focus (exact hc_one _)); (focus (unfold maxLen; omega)); (focus omega); (focus (first | omega | (simp; done) | (simp; omega) | exact blw.size | exact BoxAt.lt (n := w.heap.size) inferInstance)); intro v1 w1 ho1 hg1; rw [Nat.zero_add, List.nil_append] at ho1; haveI : StpB (w.heap.size + 1 + 1) _ w1 := ⟨grown_belowB hg1 (by simp) (fun k hk => by have e : w.heap.size + 1 + 1 = k := Option.some.inj hk; omega)⟩; obtain ⟨A1, c1, rfl, _, _⟩ := own_slice ho1; have O1 := hide ho1; have z1 : w.heap.size + 1 < w1.heap.size := BoxAt.lt (n := w.heap.size + 1) inferInstance; haveI : LtN (w.heap.size + 1) w1.heap.size := ⟨z1⟩; haveI : LtN w.heap.size w1.heap.size := ⟨by omega⟩; haveI : LeN w.heap.size w1.heap.size := ⟨by omega⟩; clear ho1 hg1)) | (at_builtin; refine wpList_append_w Tryz.okB rfl (.tmp 8) (.tmp 10) rfl w1.heap.size (.slice (some ⟨w1.heap.size, 0, none⟩) 0 0) 0 [] bs.length (bcs bs) ?_ ?_ ?_ ?_ ?_ ?_ ?_ ?_; go_must ((focus (first | rfl | (simp [Act.eval, Act.put]; done))); (focus (exact own_emB _ w1.heap.size (by simp [World.setCell]))); (focus (refine ⟨_, _, rfl, ?_⟩; exact src)); (focus (exact bcs_one _)); (focus (unfold maxLen; omega)); (focus omega); (focus (first | omega | (simp; done) | (simp; omega) | exact blw.size | exact BoxAt.lt (n := w.heap.size) inferInstance)); intro v2 w2 ho2 hg2; rw [Nat.zero_add, List.nil_append] at ho2; haveI : StpB w1.heap.size _ w2 := ⟨grown_belowB hg2 (by simp [World.setCell]) (fun k hk => by have e : w1.heap.size = k := Option.some.inj hk; omega)⟩; obtain ⟨A2, c2, rfl, _, _⟩ := own_slice ho2; have O2 := hide ho2; have y2 := hg2.size; have z2 : w1.heap.size ≤ w2.heap.size := (by simp [World.setCell] at y2; omega); haveI : LeN w1.heap.size w2.heap.size := ⟨z2⟩; haveI : LtN (w.heap.size + 1) w2.heap.size := ⟨by omega⟩; haveI : LtN w.heap.size w2.heap.size := ⟨by omega⟩; haveI : LeN w.heap.size w2.heap.size := ⟨by omega⟩; clear ho2 hg2 y2)) | (at_builtin; refine wpList_append_w Tryz.okP rfl (.tmp 13) (.tmp 16) rfl w2.heap.size (.slice (some ⟨w2.heap.size, 0, none⟩) 0 0) 0 [] ps.length (pcs ps) ?_ ?_ ?_ ?_ ?_ ?_ ?_ ?_; go_must ((focus (first | rfl | (simp [Act.eval, Act.put]; done))); (focus (exact own_emP _ w2.heap.size (by simp [World.setCell]))); (focus (refine ⟨_, _, rfl, ?_⟩; exact src)); (focus (exact pc_one _)); (focus (unfold maxLen; omega)); (focus omega); (focus (first | omega | (simp; done) | (simp; omega) | exact blw.size | exact BoxAt.lt (n := w.heap.size) inferInstance)); intro v3 w3 ho3 hg3; rw [Nat.zero_add, List.nil_append] at ho3; haveI : StpB w2.heap.size _ w3 := ⟨grown_belowB hg3 (by simp [World.setCell]) (fun k hk => by have e : w2.heap.size = k := Option.some.inj hk; omega)⟩; obtain ⟨A3, c3, rfl, _, _⟩ := own_slice ho3; have O3 := hide ho3; clear ho3 hg3)))
  go_wp2
  refine bodyPost_ret (v := PkV k n i hp A1 hs.length c1 A2 bs.length c2 an ai sq A3 ps.length c3) (by simp [results, Tryz.results24, go_sem]) rfl ?_
  exact ⟨A1, c1, A2, c2, A3, c3, rfl, ownpk_mk (x := ⟨k, n, i, hp, hs, bs, an, ai, sq, ps⟩) O1.out (own_kp O1.out) (own_kp O2.out) (own_kp O3.out) (by omega) z2 h4 h5 h6 (by omega), blw⟩
/-! ### known -/
/-- but four cells are kept -/
class K4 (g off : Nat) (X W : World) : Prop where
  o : ∀ j u, 4 ≤ j → X.cell? ⟨g, off + j, none⟩ = some u → W.cell? ⟨g, off + j, none⟩ = some u
  z : X.heap.size ≤ W.heap.size
instance (priority := high) K4.rf (g off : Nat) (X : World) : K4 g off X X := ⟨fun _ _ _ h => h, Nat.le_refl _⟩
instance K4.stp (g off : Nat) (X Y W : World) [s : Stp Y W] [h : K4 g off X Y] : K4 g off X W := ⟨fun j u hj hx => (s.h.cell (p := ⟨g, off + j, none⟩) (cell_lt (h.o j u hj hx))).trans (h.o j u hj hx), Nat.le_trans h.z s.h.size⟩
theorem K4.setJ {g off i : Nat} {X Y : World} {v : Value} (hi : i < 4) (h : K4 g off X Y) : K4 g off X (Y.setCell ⟨g, off + i, none⟩ v) := ⟨fun j u hj hx => by
  rw [World.cell?_setCell_other _ _ _ _ (fun e => by injection e with _ e; omega)]
  exact h.o j u hj hx, by simpa [World.setCell] using h.z⟩
instance K4.set0 (g off : Nat) (X Y : World) (v : Value) [h : K4 g off X Y] : K4 g off X (Y.setCell ⟨g, off, none⟩ v) := h.setJ (i := 0) (by omega)
instance K4.set (g off i : Nat) (X Y : World) (v : Value) [h : K4 g off X Y] [l : LtN i 4] : K4 g off X (Y.setCell ⟨g, off + i, none⟩ v) := h.setJ l.h
instance (priority := low) K4.other (g off m i : Nat) (X Y : World) (v : Value) [h : K4 g off X Y] [e : NeN g m] : K4 g off X (Y.setCell ⟨m, i, none⟩ v) := ⟨fun j u hj hx => by
  rw [World.cell?_setCell_other _ _ _ _ (fun h => e.h (by injection h with h; exact h.symm))]
  exact h.o j u hj hx, by simpa [World.setCell] using h.z⟩
theorem hd4_reads {X W : World} {g off : Nat} {h h' : Hd} {t : List Hd} (hr : Reads X X.heap.size 4 (some ⟨g, off, none⟩) (t.length + 1) (hcs (h :: t))) (k : K4 g off X W) (c0 : CellAt W g off (.int .i64 h'.d)) (c1 : CellAt W g (off + 1) (.int .u64 h'.c)) (c2 : CellAt W g (off + 2) (.int .u64 h'.s)) (c3 : CellAt W g (off + 3) (.int .u64 h'.i)) : Reads W W.heap.size 4 (some ⟨g, off, none⟩) (t.length + 1) (hcs (h' :: t)) := by
  refine ⟨by rw [hcs_len]; simp, fun _ => ⟨g, off, rfl, c0.lt, fun j u hu => ?_⟩⟩
  obtain ⟨b, o, e, hb, hcl⟩ := hr.2 (by omega)
  injection e with e
  injection e with e1 e2
  subst e1 e2
  match j, hu with
  | 0, hu => rw [hcs, List.flatMap_cons] at hu; simp [hc] at hu; subst hu; exact c0.h
  | 1, hu => rw [hcs, List.flatMap_cons] at hu; simp [hc] at hu; subst hu; exact c1.h
  | 2, hu => rw [hcs, List.flatMap_cons] at hu; simp [hc] at hu; subst hu; exact c2.h
  | 3, hu => rw [hcs, List.flatMap_cons] at hu; simp [hc] at hu; subst hu; exact c3.h
  | j + 4, hu => exact k.o (j + 4) u (by omega) (hcl (j + 4) u (by rw [hcs, List.flatMap_cons] at hu ⊢; simpa [hc] using hu))
theorem ro_q {W : World} {k n q : Nat} {A : Option Addr} {xs : List Value} (h : Reads W W.heap.size k A n xs) (hq : 0 < n → ∀ c, A = some c → c.block ≠ q) : RO W [q, W.heap.size + 1] k A n xs := ⟨h, fun h0 a ha hm => by
  obtain ⟨b, off, e, hb, _⟩ := h.2 h0
  rw [e] at ha
  injection ha with ha
  subst ha
  have := hq h0 _ e
  simp at hm this
  omega⟩
def knownB (p : Pk) : Bool := decide (p.k = 3) && (decide (0 < p.hs.length) && (decide (1 ≤ p.n) && decide (p.n ≤ 10)))
def hdK (m : En) (n : Int) (h : Hd) : Hd := ⟨m.n, (m.rwR n.toNat).cn, h.s, m.i⟩
def knownP (m : En) (p : Pk) : Pk := if knownB p = true then { p with hs := match p.hs with | [] => [] | h :: t => hdK m p.n h :: t } else p
/-- what known leaves -/
def RetKn (w : World) (B : Nat) (m : En) (p : Pk) (HA : Option Addr) (hcp : Nat) (BA : Option Addr) (bcp : Nat) (PA : Option Addr) (pcp : Nat) (e : Ending) (W : World) : Prop := e = .returned ((knownP m p).at HA hcp BA bcp PA pcp) ∧ OwnPk W B (knownP m p) HA BA PA ∧ ∃ D, Gr D w W ∧ ∀ i ∈ D, (B ≤ i ∧ i < w.heap.size) ∧ 0 < p.hs.length ∧ ∃ a, HA = some a ∧ a.block = i
section
variable {E : List Nat} {y b c : Nat} {m : En}
set_option maxRecDepth 100000 in
set_option maxHeartbeats 8000000 in
theorem known_n (w : World) (h : RfM w E y b c m) (B : Nat) (p : Pk) (HA : Option Addr) (hcp : Nat) (BA : Option Addr) (bcp : Nat) (PA : Option Addr) (pcp : Nat) (o : OwnPk w B p HA BA PA) (hk : knownB p = false) :
    Calls Tryz.prog 25 #[.pointer (some ⟨y, 0, none⟩), p.at HA hcp BA bcp PA pcp] w (RetKn w B m p HA hcp BA bcp PA pcp) := by
  have fin : ∀ W, Below w.heap.size w W → RetKn w B m p HA hcp BA bcp PA pcp (.returned (p.at HA hcp BA bcp PA pcp)) W := fun W hb => by
    have e : knownP m p = p := by unfold knownP; rw [hk]; rfl
    unfold RetKn
    rw [e]
    exact ⟨rfl, o.below hb, [], .of hb, by simp⟩
  have HF := hide fin
  have hl := o.i.hl
  have HK := hide hk
  clear h o fin hk
  obtain ⟨k, n, i, hop, hs, bs, an, ai, sq, ps⟩ := p
  simp only at hl
  by_cases h1 : k = 3
  · subst h1
    by_cases h2 : 0 < hs.length
    · have d2 : decide ((0 : Int) < (hs.length : Int)) = true := decide_eq_true (by omega)
      have d2n : decide (0 < hs.length) = true := decide_eq_true h2
      by_cases h3 : 1 ≤ n
      · have d3 : decide (1 ≤ n) = true := decide_eq_true h3
        have h4 : ¬ n ≤ 10 := fun h4 => by
          have := HK.out
          unfold knownB at this
          simp [h2, h3, h4] at this
        have d4 : decide (n ≤ 10) = false := decide_eq_false h4
        clear h2 h3 h4
        go_enter Tryz.func25, Tryz.ntmps25
        go_wp2_with fail
        refine bodyPost_ret (v := PkV 3 n i hop HA hs.length hcp BA bs.length bcp an ai sq PA ps.length pcp) (by simp [results, Tryz.results25, go_sem]) rfl ?_
        exact HF.out _ blw
      · have d3 : decide (1 ≤ n) = false := decide_eq_false h3
        clear h2 h3
        go_enter Tryz.func25, Tryz.ntmps25
        go_wp2_with fail
        refine bodyPost_ret (v := PkV 3 n i hop HA hs.length hcp BA bs.length bcp an ai sq PA ps.length pcp) (by simp [results, Tryz.results25, go_sem]) rfl ?_
        exact HF.out _ blw
    · have d2 : decide ((0 : Int) < (hs.length : Int)) = false := decide_eq_false (by omega)
      have d2n : decide (0 < hs.length) = false := decide_eq_false h2
      clear h2
      go_enter Tryz.func25, Tryz.ntmps25
      go_wp2_with fail
      refine bodyPost_ret (v := PkV 3 n i hop HA hs.length hcp BA bs.length bcp an ai sq PA ps.length pcp) (by simp [results, Tryz.results25, go_sem]) rfl ?_
      exact HF.out _ blw
  · have d1 : (k == 3) = false := beq_eq_false_iff_ne.2 h1
    clear h1
    go_enter Tryz.func25, Tryz.ntmps25
    go_wp2_with fail
    refine bodyPost_ret (v := PkV k n i hop HA hs.length hcp BA bs.length bcp an ai sq PA ps.length pcp) (by simp [results, Tryz.results25, go_sem]) rfl ?_
    exact HF.out _ blw
set_option maxRecDepth 100000 in
set_option maxHeartbeats 8000000 in
theorem known_y (w : World) (h : RfM w E y b c m) (B : Nat) (hyB : y < B) (hbB : b < B) (k : Nat) (hk1 : 1 ≤ k) (hk : k ≤ 10) (i hop : Int) (hd : Hd) (t : List Hd) (bs : List Int) (an ai sq : Int) (ps : List Pr) (HA : Option Addr) (hcp : Nat) (BA : Option Addr) (bcp : Nat) (PA : Option Addr) (pcp : Nat) (o : OwnPk w B ⟨3, k, i, hop, hd :: t, bs, an, ai, sq, ps⟩ HA BA PA) :
    Calls Tryz.prog 25 #[.pointer (some ⟨y, 0, none⟩), PkV 3 k i hop HA (t.length + 1) hcp BA bs.length bcp an ai sq PA ps.length pcp] w (RetKn w B m ⟨3, k, i, hop, hd :: t, bs, an, ai, sq, ps⟩ HA hcp BA bcp PA pcp) := by
  have HO := hide o
  have HE := hide h
  haveI := h.bx
  haveI : LtN y w.heap.size := ⟨h.bx.lt⟩
  haveI : LtN b w.heap.size := ⟨h.fz.lt⟩
  obtain ⟨_, A, c', ds, h9, _, _, _⟩ := h.ro k (by omega)
  haveI := h9.c0
  obtain ⟨q, off, hd', hqA, hq, hx, g0, g1, g2, g3⟩ := o.i.h.at4 (k := 0) (by simp)
  have hqB := o.h (by simp) _ hqA
  subst hqA
  simp only [List.getElem?_cons_zero, Option.some.injEq] at hx
  subst hx
  simp only [Nat.zero_mul, Nat.add_zero] at g0 g1 g2 g3
  haveI : CellAt w q off (.int .i64 hd.d) := ⟨hq, g0⟩
  haveI : CellAt w q (off + 1) (.int .u64 hd.c) := ⟨hq, g1⟩
  haveI : CellAt w q (off + 2) (.int .u64 hd.s) := ⟨hq, g2⟩
  haveI : CellAt w q (off + 3) (.int .u64 hd.i) := ⟨hq, g3⟩
  haveI := hqB.2
  haveI : LtN q w.heap.size := ⟨hq⟩
  have hqb := hqB.1
  simp only at hqb
  haveI : NeN y q := ⟨by omega⟩
  haveI : NeN b q := ⟨by omega⟩
  have HQ := hide (⟨hqb, hq⟩ : B ≤ q ∧ q < w.heap.size)
  have hl := o.i.hl
  simp only [List.length_cons] at hl
  have d2 : decide ((0 : Int) < (t.length : Int) + 1) = true := decide_eq_true (by omega)
  have d2n : decide (0 < t.length + 1) = true := decide_eq_true (by omega)
  have d2c : decide ((0 : Int) < ((t.length + 1 : Nat) : Int)) = true := decide_eq_true (by omega)
  have d3 : decide ((1 : Int) ≤ (k : Int)) = true := decide_eq_true (by omega)
  have d3n : decide (1 ≤ k) = true := decide_eq_true (by omega)
  have d4 : decide ((k : Int) ≤ 10) = true := decide_eq_true (by omega)
  have i0 : (0 : Int) ≤ (k : Int) := by omega
  have i1 : (k : Int) < 11 := by omega
  clear o h h9 g0 g1 g2 g3 hqB hqb hq
  go_enter Tryz.func25, Tryz.ntmps25
  go_upto_region 3 with fail
  go_region_held3 (fun w' => w'.cell? ⟨w.heap.size, 4, none⟩ = some (.slice (some ⟨q, off, none⟩) (t.length + 1) hcp) ∧ w'.cell? ⟨y, 0, none⟩ = some (.int .i64 m.n) ∧ w'.cell? ⟨y, 1, none⟩ = some (.int .u64 m.i) ∧ w'.cell? ⟨y, 2, none⟩ = some (.slice (some ⟨b, 0, none⟩) 11 c) ∧ w'.cell? ⟨b, k * 9, none⟩ = some (.int .u64 (m.rwR k).cn)) ((refine ⟨?_, ?_, ?_, ?_, ?_⟩ <;> (first | (rw [cell?_box]; rfl) | exact CellAt.h))) (first | fail)
  all_goals
    go_wp2_with fail
    refine bodyPost_ret (v := PkV 3 k i hop (some ⟨q, off, none⟩) (t.length + 1) hcp BA bs.length bcp an ai sq PA ps.length pcp) (by simp [results, Tryz.results25, go_sem]) rfl ?_
    have e : knownP m ⟨3, k, i, hop, hd :: t, bs, an, ai, sq, ps⟩ = ⟨3, k, i, hop, ⟨m.n, (m.rwR k).cn, hd.s, m.i⟩ :: t, bs, an, ai, sq, ps⟩ := by
      unfold knownP
      rw [if_pos (by simp [knownB]; omega)]
      rfl
    unfold RetKn
    rw [e]
    have hdd := HO.out.d (by simp) _ rfl
    simp only at hdd
    refine ⟨rfl, ⟨⟨hd4_reads (X := w) (h := hd) (h' := ⟨m.n, (m.rwR k).cn, hd.s, m.i⟩) HO.out.i.h inferInstance inferInstance inferInstance inferInstance inferInstance, ?_, ?_, HO.out.i.hl, HO.out.i.bl, HO.out.i.pl⟩, fun _ a ha => ?_, fun h0 a ha => ⟨(HO.out.b h0 a ha).1, ?_⟩, HO.out.p, HO.out.d⟩, [q], (Trc.h (C := [q, w.heap.size + 1]) (a := w)).g.less (fun j hj => by
      simp at hj
      rcases hj with rfl | rfl
      · exact .inl (by simp)
      · exact .inr (by omega)), fun j hj => by rw [List.mem_singleton] at hj; subst hj; exact ⟨HQ.out, by simp, _, rfl, rfl⟩⟩
    · exact (RO.tc (a := w) (C := [q, w.heap.size + 1]) (ro_q HO.out.i.b hdd.1)).1
    · exact (RO.tc (a := w) (C := [q, w.heap.size + 1]) (ro_q HO.out.i.p hdd.2)).1
    · injection ha with ha
      subst ha
      exact ⟨HQ.out.1, inferInstance⟩
    · haveI := (HO.out.b h0 a ha).2
      infer_instance
theorem known16_s (w : World) (h : RfM w E y b c m) (B : Nat) (hyB : y < B) (hbB : b < B) (p : Pk) (HA : Option Addr) (hcp : Nat) (BA : Option Addr) (bcp : Nat) (PA : Option Addr) (pcp : Nat) (o : OwnPk w B p HA BA PA) :
    Calls Tryz.prog 25 #[.pointer (some ⟨y, 0, none⟩), p.at HA hcp BA bcp PA pcp] w (RetKn w B m p HA hcp BA bcp PA pcp) := by
  cases hk : knownB p with
  | false => exact known_n w h B p HA hcp BA bcp PA pcp o hk
  | true =>
    obtain ⟨k, n, i, hop, hs, bs, an, ai, sq, ps⟩ := p
    unfold knownB at hk
    simp only [Bool.and_eq_true, decide_eq_true_eq] at hk
    obtain ⟨rfl, h1, h2, h3⟩ := hk
    obtain ⟨kk, rfl⟩ : ∃ kk : Nat, n = kk := ⟨n.toNat, by omega⟩
    match hs, h1 with
    | hd :: t, _ => exact known_y w h B hyB hbB kk (by omega) (by omega) i hop hd t bs an ai sq ps HA hcp BA bcp PA pcp o
end
end Go.Proofs.YtniogmefbjfoaaaGreat

namespace Go.Proofs.YtniogmefbjfoaaaGreat
set_option linter.unusedSimpArgs false
set_option linter.unusedVariables false
set_option linter.unusedSectionVars false
open Go.RowKit Go.Maps

/-! ### numbers -/
def En.wf (m : En) : Prop := wfU64 m.i ∧ ∀ n, wfU64 (m.rw n).cn
theorem uadd_wf (x : Int) : wfU64 (uadd x) := by
  unfold uadd wfU64 IntKind.wrap
  simp only [IntKind.signed, IntKind.bits]
  constructor
  · first | omega | (simp; omega)
  · first | omega | (simp; omega)
theorem En.wf.put {m : En} (h : m.wf) {n : Int} {r : Rw} (hr : wfU64 r.cn) : (m.put n r).wf := ⟨h.1, fun k => by
  show wfU64 (if k = n then r else m.rw k).cn
  split
  · exact hr
  · exact h.2 k⟩
theorem reliable_wf {m : En} (h : m.wf) (l : List Int) : (m.reliable l).wf := ⟨h.1, fun n => by
  show wfU64 ((m.rw n).rel (decide (n ∈ l))).cn
  unfold Rw.rel
  simp only
  split
  · exact uadd_wf _
  · exact h.2 n⟩
theorem sends_wf {m : En} (h : m.wf) (now : Int) (body dsts : List Int) : ∀ k, k ≤ 10 → (m.sends now body dsts k).m.wf
  | 0, _ => h
  | k + 1, hk => by
    have ih := sends_wf h now body dsts k (by omega)
    rw [sends_succ _ _ _ _ (by omega)]
    unfold send1
    split
    · split
      · exact ih
      · exact ih.put (ih.2 _)
    · exact ih
theorem send_wf {m : En} (h : m.wf) (now : Int) (body dsts : List Int) : (m.send now body dsts).1.wf := by
  unfold En.send
  split
  · exact sends_wf h now body dsts 10 (by omega)
  · exact h
theorem ticks_wf (now : Int) : ∀ (l : List Int) (s : Tck), s.m.wf → (l.foldl (tick1 now) s).m.wf
  | [], _, h => h
  | n :: l, s, h => by
    rw [List.foldl_cons]
    refine ticks_wf now l _ ?_
    unfold tick1
    split
    · exact h.put (h.2 n)
    · exact h
theorem tick_wf {m : En} (h : m.wf) (now : Int) : (m.tick now).1.wf := ticks_wf now m.nodes ⟨m, []⟩ h
theorem takeAck_wf {m : En} (h : m.wf) (now n i : Int) (d : Hd) : (m.takeAck now n i d).1.wf := by
  unfold En.takeAck
  split
  · exact h
  split
  · exact h.put (uadd_wf _)
  · simp only
    split
    · exact h.put (h.2 n)
    · rename_i r' hr'
      refine h.put ?_
      unfold Rw.acked at hr'
      split at hr'
      · cases hr'
      · injection hr' with hr'
        subst hr'
        exact h.2 n
theorem takeData_wf {m : En} (h : m.wf) (n i : Int) (d : Hd) (bs : List Int) : (m.takeData n i d bs).1.wf := by
  unfold En.takeData
  cases m.cm n with
  | none => exact h
  | some c0 =>
    simp only
    split
    · exact h
    · exact h
theorem take_wf {m : En} (h : m.wf) (now : Int) (p : Pk) : (m.take now p).1.wf := by
  unfold En.take
  split
  · split
    · split
      · exact takeData_wf h _ _ _ _
      · exact takeAck_wf h _ _ _ _
    · exact h
  · exact h
theorem new_wf (n i : Int) (hi : wfU64 i) : (En.new n i).wf := ⟨hi, fun _ => ⟨by show (0 : Int) ≤ 1; omega, by show (1 : Int) ≤ 18446744073709551615; omega⟩⟩
theorem rwR_wf {m : En} (h : m.wf) (k : Nat) : wfU64 (m.rwR k).cn := by
  unfold En.rwR
  split
  · exact h.2 k
  · exact ⟨by show (0 : Int) ≤ 1; omega, by show (1 : Int) ≤ 18446744073709551615; omega⟩
theorem knownP_f {m : En} (h : m.wf) {p : Pk} (hp : PkF p) : PkF (knownP m p) := by
  unfold knownP
  split
  · refine ⟨hp.i, hp.ai, hp.sq, ?_, hp.bs, hp.ps⟩
    intro y hy
    obtain ⟨k, n, i, hop, hs, bs, an, ai, sq, ps⟩ := p
    cases hs with
    | nil => cases hy
    | cons hd t =>
      simp only at hy
      rcases List.mem_cons.1 hy with rfl | hy
      · exact ⟨rwR_wf h _, (hp.hs hd (List.mem_cons_self ..)).2.1, h.1⟩
      · exact hp.hs y (List.mem_cons_of_mem _ hy)
  · exact hp
theorem knownP_bs {m : En} {p : Pk} : (knownP m p).bs = p.bs ∧ (knownP m p).ps = p.ps := by
  unfold knownP
  split <;> exact ⟨rfl, rfl⟩
/-! ### a packet of one's own -/
/-- its rows lie from B on and below U -/
structure OwnU (W : World) (B U : Nat) (x : Pk) (HA BA PA : Option Addr) : Prop where
  o : OwnPk W B x HA BA PA
  h : 0 < x.hs.length → ∀ a, HA = some a → a.block < U
  b : 0 < x.bs.length → ∀ a, BA = some a → a.block < U
  p : 0 < x.ps.length → ∀ a, PA = some a → a.block < U
theorem reads_lt {W : World} {k n : Nat} {A : Option Addr} {xs : List Value} (h : Reads W W.heap.size k A n xs) (h0 : 0 < n) (a : Addr) (ha : A = some a) : a.block < W.heap.size := by
  obtain ⟨b, off, e, hb, _⟩ := h.2 h0
  rw [e] at ha
  injection ha with ha
  subst ha
  exact hb
theorem OwnPk.u {W : World} {B : Nat} {x : Pk} {HA BA PA : Option Addr} (h : OwnPk W B x HA BA PA) : OwnU W B W.heap.size x HA BA PA := ⟨h, fun h0 => reads_lt h.i.h h0, fun h0 => reads_lt h.i.b h0, fun h0 => reads_lt h.i.p h0⟩
theorem FrzAt.blk {X W : World} {b : Nat} (h : FrzAt X b) (hb : W.heap[b]? = X.heap[b]?) : FrzAt W b := ⟨by
  have h1 : X.heap[b]? ≠ none := by rw [Array.getElem?_eq_getElem h.lt]; simp
  rw [← hb] at h1
  exact Classical.byContradiction (fun h2 => h1 (Array.getElem?_eq_none (by omega))), fun i => by
  have := h.h i
  unfold World.frozen? at this ⊢
  rw [hb]; exact this⟩
theorem OwnU.gr {X W : World} {B U : Nat} {x : Pk} {HA BA PA : Option Addr} {C : List Nat} (h : OwnU X B U x HA BA PA) (g : Gr C X W) (hC : ∀ i ∈ C, i < B ∨ U ≤ i) : OwnU W B U x HA BA PA := by
  have key : ∀ {k n : Nat} {A : Option Addr} {xs : List Value}, Reads X X.heap.size k A n xs → (0 < n → ∀ a, A = some a → B ≤ a.block) → (0 < n → ∀ a, A = some a → a.block < U) → Reads W W.heap.size k A n xs := fun hr h1 h2 =>
    (RO.tr (C := C) (C' := C) ⟨hr, fun h0 a ha hm => by
      have := h1 h0 a ha
      have := h2 h0 a ha
      rcases hC _ hm with h3 | h3 <;> omega⟩ (.of g)).1
  have fz : ∀ a : Addr, FrzAt X a.block → B ≤ a.block → a.block < U → FrzAt W a.block := fun a hf h1 h2 => hf.blk (g.blk _ hf.lt (fun hm => by rcases hC _ hm with h3 | h3 <;> omega))
  exact ⟨⟨⟨key h.o.i.h (fun h0 a ha => (h.o.h h0 a ha).1) h.h, key h.o.i.b (fun h0 a ha => (h.o.b h0 a ha).1) h.b, key h.o.i.p h.o.p h.p, h.o.i.hl, h.o.i.bl, h.o.i.pl⟩, fun h0 a ha => ⟨(h.o.h h0 a ha).1, fz a (h.o.h h0 a ha).2 (h.o.h h0 a ha).1 (h.h h0 a ha)⟩, fun h0 a ha => ⟨(h.o.b h0 a ha).1, fz a (h.o.b h0 a ha).2 (h.o.b h0 a ha).1 (h.b h0 a ha)⟩, h.o.p, h.o.d⟩, h.h, h.b, h.p⟩
theorem OwnU.below {X W : World} {B U : Nat} {x : Pk} {HA BA PA : Option Addr} (h : OwnU X B U x HA BA PA) (hb : Below X.heap.size X W) : OwnU W B U x HA BA PA := h.gr (C := []) (.of hb) (by simp)
theorem OwnU.ro {W : World} {B U : Nat} {x : Pk} {HA BA PA : Option Addr} {C : List Nat} (h : OwnU W B U x HA BA PA) (hC : ∀ i ∈ C, i < B ∨ U ≤ i) : RO W C 1 BA x.bs.length (bcs x.bs) ∧ RO W C 4 HA x.hs.length (hcs x.hs) :=
  ⟨⟨h.o.i.b, fun h0 a ha hm => by have := (h.o.b h0 a ha).1; have := h.b h0 a ha; rcases hC _ hm with h3 | h3 <;> omega⟩, ⟨h.o.i.h, fun h0 a ha hm => by have := (h.o.h h0 a ha).1; have := h.h h0 a ha; rcases hC _ hm with h3 | h3 <;> omega⟩⟩
/-- it is written over -/
theorem over_t {W : World} {B U : Nat} {x : Pk} {HA BA PA : Option Addr} (h : OwnU W B U x HA BA PA) (hU : U ≤ W.heap.size) (hcp bcp pcp : Nat) : Calls Tryz.prog 28 #[x.at HA hcp BA bcp PA pcp] W fun e W' => e = .returned (.tuple #[]) ∧ ∃ D, Gr D W W' ∧ ∀ i ∈ D, B ≤ i ∧ i < U := by
  have hh : HdO W HA x.hs.length := fun j hj => by
    obtain ⟨b, off, p, hA, hb, _, g⟩ := h.o.i.h.at4 hj
    exact ⟨b, off, p.d, p.c, p.s, p.i, hA, hb, (h.o.h (by omega) _ hA).2.h, g⟩
  have hbb : BdO W BA x.bs.length := fun j hj => by
    obtain ⟨b, off, p, hA, hb, _, g⟩ := h.o.i.b.atB hj
    exact ⟨b, off, p, hA, hb, (h.o.b (by omega) _ hA).2.h, g⟩
  refine (over16_s W ((List.range U).filter (fun i => decide (B ≤ i))) x.k x.n x.i x.hp HA x.hs.length hcp BA x.bs.length bcp x.an x.ai x.sq PA x.ps.length pcp hh hbb (fun h0 a ha => ?_) (fun h0 a ha => ?_) (fun j hj => ?_) h.o.i.hl h.o.i.bl).mono ?_
  · rw [List.mem_filter, List.mem_range, decide_eq_true_eq]
    exact ⟨h.h h0 a ha, (h.o.h h0 a ha).1⟩
  · rw [List.mem_filter, List.mem_range, decide_eq_true_eq]
    exact ⟨h.b h0 a ha, (h.o.b h0 a ha).1⟩
  · rw [List.mem_filter, List.mem_range] at hj
    omega
  · rintro e W' ⟨rfl, _, hg⟩
    refine ⟨rfl, _, hg, fun i hi => ?_⟩
    rw [List.mem_filter, List.mem_range, decide_eq_true_eq] at hi
    exact ⟨hi.2, hi.1⟩
/-- the same packet twice -/
theorem same16_t {W : World} {B U B' U' : Nat} {x : Pk} {HA BA PA HA' BA' PA' : Option Addr} (h : OwnU W B U x HA BA PA) (h' : OwnU W B' U' x HA' BA' PA') (hb : bOK x.bs) (hcp bcp pcp hcp' bcp' pcp' : Nat) : Calls Tryz.prog 27 #[x.at HA hcp BA bcp PA pcp, x.at HA' hcp' BA' bcp' PA' pcp'] W (RetB W true) :=
  ksameP_s x x HA hcp BA bcp PA pcp HA' hcp' BA' bcp' PA' pcp' W h.o.i h'.o.i hb hb true (by simp)
/-! ### a step -/
/-- what a step leaves -/
def RetStp (w : World) (C : List Nat) (x y b c : Nat) (m2 : En) (e : Ending) (W : World) : Prop := ∃ C', e = .returned (.bool true) ∧ Two W (b :: C') C' x y b c m2 m2 ∧ Tr (b :: C) (b :: C') w W
/-- with what each is handed -/
structure StpIn (w : World) (C : List Nat) (x y b c : Nat) (m : En) (s : Sx) : Prop where
  t : Two w (b :: C) C x y b c m m
  g : m.good
  f : m.wf
  n : RO w (b :: C) 1 s.NA s.ns.length (ics s.ns)
  bb : RO w (b :: C) 1 s.BA s.bd.length (bcs s.bd)
  ph : RO w (b :: C) 4 s.HA s.x.hs.length (hcs s.x.hs)
  pb : RO w (b :: C) 1 s.QA s.x.bs.length (bcs s.x.bs)
  pp : RO w (b :: C) 2 s.PA s.x.ps.length (pcs s.x.ps)
  pf : PkF s.x
  now0 : 0 ≤ s.now
  now1 : s.now ≤ 18446744073709551615
  wn : ∀ n ∈ s.ns, wfI n
  wb : bOK s.bd
  l1 : s.ns.length ≤ 4000
  l2 : s.x.hs.length ≤ 4000
  l3 : s.x.ps.length ≤ 4000
  l4 : s.bd.length ≤ 600000
  l5 : s.x.bs.length ≤ 600000
theorem StpIn.cb {w : World} {C : List Nat} {x y b c : Nat} {m : En} {s : Sx} (h : StpIn w C x y b c m s) : ∀ i ∈ b :: C, i < w.heap.size := h.t.ltE
/-- behind all calls -/
theorem stp_fin {w W : World} {E C C1 D : List Nat} {x y b c : Nat} {m1 : En} (h : Two W (D ++ (C1 ++ E)) C1 x y b c m1 m1) (hbE : b ∈ E) (g : Gr (b :: C) w W) (hC : ∀ i ∈ C1, i ∈ C ∨ w.heap.size ≤ i) : Two W (b :: C1) C1 x y b c m1 m1 ∧ Tr (b :: C) (b :: C1) w W :=
  ⟨h.less (fun i hi => by
    rcases List.mem_cons.1 hi with rfl | hi
    · simp [hbE]
    · simp [hi]) (fun i hi => List.mem_cons_of_mem _ hi) (List.mem_cons_self ..), ⟨g, fun i hi => by
    rcases List.mem_cons.1 hi with rfl | hi
    · exact .inl (List.mem_cons_self ..)
    · rcases hC i hi with h1 | h1
      · exact .inl (List.mem_cons_of_mem _ h1)
      · exact .inr h1⟩⟩
end Go.Proofs.YtniogmefbjfoaaaGreat

namespace Go.Proofs.YtniogmefbjfoaaaGreat
set_option linter.unusedSimpArgs false
set_option linter.unusedVariables false
set_option linter.unusedSectionVars false
open Go.RowKit Go.Maps

theorem own_emI (w : World) (m : Nat) (hm : w.heap.size = m) : (w.alloc (.cells #[] 3)).ownsRow m 3 1 (.slice (some ⟨m, 0, none⟩) 0 0) 0 [] := by subst hm; exact World.ownsRow_lit w #[] 0 (Nat.le_refl _) (by unfold maxLen; omega) rfl
theorem spoil_nil (w : World) : Calls Tryz.prog 31 #[nilA] w fun e W => e = .returned (.tuple #[]) ∧ Below w.heap.size w W := by
  refine (spoil_t w 0 [] nilA an0 ⟨_, [], _, [], _, rfl, .nil _ _, rfl, .nil _ _, rfl, World.ownsRow_nil _ _ _ _, by simp, by simp⟩ (by simp) an0_good.small).mono ?_
  rintro e W ⟨rfl, hg⟩
  exact ⟨rfl, hg.below (Nat.le_refl _) (by simp)⟩
section
variable {C : List Nat} {x y b c : Nat} {m : En}
set_option maxRecDepth 100000 in
set_option maxHeartbeats 8000000 in
theorem step_0 (w : World) (d now : Int) (NA : Option Addr) (nc : Nat) (ns : List Int) (BA : Option Addr) (bc : Nat) (bd : List Int) (k n i hp : Int) (hs : List Hd) (bs : List Int) (an ai sq : Int) (ps : List Pr) (HA : Option Addr) (hc : Nat) (QA : Option Addr) (qc : Nat) (PA : Option Addr) (pc : Nat) (h : StpIn w C x y b c m ⟨d, now, NA, nc, ns, BA, bc, bd, ⟨k, n, i, hp, hs, bs, an, ai, sq, ps⟩, HA, hc, QA, qc, PA, pc⟩) (hd : d = 0) :
    Calls Tryz.prog 9 #[.pointer (some ⟨x, 0, none⟩), .pointer (some ⟨y, 0, none⟩), .agg #[.int .i64 d, .int .u64 now, .slice NA ns.length nc, .slice BA bd.length bc, .int .i64 k, .int .i64 n, .int .u64 i, .int .i64 hp, .slice HA hs.length hc, .slice QA bs.length qc, .int .i64 an, .int .u64 ai, .int .u64 sq, .slice PA ps.length pc]] w (RetStp w C x y b c (m.reliable ns)) := by
  subst hd
  have H := hide h
  have hcb := h.cb
  have hb := hcb b (List.mem_cons_self ..)
  have HC : Hid (∀ j ∈ C, j < w.heap.size) := hide (fun j hj => hcb j (List.mem_cons_of_mem _ hj))
  haveI : Src w NA ns.length 1 (ics ns) := ⟨h.n.1⟩
  have hl1 : ns.length ≤ 4000 := h.l1
  have TR : Hid (∀ W A cc, Below w.heap.size w W → RO W C 1 A ns.length (ics ns) → Calls Tryz.prog 11 #[.pointer (some ⟨x, 0, none⟩), .slice A ns.length cc] W fun e W' => e = .returned (.tuple #[]) ∧ Two W' (b :: C) C x y b c (m.reliable ns) m ∧ Gr C W W') := hide (fun W A cc hW hR => two_reliable (H.out.t.below hW) A cc ns hR (by omega))
  clear h hcb
  go_enter Tryz.func9, Tryz.ntmps9
  go_wp2_with first
    | (at_builtin; refine wpList_append_w Tryz.okI rfl (.tmp 25) (.tmp 27) rfl (w.heap.size + 1 + 1 + 1) (.slice (some ⟨w.heap.size + 1 + 1 + 1, 0, none⟩) 0 0) 0 [] ns.length (ics ns) ?_ ?_ ?_ ?_ ?_ ?_ ?_ ?_; go_must ((focus (first | rfl | (simp [Act.eval, Act.put]; done))); (focus (exact own_emI _ (w.heap.size + 1 + 1 + 1) (by simp))); (focus (refine ⟨_, _, rfl, ?_⟩; exact src)); (focus (exact ics_one _)); (focus (unfold maxLen; omega)); (focus omega); (focus (first | omega | (simp; done) | (simp; omega) | exact blw.size | exact BoxAt.lt (n := w.heap.size) inferInstance)); intro v1 w1 ho1 hg1; rw [Nat.zero_add, List.nil_append] at ho1; haveI : StpB (w.heap.size + 1 + 1 + 1) _ w1 := ⟨grown_belowB hg1 (by simp) (fun k hk => by have e : w.heap.size + 1 + 1 + 1 = k := Option.some.inj hk; omega)⟩; obtain ⟨A1, c1, rfl, _, _⟩ := own_slice ho1; have O1 := hide ho1; clear ho1 hg1))
    | (go_at_call 11; (with_reducible refine (TR.out _ _ _ (by exact blw) (RO.own (own_tc O1.out) (fun j hj => by have := HC.out j hj; omega))).mono ?_); rintro e w2 ⟨rfl, ht2, hg2⟩; haveI : GrB w.heap.size _ w2 := GrB.of hg2 HC.out; have T2 := hide ht2; have G2 : Hid (Gr (b :: C) w w2) := hide ((Gr.of (by exact blw)).trans (hg2.mono' (fun j hj => List.mem_cons_of_mem _ hj))); clear ht2 hg2)
    | (go_at_call 22; (with_reducible refine (reliable16r_s _ (T2.out.below (by exact blw)).r NA nc ns (H.out.n.tr (.of (G2.out.trans (.of (by exact blw))))) (by omega)).mono ?_); rintro e w3 ⟨rfl, hr3, hg3⟩; haveI : GrB w.heap.size _ w3 := GrB.of hg3 (by intro j hj; rw [List.mem_singleton] at hj; omega); have T3 := hide ((T2.out.below (by exact blw)).ref hr3 hg3); have G3 : Hid (Gr (b :: C) w w3) := hide ((G2.out.trans (.of (by exact blw))).trans (hg3.mono' (fun j hj => by rw [List.mem_singleton] at hj; subst hj; exact List.mem_cons_self ..))); clear hr3 hg3)
    | (go_at_call 30; (with_reducible refine (same16_s _ 0 0 nilA nilA an0 (.nil _ _) (.nil _ _) an0_good).mono ?_); rintro e w5 ⟨rfl, hb5⟩; haveI : Stp _ w5 := ⟨hb5⟩; clear hb5)
    | (go_at_call 31; (with_reducible refine (spoil_nil _).mono ?_); rintro e w6 ⟨rfl, hb6⟩; haveI : Stp _ w6 := ⟨hb6⟩; clear hb6)
  refine bodyPost_ret (v := .bool true) (by simp [results, Tryz.results9, go_sem]) rfl ?_
  exact ⟨C, rfl, T3.out.below blw, .of (G3.out.trans (.of blw))⟩
set_option maxRecDepth 100000 in
set_option maxHeartbeats 8000000 in
theorem step_o (w : World) (d now : Int) (NA : Option Addr) (nc : Nat) (ns : List Int) (BA : Option Addr) (bc : Nat) (bd : List Int) (k n i hp : Int) (hs : List Hd) (bs : List Int) (an ai sq : Int) (ps : List Pr) (HA : Option Addr) (hc : Nat) (QA : Option Addr) (qc : Nat) (PA : Option Addr) (pc : Nat) (h : StpIn w C x y b c m ⟨d, now, NA, nc, ns, BA, bc, bd, ⟨k, n, i, hp, hs, bs, an, ai, sq, ps⟩, HA, hc, QA, qc, PA, pc⟩) (d0 : d ≠ 0) (d1 : d ≠ 1) (d2 : d ≠ 2) (d3 : d ≠ 3) (d4 : d ≠ 4) :
    Calls Tryz.prog 9 #[.pointer (some ⟨x, 0, none⟩), .pointer (some ⟨y, 0, none⟩), .agg #[.int .i64 d, .int .u64 now, .slice NA ns.length nc, .slice BA bd.length bc, .int .i64 k, .int .i64 n, .int .u64 i, .int .i64 hp, .slice HA hs.length hc, .slice QA bs.length qc, .int .i64 an, .int .u64 ai, .int .u64 sq, .slice PA ps.length pc]] w (RetStp w C x y b c m) := by
  have H := hide h
  have e0 : (d == 0) = false := beq_eq_false_iff_ne.2 d0
  have e1 : (d == 1) = false := beq_eq_false_iff_ne.2 d1
  have e2 : (d == 2) = false := beq_eq_false_iff_ne.2 d2
  have e3 : (d == 3) = false := beq_eq_false_iff_ne.2 d3
  have e4 : (d == 4) = false := beq_eq_false_iff_ne.2 d4
  clear h d0 d1 d2 d3 d4
  go_enter Tryz.func9, Tryz.ntmps9
  go_wp2_with first
    | (go_at_call 30; (with_reducible refine (same16_s _ 0 0 nilA nilA an0 (.nil _ _) (.nil _ _) an0_good).mono ?_); rintro e w5 ⟨rfl, hb5⟩; haveI : Stp _ w5 := ⟨hb5⟩; clear hb5)
    | (go_at_call 31; (with_reducible refine (spoil_nil _).mono ?_); rintro e w6 ⟨rfl, hb6⟩; haveI : Stp _ w6 := ⟨hb6⟩; clear hb6)
  refine bodyPost_ret (v := .bool true) (by simp [results, Tryz.results9, go_sem]) rfl ?_
  exact ⟨C, rfl, H.out.t.below blw, .of (.of blw)⟩
end
end Go.Proofs.YtniogmefbjfoaaaGreat

namespace Go.Proofs.YtniogmefbjfoaaaGreat
set_option linter.unusedSimpArgs false
set_option linter.unusedVariables false
set_option linter.unusedSectionVars false
open Go.RowKit Go.Maps

/-- behind both calls: what they answered, v and v2, says the same; what is new lies from N on -/
structure FinT (w : World) (E C : List Nat) (N x y b c : Nat) (m1 : En) (a : An) (v v2 : Value) (W : World) : Prop where
  h : ∃ C1 D Wb, Md Wb E C1 D x y b c m1 m1 a v W ∧ N ≤ Wb.heap.size ∧ ∀ i ∈ C1, i ∈ C ∨ N ≤ i
  a2 : AnsM N W v2 a
  g : Gr (b :: C) w W
  z : w.heap.size + 2 < N
  hE : b ∈ E ∧ w.heap.size + 1 ∈ E ∧ w.heap.size + 2 ∈ E
  hl : ∀ i ∈ b :: C, i < w.heap.size
section
variable {w W W' : World} {E C : List Nat} {N x y b c : Nat} {m1 : En} {a : An} {v v2 : Value}
theorem FinT.below (h : FinT w E C N x y b c m1 a v v2 W) (hb : Below W.heap.size W W') : FinT w E C N x y b c m1 a v v2 W' := by
  obtain ⟨⟨C1, D, Wb, h1, h2, h3⟩, a2, g, hz, hE, hl⟩ := h
  exact ⟨⟨C1, D, Wb, h1.below hb, h2, h3⟩, a2.gr (C := []) (.of hb) (by simp), g.trans (.of hb), hz, hE, hl⟩
/-- blocks of the frame are written -/
theorem FinT.wrF (h : FinT w E C N x y b c m1 a v v2 W) {F : List Nat} (g2 : Gr F W W') (hF : ∀ i ∈ F, i ∈ E ∧ w.heap.size ≤ i ∧ i < N) : FinT w E C N x y b c m1 a v v2 W' := by
  obtain ⟨⟨C1, D, Wb, h1, h2, h3⟩, a2, g, hz, hE, hl⟩ := h
  have hb := hl b (List.mem_cons_self ..)
  refine ⟨⟨C1, D, Wb, h1.wr g2 (fun i hi => (hF i hi).1) (fun i hi hm => ?_) (fun i hi => ?_) (fun hm => ?_), h2, h3⟩, a2.gr g2 (fun i hi => (hF i hi).2.2), gr_fin16 g g2 (fun i hi => .inr (hF i hi).2.1), hz, hE, hl⟩
  · have h5 := hF i hm
    rcases h3 i hi with h4 | h4
    · have := hl i (List.mem_cons_of_mem _ h4); omega
    · omega
  · have h5 := hF i hi; omega
  · have h5 := hF b hm; omega
/-- the results' boxes are written -/
theorem FinT.wr (h : FinT w E C N x y b c m1 a v v2 W) (g2 : Gr [w.heap.size + 1, w.heap.size + 1 + 1] W W') : FinT w E C N x y b c m1 a v v2 W' := h.wrF g2 (fun i hi => by
  have hz := h.z
  have hi' : i = w.heap.size + 1 ∨ i = w.heap.size + 2 := by simpa using hi
  rcases hi' with rfl | rfl
  · exact ⟨h.hE.2.1, by omega, by omega⟩
  · exact ⟨h.hE.2.2, by omega, by omega⟩)
theorem FinT.same (h : FinT w E C N x y b c m1 a v v2 W) (hg : a.good) : Calls Tryz.prog 30 #[v, v2] W (RetB W true) := by
  obtain ⟨⟨C1, D, Wb, h1, h2, h3⟩, a2, g, hz, hE, hl⟩ := h
  exact same16_s W _ _ v v2 a h1.a.m a2 hg
theorem FinT.spoil (h : FinT w E C N x y b c m1 a v v2 W) (hg : a.good) : Calls Tryz.prog 31 #[v] W fun e W' => e = .returned (.tuple #[]) ∧ ∃ C1, Two W' (b :: C1) C1 x y b c m1 m1 ∧ Tr (b :: C) (b :: C1) w W' := by
  obtain ⟨⟨C1, D, Wb, h1, h2, h3⟩, a2, g, hz, hE, hl⟩ := h
  have hb := hl b (List.mem_cons_self ..)
  have hD : ∀ i ∈ D, w.heap.size ≤ i := fun i hi => by have := (h1.d i hi).1; omega
  refine (h1.spoil (by omega) hg.small).mono ?_
  rintro e W' ⟨rfl, ht, hg'⟩
  obtain ⟨f1, f2⟩ := stp_fin (C := C) ht hE.1 (gr_fin16 g hg' (fun i hi => .inr (hD i hi))) (fun i hi => by
    rcases h3 i hi with h4 | h4
    · exact .inl h4
    · exact .inr (by omega))
  exact ⟨rfl, C1, f1, f2⟩
def St1 (w : World) (E C : List Nat) (x y b c : Nat) (m1 m : En) (a : An) (v : Value) (W : World) : Prop := ∃ C1 D1 Wb, Md Wb E C1 D1 x y b c m1 m a v W ∧ Tr C C1 Wb W ∧ w.heap.size + 2 < Wb.heap.size ∧ Gr (b :: C) w W
def St2 (w : World) (E C : List Nat) (x y b c : Nat) (m m1 : En) (a : An) (v : Value) (W : World) : Prop := Two W E C x y b c m m1 ∧ ∃ X0, w.heap.size + 2 < X0 ∧ X0 ≤ W.heap.size ∧ AnsM X0 W v a ∧ Gr (b :: C) w W
/-- the program's end first -/
theorem FinT.of {Wb X : World} {C1 D : List Nat} {m : En} (h : Md Wb E C1 D x y b c m1 m a v X) (ht : Tr C C1 Wb X) (hz : w.heap.size + 2 < Wb.heap.size) (hr : RfM W (D ++ (C1 ++ E)) y b c m1) (g : Gr [b] X W) (ha : AnsM X.heap.size W v2 a) (hg : Gr (b :: C) w X) (hE : b ∈ E ∧ w.heap.size + 1 ∈ E ∧ w.heap.size + 2 ∈ E) (hl : ∀ i ∈ b :: C, i < w.heap.size) : FinT w E C Wb.heap.size x y b c m1 a v v2 W :=
  ⟨⟨C1, D, Wb, h.ref (by have := hl b (List.mem_cons_self ..); omega) hr g, Nat.le_refl _, ht.n⟩, ha.lo ht.g.size, hg.trans (g.mono' (fun i hi => by rw [List.mem_singleton] at hi; subst hi; exact List.mem_cons_self ..)), hz, hE, hl⟩
/-- the document's end first -/
theorem FinT.fo {X : World} {C1 D : List Nat} {X0 : Nat} (h : Md X E C1 D x y b c m1 m1 a v W) (ht : Tr C C1 X W) (hz : w.heap.size + 2 < X0) (hz2 : X0 ≤ X.heap.size) (ha : AnsM X0 X v2 a) (hg : Gr (b :: C) w X) (hE : b ∈ E ∧ w.heap.size + 1 ∈ E ∧ w.heap.size + 2 ∈ E) (hl : ∀ i ∈ b :: C, i < w.heap.size) : FinT w E C X0 x y b c m1 a v v2 W :=
  ⟨⟨C1, D, X, h, hz2, fun i hi => by
    rcases ht.n i hi with h4 | h4
    · exact .inl h4
    · exact .inr (by omega)⟩, ha.gr ht.g (fun i hi => by have := hl i (List.mem_cons_of_mem _ hi); omega), hg.trans (ht.g.mono' (fun i hi => List.mem_cons_of_mem _ hi)), hz, hE, hl⟩
theorem Md.trE {Wb : World} {C1 D : List Nat} {m : En} (h : Md Wb E C1 D x y b c m1 m a v W) (ht : Tr C C1 Wb W) (hC : ∀ i ∈ C, i ∈ E) : Tr E (D ++ (C1 ++ E)) Wb W := ⟨ht.g.mono' hC, fun i hi => by
  rcases List.mem_append.1 hi with h1 | h1
  · exact .inr (h.d i h1).1
  rcases List.mem_append.1 h1 with h1 | h1
  · rcases ht.n i h1 with h2 | h2
    · exact .inl (hC i h2)
    · exact .inr h2
  · exact .inl h1⟩
end
section
variable {C : List Nat} {x y b c : Nat} {m : En}
set_option maxRecDepth 100000 in
set_option maxHeartbeats 8000000 in
theorem step_3 (w : World) (d now : Int) (NA : Option Addr) (nc : Nat) (ns : List Int) (BA : Option Addr) (bc : Nat) (bd : List Int) (k n i hp : Int) (hs : List Hd) (bs : List Int) (an ai sq : Int) (ps : List Pr) (HA : Option Addr) (hc : Nat) (QA : Option Addr) (qc : Nat) (PA : Option Addr) (pc : Nat) (h : StpIn w C x y b c m ⟨d, now, NA, nc, ns, BA, bc, bd, ⟨k, n, i, hp, hs, bs, an, ai, sq, ps⟩, HA, hc, QA, qc, PA, pc⟩) (hd : d = 3) :
    Calls Tryz.prog 9 #[.pointer (some ⟨x, 0, none⟩), .pointer (some ⟨y, 0, none⟩), .agg #[.int .i64 d, .int .u64 now, .slice NA ns.length nc, .slice BA bd.length bc, .int .i64 k, .int .i64 n, .int .u64 i, .int .i64 hp, .slice HA hs.length hc, .slice QA bs.length qc, .int .i64 an, .int .u64 ai, .int .u64 sq, .slice PA ps.length pc]] w (RetStp w C x y b c (m.tick now).1) := by
  subst hd
  have H := hide h
  have hcb := h.cb
  have HCB := hide hcb
  have hb := hcb b (List.mem_cons_self ..)
  have HC : Hid (∀ j ∈ C, j < w.heap.size) := hide (fun j hj => hcb j (List.mem_cons_of_mem _ hj))
  have now0 : 0 ≤ now := h.now0
  have now1 : now ≤ 18446744073709551615 := h.now1
  have HGD := hide (tick_good h.g now).2
  obtain ⟨E, hEe⟩ : ∃ E, E = (w.heap.size + 1) :: (w.heap.size + 2) :: b :: C := ⟨_, rfl⟩
  have HEE : Hid (b ∈ E ∧ w.heap.size + 1 ∈ E ∧ w.heap.size + 2 ∈ E) := hide (by rw [hEe]; simp)
  have T0 : Hid (∀ W, Below w.heap.size w W → w.heap.size + 2 < W.heap.size → Two W E C x y b c m m) := hide (fun W hW hz => by
    rw [hEe]
    exact H.out.t.more hW (fun i hi => by
      rcases List.mem_cons.1 hi with rfl | hi
      · exact .inr (by omega)
      rcases List.mem_cons.1 hi with rfl | hi
      · exact .inr (by omega)
      · exact .inl hi) (fun i hi => List.mem_cons_of_mem _ (List.mem_cons_of_mem _ hi)) (fun i hi => by
      rcases List.mem_cons.1 hi with rfl | hi
      · omega
      rcases List.mem_cons.1 hi with rfl | hi
      · omega
      · have := HCB.out i hi; omega))
  have TX : Hid (∀ W, Below w.heap.size w W → w.heap.size + 2 < W.heap.size → Calls Tryz.prog 14 #[.pointer (some ⟨x, 0, none⟩), .int .u64 now] W fun e w4 => ∃ A41 c41 A42 c42 A43 c43, e = .returned (.agg #[.slice A41 (m.tick now).2.ps.length c41, .slice A42 (m.tick now).2.bs.length c42, .slice A43 (m.tick now).2.fl.length c43]) ∧ GrB w.heap.size W w4 ∧ St1 w E C x y b c (m.tick now).1 m (m.tick now).2 (.agg #[.slice A41 (m.tick now).2.ps.length c41, .slice A42 (m.tick now).2.bs.length c42, .slice A43 (m.tick now).2.fl.length c43]) w4) := hide (fun W hW hz => by
    refine (md_tick (T0.out W hW hz) now now0 now1).mono ?_
    rintro e w4 ⟨v, rfl, C1, D1, hm4, ht4⟩
    obtain ⟨A41, c41, A42, c42, A43, c43, rfl⟩ := hm4.a.m.form
    exact ⟨A41, c41, A42, c42, A43, c43, rfl, GrB.of ht4.g HC.out, C1, D1, W, hm4, ht4, hz, (Gr.of hW).trans (ht4.g.mono' (fun j hj => List.mem_cons_of_mem _ hj))⟩)
  have TR2 : Hid (∀ W v w4, St1 w E C x y b c (m.tick now).1 m (m.tick now).2 v w4 → Below w4.heap.size w4 W → Calls Tryz.prog 29 #[.pointer (some ⟨y, 0, none⟩), .int .u64 now] W fun e w5 => ∃ A51 c51 A52 c52 A53 c53, e = .returned (.agg #[.slice A51 (m.tick now).2.ps.length c51, .slice A52 (m.tick now).2.bs.length c52, .slice A53 (m.tick now).2.fl.length c53]) ∧ GrB w.heap.size W w5 ∧ ∃ N, FinT w E C N x y b c (m.tick now).1 (m.tick now).2 v (.agg #[.slice A51 (m.tick now).2.ps.length c51, .slice A52 (m.tick now).2.bs.length c52, .slice A53 (m.tick now).2.fl.length c53]) w5) := hide (fun W v w4 hs hW => by
    obtain ⟨C1, D1, Wb, hm4, ht4, hz, hg⟩ := hs
    refine (tick16r_s W (hm4.below hW).t.r now now0 now1).mono ?_
    rintro e w5 ⟨v5, rfl, ha5, hr5, hg5⟩
    obtain ⟨A51, c51, A52, c52, A53, c53, rfl⟩ := ha5.form
    exact ⟨A51, c51, A52, c52, A53, c53, rfl, GrB.of hg5 (by intro j hj; rw [List.mem_singleton] at hj; omega), _, FinT.of (hm4.below hW) (ht4.trans (.bel hW)) hz hr5 hg5 ha5 (hg.trans (.of hW)) HEE.out HCB.out⟩)
  have TR : Hid (∀ W, Below w.heap.size w W → w.heap.size + 2 < W.heap.size → Calls Tryz.prog 29 #[.pointer (some ⟨y, 0, none⟩), .int .u64 now] W fun e w5 => ∃ A51 c51 A52 c52 A53 c53, e = .returned (.agg #[.slice A51 (m.tick now).2.ps.length c51, .slice A52 (m.tick now).2.bs.length c52, .slice A53 (m.tick now).2.fl.length c53]) ∧ GrB w.heap.size W w5 ∧ St2 w E C x y b c m (m.tick now).1 (m.tick now).2 (.agg #[.slice A51 (m.tick now).2.ps.length c51, .slice A52 (m.tick now).2.bs.length c52, .slice A53 (m.tick now).2.fl.length c53]) w5) := hide (fun W hW hz => by
    refine (tick16r_s W (T0.out W hW hz).r now now0 now1).mono ?_
    rintro e w5 ⟨v5, rfl, ha5, hr5, hg5⟩
    obtain ⟨A51, c51, A52, c52, A53, c53, rfl⟩ := ha5.form
    exact ⟨A51, c51, A52, c52, A53, c53, rfl, GrB.of hg5 (by intro j hj; rw [List.mem_singleton] at hj; omega), (T0.out W hW hz).ref hr5 hg5, W.heap.size, hz, hg5.size, ha5, (Gr.of hW).trans (hg5.mono' (fun j hj => by rw [List.mem_singleton] at hj; subst hj; exact List.mem_cons_self ..))⟩)
  have TX2 : Hid (∀ W v w5, St2 w E C x y b c m (m.tick now).1 (m.tick now).2 v w5 → Below w5.heap.size w5 W → Calls Tryz.prog 14 #[.pointer (some ⟨x, 0, none⟩), .int .u64 now] W fun e w4 => ∃ A41 c41 A42 c42 A43 c43, e = .returned (.agg #[.slice A41 (m.tick now).2.ps.length c41, .slice A42 (m.tick now).2.bs.length c42, .slice A43 (m.tick now).2.fl.length c43]) ∧ GrB w.heap.size W w4 ∧ ∃ N, FinT w E C N x y b c (m.tick now).1 (m.tick now).2 (.agg #[.slice A41 (m.tick now).2.ps.length c41, .slice A42 (m.tick now).2.bs.length c42, .slice A43 (m.tick now).2.fl.length c43]) v w4) := hide (fun W v w5 hs hW => by
    obtain ⟨ht5, X0, hz, hz2, ha5, hg⟩ := hs
    refine (md_tick (ht5.below hW) now now0 now1).mono ?_
    rintro e w4 ⟨v4, rfl, C1, D1, hm4, ht4⟩
    obtain ⟨A41, c41, A42, c42, A43, c43, rfl⟩ := hm4.a.m.form
    exact ⟨A41, c41, A42, c42, A43, c43, rfl, GrB.of ht4.g HC.out, _, FinT.fo hm4 ht4 hz (Nat.le_trans hz2 hW.size) (ha5.gr (C := []) (.of hW) (by simp)) (hg.trans (.of hW)) HEE.out HCB.out⟩)
  clear h hcb hEe
  go_enter Tryz.func9, Tryz.ntmps9
  go_upto_region 36 with fail
  go_region_held3 (fun w' => w'.cell? ⟨w.heap.size, 1, none⟩ = some (.int .u64 now)) ((rw [cell?_box]; rfl)) (first
    | (go_at_call 14; (with_reducible refine (TX.out _ (by exact blw) (by exact BoxAt.lt (n := w.heap.size + 1 + 1) inferInstance)).mono ?_); rintro e w4 ⟨A41, c41, A42, c42, A43, c43, rfl, hG4, hm4⟩; haveI := hG4; have HM4 := hide hm4; clear hm4 hG4)
    | (go_at_call 29; (with_reducible refine (TR2.out _ _ _ HM4.out (by exact blw)).mono ?_); rintro e w5 ⟨A51, c51, A52, c52, A53, c53, rfl, hG5, N5, hf5⟩; haveI := hG5; have HF := hide hf5; clear hf5 hG5)
    | (go_at_call 29; (with_reducible refine (TR.out _ (by exact blw) (by exact BoxAt.lt (n := w.heap.size + 1 + 1) inferInstance)).mono ?_); rintro e w5 ⟨A51, c51, A52, c52, A53, c53, rfl, hG5, hm5⟩; haveI := hG5; have HM5 := hide hm5; clear hm5 hG5)
    | (go_at_call 14; (with_reducible refine (TX2.out _ _ _ HM5.out (by exact blw)).mono ?_); rintro e w4 ⟨A41, c41, A42, c42, A43, c43, rfl, hG4, N5, hf4⟩; haveI := hG4; have HF := hide hf4; clear hf4 hG4)
    | fail)
  all_goals
    go_wp2_with first
      | (go_at_call 30; (with_reducible refine ((HF.out.wr (Trc.h (C := [w.heap.size + 1, w.heap.size + 1 + 1])).g).same HGD.out).mono ?_); rintro e w5 ⟨rfl, hb5⟩; haveI : Stp _ w5 := ⟨hb5⟩; clear hb5)
      | (go_at_call 31; (with_reducible refine ((HF.out.wr (Trc.h (C := [w.heap.size + 1, w.heap.size + 1 + 1])).g).spoil HGD.out).mono ?_); rintro e w6 ⟨rfl, C6, ht6, hr6⟩; have T6 := hide ht6; have R6 := hide hr6; clear ht6 hr6)
    refine bodyPost_ret (v := .bool true) (by simp [results, Tryz.results9, go_sem]) rfl ?_
    exact ⟨C6, rfl, T6.out.below blw, R6.out.trans (.bel blw)⟩
end
end Go.Proofs.YtniogmefbjfoaaaGreat

namespace Go.Proofs.YtniogmefbjfoaaaGreat
set_option linter.unusedSimpArgs false
set_option linter.unusedVariables false
set_option linter.unusedSectionVars false
open Go.RowKit Go.Maps

/-- a row of one's own that is as it was -/
theorem own_far {X W : World} {base k n c U : Nat} {e : TypeId} {A : Option Addr} {xs : List Value} {C : List Nat} (h : X.ownsRow base e k (.slice A n c) n xs) (g : Gr C X W) (hU : X.heap.size ≤ U) (hC : ∀ i ∈ C, i < base ∨ U ≤ i) : W.ownsRow base e k (.slice A n c) n xs := own_same h (fun i hi => g.blk i (h.lt i hi).2 (fun hm => by
  have h1 := h.lt i hi
  rcases hC i hm with h2 | h2 <;> omega))
theorem BdO.own {W : World} {base c : Nat} {A : Option Addr} {l : List Int} {e : TypeId} (h : W.ownsRow base e 1 (.slice A l.length c) l.length (bcs l)) : BdO W A l.length := fun j hj => by
  obtain ⟨b, off, p, hA, hb, _, g⟩ := Reads.atB (Reads.of_own h) hj
  exact ⟨b, off, p, hA, hb, (own_bound h _ hA).2.h, g⟩
theorem tr_rg {w W : World} {E : List Nat} (hb : Below w.heap.size w W) : Tr E (rgB w.heap.size W ++ E) w W := ⟨.of hb, fun i hi => by
  rcases List.mem_append.1 hi with h1 | h1
  · exact .inr (mem_rgB.1 h1).1
  · exact .inl h1⟩
section
variable {C : List Nat} {x y b c : Nat} {m : En}
set_option maxRecDepth 100000 in
set_option maxHeartbeats 16000000 in
theorem step_1 (w : World) (d now : Int) (NA : Option Addr) (nc : Nat) (ns : List Int) (BA : Option Addr) (bc : Nat) (bd : List Int) (k n i hp : Int) (hs : List Hd) (bs : List Int) (an ai sq : Int) (ps : List Pr) (HA : Option Addr) (hc : Nat) (QA : Option Addr) (qc : Nat) (PA : Option Addr) (pc : Nat) (h : StpIn w C x y b c m ⟨d, now, NA, nc, ns, BA, bc, bd, ⟨k, n, i, hp, hs, bs, an, ai, sq, ps⟩, HA, hc, QA, qc, PA, pc⟩) (hd : d = 1) :
    Calls Tryz.prog 9 #[.pointer (some ⟨x, 0, none⟩), .pointer (some ⟨y, 0, none⟩), .agg #[.int .i64 d, .int .u64 now, .slice NA ns.length nc, .slice BA bd.length bc, .int .i64 k, .int .i64 n, .int .u64 i, .int .i64 hp, .slice HA hs.length hc, .slice QA bs.length qc, .int .i64 an, .int .u64 ai, .int .u64 sq, .slice PA ps.length pc]] w (RetStp w C x y b c (m.send now bd ns).1) := by
  subst hd
  have H := hide h
  have hcb := h.cb
  have HCB := hide hcb
  have hb := hcb b (List.mem_cons_self ..)
  have HC : Hid (∀ j ∈ C, j < w.heap.size) := hide (fun j hj => hcb j (List.mem_cons_of_mem _ hj))
  have now0 : 0 ≤ now := h.now0
  have now1 : now ≤ 18446744073709551615 := h.now1
  have hl1 : ns.length ≤ 4000 := h.l1
  have hl4 : bd.length ≤ 600000 := h.l4
  have hwn : ∀ n ∈ ns, wfI n := h.wn
  have HGD := hide (send_good h.g now bd ns h.wb).2
  haveI : Src w NA ns.length 1 (ics ns) := ⟨h.n.1⟩
  haveI : Src w BA bd.length 1 (bcs bd) := ⟨h.bb.1⟩
  have HWN := hide hwn
  clear h hcb hwn
  go_enter Tryz.func9, Tryz.ntmps9
  go_upto_region 14 with first
    | (at_builtin; refine wpList_append_w Tryz.okB rfl (.tmp 38) (.tmp 40) rfl (w.heap.size + 1 + 1 + 1) (.slice (some ⟨w.heap.size + 1 + 1 + 1, 0, none⟩) 0 0) 0 [] bd.length (bcs bd) ?_ ?_ ?_ ?_ ?_ ?_ ?_ ?_; go_must ((focus (first | rfl | (simp [Act.eval, Act.put]; done))); (focus (exact own_emB _ (w.heap.size + 1 + 1 + 1) (by simp))); (focus (refine ⟨_, _, rfl, ?_⟩; exact src)); (focus (exact bcs_one _)); (focus (unfold maxLen; omega)); (focus omega); (focus (first | omega | (simp; done) | (simp; omega) | exact blw.size | exact BoxAt.lt (n := w.heap.size) inferInstance)); intro v1 w1 ho1 hg1; rw [Nat.zero_add, List.nil_append] at ho1; haveI : StpB (w.heap.size + 1 + 1 + 1) _ w1 := ⟨grown_belowB hg1 (by simp) (fun k hk => by have e : w.heap.size + 1 + 1 + 1 = k := Option.some.inj hk; omega)⟩; obtain ⟨A1, c1, rfl, _, _⟩ := own_slice ho1; have O1 := hide ho1; have z1 : w.heap.size + 1 + 1 < w1.heap.size := BoxAt.lt (n := w.heap.size + 1 + 1) inferInstance; haveI : LtN (w.heap.size + 1 + 1) w1.heap.size := ⟨z1⟩; haveI : LtN (w.heap.size + 1) w1.heap.size := ⟨by omega⟩; haveI : LtN w.heap.size w1.heap.size := ⟨by omega⟩; haveI : LeN w.heap.size w1.heap.size := ⟨by omega⟩; clear ho1 hg1))
    | (at_builtin; refine wpList_append_w Tryz.okI rfl (.tmp 42) (.tmp 44) rfl w1.heap.size (.slice (some ⟨w1.heap.size, 0, none⟩) 0 0) 0 [] ns.length (ics ns) ?_ ?_ ?_ ?_ ?_ ?_ ?_ ?_; go_must ((focus (first | rfl | (simp [Act.eval, Act.put]; done))); (focus (exact own_emI _ w1.heap.size (by simp [World.setCell]))); (focus (refine ⟨_, _, rfl, ?_⟩; exact src)); (focus (exact ics_one _)); (focus (unfold maxLen; omega)); (focus omega); (focus (first | omega | (simp; done) | (simp; omega) | exact blw.size | exact BoxAt.lt (n := w.heap.size) inferInstance)); intro v2 w2 ho2 hg2; rw [Nat.zero_add, List.nil_append] at ho2; haveI : StpB w1.heap.size _ w2 := ⟨grown_belowB hg2 (by simp [World.setCell]) (fun k hk => by have e : w1.heap.size = k := Option.some.inj hk; omega)⟩; obtain ⟨A2, c2, rfl, _, _⟩ := own_slice ho2; have O2 := hide ho2; have y2 := hg2.size; have z2 : w1.heap.size ≤ w2.heap.size := (by simp [World.setCell] at y2; omega); haveI : LeN w1.heap.size w2.heap.size := ⟨z2⟩; clear ho2 hg2 y2; have HB2 : Hid (Below w.heap.size w w2) := hide blw; have O1b := hide (show w2.ownsRow (w.heap.size + 1 + 1 + 1) 5 1 (.slice A1 bd.length c1) bd.length (bcs bd) from own_kp O1.out)))
    | (go_at_call 12; (with_reducible refine (md_send (H.out.t.to HB2.out) now now0 now1 A1 c1 bd (RO.own O1b.out (fun j hj => by have := HC.out j hj; omega)) (by omega) A2 c2 ns (RO.own O2.out (fun j hj => by have := HC.out j hj; omega)) (by omega) HWN.out).mono ?_); rintro e w4 ⟨v4, rfl, C1, D1, hm4, ht4⟩; obtain ⟨A41, c41, A42, c42, A43, c43, rfl⟩ := hm4.a.m.form; haveI : GrB w.heap.size _ w4 := GrB.of ht4.g HC.out; have HM4 := hide hm4; have HT4 := hide ht4; have z4 : w2.heap.size ≤ w4.heap.size := ht4.g.size; haveI : LeN w.heap.size w4.heap.size := ⟨by omega⟩; have TR4 := hide ((tr_rg (E := b :: C) HB2.out).trans (hm4.trE ht4 (fun j hj => List.mem_append_right _ (List.mem_cons_of_mem _ hj)))); clear hm4 ht4)
    | (go_at_call 23; go_loud ((with_reducible refine (send16r_s _ (HM4.out.below (by exact blw)).t.r now now0 now1 BA bc bd ?_ (by omega) NA nc ns ?_ (by omega)).mono ?_); (focus (exact H.out.bb.tr (TR4.out.trans (.bel (by exact blw))))); (focus (exact H.out.n.tr (TR4.out.trans (.bel (by exact blw))))); rintro e w5 ⟨v5, rfl, ha5, hr5, hg5⟩; obtain ⟨A51, c51, A52, c52, A53, c53, rfl⟩ := ha5.form; haveI : GrB w.heap.size _ w5 := GrB.of hg5 (by intro j hj; rw [List.mem_singleton] at hj; omega); have G45 : Hid (Gr (b :: C) w4 w5) := hide ((Gr.of (by exact blw)).trans (hg5.mono' (fun j hj => by rw [List.mem_singleton] at hj; subst hj; exact List.mem_cons_self ..))); have HF := hide (FinT.of (w := w) (HM4.out.below (by exact blw)) (HT4.out.trans (.bel (by exact blw))) (by omega) hr5 hg5 ha5 (((Gr.of HB2.out).trans (HT4.out.g.mono' (fun j hj => List.mem_cons_of_mem _ hj))).trans (.of (by exact blw))) ⟨List.mem_append_right _ (List.mem_cons_self ..), List.mem_append_left _ (mem_rgB.2 ⟨by omega, by omega⟩), List.mem_append_left _ (mem_rgB.2 ⟨by omega, by omega⟩)⟩ HCB.out); have z5 : w4.heap.size < w5.heap.size := BoxAt.lt (w := w5) (n := w4.heap.size) inferInstance; haveI : LeN w.heap.size w5.heap.size := ⟨by omega⟩; have GA : Hid (Gr (b :: C) w w5) := hide HF.out.g; have G25 : Hid (Gr (b :: C) w2 w5) := hide ((HT4.out.g.mono' (fun j hj => List.mem_cons_of_mem _ hj)).trans G45.out); have O5 := hide (own_far O1b.out G25.out (Nat.le_refl _) (fun j hj => by have := HCB.out j hj; omega)); have L5 := hide (Reads.of_own (own_far O2.out G25.out (Nat.le_refl _) (fun j hj => by have := HCB.out j hj; omega))); have N5 := hide (H.out.n.tr (.of GA.out)).1; haveI : RdY w5 A1 bd.length bd := ⟨Reads.of_own O5.out⟩; haveI : RdY w5 BA bd.length bd := ⟨(H.out.bb.tr (.of GA.out)).1⟩; clear ha5 hr5 hg5))
  have hin1 : ∀ j ∈ ownL (.slice A1 bd.length c1), w.heap.size + 1 + 1 + 1 ≤ j ∧ j < w1.heap.size := fun j hj => by
    have := O1.out.lt j (mem_ownL.1 hj)
    exact this
  have HIN1 := hide hin1
  clear hin1
  go_wp2_with fail
  go_loopw [16] (fun v wr => ∃ j : Nat, j ≤ ns.length ∧ v = .int .i64 j ∧ Below w5.heap.size w5 wr ∧ BoxAt wr w.heap.size #[.int .i64 1, .int .u64 now, .slice NA ns.length nc, .slice BA bd.length bc, .int .i64 k, .int .i64 n, .int .u64 i, .int .i64 hp, .slice HA hs.length hc, .slice QA bs.length qc, .int .i64 an, .int .u64 ai, .int .u64 sq, .slice PA ps.length pc] 45 ∧ BoxAt wr (w.heap.size + 1) #[.slice none 0 0, .slice none 0 0, .slice none 0 0] 52 ∧ BoxAt wr (w.heap.size + 1 + 1) #[.slice none 0 0, .slice none 0 0, .slice none 0 0] 52 ∧ BoxAt wr w4.heap.size #[.slice A41 (m.send now bd ns).2.1.ps.length c41, .slice A42 (m.send now bd ns).2.1.bs.length c42, .slice A43 (m.send now bd ns).2.1.fl.length c43] 52 ∧ BoxAt wr w5.heap.size #[.slice A51 (m.send now bd ns).2.1.ps.length c51, .slice A52 (m.send now bd ns).2.1.bs.length c52, .slice A53 (m.send now bd ns).2.1.fl.length c53] 52) (fun v _ => ns.length - (intOf v).toNat)
  case atStart => exact ⟨0, Nat.zero_le _, rfl, blw, inferInstance, inferInstance, inferInstance, inferInstance, inferInstance⟩
  case round =>
    obtain ⟨j, hj, rfl, hB, hx1, hx2, hx3, hx4, hx5⟩ := hrel
    haveI : Blw w5 wr := ⟨hB⟩
    haveI := hx1
    haveI := hx2
    haveI := hx3
    haveI := hx4
    haveI := hx5
    have HB := hide hB
    clear hB
    by_cases hlt : j < ns.length
    · obtain ⟨q, off, z, hA, hq, hz, g1⟩ := Reads.atI (L5.out.stp16 HB.out) hlt
      obtain ⟨q', off', z', hA', hq', hz', g1'⟩ := Reads.atI (N5.out.stp16 HB.out) hlt
      obtain rfl : z = z' := by rw [hz] at hz'; injection hz'
      haveI : CellAt wr q (off + j) (.int .i64 z) := ⟨hq, g1⟩
      haveI : CellAt wr q' (off' + j) (.int .i64 z) := ⟨hq', g1'⟩
      have i0 : (0 : Int) ≤ (j : Int) := by omega
      have i1 : (j : Int) < (ns.length : Int) := by omega
      clear g1 g1' hz hz' hq hq'
      subst hA hA'
      go_upto_region 17 with fail
      go_quiet (fail)
      go_wp2_with fail
      go_roundw
      case rel => exact ⟨j + 1, by omega, by go_num, blw, inferInstance, inferInstance, inferInstance, inferInstance, inferInstance⟩
      case measure => simp [intOf]; omega
    · have hje : j = ns.length := by omega
      subst hje
      have FIN : Hid (∀ W, Gr (ownL (.slice A1 bd.length c1)) w5 W → FinT w (rgB w.heap.size w2 ++ b :: C) C w2.heap.size x y b c (m.send now bd ns).1 (m.send now bd ns).2.1 (.agg #[.slice A41 (m.send now bd ns).2.1.ps.length c41, .slice A42 (m.send now bd ns).2.1.bs.length c42, .slice A43 (m.send now bd ns).2.1.fl.length c43]) (.agg #[.slice A51 (m.send now bd ns).2.1.ps.length c51, .slice A52 (m.send now bd ns).2.1.bs.length c52, .slice A53 (m.send now bd ns).2.1.fl.length c53]) W) := hide (fun W hW => HF.out.wrF hW (fun j hj => by
        have h1 := HIN1.out j hj
        exact ⟨List.mem_append_left _ (mem_rgB.2 ⟨by omega, by omega⟩), by omega, by omega⟩))
      go_wp2_with fail
      go_loopw [17] (fun v wr => ∃ q : Nat, q ≤ bd.length ∧ v = .int .i64 q ∧ Kw w5 wr ∧ Gr (ownL (.slice A1 bd.length c1)) w5 wr ∧ BoxAt wr w.heap.size #[.int .i64 1, .int .u64 now, .slice NA ns.length nc, .slice BA bd.length bc, .int .i64 k, .int .i64 n, .int .u64 i, .int .i64 hp, .slice HA hs.length hc, .slice QA bs.length qc, .int .i64 an, .int .u64 ai, .int .u64 sq, .slice PA ps.length pc] 45 ∧ BoxAt wr (w.heap.size + 1) #[.slice none 0 0, .slice none 0 0, .slice none 0 0] 52 ∧ BoxAt wr (w.heap.size + 1 + 1) #[.slice none 0 0, .slice none 0 0, .slice none 0 0] 52 ∧ BoxAt wr w4.heap.size #[.slice A41 (m.send now bd ns).2.1.ps.length c41, .slice A42 (m.send now bd ns).2.1.bs.length c42, .slice A43 (m.send now bd ns).2.1.fl.length c43] 52 ∧ BoxAt wr w5.heap.size #[.slice A51 (m.send now bd ns).2.1.ps.length c51, .slice A52 (m.send now bd ns).2.1.bs.length c52, .slice A53 (m.send now bd ns).2.1.fl.length c53] 52) (fun v _ => bd.length - (intOf v).toNat)
      case atStart => exact ⟨0, Nat.zero_le _, rfl, .bel blw, .of blw, inferInstance, inferInstance, inferInstance, inferInstance, inferInstance⟩
      case round =>
        obtain ⟨q, hq, rfl, hK, hG, hx1, hx2, hx3, hx4, hx5⟩ := hrel
        haveI := hx1
        haveI := hx2
        haveI := hx3
        haveI := hx4
        haveI := hx5
        have HK := hide hK
        have HG := hide hG
        clear hK hG
        by_cases hlt2 : q < bd.length
        · obtain ⟨b2, off2, d2, hA2, hb2, hf2, h0⟩ := ((BdO.own O5.out).kw HK.out) q hlt2
          have hbm : b2 ∈ ownL (.slice A1 bd.length c1) := mem_ownL.2 (by rw [hA2]; rfl)
          have hbl := HIN1.out b2 hbm
          subst hA2
          haveI : CellAt wr b2 (off2 + q) (.int .u8 d2) := ⟨hb2, h0⟩
          haveI : FrzAt wr b2 := ⟨hb2, hf2⟩
          haveI : LtN (w.heap.size + 1 + 1) b2 := ⟨by omega⟩
          haveI : LtN (w.heap.size + 1) b2 := ⟨by omega⟩
          haveI : LtN w.heap.size b2 := ⟨by omega⟩
          haveI : LtN b2 w4.heap.size := ⟨by omega⟩
          haveI : LtN b2 w5.heap.size := ⟨by omega⟩
          have HbD := hide hbm
          have i0 : (0 : Int) ≤ (q : Int) := by omega
          have i1 : (q : Int) < (bd.length : Int) := by omega
          clear h0 hf2 hbm
          go_wp2_with fail
          go_roundw
          case rel =>
            refine ⟨q + 1, by omega, by go_num, HK.out.trans ?_, HG.out.trans ?_, inferInstance, inferInstance, inferInstance, inferInstance, inferInstance⟩
            · exact Kw.set (k := .u8) (a := d2) CellAt.h
            · exact Gr.set _ _ _ HbD.out
          case measure => simp [intOf]; omega
        · have hqe : q = bd.length := by omega
          subst hqe
          have HF2 := hide (FIN.out _ HG.out)
          haveI : LtN (w.heap.size + 1) w4.heap.size := ⟨by omega⟩
          haveI : LtN (w.heap.size + 1 + 1) w4.heap.size := ⟨by omega⟩
          haveI : LtN (w.heap.size + 1) w5.heap.size := ⟨by omega⟩
          haveI : LtN (w.heap.size + 1 + 1) w5.heap.size := ⟨by omega⟩
          go_upto_region 23 with fail
          go_region_held3 (fun w' => w'.cell? ⟨w4.heap.size, 0, none⟩ = some (.slice A41 (m.send now bd ns).2.1.ps.length c41) ∧ w'.cell? ⟨w4.heap.size, 1, none⟩ = some (.slice A42 (m.send now bd ns).2.1.bs.length c42) ∧ w'.cell? ⟨w4.heap.size, 2, none⟩ = some (.slice A43 (m.send now bd ns).2.1.fl.length c43) ∧ w'.cell? ⟨w5.heap.size, 0, none⟩ = some (.slice A51 (m.send now bd ns).2.1.ps.length c51) ∧ w'.cell? ⟨w5.heap.size, 1, none⟩ = some (.slice A52 (m.send now bd ns).2.1.bs.length c52) ∧ w'.cell? ⟨w5.heap.size, 2, none⟩ = some (.slice A53 (m.send now bd ns).2.1.fl.length c53)) ((refine ⟨?_, ?_, ?_, ?_, ?_, ?_⟩ <;> (rw [cell?_box]; rfl))) (first | fail)
          all_goals
            go_wp2_with first
              | (go_at_call 30; (with_reducible refine ((HF2.out.wr (Trc.h (C := [w.heap.size + 1, w.heap.size + 1 + 1])).g).same HGD.out).mono ?_); rintro e w7 ⟨rfl, hb7⟩; haveI : Stp _ w7 := ⟨hb7⟩; clear hb7)
              | (go_at_call 31; (with_reducible refine ((HF2.out.wr (Trc.h (C := [w.heap.size + 1, w.heap.size + 1 + 1])).g).spoil HGD.out).mono ?_); rintro e w8 ⟨rfl, C6, ht6, hr6⟩; have T6 := hide ht6; have R6 := hide hr6; clear ht6 hr6)
            refine bodyPost_ret (v := .bool true) (by simp [results, Tryz.results9, go_sem]) rfl ?_
            exact ⟨C6, rfl, T6.out.below blw, R6.out.trans (.bel blw)⟩
end
end Go.Proofs.YtniogmefbjfoaaaGreat

namespace Go.Proofs.YtniogmefbjfoaaaGreat
set_option linter.unusedSimpArgs false
set_option linter.unusedVariables false
set_option linter.unusedSectionVars false
open Go.RowKit Go.Maps

/-- a packet of one's own, twice; what lies in E somebody writes -/
structure St0 (w : World) (C E : List Nat) (x y b c : Nat) (m : En) (P : Pk) (HA1 QA1 PA1 HA2 QA2 PA2 : Option Addr) (U1 B2 : Nat) (W : World) : Prop where
  t : Two W E C x y b c m m
  hE : b ∈ E ∧ w.heap.size + 1 ∈ E ∧ w.heap.size + 2 ∈ E
  eU : ∀ i, w.heap.size + 3 ≤ i → i < U1 → i ∈ E
  eB : ∀ i ∈ E, i < B2
  p1 : OwnU W (w.heap.size + 3) U1 P HA1 QA1 PA1
  p2 : ∃ U2, U2 ≤ W.heap.size ∧ OwnU W B2 U2 P HA2 QA2 PA2
  g : Gr (b :: C) w W
  u : w.heap.size + 3 ≤ U1 ∧ U1 ≤ B2 ∧ B2 ≤ W.heap.size
  hl : ∀ i ∈ b :: C, i < w.heap.size
section
variable {w W : World} {C E : List Nat} {x y b c : Nat} {m : En} {P : Pk} {HA1 QA1 PA1 HA2 QA2 PA2 : Option Addr} {U1 B2 : Nat}
theorem own_st0 (h : Two w (b :: C) C x y b c m m) (hl : ∀ i ∈ b :: C, i < w.heap.size) (hW : Below w.heap.size w W) (hp : OwnU W (w.heap.size + 1 + 1 + 1) U1 P HA1 QA1 PA1) (hU : w.heap.size + 3 ≤ U1) (hz : U1 < W.heap.size) {hc1 qc1 pc1 : Nat} : Calls Tryz.prog 24 #[P.at HA1 hc1 QA1 qc1 PA1 pc1] W fun e w3 => ∃ HA2 hc2 QA2 qc2 PA2 pc2 E B2, e = .returned (P.at HA2 hc2 QA2 qc2 PA2 pc2) ∧ St0 w C E x y b c m P HA1 QA1 PA1 HA2 QA2 PA2 U1 B2 w3 ∧ Below W.heap.size W w3 := by
  refine (rown2_s P HA1 hc1 QA1 qc1 PA1 pc1 W hp.o.i).mono ?_
  rintro e w3 ⟨HA2, hc2, QA2, qc2, PA2, pc2, rfl, ho, hb⟩
  have ht := (h.to hW).below hb
  have hbs := hb.size
  refine ⟨HA2, hc2, QA2, qc2, PA2, pc2, _, W.heap.size, rfl, ⟨ht, ⟨by simp, List.mem_append_left _ (mem_rgB.2 ⟨by omega, by omega⟩), List.mem_append_left _ (mem_rgB.2 ⟨by omega, by omega⟩)⟩, fun i h1 h2 => List.mem_append_left _ (mem_rgB.2 ⟨by omega, by omega⟩), fun i hi => ?_, hp.below hb, ⟨_, Nat.le_refl _, ho.u⟩, (Gr.of hW).trans (.of hb), ⟨hU, by omega, hbs⟩, hl⟩, hb⟩
  rcases List.mem_append.1 hi with h1 | h1
  · exact (mem_rgB.1 h1).2
  · have := hl i h1; omega
theorem St0.below {W' : World} (h : St0 w C E x y b c m P HA1 QA1 PA1 HA2 QA2 PA2 U1 B2 W) (hb : Below W.heap.size W W') : St0 w C E x y b c m P HA1 QA1 PA1 HA2 QA2 PA2 U1 B2 W' := by
  obtain ⟨U2, hu2, hp2⟩ := h.p2
  have hz := hb.size
  have hu := h.u
  exact ⟨h.t.below hb, h.hE, h.eU, h.eB, h.p1.below hb, ⟨U2, by omega, hp2.below hb⟩, h.g.trans (.of hb), ⟨hu.1, hu.2.1, by omega⟩, h.hl⟩
/-- behind the program's Take -/
structure Tk1 (w : World) (C E : List Nat) (x y b c : Nat) (m1 m : En) (a : An) (v : Value) (P : Pk) (HA1 QA1 PA1 HA2 QA2 PA2 : Option Addr) (U1 B2 : Nat) (W : World) : Prop where
  h : ∃ C1 D Wb U2, Md Wb E C1 D x y b c m1 m a v W ∧ ((∀ i ∈ C1, i ∈ C ∨ Wb.heap.size ≤ i) ∧ Wb.heap.size ≤ W.heap.size) ∧ U2 ≤ Wb.heap.size ∧ B2 ≤ Wb.heap.size ∧ OwnU W B2 U2 P HA2 QA2 PA2
  hE : b ∈ E ∧ w.heap.size + 1 ∈ E ∧ w.heap.size + 2 ∈ E
  eU : ∀ i, w.heap.size + 3 ≤ i → i < U1 → i ∈ E
  eB : ∀ i ∈ E, i < B2
  p1 : OwnU W (w.heap.size + 3) U1 P HA1 QA1 PA1
  g : Gr (b :: C) w W
  u : w.heap.size + 3 ≤ U1 ∧ U1 ≤ B2
  hl : ∀ i ∈ b :: C, i < w.heap.size
theorem St0.prog {W' : World} (h0 : St0 w C E x y b c m P HA1 QA1 PA1 HA2 QA2 PA2 U1 B2 W) (hb : Below W.heap.size W W') (now : Int) (now0 : 0 ≤ now) (now1 : now ≤ 18446744073709551615) (_hbl : P.bs.length ≤ 1000000) (hc1 qc1 pc1 : Nat) : Calls Tryz.prog 13 #[.pointer (some ⟨x, 0, none⟩), .int .u64 now, P.at HA1 hc1 QA1 qc1 PA1 pc1] W' fun e w4 => ∃ A41 c41 A42 c42 A43 c43, e = .returned (.agg #[.slice A41 (m.take now P).2.ps.length c41, .slice A42 (m.take now P).2.bs.length c42, .slice A43 (m.take now P).2.fl.length c43]) ∧ GrB w.heap.size W' w4 ∧ Tk1 w C E x y b c (m.take now P).1 m (m.take now P).2 (.agg #[.slice A41 (m.take now P).2.ps.length c41, .slice A42 (m.take now P).2.bs.length c42, .slice A43 (m.take now P).2.fl.length c43]) P HA1 QA1 PA1 HA2 QA2 PA2 U1 B2 w4 := by
  have h := h0.below hb
  have hu := h.u
  have hC : ∀ j ∈ C, j < w.heap.size := fun j hj => h.hl j (List.mem_cons_of_mem _ hj)
  refine (md_take h.t now now0 now1 P HA1 hc1 QA1 qc1 PA1 pc1 h.p1.o.i (h.p1.ro (C := C) (fun i hi => by have := hC i hi; left; omega)).1).mono ?_
  rintro e w4 ⟨v, rfl, C1, D, hm, ht⟩
  obtain ⟨A41, c41, A42, c42, A43, c43, rfl⟩ := hm.a.m.form
  obtain ⟨U2, hu2, hp2⟩ := h.p2
  exact ⟨A41, c41, A42, c42, A43, c43, rfl, GrB.of ht.g hC, ⟨C1, D, W', U2, hm, ⟨ht.n, ht.g.size⟩, hu2, hu.2.2, hp2.gr ht.g (fun i hi => by have := hC i hi; left; omega)⟩, h.hE, h.eU, h.eB, h.p1.gr ht.g (fun i hi => by have := hC i hi; left; omega), h.g.trans (ht.g.mono' (fun j hj => List.mem_cons_of_mem _ hj)), ⟨hu.1, hu.2.1⟩, h.hl⟩
theorem Tk1.wr {W' : World} {m1 : En} {a : An} {v : Value} (h : Tk1 w C E x y b c m1 m a v P HA1 QA1 PA1 HA2 QA2 PA2 U1 B2 W) (g : Gr [w.heap.size + 1] W W') : Tk1 w C E x y b c m1 m a v P HA1 QA1 PA1 HA2 QA2 PA2 U1 B2 W' := by
  obtain ⟨⟨C1, D, Wb, U2, hm, ht, hu2, hb2, hp2⟩, hE, eU, eB, p1, hg, hu, hl⟩ := h
  have hb := hl b (List.mem_cons_self ..)
  have hF : ∀ i ∈ [w.heap.size + 1], i = w.heap.size + 1 := fun i hi => by simpa using hi
  have hz := g.size
  exact ⟨⟨C1, D, Wb, U2, hm.wr g (fun i hi => by rw [hF i hi]; exact hE.2.1) (fun i hi hm' => by
    have h1 := hF i hm'
    rcases ht.1 i hi with h2 | h2
    · have := hl i (List.mem_cons_of_mem _ h2); omega
    · omega) (fun i hi => by rw [hF i hi]; omega) (fun hm' => by have := hF b hm'; omega), ⟨ht.1, by omega⟩, hu2, hb2, hp2.gr g (fun i hi => by have := hF i hi; left; omega)⟩, hE, eU, eB, p1.gr g (fun i hi => by have := hF i hi; left; omega), gr_fin16 hg g (fun i hi => by have := hF i hi; right; omega), hu, hl⟩
/-- behind both -/
structure Tk2 (w : World) (C E : List Nat) (N x y b c : Nat) (m1 : En) (a : An) (v v2 : Value) (P : Pk) (HA1 QA1 PA1 HA2 QA2 PA2 : Option Addr) (U1 B2 : Nat) (W : World) : Prop where
  f : FinT w E C N x y b c m1 a v v2 W
  eU : ∀ i, w.heap.size + 3 ≤ i → i < U1 → i ∈ E
  p1 : OwnU W (w.heap.size + 3) U1 P HA1 QA1 PA1
  p2 : ∃ U2, OwnU W B2 U2 P HA2 QA2 PA2
  u : w.heap.size + 3 ≤ U1 ∧ U1 ≤ B2 ∧ U1 ≤ N ∧ U1 ≤ W.heap.size
theorem Tk1.ref {m1 : En} {a : An} {v : Value} (h : Tk1 w C E x y b c m1 m a v P HA1 QA1 PA1 HA2 QA2 PA2 U1 B2 W) (now : Int) (now0 : 0 ≤ now) (now1 : now ≤ 18446744073709551615) (hF : PkF P) (hpl : P.ps.length ≤ 999999) (e1 : m1 = (m.take now P).1) (e2 : a = (m.take now P).2) (hc2 qc2 pc2 : Nat) : Calls Tryz.prog 26 #[.pointer (some ⟨y, 0, none⟩), .int .u64 now, P.at HA2 hc2 QA2 qc2 PA2 pc2] W fun e w5 => ∃ A51 c51 A52 c52 A53 c53, e = .returned (.agg #[.slice A51 (m.take now P).2.ps.length c51, .slice A52 (m.take now P).2.bs.length c52, .slice A53 (m.take now P).2.fl.length c53]) ∧ GrB w.heap.size W w5 ∧ ∃ N, Tk2 w C E N x y b c (m.take now P).1 (m.take now P).2 v (.agg #[.slice A51 (m.take now P).2.ps.length c51, .slice A52 (m.take now P).2.bs.length c52, .slice A53 (m.take now P).2.fl.length c53]) P HA1 QA1 PA1 HA2 QA2 PA2 U1 B2 w5 := by
  subst e1 e2
  obtain ⟨⟨C1, D, Wb, U2, hm, ht, hu2, hb2, hp2⟩, hE, eU, eB, p1, hg, hu, hl⟩ := h
  have hb := hl b (List.mem_cons_self ..)
  have hC : ∀ i ∈ D ++ (C1 ++ E), i < B2 ∨ U2 ≤ i := fun i hi => by
    rcases List.mem_append.1 hi with h1 | h1
    · right; have := (hm.d i h1).1; omega
    rcases List.mem_append.1 h1 with h1 | h1
    · rcases ht.1 i h1 with h2 | h2
      · left; have := hl i (List.mem_cons_of_mem _ h2); omega
      · right; omega
    · left; exact eB i h1
  refine (take16r_s W hm.t.r now now0 now1 P HA2 hc2 QA2 qc2 PA2 pc2 hp2.o.i hF hpl (hp2.ro hC).1 (hp2.ro hC).2).mono ?_
  rintro e w5 ⟨v5, rfl, ha5, hr5, hg5⟩
  obtain ⟨A51, c51, A52, c52, A53, c53, rfl⟩ := ha5.form
  have hbs : ∀ j ∈ [b], j = b := fun j hj => by simpa using hj
  have hz := hg5.size
  refine ⟨A51, c51, A52, c52, A53, c53, rfl, GrB.of hg5 (fun j hj => by rw [hbs j hj]; exact hb), Wb.heap.size, ⟨⟨⟨C1, D, Wb, hm.ref (by omega) hr5 hg5, Nat.le_refl _, ht.1⟩, ha5.lo ht.2, hg.trans (hg5.mono' (fun j hj => by rw [hbs j hj]; exact List.mem_cons_self ..)), by omega, hE, hl⟩, eU, p1.gr hg5 (fun j hj => by have := hbs j hj; left; omega), ⟨U2, hp2.gr hg5 (fun j hj => by have := hbs j hj; left; omega)⟩, ⟨hu.1, hu.2, by omega, by omega⟩⟩⟩
theorem Tk2.wr {W' : World} {N : Nat} {m1 : En} {a : An} {v v2 : Value} (h : Tk2 w C E N x y b c m1 a v v2 P HA1 QA1 PA1 HA2 QA2 PA2 U1 B2 W) (g : Gr [w.heap.size + 1, w.heap.size + 1 + 1] W W') : Tk2 w C E N x y b c m1 a v v2 P HA1 QA1 PA1 HA2 QA2 PA2 U1 B2 W' := by
  obtain ⟨U2, hp2⟩ := h.p2
  have hu := h.u
  have hz := g.size
  have hF : ∀ i ∈ [w.heap.size + 1, w.heap.size + 1 + 1], i < w.heap.size + 3 := fun i hi => by
    have : i = w.heap.size + 1 ∨ i = w.heap.size + 2 := by simpa using hi
    omega
  exact ⟨h.f.wr g, h.eU, h.p1.gr g (fun i hi => .inl (hF i hi)), ⟨U2, hp2.gr g (fun i hi => by have := hF i hi; left; omega)⟩, ⟨hu.1, hu.2.1, hu.2.2.1, by omega⟩⟩
theorem Tk2.same {N : Nat} {m1 : En} {a : An} {v v2 : Value} (h : Tk2 w C E N x y b c m1 a v v2 P HA1 QA1 PA1 HA2 QA2 PA2 U1 B2 W) (hb : bOK P.bs) (hc1 qc1 pc1 hc2 qc2 pc2 : Nat) : Calls Tryz.prog 27 #[P.at HA1 hc1 QA1 qc1 PA1 pc1, P.at HA2 hc2 QA2 qc2 PA2 pc2] W (RetB W true) := by
  obtain ⟨U2, hp2⟩ := h.p2
  exact same16_t h.p1 hp2 hb hc1 qc1 pc1 hc2 qc2 pc2
theorem Tk2.over {N : Nat} {m1 : En} {a : An} {v v2 : Value} (h : Tk2 w C E N x y b c m1 a v v2 P HA1 QA1 PA1 HA2 QA2 PA2 U1 B2 W) (hc1 qc1 pc1 : Nat) : Calls Tryz.prog 28 #[P.at HA1 hc1 QA1 qc1 PA1 pc1] W fun e W' => e = .returned (.tuple #[]) ∧ FinT w E C N x y b c m1 a v v2 W' ∧ Below (w.heap.size + 1 + 1 + 1) W W' := by
  have hu := h.u
  refine (over_t h.p1 hu.2.2.2 hc1 qc1 pc1).mono ?_
  rintro e W' ⟨rfl, D, hg, hD⟩
  exact ⟨rfl, h.f.wrF hg (fun i hi => by have := hD i hi; exact ⟨h.eU i this.1 this.2, by omega, by omega⟩), hg.below (by omega) (fun i hi => (hD i hi).1)⟩
end
section
variable {C : List Nat} {x y b c : Nat} {m : En}
set_option maxRecDepth 100000 in
set_option maxHeartbeats 16000000 in
theorem step_2 (w : World) (now : Int) (NA : Option Addr) (nc : Nat) (ns : List Int) (BA : Option Addr) (bc : Nat) (bd : List Int) (X : Pk) (HA : Option Addr) (hc : Nat) (QA : Option Addr) (qc : Nat) (PA : Option Addr) (pc : Nat) (h : StpIn w C x y b c m ⟨2, now, NA, nc, ns, BA, bc, bd, X, HA, hc, QA, qc, PA, pc⟩) :
    Calls Tryz.prog 9 #[.pointer (some ⟨x, 0, none⟩), .pointer (some ⟨y, 0, none⟩), .agg #[.int .i64 2, .int .u64 now, .slice NA ns.length nc, .slice BA bd.length bc, .int .i64 X.k, .int .i64 X.n, .int .u64 X.i, .int .i64 X.hp, .slice HA X.hs.length hc, .slice QA X.bs.length qc, .int .i64 X.an, .int .u64 X.ai, .int .u64 X.sq, .slice PA X.ps.length pc]] w (RetStp w C x y b c (m.take now X).1) := by
  have H := hide h
  have hcb := h.cb
  have HCB := hide hcb
  have hb := hcb b (List.mem_cons_self ..)
  have hy : y < w.heap.size := h.t.r.bx.lt
  have HC : Hid (∀ j ∈ C, j < w.heap.size) := hide (fun j hj => hcb j (List.mem_cons_of_mem _ hj))
  have now0 : 0 ≤ now := h.now0
  have now1 : now ≤ 18446744073709551615 := h.now1
  have HI : Hid (PkIn w X HA QA PA) := hide (⟨h.ph.1, h.pb.1, h.pp.1, Nat.le_trans h.l2 (by omega), Nat.le_trans h.l5 (by omega), Nat.le_trans h.l3 (by omega)⟩)
  have TO : Hid (∀ W, Below w.heap.size w W → W.heap.size = (w.heap.size + 1 + 1 + 1) → Calls Tryz.prog 24 #[X.at HA hc QA qc PA pc] W fun e w1 => ∃ HA1 hc1 QA1 qc1 PA1 pc1, e = .returned (X.at HA1 hc1 QA1 qc1 PA1 pc1) ∧ OwnU w1 (w.heap.size + 1 + 1 + 1) w1.heap.size X HA1 QA1 PA1 ∧ Below W.heap.size W w1) := hide (fun W hW hz => by
    refine (rown2_s X HA hc QA qc PA pc W (HI.out.stp hW)).mono ?_
    rintro e w1 ⟨HA1, hc1, QA1, qc1, PA1, pc1, rfl, ho, hb⟩
    rw [hz] at ho
    exact ⟨HA1, hc1, QA1, qc1, PA1, pc1, rfl, ho.u, hb⟩)
  have HPF : Hid (PkF X) := hide h.pf
  have HPB : Hid (X.bs.length ≤ 1000000 ∧ bOK X.bs) := hide ⟨Nat.le_trans h.l5 (by omega), h.pf.bs⟩
  have HPL : Hid (X.ps.length ≤ 999999) := hide Nat.le_trans h.l3 (by omega)
  have HGD := hide (take_good h.g now X HPB.out).2
  clear h hcb
  go_enter Tryz.func9, Tryz.ntmps9
  go_wp2_with first
    | (go_at_call 24; (with_reducible refine (TO.out _ (by exact blw) (by simp)).mono ?_); rintro e w1 ⟨HA1, hc1, QA1, qc1, PA1, pc1, rfl, ho1, hb1⟩; haveI : Stp _ w1 := ⟨hb1⟩; have z1 : w.heap.size + 1 + 1 < w1.heap.size := BoxAt.lt (w := w1) (n := w.heap.size + 1 + 1) inferInstance; haveI : LtN (w.heap.size + 1 + 1) w1.heap.size := ⟨z1⟩; haveI : LtN (w.heap.size + 1) w1.heap.size := ⟨by omega⟩; haveI : LtN w.heap.size w1.heap.size := ⟨by omega⟩; haveI : LeN w.heap.size w1.heap.size := ⟨by omega⟩; have HP1 := hide ho1; clear ho1 hb1)
    | (go_at_call 24; (with_reducible refine (own_st0 (U1 := w1.heap.size) H.out.t HCB.out (by exact blw) (HP1.out.gr (Trc.h (C := [w1.heap.size]) (a := w1)).g (by simp)) (by omega) (by exact BoxAt.lt (n := w1.heap.size) inferInstance)).mono ?_); rintro e w3 ⟨HA2, hc2, QA2, qc2, PA2, pc2, E, B2, rfl, hst, hb3⟩; haveI : Stp _ w3 := ⟨hb3⟩; have z3 : w1.heap.size < w3.heap.size := BoxAt.lt (w := w3) (n := w1.heap.size) inferInstance; haveI : LtN (w.heap.size + 1 + 1) w3.heap.size := ⟨by omega⟩; haveI : LtN (w.heap.size + 1) w3.heap.size := ⟨by omega⟩; haveI : LtN w.heap.size w3.heap.size := ⟨by omega⟩; haveI : LeN w.heap.size w3.heap.size := ⟨by omega⟩; have HS0 := hide hst; clear hst hb3)
    | (go_at_call 13; (with_reducible refine (HS0.out.prog (by exact blw) now now0 now1 HPB.out.1 hc1 qc1 pc1).mono ?_); rintro e w4 ⟨A41, c41, A42, c42, A43, c43, rfl, hG4, hst⟩; haveI := hG4; have HS1 := hide hst; clear hst hG4)
    | (go_at_call 26; (with_reducible refine ((HS1.out.wr (Trc.h (C := [w.heap.size + 1])).g).ref now now0 now1 HPF.out HPL.out rfl rfl hc2 qc2 pc2).mono ?_); rintro e w5 ⟨A51, c51, A52, c52, A53, c53, rfl, hG5, N5, hst⟩; haveI := hG5; have HS2 := hide hst; clear hst hG5)
    | (go_at_call 27; (with_reducible refine ((HS2.out.wr (Trc.h (C := [w.heap.size + 1, w.heap.size + 1 + 1])).g).same HPB.out.2 hc1 qc1 pc1 hc2 qc2 pc2).mono ?_); rintro e w6 ⟨rfl, hb6⟩; haveI : Stp _ w6 := ⟨hb6⟩; clear hb6)
    | (go_at_call 28; (with_reducible refine ((HS2.out.wr (Trc.h (C := [w.heap.size + 1, w.heap.size + 1 + 1])).g).over hc1 qc1 pc1).mono ?_); rintro e w7 ⟨rfl, hf7, hs7⟩; haveI : StpB (w.heap.size + 1 + 1 + 1) _ w7 := ⟨hs7⟩; have HF := hide hf7; clear hf7 hs7)
    | (go_at_call 30; (with_reducible refine ((HF.out.wr (Trc.h (C := [w.heap.size + 1, w.heap.size + 1 + 1])).g).same HGD.out).mono ?_); rintro e w8 ⟨rfl, hb8⟩; haveI : Stp _ w8 := ⟨hb8⟩; clear hb8)
    | (go_at_call 31; (with_reducible refine ((HF.out.wr (Trc.h (C := [w.heap.size + 1, w.heap.size + 1 + 1])).g).spoil HGD.out).mono ?_); rintro e w9 ⟨rfl, C6, ht6, hr6⟩; have T6 := hide ht6; have R6 := hide hr6; clear ht6 hr6)
  refine bodyPost_ret (v := .bool true) (by simp [results, Tryz.results9, go_sem]) rfl ?_
  exact ⟨C6, rfl, T6.out.below blw, R6.out.trans (.bel blw)⟩
end
end Go.Proofs.YtniogmefbjfoaaaGreat

namespace Go.Proofs.YtniogmefbjfoaaaGreat
set_option linter.unusedSimpArgs false
set_option linter.unusedVariables false
set_option linter.unusedSectionVars false
open Go.RowKit Go.Maps

theorem knownP_len {m : En} {p : Pk} : (knownP m p).hs.length = p.hs.length ∧ (knownP m p).bs = p.bs ∧ (knownP m p).ps = p.ps := by
  unfold knownP
  split
  · refine ⟨?_, rfl, rfl⟩
    obtain ⟨k, n, i, hop, hs, bs, an, ai, sq, ps⟩ := p
    cases hs <;> rfl
  · exact ⟨rfl, rfl, rfl⟩
section
variable {C : List Nat} {x y b c : Nat} {m : En}
theorem known_t {W : World} {E : List Nat} (h : RfM W E y b c m) (B U : Nat) (hyB : y < B) (hbB : b < B) (p : Pk) (HA : Option Addr) (hcp : Nat) (BA : Option Addr) (bcp : Nat) (PA : Option Addr) (pcp : Nat) (o : OwnU W B U p HA BA PA) (hB : B ≤ W.heap.size) (P : Pk) (hP : P = knownP m p) :
    Calls Tryz.prog 25 #[.pointer (some ⟨y, 0, none⟩), p.at HA hcp BA bcp PA pcp] W fun e w2 => e = .returned (P.at HA hcp BA bcp PA pcp) ∧ OwnU w2 B U P HA BA PA ∧ Below B W w2 ∧ GrB U W w2 := by
  subst hP
  refine (known16_s W h B hyB hbB p HA hcp BA bcp PA pcp o.o).mono ?_
  rintro e w2 ⟨rfl, ho, D, hg, hD⟩
  obtain ⟨l1, l2, l3⟩ := knownP_len (m := m) (p := p)
  have hDU : ∀ i ∈ D, i < U := fun i hi => by
    obtain ⟨_, h0, a, ha, rfl⟩ := hD i hi
    exact o.h h0 a ha
  exact ⟨rfl, ⟨ho, fun h0 a ha => o.h (by rw [← l1]; exact h0) a ha, fun h0 a ha => o.b (by rw [← l2]; exact h0) a ha, fun h0 a ha => o.p (by rw [← l3]; exact h0) a ha⟩, hg.below hB (fun i hi => (hD i hi).1.1), GrB.of hg hDU⟩
set_option maxRecDepth 100000 in
set_option maxHeartbeats 16000000 in
theorem step_4 (w : World) (now : Int) (NA : Option Addr) (nc : Nat) (ns : List Int) (BA : Option Addr) (bc : Nat) (bd : List Int) (X : Pk) (HA : Option Addr) (hc : Nat) (QA : Option Addr) (qc : Nat) (PA : Option Addr) (pc : Nat) (h : StpIn w C x y b c m ⟨4, now, NA, nc, ns, BA, bc, bd, X, HA, hc, QA, qc, PA, pc⟩) :
    Calls Tryz.prog 9 #[.pointer (some ⟨x, 0, none⟩), .pointer (some ⟨y, 0, none⟩), .agg #[.int .i64 4, .int .u64 now, .slice NA ns.length nc, .slice BA bd.length bc, .int .i64 X.k, .int .i64 X.n, .int .u64 X.i, .int .i64 X.hp, .slice HA X.hs.length hc, .slice QA X.bs.length qc, .int .i64 X.an, .int .u64 X.ai, .int .u64 X.sq, .slice PA X.ps.length pc]] w (RetStp w C x y b c (m.take now (knownP m X)).1) := by
  obtain ⟨P, hP⟩ : ∃ P, P = knownP m X := ⟨_, rfl⟩
  rw [← hP]
  have hPl := knownP_len (m := m) (p := X)
  rw [← hP] at hPl
  have hPf := knownP_f h.f h.pf
  rw [← hP] at hPf
  have TK : Hid (∀ W U HA1 hc1 QA1 qc1 PA1 pc1, Below w.heap.size w W → (w.heap.size + 1 + 1 + 1) ≤ W.heap.size → OwnU W (w.heap.size + 1 + 1 + 1) U X HA1 QA1 PA1 → Calls Tryz.prog 25 #[.pointer (some ⟨y, 0, none⟩), X.at HA1 hc1 QA1 qc1 PA1 pc1] W fun e w2 => e = .returned (P.at HA1 hc1 QA1 qc1 PA1 pc1) ∧ OwnU w2 (w.heap.size + 1 + 1 + 1) U P HA1 QA1 PA1 ∧ Below (w.heap.size + 1 + 1 + 1) W w2 ∧ GrB U W w2) := hide (fun W U HA1 hc1 QA1 qc1 PA1 pc1 hW hz ho => known_t (h.t.below hW).r (w.heap.size + 1 + 1 + 1) U (by have := h.t.r.bx.lt; omega) (by have := h.t.r.fz.lt; omega) X HA1 hc1 QA1 qc1 PA1 pc1 ho hz P hP)
  have H := hide h
  have hcb := h.cb
  have HCB := hide hcb
  have hb := hcb b (List.mem_cons_self ..)
  have hy : y < w.heap.size := h.t.r.bx.lt
  have HC : Hid (∀ j ∈ C, j < w.heap.size) := hide (fun j hj => hcb j (List.mem_cons_of_mem _ hj))
  have now0 : 0 ≤ now := h.now0
  have now1 : now ≤ 18446744073709551615 := h.now1
  have HI : Hid (PkIn w X HA QA PA) := hide (⟨h.ph.1, h.pb.1, h.pp.1, Nat.le_trans h.l2 (by omega), Nat.le_trans h.l5 (by omega), Nat.le_trans h.l3 (by omega)⟩)
  have TO : Hid (∀ W, Below w.heap.size w W → W.heap.size = (w.heap.size + 1 + 1 + 1) → Calls Tryz.prog 24 #[X.at HA hc QA qc PA pc] W fun e w1 => ∃ HA1 hc1 QA1 qc1 PA1 pc1, e = .returned (X.at HA1 hc1 QA1 qc1 PA1 pc1) ∧ OwnU w1 (w.heap.size + 1 + 1 + 1) w1.heap.size X HA1 QA1 PA1 ∧ Below W.heap.size W w1) := hide (fun W hW hz => by
    refine (rown2_s X HA hc QA qc PA pc W (HI.out.stp hW)).mono ?_
    rintro e w1 ⟨HA1, hc1, QA1, qc1, PA1, pc1, rfl, ho, hb⟩
    rw [hz] at ho
    exact ⟨HA1, hc1, QA1, qc1, PA1, pc1, rfl, ho.u, hb⟩)
  have HPF : Hid (PkF P) := hide hPf
  have HPB : Hid (P.bs.length ≤ 1000000 ∧ bOK P.bs) := hide ⟨by rw [hPl.2.1]; exact Nat.le_trans h.l5 (by omega), by rw [hPl.2.1]; exact h.pf.bs⟩
  have HPL : Hid (P.ps.length ≤ 999999) := hide (by rw [hPl.2.2]; exact Nat.le_trans h.l3 (by omega))
  have HGD := hide (take_good h.g now P HPB.out).2
  clear h hcb
  clear hP hPl hPf
  go_enter Tryz.func9, Tryz.ntmps9
  go_wp2_with first
    | (go_at_call 24; (with_reducible refine (TO.out _ (by exact blw) (by simp)).mono ?_); rintro e w1 ⟨HA1, hc1, QA1, qc1, PA1, pc1, rfl, ho1, hb1⟩; haveI : Stp _ w1 := ⟨hb1⟩; have z1 : w.heap.size + 1 + 1 < w1.heap.size := BoxAt.lt (w := w1) (n := w.heap.size + 1 + 1) inferInstance; haveI : LtN (w.heap.size + 1 + 1) w1.heap.size := ⟨z1⟩; haveI : LtN (w.heap.size + 1) w1.heap.size := ⟨by omega⟩; haveI : LtN w.heap.size w1.heap.size := ⟨by omega⟩; haveI : LeN w.heap.size w1.heap.size := ⟨by omega⟩; have HP1 := hide ho1; clear ho1 hb1)
    | (go_at_call 25; (with_reducible refine (TK.out _ w1.heap.size _ _ _ _ _ _ (by exact blw) (Nat.le_trans z1 (Blw.size (a := w1) inferInstance)) (HP1.out.below (by exact blw))).mono ?_); rintro e w2 ⟨rfl, hp2, hs2, hg2⟩; haveI : StpB (w.heap.size + 1 + 1 + 1) _ w2 := ⟨hs2⟩; haveI : GrB w1.heap.size _ w2 := hg2; have HP2 := hide hp2; clear hp2 hs2 hg2)
    | (go_at_call 24; (with_reducible refine (own_st0 (U1 := w1.heap.size) H.out.t HCB.out (by exact blw) (HP2.out.gr (Trc.h (C := [w1.heap.size]) (a := w2)).g (by simp)) (by omega) (by exact BoxAt.lt (n := w1.heap.size) inferInstance)).mono ?_); rintro e w3 ⟨HA2, hc2, QA2, qc2, PA2, pc2, E, B2, rfl, hst, hb3⟩; haveI : Stp _ w3 := ⟨hb3⟩; have z3 : w1.heap.size < w3.heap.size := BoxAt.lt (w := w3) (n := w1.heap.size) inferInstance; haveI : LtN (w.heap.size + 1 + 1) w3.heap.size := ⟨by omega⟩; haveI : LtN (w.heap.size + 1) w3.heap.size := ⟨by omega⟩; haveI : LtN w.heap.size w3.heap.size := ⟨by omega⟩; haveI : LeN w.heap.size w3.heap.size := ⟨by omega⟩; have HS0 := hide hst; clear hst hb3)
    | (go_at_call 13; (with_reducible refine (HS0.out.prog (by exact blw) now now0 now1 HPB.out.1 hc1 qc1 pc1).mono ?_); rintro e w4 ⟨A41, c41, A42, c42, A43, c43, rfl, hG4, hst⟩; haveI := hG4; have HS1 := hide hst; clear hst hG4)
    | (go_at_call 26; (with_reducible refine ((HS1.out.wr (Trc.h (C := [w.heap.size + 1])).g).ref now now0 now1 HPF.out HPL.out rfl rfl hc2 qc2 pc2).mono ?_); rintro e w5 ⟨A51, c51, A52, c52, A53, c53, rfl, hG5, N5, hst⟩; haveI := hG5; have HS2 := hide hst; clear hst hG5)
    | (go_at_call 27; (with_reducible refine ((HS2.out.wr (Trc.h (C := [w.heap.size + 1, w.heap.size + 1 + 1])).g).same HPB.out.2 hc1 qc1 pc1 hc2 qc2 pc2).mono ?_); rintro e w6 ⟨rfl, hb6⟩; haveI : Stp _ w6 := ⟨hb6⟩; clear hb6)
    | (go_at_call 28; (with_reducible refine ((HS2.out.wr (Trc.h (C := [w.heap.size + 1, w.heap.size + 1 + 1])).g).over hc1 qc1 pc1).mono ?_); rintro e w7 ⟨rfl, hf7, hs7⟩; haveI : StpB (w.heap.size + 1 + 1 + 1) _ w7 := ⟨hs7⟩; have HF := hide hf7; clear hf7 hs7)
    | (go_at_call 30; (with_reducible refine ((HF.out.wr (Trc.h (C := [w.heap.size + 1, w.heap.size + 1 + 1])).g).same HGD.out).mono ?_); rintro e w8 ⟨rfl, hb8⟩; haveI : Stp _ w8 := ⟨hb8⟩; clear hb8)
    | (go_at_call 31; (with_reducible refine ((HF.out.wr (Trc.h (C := [w.heap.size + 1, w.heap.size + 1 + 1])).g).spoil HGD.out).mono ?_); rintro e w9 ⟨rfl, C6, ht6, hr6⟩; have T6 := hide ht6; have R6 := hide hr6; clear ht6 hr6)
  refine bodyPost_ret (v := .bool true) (by simp [results, Tryz.results9, go_sem]) rfl ?_
  exact ⟨C6, rfl, T6.out.below blw, R6.out.trans (.bel blw)⟩
end
end Go.Proofs.YtniogmefbjfoaaaGreat

namespace Go.Proofs.YtniogmefbjfoaaaGreat
set_option linter.unusedSimpArgs false
set_option linter.unusedVariables false
set_option linter.unusedSectionVars false
open Go.RowKit Go.Maps

section
variable {C : List Nat} {x y b c : Nat} {m : En}
theorem step16_s (w : World) (s : Sx) (h : StpIn w C x y b c m s) :
    Calls Tryz.prog 9 #[.pointer (some ⟨x, 0, none⟩), .pointer (some ⟨y, 0, none⟩), .agg #[.int .i64 s.d, .int .u64 s.now, .slice s.NA s.ns.length s.nc, .slice s.BA s.bd.length s.bc, .int .i64 s.x.k, .int .i64 s.x.n, .int .u64 s.x.i, .int .i64 s.x.hp, .slice s.HA s.x.hs.length s.hc, .slice s.QA s.x.bs.length s.qc, .int .i64 s.x.an, .int .u64 s.x.ai, .int .u64 s.x.sq, .slice s.PA s.x.ps.length s.pc]] w fun e W => ∃ m2, RetStp w C x y b c m2 e W ∧ m2.good ∧ m2.wf := by
  by_cases d0 : s.d = 0
  · exact (step_0 w s.d s.now s.NA s.nc s.ns s.BA s.bc s.bd s.x.k s.x.n s.x.i s.x.hp s.x.hs s.x.bs s.x.an s.x.ai s.x.sq s.x.ps s.HA s.hc s.QA s.qc s.PA s.pc h d0).mono (fun e W hr => ⟨_, hr, reliable_good h.g _, reliable_wf h.f _⟩)
  by_cases d1 : s.d = 1
  · exact (step_1 w s.d s.now s.NA s.nc s.ns s.BA s.bc s.bd s.x.k s.x.n s.x.i s.x.hp s.x.hs s.x.bs s.x.an s.x.ai s.x.sq s.x.ps s.HA s.hc s.QA s.qc s.PA s.pc h d1).mono (fun e W hr => ⟨_, hr, (send_good h.g _ _ _ h.wb).1, send_wf h.f _ _ _⟩)
  by_cases d2 : s.d = 2
  · have := step_2 w s.now s.NA s.nc s.ns s.BA s.bc s.bd s.x s.HA s.hc s.QA s.qc s.PA s.pc (x := x) (y := y) (b := b) (c := c) (C := C) (m := m) (by have := h; rw [show s = ⟨s.d, s.now, s.NA, s.nc, s.ns, s.BA, s.bc, s.bd, s.x, s.HA, s.hc, s.QA, s.qc, s.PA, s.pc⟩ from rfl, d2] at this; exact this)
    rw [d2]
    exact this.mono (fun e W hr => ⟨_, hr, (take_good h.g _ _ ⟨Nat.le_trans h.l5 (by omega), h.pf.bs⟩).1, take_wf h.f _ _⟩)
  by_cases d3 : s.d = 3
  · exact (step_3 w s.d s.now s.NA s.nc s.ns s.BA s.bc s.bd s.x.k s.x.n s.x.i s.x.hp s.x.hs s.x.bs s.x.an s.x.ai s.x.sq s.x.ps s.HA s.hc s.QA s.qc s.PA s.pc h d3).mono (fun e W hr => ⟨_, hr, (tick_good h.g _).1, tick_wf h.f _⟩)
  by_cases d4 : s.d = 4
  · have := step_4 w s.now s.NA s.nc s.ns s.BA s.bc s.bd s.x s.HA s.hc s.QA s.qc s.PA s.pc (x := x) (y := y) (b := b) (c := c) (C := C) (m := m) (by have := h; rw [show s = ⟨s.d, s.now, s.NA, s.nc, s.ns, s.BA, s.bc, s.bd, s.x, s.HA, s.hc, s.QA, s.qc, s.PA, s.pc⟩ from rfl, d4] at this; exact this)
    rw [d4]
    exact this.mono (fun e W hr => ⟨_, hr, (take_good h.g _ _ ⟨by rw [knownP_len.2.1]; exact Nat.le_trans h.l5 (by omega), by rw [knownP_len.2.1]; exact h.pf.bs⟩).1, take_wf h.f _ _⟩)
  exact (step_o w s.d s.now s.NA s.nc s.ns s.BA s.bc s.bd s.x.k s.x.n s.x.i s.x.hp s.x.hs s.x.bs s.x.an s.x.ai s.x.sq s.x.ps s.HA s.hc s.QA s.qc s.PA s.pc h d0 d1 d2 d3 d4).mono (fun e W hr => ⟨_, hr, h.g, h.f⟩)
end
/-! ### steps, read whole -/
theorem Tryz.infoSx : (Tryz.prog.info? 45).map (·.size) = some 14 := by kernel_rfl
theorem Tryz.undSx : (Tryz.prog.underlying 45).map TypeDesc.isRow = some true := by kernel_rfl
def ldSx (a : Addr) : Sem Value := loadVar 45 a
@[go_sem ↓] theorem ld_sx (a : Addr) : loadVar 45 a = ldSx a := rfl
theorem ldSx_at (W : World) (b off : Nat) (s : Sx) (h : ∀ j u, (sxc s)[j]? = some u → W.cell? ⟨b, off + j, none⟩ = some u) : (ldSx ⟨b, off, none⟩).run Tryz.prog W = .ok (.agg #[.int .i64 s.d, .int .u64 s.now, .slice s.NA s.ns.length s.nc, .slice s.BA s.bd.length s.bc, .int .i64 s.x.k, .int .i64 s.x.n, .int .u64 s.x.i, .int .i64 s.x.hp, .slice s.HA s.x.hs.length s.hc, .slice s.QA s.x.bs.length s.qc, .int .i64 s.x.an, .int .u64 s.x.ai, .int .u64 s.x.sq, .slice s.PA s.x.ps.length s.pc]) W := by
  have hu := Tryz.undSx
  cases hq : Tryz.prog.underlying 45 with
  | none => rw [hq] at hu; cases hu
  | some d =>
    rw [hq] at hu
    exact run_loadVar_mid W b off _ (sxc s) d h hq (by simpa using hu) (by rw [sxc_len]; exact Tryz.infoSx)
theorem few_each16 {l : List Sx} (h : fewB l = true) : l.length ≤ 400 ∧ ∀ s ∈ l, s.ns.length ≤ 4000 ∧ s.x.hs.length ≤ 4000 ∧ s.x.ps.length ≤ 4000 ∧ s.bd.length ≤ 600000 ∧ s.x.bs.length ≤ 600000 := by
  unfold fewB at h
  rw [Bool.and_eq_true, decide_eq_true_eq, decide_eq_true_eq] at h
  refine ⟨h.1, fun s hs => ?_⟩
  have key : ∀ (l : List Sx), s ∈ l → fewN s ≤ fewS l := by
    intro l
    induction l with
    | nil => intro h; cases h
    | cons t l ih =>
      intro h
      unfold fewS at ih ⊢
      rw [List.map_cons, List.sum_cons]
      rcases List.mem_cons.1 h with rfl | h
      · omega
      · have := ih h; omega
  have h1 := key l hs
  have h2 := Nat.le_trans h1 h.2
  unfold fewN at h2
  omega
theorem ro_old16 {w W : World} {C : List Nat} {k n : Nat} {A : Option Addr} {xs : List Value} (h : Reads w w.heap.size k A n xs) (hb : Below w.heap.size w W) (hC : ∀ i ∈ C, w.heap.size ≤ i) : RO W C k A n xs :=
  ⟨(h.below hb).more hb.size, fun hn a ha hm => by
    obtain ⟨b, off, e, hlt, _⟩ := h.2 hn
    rw [e] at ha
    injection ha with ha
    subst ha
    have := hC b hm
    omega⟩
theorem new_two {X W W2 : World} {C : List Nat} {x y b c : Nat} {m : En} (hx : EnO X (C ++ []) C x m) (hb : Below X.heap.size X W) (hb2 : Below W.heap.size W W2) (hy : ∀ E0 : List Nat, (∀ j ∈ E0, j < W.heap.size) → RfM W2 (b :: E0) y b c m) (hbW : W.heap.size ≤ b) : Two W2 (b :: C) C x y b c m m := by
  obtain ⟨rb, fb, rp, cp, hx⟩ := hx
  have hz := hb.size
  have hCl : ∀ j ∈ C, j < X.heap.size := fun j hj => hx.ltE j (hx.CE j hj)
  have hr := hy C (fun j hj => by have := hCl j hj; omega)
  exact ⟨⟨rb, fb, rp, cp, hx.more (hb.trans (hb2.mono hz)) (fun i hi => by
    rcases List.mem_cons.1 hi with rfl | hi
    · exact .inr (by omega)
    · exact .inl (by simp [hi])) (fun i hi => List.mem_cons_of_mem _ hi) hr.ltE⟩, hr, fun hm => by have := hCl b hm; omega⟩
set_option maxRecDepth 100000 in
set_option maxHeartbeats 16000000 in
theorem cofifoPlays_true (q : Pr) (A : Option Addr) (cc : Nat) (l : List Sx) (w : World) (hq : wfP q) (_hl : l.length * 192 ≤ 140737488351232) (h : Reads w w.heap.size 14 A l.length (sxcs l)) (hm : ∀ s ∈ l, SxRd w s ∧ s.small) :
    Calls Tryz.prog 3 #[.agg #[.int .i64 q.1, .int .u64 q.2], .slice A l.length cc] w (RetB w true) := by
  haveI : Src w A l.length 14 (sxcs l) := ⟨h⟩
  have HS := hide h
  have HM := hide hm
  have HQ := hide hq
  obtain ⟨fb, hfb⟩ : ∃ fb, fb = fewB l := ⟨_, rfl⟩
  have TF : Hid (Calls Tryz.prog 4 #[.slice A l.length cc] (w.alloc (.cells #[.int .i64 q.1, .int .u64 q.2] 24)) fun e W => e = .returned (.bool fb) ∧ Below (w.alloc (.cells #[.int .i64 q.1, .int .u64 q.2] 24)).heap.size (w.alloc (.cells #[.int .i64 q.1, .int .u64 q.2] 24)) W) := hide (by
    refine (few16_s _ A cc l (h.stp16 (below_alloc _ _))).mono ?_
    rintro e W ⟨b2, rfl, hb2, hs2⟩
    rw [hfb, ← hs2 (fun s hs => (hm s hs).2)]
    exact ⟨rfl, hb2⟩)
  have HFB := hide hfb
  clear h hm hq hfb
  cases fb
  · go_enter Tryz.func3, Tryz.ntmps3
    go_wp2_with first
      | (go_at_call 4; (with_reducible refine TF.out.mono ?_); rintro e w2 ⟨rfl, hb2⟩; haveI : Stp _ w2 := ⟨hb2⟩; clear hb2)
      | (go_at_call 5; (with_reducible refine (awake16_t _).mono ?_); rintro e w9 ⟨rfl, hb9⟩; haveI : Stp _ w9 := ⟨hb9⟩; clear hb9)
    go_ret
    exact ⟨rfl, blw⟩
  · have HF := hide (few_each16 HFB.out.symm)
    have hl4 := HF.out.1
    by_cases hok : mayB q.1 q.2 = true ∧ q.2 ≤ 34359738367
    · have hmb : 1 ≤ q.1 ∧ q.1 ≤ 10 ∧ 0 < q.2 := by have := hok.1; unfold mayB at this; exact of_decide_eq_true this
      have TN := hide (fun W => new_s q.1 q.2 W hok.1 hok.2 hmb.1 hmb.2.1)
      have TR := hide (fun W => new16r_s q.1 q.2 W hok.1 hok.2)
      have HW : Hid (wfU64 q.2) := hide ⟨by omega, by omega⟩
      clear hok hmb
      go_enter Tryz.func3, Tryz.ntmps3
      go_wp2_with first
        | (go_at_call 4; (with_reducible refine TF.out.mono ?_); rintro e w2 ⟨rfl, hb2⟩; haveI : Stp _ w2 := ⟨hb2⟩; clear hb2)
        | (go_at_call 6; (with_reducible refine (TN.out _).mono ?_); rintro e w3 ⟨x, C, rfl, hx, hC, hx0, hb3⟩; haveI : Stp _ w3 := ⟨hb3⟩; have HX0 := hide (hx [] (by simp)); have z2 : w.heap.size < w2.heap.size := BoxAt.lt (w := w2) (n := w.heap.size) inferInstance; have HC0 : Hid (∀ j ∈ C, w.heap.size < j) := hide (fun j hj => Nat.lt_of_lt_of_le z2 (Nat.le_trans (Blw.size (a := w2) inferInstance) (hC j hj))); clear hx hC hb3)
        | (go_at_call 7; (with_reducible refine (TR.out _).mono ?_); rintro e w4 ⟨y, b, c, rfl, hy, hb0, hb4⟩; haveI : Stp _ w4 := ⟨hb4⟩; have z3 : w2.heap.size ≤ w3.heap.size := Blw.size (a := w2) inferInstance; have z4 := Nat.le_trans (Blw.size (a := w3) inferInstance) hb0; have HT := hide (new_two HX0.out (by exact blw) hb4 hy hb0); have HB0 : Hid (w.heap.size < b) := hide (by omega); clear hy hb0 hb4)
        | (go_at_call 8; (with_reducible refine (stands16_s _ (HT.out.below (by exact blw)).e (HT.out.below (by exact blw)).r).mono ?_); rintro e w5 ⟨rfl, hb5⟩; haveI : Stp _ w5 := ⟨hb5⟩; clear hb5)
      go_loopw [8] (fun i wr => ∃ (k : Nat) (C : List Nat) (m : En), k ≤ l.length ∧ i = .int .i64 k ∧ Two wr (b :: C) C x y b c m m ∧ (m.good ∧ m.wf) ∧ (∀ j ∈ b :: C, w.heap.size < j) ∧ BoxAt wr w.heap.size #[.int .i64 q.1, .int .u64 q.2] 24 ∧ Below w.heap.size w wr) (fun i _ => l.length - (intOf i).toNat)
      case atStart => exact ⟨0, C, En.new q.1 q.2, Nat.zero_le _, rfl, HT.out.below blw, ⟨new_good _ _, new_wf _ _ HW.out⟩, fun j hj => by
        rcases List.mem_cons.1 hj with rfl | hj
        · exact HB0.out
        · exact HC0.out j hj, inferInstance, blw⟩
      case round =>
        obtain ⟨k, C, m, hk, rfl, hT, hgw, hC, hbp, hBw⟩ := hrel
        haveI : Blw w wr := ⟨hBw⟩
        haveI := hbp
        have HT := hide hT
        have HGW := hide hgw
        have HC := hide hC
        have HBW := hide hBw
        clear hT hgw hC hbp hBw
        by_cases hlt : k < l.length
        · obtain ⟨s, hs, b1, off, hbw, hcl⟩ : ∃ s, l[k]? = some s ∧ ∃ b1 off, A = some ⟨b1, off, none⟩ ∧ ∀ j u, (sxc s)[j]? = some u → wr.cell? ⟨b1, off + k * 14 + j, none⟩ = some u := by
            obtain ⟨b1, off, s, h1, h2, h3, h4⟩ := Reads.atSx ((HS.out.below HBW.out).more HBW.out.size) hlt
            exact ⟨s, h3, b1, off, h1, h4⟩
          subst hbw
          have hsm := List.mem_of_getElem? hs
          obtain ⟨q1, q2, q3, q4, q5⟩ := HF.out.2 s hsm
          have hrd := (HM.out s hsm).1
          have hld := ldSx_at wr b1 (off + k * 14) s hcl
          have TS : Hid (∀ W, Below wr.heap.size wr W → Calls Tryz.prog 9 #[.pointer (some ⟨x, 0, none⟩), .pointer (some ⟨y, 0, none⟩), .agg #[.int .i64 s.d, .int .u64 s.now, .slice s.NA s.ns.length s.nc, .slice s.BA s.bd.length s.bc, .int .i64 s.x.k, .int .i64 s.x.n, .int .u64 s.x.i, .int .i64 s.x.hp, .slice s.HA s.x.hs.length s.hc, .slice s.QA s.x.bs.length s.qc, .int .i64 s.x.an, .int .u64 s.x.ai, .int .u64 s.x.sq, .slice s.PA s.x.ps.length s.pc]] W fun e W' => e = .returned (.bool true) ∧ ∃ C2 m2, Two W' (b :: C2) C2 x y b c m2 m2 ∧ (m2.good ∧ m2.wf) ∧ (∀ j ∈ b :: C2, w.heap.size < j) ∧ BoxAt W' w.heap.size #[.int .i64 q.1, .int .u64 q.2] 24 ∧ Below w.heap.size w W') := hide (fun W hW => by
            have hWw : Below w.heap.size w W := HBW.out.trans (hW.mono HBW.out.size)
            have hC0 : ∀ j ∈ b :: C, w.heap.size ≤ j := fun j hj => Nat.le_of_lt (HC.out j hj)
            refine (step16_s W s ⟨HT.out.below hW, HGW.out.1, HGW.out.2, ro_old16 hrd.n hWw hC0, ro_old16 hrd.b hWw hC0, ro_old16 hrd.p.h hWw hC0, ro_old16 hrd.p.b hWw hC0, ro_old16 hrd.p.p hWw hC0, hrd.p.f, hrd.now0, hrd.now1, hrd.wn, hrd.wb, q1, q2, q3, q4, q5⟩).mono ?_
            rintro e W' ⟨m2, ⟨C2, rfl, ht2, htr⟩, hg2, hw2⟩
            haveI : Stp wr W := ⟨hW⟩
            have hbx : BoxAt W w.heap.size #[.int .i64 q.1, .int .u64 q.2] 24 := inferInstance
            have hzz := hWw.size
            have hzl := hbx.lt
            exact ⟨rfl, C2, m2, ht2, ⟨hg2, hw2⟩, fun j hj => by
              rcases htr.n j hj with h1 | h1
              · exact HC.out j h1
              · omega, (htr.box hbx (fun hm => Nat.lt_irrefl _ (HC.out _ hm))).1, hWw.trans (htr.g.below hzz hC0)⟩)
          have i0 : (0 : Int) ≤ (k : Int) := by omega
          have i1 : (k : Int) < (l.length : Int) := by omega
          clear hs hsm hrd hcl q1 q2 q3 q4 q5
          go_wp2_with first
            | (go_at_call 9; (with_reducible refine (TS.out _ (by exact blw)).mono ?_); rintro e w6 ⟨rfl, C2, m2, ht2, hgw2, hc2, hbx2, hbw2⟩; haveI := hbx2; haveI : Blw w w6 := ⟨hbw2⟩; have HT2 := hide ht2; have HGW2 := hide hgw2; have HC2 := hide hc2; clear ht2 hgw2 hc2 hbw2 hbx2)
            | (go_at_call 8; (with_reducible refine (stands16_s _ (HT2.out.below (by exact blw)).e (HT2.out.below (by exact blw)).r).mono ?_); rintro e w7 ⟨rfl, hb7⟩; haveI : Stp _ w7 := ⟨hb7⟩; clear hb7)
          go_roundw
          case rel => exact ⟨k + 1, C2, m2, by omega, by go_num, HT2.out.below blw, HGW2.out, HC2.out, inferInstance, blw⟩
          case measure => simp [intOf]; omega
        · have hke : k = l.length := by omega
          subst hke
          go_wp2_with (go_at_call 5; (with_reducible refine (awake16_t _).mono ?_); rintro e w9 ⟨rfl, hb9⟩; haveI : Stp _ w9 := ⟨hb9⟩; clear hb9)
          go_ret
          exact ⟨rfl, blw⟩
    · have hno : mayB q.1 q.2 = true → 34359738367 < q.2 := fun h => by
        rcases Classical.not_and_iff_not_or_not.1 hok with h1 | h1
        · exact absurd h h1
        · omega
      have TN := hide (fun W => new_no q.1 q.2 W hno)
      have TR := hide (fun W => new16r_no q.1 q.2 W (by have := HQ.out; unfold wfP at this; omega) hno)
      clear hok hno
      go_enter Tryz.func3, Tryz.ntmps3
      go_wp2_with first
        | (go_at_call 4; (with_reducible refine TF.out.mono ?_); rintro e w2 ⟨rfl, hb2⟩; haveI : Stp _ w2 := ⟨hb2⟩; clear hb2)
        | (go_at_call 6; (with_reducible refine (TN.out _).mono ?_); rintro e w3 ⟨rfl, hb3⟩; haveI : Stp _ w3 := ⟨hb3⟩; clear hb3)
        | (go_at_call 7; (with_reducible refine (TR.out _).mono ?_); rintro e w4 ⟨rfl, hb4⟩; haveI : Stp _ w4 := ⟨hb4⟩; clear hb4)
        | (go_at_call 5; (with_reducible refine (awake16_t _).mono ?_); rintro e w9 ⟨rfl, hb9⟩; haveI : Stp _ w9 := ⟨hb9⟩; clear hb9)
      go_ret
      exact ⟨rfl, blw⟩
end Go.Proofs.YtniogmefbjfoaaaGreat
