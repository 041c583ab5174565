/-
  RoundRises answers true.
-/
import Derived.Test.YtfddiklhjkjipaaGreatAw8
import Derived.Test.YtfddiklhjkjipaaGreatRs8
import Derived.Deep.CutBlock
namespace Go.Proofs.YtfddiklhjkjipaaGreat
set_option linter.unusedSimpArgs false
set_option linter.unusedVariables false
set_option linter.unusedSectionVars false
open Go.RowKit

theorem tmod4 (x : Int) : 0 ≤ (x.tmod 4 + 4) % 4 ∧ (x.tmod 4 + 4) % 4 ≤ 3 ∧ -3 ≤ x.tmod 4 ∧ x.tmod 4 ≤ 3 := by
  have h : -3 ≤ x.tmod 4 ∧ x.tmod 4 ≤ 3 := by
    rcases Int.le_total 0 x with h | h
    · rw [Int.tmod_eq_emod_of_nonneg h]; omega
    · rw [show x = -(-x) by omega, Int.neg_tmod, Int.tmod_eq_emod_of_nonneg (show 0 ≤ -x by omega)]; omega
  omega
/-- what comes of an act -/
def stepX (a : Ag) (k : Int) (x : Ax) : Ag × Tu := if k = 0 then renewP a x.ss x.cl else if k = 3 then renewP a x.ss a.cl else takeP a x.pp
theorem stepX_grown {a : Ag} {k : Int} {x : Ax} (h : a.Inv) (hx : clOk x.cl) (hp : ppOk x.pp) : ∃ K, Grown a K (stepX a k x) := by
  unfold stepX
  split
  · exact ⟨_, renew_grown h x.ss hx⟩
  · split
    · exact ⟨_, renew_grown h x.ss h.cw⟩
    · exact (take_grown h hp).1
theorem stepX_again {a : Ag} {k : Int} {x : Ax} (h : a.Inv) (hp : ppOk x.pp) (h0 : k ≠ 0) (h3 : k ≠ 3) : takeP (stepX a k x).1 x.pp = ((stepX a k x).1, tu0) := by
  unfold stepX
  rw [if_neg h0, if_neg h3]
  exact take_again h hp
theorem setB_nn {l : List Pr} (h : setB l = true) : ∀ p ∈ l, 0 ≤ p.2 := by
  intro p hp
  obtain ⟨i, hi, e⟩ := List.mem_iff_getElem.1 hp
  unfold setB at h
  have h1 := List.all_eq_true.1 h i (List.mem_range.2 hi)
  unfold okAt at h1
  simp only [Bool.and_eq_true] at h1
  have h2 := h1.1
  rw [List.getD_eq_getElem?_getD, List.getElem?_eq_getElem hi, e] at h2
  simp only [Option.getD_some, mayB, decide_eq_true_eq] at h2
  omega
theorem mineP_br (a : Ag) : mineP a.br = (mineP a).map Pp.br := List.find?_map ..
set_option maxRecDepth 100000 in
set_option maxHeartbeats 16000000 in
set_option synthInstance.maxSize 1000 in
theorem roundRises_true (q : Pr) (A : Option Addr) (c : Nat) (l : List Ax) (w : World) (hl : l.length ≤ 9223372036854775807) (h : Reads w w.heap.size 10 A l.length (axs l)) (hx : ∀ x ∈ l, AxRd w x) :
    Calls Tryz.prog 4 #[.agg #[.int .i64 q.1, .int .u64 q.2], .slice A l.length c] w (RetB w true) := by
  have TA := hide (fun W => awake18_t W)
  have TH := hide (fun W h => heavy18_s A c l W h hl)
  haveI : Src w A l.length 10 (axs l) := ⟨h⟩
  have HX := hide hx
  clear h hx
  cases hh : heavyB l
  · have TH := hide (fun W h => (by have := TH.out W h; rw [hh] at this; exact this : Calls Tryz.prog 16 #[.slice A l.length c] W (RetB W false)))
    have h60 : l.length ≤ 60 := by
      unfold heavyB at hh
      simp only [Bool.or_eq_false_iff, decide_eq_false_iff_not] at hh
      omega
    have HHV := hide (show ∀ x ∈ l, heavy1 x = false from fun x hx => by
      unfold heavyB at hh
      simp only [Bool.or_eq_false_iff] at hh
      have := List.any_eq_false.1 hh.2 x hx
      simpa using this)
    clear hh
    have TN := hide (fun W => @new18_s (avo []) q.1 q.2 W (by intro i hi; cases hi))
    go_enter Tryz.func4, Tryz.ntmps4
    go_wp2_with fail
    (with_reducible refine (TH.out _ src).mono ?_)
    rintro e w2 ⟨rfl, hb2⟩
    haveI : Stp _ w2 := ⟨hb2⟩
    have z2 := hb2.size
    simp at z2
    haveI : LtN w.heap.size w2.heap.size := ⟨by omega⟩
    clear hb2
    go_wp2_with fail
    (with_reducible refine (TN.out _).mono ?_)
    rintro e w3 ⟨a0, ha0, rfl, hok, hb3⟩
    haveI : Stp _ w3 := ⟨hb3⟩
    have z3 := hb3.size
    haveI : LtN w.heap.size w3.heap.size := ⟨by omega⟩
    have HA0 := hide ha0
    have HOK := hide (hok.over (D' := [w3.heap.size]) ⟨.of (Below.refl _ _), fun i hi => by simp at hi; right; omega⟩)
    clear ha0 hok hb3 TN TH
    have HSELF := hide (show BoxAt w3 w.heap.size #[.int .i64 q.1, .int .u64 q.2] 25 from inferInstance)
    go_wp2_with fail
    go_loopw [6] (fun s6 wx => ∃ (m : Nat) (a : Ag), s6 = .int .i64 m ∧ m ≤ l.length ∧ BoxAt wx w3.heap.size a.cs 38 ∧ @Ag.Ok (avo [w3.heap.size]) wx a ∧ a.br.Inv ∧ a.br.sv = q ∧ Below w3.heap.size w3 wx) (fun s6 _ => l.length - (intOf s6).toNat)
    case atStart => exact ⟨0, a0, rfl, Nat.zero_le _, inferInstance, HOK.out.over (.bel blw), by rw [HA0.out]; exact new_inv _ _, by rw [HA0.out]; rfl, blw⟩
    case round =>
      obtain ⟨m, a, rfl, hm, hbx, hok, hinv, hsv, hB⟩ := hrel
      haveI := hbx
      haveI : Blw w3 wr := ⟨hB⟩
      haveI : Blw w wr := ⟨(blw (a := w) (W := w3)).trans (hB.mono (blw (a := w) (W := w3)).size)⟩
      have HOKA := hide hok
      have HIA := hide hinv
      have HSA := hide hsv
      have HBA := hide hB
      have zr := hB.size
      clear hok hinv hsv
      by_cases hlt : m < l.length
      · obtain ⟨b, off, x, hA, hb, hxm, g0, g1, g2, g3, g4, g5, g6, g7, g8, g9⟩ := (((src (w := w) (W := w3) (A := A) (n := l.length) (k := 10) (xs := axs l)).below hB).more zr).atX hlt
        subst hA
        haveI : InW b wr := ⟨hb⟩
        have HXM := hide hxm
        have HXR := hide (HX.out x (List.mem_of_getElem? hxm))
        have i0 : (0 : Int) ≤ (m : Int) := by omega
        have i1 : (m : Int) < (l.length : Int) := by omega
        have hT := tmod4 x.w
        clear hxm
        have hv1 := HHV.out x (List.mem_of_getElem? HXM.out)
        unfold heavy1 at hv1
        simp only [Bool.or_eq_false_iff, decide_eq_false_iff_not] at hv1
        obtain ⟨v1, v2, v3, v4, v5⟩ := hv1
        have hacl : a.cl.length ≤ 1000000 := by obtain ⟨o, _⟩ := HOKA.out; obtain ⟨_, _, _, h4, _⟩ := o; exact h4
        have hn5 := hbx.lt
        have HTR := hide (fun W (hb : Below (wr.heap.size) wr W) => (show Tr [w3.heap.size] [w3.heap.size, wr.heap.size + 1, wr.heap.size + 1 + 1] wr W from ⟨.of hb, fun i hi => by simp at hi ⊢; omega⟩))
        have HDD := hide (fun W (hb : Blw (((wr.alloc (.cells #[.int .i64 x.w, .slice x.SA x.ss.length x.sc, .slice x.LA x.cl.length x.lc, .int .i64 x.pp.n, .int .u64 x.pp.i, .int .u64 x.pp.rd, .slice x.pp.SA x.pp.ss.length x.pp.sc, .slice x.pp.CA x.pp.cs.length x.pp.cc, .slice x.pp.UA x.pp.us.length x.pp.uc, .int .i64 x.nd] 56)).alloc (.cells #[.slice none 0 0, .bool false, .int .i64 0, .int .u64 0, .int .u64 0, .slice none 0 0, .slice none 0 0, .slice none 0 0, .bool false, .int .u64 0, .int .i64 0, .int .u64 0, .slice none 0 0, .slice none 0 0] 43)).alloc (.cells a.cs 38)) W) => (show ∀ i ∈ [w3.heap.size, wr.heap.size + 1, wr.heap.size + 1 + 1], i < W.heap.size from fun i hi => by have := hb.size; simp at hi this; omega))
        have HPX := hide (fun W (hb : Below wr.heap.size wr W) => (by
          have r1 : w3.heap.size ≤ wr.heap.size := zr
          have h1 : ∀ (k n : Nat) (A : Option Addr) (xs : List Value), Reads w w.heap.size k A n xs → RO W [w3.heap.size, wr.heap.size + 1, wr.heap.size + 1 + 1] k A n xs := fun k n A xs hr => .old (B := w.heap.size) ((hr.below (blw (a := w) (W := wr))).below (hb.mono (blw (a := w) (W := wr)).size)) (Nat.le_trans (blw (a := w) (W := wr)).size hb.size) (fun i hi => by have := (blw (a := w) (W := w3)).size; simp at hi; omega)
          exact @PpO.mk (avo [w3.heap.size, wr.heap.size + 1, wr.heap.size + 1 + 1]) _ _ _ (h1 _ _ _ _ HXR.out.ps) (by omega) (h1 _ _ _ _ HXR.out.pc) (by omega) (h1 _ _ _ _ HXR.out.pu) (by omega) : @PpO (avo [w3.heap.size, wr.heap.size + 1, wr.heap.size + 1 + 1]) W [] x.pp))
        go_upto_block 2 with fail
        generalize hk : (x.w.tmod 4 + 4) % 4 = k
        have HK := hide (show 0 ≤ k ∧ k ≤ 3 by rw [← hk]; exact ⟨hT.1, hT.2.1⟩)
        clear hk hT
        go_cut [44] (fun s44 wx => ∃ (bb : Ag) (u : Tu), BoxAt wx (wr.heap.size + 1 + 1) bb.cs 38 ∧ BoxAt wx (wr.heap.size + 1) u.cs 43 ∧ BoxAt wx wr.heap.size #[.int .i64 x.w, .slice x.SA x.ss.length x.sc, .slice x.LA x.cl.length x.lc, .int .i64 x.pp.n, .int .u64 x.pp.i, .int .u64 x.pp.rd, .slice x.pp.SA x.pp.ss.length x.pp.sc, .slice x.pp.CA x.pp.cs.length x.pp.cc, .slice x.pp.UA x.pp.us.length x.pp.uc, .int .i64 x.nd] 56 ∧ @Ag.Ok (avo [w3.heap.size, wr.heap.size + 1, wr.heap.size + 1 + 1]) wx bb ∧ @Tu.Ok (avo [w3.heap.size, wr.heap.size + 1, wr.heap.size + 1 + 1]) wx u ∧ bb.br = (stepX a.br k x).1 ∧ u.br = (stepX a.br k x).2 ∧ Below wr.heap.size wr wx)
        case first =>
          cases hk0 : (k == 0)
          · cases hk3 : (k == 3)
            · have HSX := hide (show stepX a.br k x = takeP a.br x.pp by unfold stepX; rw [if_neg (by simpa using hk0), if_neg (by simpa using hk3)])
              have TTK := hide (fun W (h : @Ag.Ok (avo [w3.heap.size, wr.heap.size + 1, wr.heap.size + 1 + 1]) W a) (hD : ∀ i ∈ [w3.heap.size, wr.heap.size + 1, wr.heap.size + 1 + 1], i < W.heap.size) (hp : @PpO (avo [w3.heap.size, wr.heap.size + 1, wr.heap.size + 1 + 1]) W [] x.pp) => take18_s [w3.heap.size, wr.heap.size + 1, wr.heap.size + 1 + 1] a x.pp W h hD HIA.out hp HXR.out.pp)
              go_wp2_with fail
              (with_reducible refine (TTK.out _ ?_ ?_ ?_).mono ?_)
              · exact HOKA.out.over (HTR.out _ blw)
              · exact HDD.out _ inferInstance
              · exact HPX.out _ blw
              rintro e w5 ⟨bb, u, hbb, hu, rfl, hbo, huo, hb5⟩
              haveI : Stp _ w5 := ⟨hb5⟩
              have HBB := hide hbb
              have HUU := hide hu
              have HBO := hide hbo
              have HUO := hide huo
              have z5 := (blw (a := wr) (W := w5)).size
              clear hbb hu hbo huo hb5
              have hk9 : BoxAt w5 (wr.heap.size + 1 + 1) _ 38 := inferInstance
              have hk8 : BoxAt w5 (wr.heap.size + 1) _ 43 := inferInstance
              have hk7 : BoxAt w5 wr.heap.size #[.int .i64 x.w, .slice x.SA x.ss.length x.sc, .slice x.LA x.cl.length x.lc, .int .i64 x.pp.n, .int .u64 x.pp.i, .int .u64 x.pp.rd, .slice x.pp.SA x.pp.ss.length x.pp.sc, .slice x.pp.CA x.pp.cs.length x.pp.cc, .slice x.pp.UA x.pp.us.length x.pp.uc, .int .i64 x.nd] 56 := inferInstance
              go_wp2_with fail
              obtain ⟨w91, e91, b91, g91⟩ := stored14 hk9 (.int .i64 bb.n) (.int .u64 bb.i) (.int .u64 bb.rd) (.slice bb.SA bb.ss.length bb.sc) (.slice bb.LA bb.cl.length bb.lc) (.slice bb.TA bb.td.length bb.tc) (.slice bb.GA bb.gt.length bb.gc) (.bool bb.dn) (.bool bb.sp) (.int .u64 bb.vw.r) (.int .i64 bb.vw.n) (.int .u64 bb.vw.i) (.slice bb.vw.MA bb.vw.ms.length bb.vw.mc) (.slice bb.vw.UA bb.vw.us.length bb.vw.uc)
              rw [← e91]
              obtain ⟨w92, e92, b92, g92⟩ := stored14 (hk8.grs g91 (by first | (simp; done) | (simp; omega) | (intro i hi; simp at hi ⊢; omega))) (.slice u.A u.ts.length u.c) (.bool u.sd) (.int .i64 u.pp.n) (.int .u64 u.pp.i) (.int .u64 u.pp.rd) (.slice u.pp.SA u.pp.ss.length u.pp.sc) (.slice u.pp.CA u.pp.cs.length u.pp.cc) (.slice u.pp.UA u.pp.us.length u.pp.uc) (.bool u.md) (.int .u64 u.vw.r) (.int .i64 u.vw.n) (.int .u64 u.vw.i) (.slice u.vw.MA u.vw.ms.length u.vw.mc) (.slice u.vw.UA u.vw.us.length u.vw.uc)
              rw [← e92]
              go_meet
              case rel => exact ⟨bb, u, b91.grs g92 (by first | (simp; done) | (simp; omega) | (intro i hi; simp at hi ⊢; omega)), b92, (hk7.grs g91 (by first | (simp; done) | (simp; omega) | (intro i hi; simp at hi ⊢; omega))).grs g92 (by first | (simp; done) | (simp; omega) | (intro i hi; simp at hi ⊢; omega)), HBO.out.over ⟨(gr_two g91 g92).mono' (by first | (simp; done) | (simp; omega) | (intro i hi; simp at hi ⊢; omega)), fun i hi => .inl hi⟩, HUO.out.over ⟨(gr_two g91 g92).mono' (by first | (simp; done) | (simp; omega) | (intro i hi; simp at hi ⊢; omega)), fun i hi => .inl hi⟩, by rw [HBB.out, HSX.out], by rw [HUU.out, HSX.out], (blw (a := wr) (W := w5)).trans ((gr_two g91 g92).below z5 (by first | (simp; done) | (simp; omega) | (intro i hi; simp at hi ⊢; omega)))⟩
            · have HSX := hide (show stepX a.br k x = renewP a.br x.ss a.br.cl by unfold stepX; rw [if_neg (by simpa using hk0), if_pos (by simpa using hk3)])
              have TRN := hide (fun W (h : @Ag.Ok (avo [w3.heap.size, wr.heap.size + 1, wr.heap.size + 1 + 1]) W a) (hD : ∀ i ∈ [w3.heap.size, wr.heap.size + 1, wr.heap.size + 1 + 1], i < W.heap.size) (hS : Reads W W.heap.size 2 x.SA x.ss.length (pcs x.ss)) (hL : Reads W W.heap.size 6 a.LA a.cl.length (ccs a.cl)) => (by exact renew_s [w3.heap.size, wr.heap.size + 1, wr.heap.size + 1 + 1] a x.SA x.sc x.ss a.LA a.lc a.cl W h hD HIA.out hS (by omega) hL (by omega) HIA.out.cw : Calls Tryz.prog 12 #[a.v, .slice x.SA x.ss.length x.sc, .agg #[.slice a.LA a.cl.length a.lc]] W (RetAT [w3.heap.size, wr.heap.size + 1, wr.heap.size + 1 + 1] W (renewP a.br x.ss a.cl))))
              go_wp2_with fail
              (with_reducible refine (TRN.out _ ?_ ?_ ?_ ?_).mono ?_)
              · exact HOKA.out.over (HTR.out _ blw)
              · exact HDD.out _ inferInstance
              · exact (HXR.out.s.below (blw (a := w))).more (blw (a := w)).size
              · exact ((HOKA.out.over (HTR.out _ blw)).rdD).c
              rintro e w5 ⟨bb, u, hbb, hu, rfl, hbo, huo, hb5⟩
              haveI : Stp _ w5 := ⟨hb5⟩
              have HBB := hide hbb
              have HUU := hide hu
              have HBO := hide hbo
              have HUO := hide huo
              have z5 := (blw (a := wr) (W := w5)).size
              clear hbb hu hbo huo hb5
              have hk9 : BoxAt w5 (wr.heap.size + 1 + 1) _ 38 := inferInstance
              have hk8 : BoxAt w5 (wr.heap.size + 1) _ 43 := inferInstance
              have hk7 : BoxAt w5 wr.heap.size #[.int .i64 x.w, .slice x.SA x.ss.length x.sc, .slice x.LA x.cl.length x.lc, .int .i64 x.pp.n, .int .u64 x.pp.i, .int .u64 x.pp.rd, .slice x.pp.SA x.pp.ss.length x.pp.sc, .slice x.pp.CA x.pp.cs.length x.pp.cc, .slice x.pp.UA x.pp.us.length x.pp.uc, .int .i64 x.nd] 56 := inferInstance
              go_wp2_with fail
              obtain ⟨w91, e91, b91, g91⟩ := stored14 hk9 (.int .i64 bb.n) (.int .u64 bb.i) (.int .u64 bb.rd) (.slice bb.SA bb.ss.length bb.sc) (.slice bb.LA bb.cl.length bb.lc) (.slice bb.TA bb.td.length bb.tc) (.slice bb.GA bb.gt.length bb.gc) (.bool bb.dn) (.bool bb.sp) (.int .u64 bb.vw.r) (.int .i64 bb.vw.n) (.int .u64 bb.vw.i) (.slice bb.vw.MA bb.vw.ms.length bb.vw.mc) (.slice bb.vw.UA bb.vw.us.length bb.vw.uc)
              rw [← e91]
              obtain ⟨w92, e92, b92, g92⟩ := stored14 (hk8.grs g91 (by first | (simp; done) | (simp; omega) | (intro i hi; simp at hi ⊢; omega))) (.slice u.A u.ts.length u.c) (.bool u.sd) (.int .i64 u.pp.n) (.int .u64 u.pp.i) (.int .u64 u.pp.rd) (.slice u.pp.SA u.pp.ss.length u.pp.sc) (.slice u.pp.CA u.pp.cs.length u.pp.cc) (.slice u.pp.UA u.pp.us.length u.pp.uc) (.bool u.md) (.int .u64 u.vw.r) (.int .i64 u.vw.n) (.int .u64 u.vw.i) (.slice u.vw.MA u.vw.ms.length u.vw.mc) (.slice u.vw.UA u.vw.us.length u.vw.uc)
              rw [← e92]
              go_meet
              case rel => exact ⟨bb, u, b91.grs g92 (by first | (simp; done) | (simp; omega) | (intro i hi; simp at hi ⊢; omega)), b92, (hk7.grs g91 (by first | (simp; done) | (simp; omega) | (intro i hi; simp at hi ⊢; omega))).grs g92 (by first | (simp; done) | (simp; omega) | (intro i hi; simp at hi ⊢; omega)), HBO.out.over ⟨(gr_two g91 g92).mono' (by first | (simp; done) | (simp; omega) | (intro i hi; simp at hi ⊢; omega)), fun i hi => .inl hi⟩, HUO.out.over ⟨(gr_two g91 g92).mono' (by first | (simp; done) | (simp; omega) | (intro i hi; simp at hi ⊢; omega)), fun i hi => .inl hi⟩, by rw [HBB.out, HSX.out]; rfl, by rw [HUU.out, HSX.out]; rfl, (blw (a := wr) (W := w5)).trans ((gr_two g91 g92).below z5 (by first | (simp; done) | (simp; omega) | (intro i hi; simp at hi ⊢; omega)))⟩
          · have HSX := hide (show stepX a.br k x = renewP a.br x.ss x.cl by unfold stepX; rw [if_pos (by simpa using hk0)])
            have TRN := hide (fun W (h : @Ag.Ok (avo [w3.heap.size, wr.heap.size + 1, wr.heap.size + 1 + 1]) W a) (hD : ∀ i ∈ [w3.heap.size, wr.heap.size + 1, wr.heap.size + 1 + 1], i < W.heap.size) (hS : Reads W W.heap.size 2 x.SA x.ss.length (pcs x.ss)) (hL : Reads W W.heap.size 6 x.LA x.cl.length (ccs x.cl)) => (by exact renew_s [w3.heap.size, wr.heap.size + 1, wr.heap.size + 1 + 1] a x.SA x.sc x.ss x.LA x.lc x.cl W h hD HIA.out hS (by omega) hL (by omega) HXR.out.cl : Calls Tryz.prog 12 #[a.v, .slice x.SA x.ss.length x.sc, .agg #[.slice x.LA x.cl.length x.lc]] W (RetAT [w3.heap.size, wr.heap.size + 1, wr.heap.size + 1 + 1] W (renewP a.br x.ss x.cl))))
            go_wp2_with fail
            (with_reducible refine (TRN.out _ ?_ ?_ ?_ ?_).mono ?_)
            · exact HOKA.out.over (HTR.out _ blw)
            · exact HDD.out _ inferInstance
            · exact (HXR.out.s.below (blw (a := w))).more (blw (a := w)).size
            · exact (HXR.out.l.below (blw (a := w))).more (blw (a := w)).size
            rintro e w5 ⟨bb, u, hbb, hu, rfl, hbo, huo, hb5⟩
            haveI : Stp _ w5 := ⟨hb5⟩
            have HBB := hide hbb
            have HUU := hide hu
            have HBO := hide hbo
            have HUO := hide huo
            have z5 := (blw (a := wr) (W := w5)).size
            clear hbb hu hbo huo hb5
            have hk9 : BoxAt w5 (wr.heap.size + 1 + 1) _ 38 := inferInstance
            have hk8 : BoxAt w5 (wr.heap.size + 1) _ 43 := inferInstance
            have hk7 : BoxAt w5 wr.heap.size #[.int .i64 x.w, .slice x.SA x.ss.length x.sc, .slice x.LA x.cl.length x.lc, .int .i64 x.pp.n, .int .u64 x.pp.i, .int .u64 x.pp.rd, .slice x.pp.SA x.pp.ss.length x.pp.sc, .slice x.pp.CA x.pp.cs.length x.pp.cc, .slice x.pp.UA x.pp.us.length x.pp.uc, .int .i64 x.nd] 56 := inferInstance
            go_wp2_with fail
            obtain ⟨w91, e91, b91, g91⟩ := stored14 hk9 (.int .i64 bb.n) (.int .u64 bb.i) (.int .u64 bb.rd) (.slice bb.SA bb.ss.length bb.sc) (.slice bb.LA bb.cl.length bb.lc) (.slice bb.TA bb.td.length bb.tc) (.slice bb.GA bb.gt.length bb.gc) (.bool bb.dn) (.bool bb.sp) (.int .u64 bb.vw.r) (.int .i64 bb.vw.n) (.int .u64 bb.vw.i) (.slice bb.vw.MA bb.vw.ms.length bb.vw.mc) (.slice bb.vw.UA bb.vw.us.length bb.vw.uc)
            rw [← e91]
            obtain ⟨w92, e92, b92, g92⟩ := stored14 (hk8.grs g91 (by first | (simp; done) | (simp; omega) | (intro i hi; simp at hi ⊢; omega))) (.slice u.A u.ts.length u.c) (.bool u.sd) (.int .i64 u.pp.n) (.int .u64 u.pp.i) (.int .u64 u.pp.rd) (.slice u.pp.SA u.pp.ss.length u.pp.sc) (.slice u.pp.CA u.pp.cs.length u.pp.cc) (.slice u.pp.UA u.pp.us.length u.pp.uc) (.bool u.md) (.int .u64 u.vw.r) (.int .i64 u.vw.n) (.int .u64 u.vw.i) (.slice u.vw.MA u.vw.ms.length u.vw.mc) (.slice u.vw.UA u.vw.us.length u.vw.uc)
            rw [← e92]
            go_meet
            case rel => exact ⟨bb, u, b91.grs g92 (by first | (simp; done) | (simp; omega) | (intro i hi; simp at hi ⊢; omega)), b92, (hk7.grs g91 (by first | (simp; done) | (simp; omega) | (intro i hi; simp at hi ⊢; omega))).grs g92 (by first | (simp; done) | (simp; omega) | (intro i hi; simp at hi ⊢; omega)), HBO.out.over ⟨(gr_two g91 g92).mono' (by first | (simp; done) | (simp; omega) | (intro i hi; simp at hi ⊢; omega)), fun i hi => .inl hi⟩, HUO.out.over ⟨(gr_two g91 g92).mono' (by first | (simp; done) | (simp; omega) | (intro i hi; simp at hi ⊢; omega)), fun i hi => .inl hi⟩, by rw [HBB.out, HSX.out], by rw [HUU.out, HSX.out], (blw (a := wr) (W := w5)).trans ((gr_two g91 g92).below z5 (by first | (simp; done) | (simp; omega) | (intro i hi; simp at hi ⊢; omega)))⟩
        case rest =>
          obtain ⟨bb, u, hb9, hb8, hb7, hbo, huo, e1, e2, hB2⟩ := hcut
          obtain ⟨w5, hw5⟩ : ∃ w5, w5 = wc := ⟨_, rfl⟩
          subst hw5
          haveI := hb9
          haveI := hb8
          haveI := hb7
          haveI : BoxAt wr w.heap.size #[.int .i64 q.1, .int .u64 q.2] 25 := @BoxAt.stp w3 wr _ _ _ ⟨HBA.out⟩ HSELF.out
          haveI : Stp wr w5 := ⟨hB2⟩
          have zc := hB2.size
          have l9 := hb9.lt
          have HBO := hide hbo
          have HE1 := hide e1
          have HB2 := hide hB2
          have l5 := (show BoxAt w5 w3.heap.size a.cs 38 from inferInstance).lt
          have HD5 := hide (show ∀ i ∈ [w3.heap.size, wr.heap.size + 1, wr.heap.size + 1 + 1], i < w5.heap.size from fun i hi => by simp at hi; omega)
          obtain ⟨K, hG⟩ := stepX_grown (k := k) (x := x) HIA.out HXR.out.cl HXR.out.pp
          have HINV := hide (show bb.br.Inv from by rw [e1]; exact hG.inv)
          have HSV := hide (show bb.sv = q from by have := hG.sv; rw [← e1] at this; exact this.trans HSA.out)
          have HRD := hide (show a.rd ≤ bb.rd from by have := hG.rd; rw [← e1] at this; exact this)
          have HMD := hide (show u.md = true → bb.dn = true ∧ u.vw.r = bb.rd from by have := hG.md; rw [← e1, ← e2] at this; exact this)
          have HSD := hide (show u.sd = true → u.pp.rd = bb.rd ∧ u.pp.sv = bb.sv from by have := hG.sd; rw [← e1, ← e2] at this; exact this)
          clear hbo huo e1 e2 hG hB2 l9 l5 hb9 hb8 hb7
          go_upto_region 17 with fail
          go_cut [107] (fun s107 wx => s107 = .bool false ∧ wx = w5)
          case first =>
            as_aux_lemma =>
            have hr : decide (bb.rd < a.rd) = false := decide_eq_false (by have := HRD.out; omega)
            cases hm : u.md <;> cases hs : u.sd
            · go_wp2_with fail
              go_meet
              case rel => exact ⟨rfl, rfl⟩
            · have hp1 : u.pp.rd = bb.rd := (HSD.out hs).1
              have hp2 : eqP u.pp.n u.pp.i q.1 q.2 = true := eqP_iff.2 ((HSD.out hs).2.trans HSV.out)
              go_wp2_with fail
              go_meet
              case rel => exact ⟨rfl, rfl⟩
            · have hd : bb.dn = true := (HMD.out hm).1
              have hv : u.vw.r = bb.rd := (HMD.out hm).2
              go_wp2_with fail
              go_meet
              case rel => exact ⟨rfl, rfl⟩
            · have hp1 : u.pp.rd = bb.rd := (HSD.out hs).1
              have hp2 : eqP u.pp.n u.pp.i q.1 q.2 = true := eqP_iff.2 ((HSD.out hs).2.trans HSV.out)
              have hd : bb.dn = true := (HMD.out hm).1
              have hv : u.vw.r = bb.rd := (HMD.out hm).2
              go_wp2_with fail
              go_meet
              case rel => exact ⟨rfl, rfl⟩
          case rest =>
            obtain ⟨rfl, hwc⟩ := hcut
            replace hwc := hwc.symm
            subst hwc
            go_upto_region 19 with fail
            go_cut [113] (fun s113 wx => s113 = .bool (k == 1 || k == 2) ∧ wx = w5)
            case first =>
              cases hk1 : (k == 1) <;> cases hk2 : (k == 2)
              all_goals
                have HK1 := hide hk1
                have HK2 := hide hk2
                go_wp2_with fail
                go_meet
                case rel => exact ⟨by rw [HK1.out, HK2.out]; rfl, rfl⟩
            case rest =>
              obtain ⟨rfl, hwc⟩ := hcut
              replace hwc := hwc.symm
              subst hwc
              generalize hkt : (k == 1 || k == 2) = kt
              have HKT := hide hkt
              clear hkt
              go_upto_if 113 with fail
              go_cut [] (fun wx => Below w5.heap.size w5 wx)
              case first =>
                cases kt
                · go_wp2_with fail
                  go_meet
                  case rel => exact Below.refl _ _
                · as_aux_lemma =>
                  have hk03 : k ≠ 0 ∧ k ≠ 3 := by
                    have := HKT.out
                    simp only [Bool.or_eq_true, beq_iff_eq] at this
                    omega
                  have HAG := hide (show takeP bb.br x.pp = (bb.br, tu0) from by rw [HE1.out]; exact stepX_again HIA.out HXR.out.pp hk03.1 hk03.2)
                  have TTK := hide (fun W (h : @Ag.Ok (avo [w3.heap.size, wr.heap.size + 1, wr.heap.size + 1 + 1]) W bb) (hD : ∀ i ∈ [w3.heap.size, wr.heap.size + 1, wr.heap.size + 1 + 1], i < W.heap.size) (hp : @PpO (avo [w3.heap.size, wr.heap.size + 1, wr.heap.size + 1 + 1]) W [] x.pp) => (by
                    have := take18_s [w3.heap.size, wr.heap.size + 1, wr.heap.size + 1 + 1] bb x.pp W h hD HINV.out hp HXR.out.pp
                    rw [HAG.out] at this
                    exact this : Calls Tryz.prog 17 #[bb.v, .agg #[.int .i64 x.pp.n, .int .u64 x.pp.i, .int .u64 x.pp.rd, .slice x.pp.SA x.pp.ss.length x.pp.sc, .slice x.pp.CA x.pp.cs.length x.pp.cc, .slice x.pp.UA x.pp.us.length x.pp.uc]] W (RetAT [w3.heap.size, wr.heap.size + 1, wr.heap.size + 1 + 1] W (bb.br, tu0))))
                  have TSM := hide (fun (b2 : Ag) W (h1 : AgR W b2) (h2 : AgR W bb) (e : b2.br = bb.br) => refASame_s b2 bb W h1 h2 e)
                  clear hk03
                  go_wp2_with fail
                  (with_reducible refine (TTK.out _ ?_ ?_ ?_).mono ?_)
                  · exact HBO.out
                  · exact HD5.out
                  · exact HPX.out _ HB2.out
                  rintro e w6 ⟨b2, u2, hb2, hu2, rfl, hbo2, huo2, hb6⟩
                  haveI : Stp _ w6 := ⟨hb6⟩
                  have m1 : u2.md = false := congrArg Tu.md hu2
                  have m2 : u2.sd = false := congrArg Tu.sd hu2
                  have m3 : u2.ts.length = 0 := by have := congrArg (fun t : Tu => t.ts.length) hu2; simpa [Tu.br] using this
                  have HR6 := hide hbo2.rdD
                  have HRB := hide (HBO.out.rdD.step hb6)
                  have HEB := hide hb2
                  clear hbo2 huo2 hb6 hu2 hb2
                  go_wp2_with fail
                  (with_reducible refine (TSM.out b2 _ ?_ ?_ ?_).mono ?_)
                  · exact HR6.out.step blw
                  · exact HRB.out.step blw
                  · exact HEB.out
                  rintro e w7 ⟨rfl, hb7⟩
                  haveI : Stp _ w7 := ⟨hb7⟩
                  go_wp2_with fail
                  go_meet
                  case rel => exact blw
              case rest =>
                obtain ⟨w7, hw7⟩ : ∃ w7, w7 = wc := ⟨_, rfl⟩
                subst hw7
                haveI : Stp w5 w7 := ⟨hcut⟩
                have HB7 := hide hcut
                have z7 := hcut.size
                have hk5 : BoxAt w7 w3.heap.size a.cs 38 := inferInstance
                have hkS : BoxAt w7 w.heap.size #[.int .i64 q.1, .int .u64 q.2] 25 := inferInstance
                clear hcut
                go_upto_region 24 with fail
                obtain ⟨w91, e91, b91, g91⟩ := stored14 hk5 (.int .i64 bb.n) (.int .u64 bb.i) (.int .u64 bb.rd) (.slice bb.SA bb.ss.length bb.sc) (.slice bb.LA bb.cl.length bb.lc) (.slice bb.TA bb.td.length bb.tc) (.slice bb.GA bb.gt.length bb.gc) (.bool bb.dn) (.bool bb.sp) (.int .u64 bb.vw.r) (.int .i64 bb.vw.n) (.int .u64 bb.vw.i) (.slice bb.vw.MA bb.vw.ms.length bb.vw.mc) (.slice bb.vw.UA bb.vw.us.length bb.vw.uc)
                rw [← e91]
                haveI := b91
                haveI : BoxAt w91 w.heap.size #[.int .i64 q.1, .int .u64 q.2] 25 := hkS.grs g91 (by have := LtN.h (a := w.heap.size) (b := w3.heap.size); simp; omega)
                have HO9 := hide (HBO.out.over (D' := [w3.heap.size]) ⟨(Gr.of HB7.out).trans (g91.mono' (by intro i hi; simp at hi ⊢; omega)), by intro i hi; left; simp at hi ⊢; omega⟩)
                have zr3 : w3.heap.size ≤ wr.heap.size := zr
                have HB9 := hide (show Below w3.heap.size w3 w91 from ((HBA.out.trans (HB2.out.mono zr3)).trans (HB7.out.mono (Nat.le_trans zr3 zc))).trans (g91.below (Nat.le_trans zr3 (Nat.le_trans zc z7)) (by intro i hi; simp at hi; omega)))
                have HZ9 := hide (show w3.heap.size ≤ w91.heap.size from HB9.out.size)
                clear e91 g91 hk5 hkS zr3
                cases hmi : mineP bb with
                | none =>
                  as_aux_lemma =>
                  have TMN := hide (fun W (h : @Ag.Ok (avo [w3.heap.size]) W bb) => (by have := @mine_s (avo [w3.heap.size]) bb W h; rw [hmi] at this; exact this : Calls Tryz.prog 19 #[bb.v] W (RetMn W none)))
                  clear hmi
                  go_wp2_with fail
                  (with_reducible refine (TMN.out _ HO9.out).mono ?_)
                  rintro e w10 ⟨y, hy, rfl, hyn, hb10⟩
                  haveI : Stp _ w10 := ⟨hb10⟩
                  clear hy hyn hb10
                  go_wp2
                  go_roundw
                  case rel => exact ⟨m + 1, bb, by go_num, by omega, inferInstance, HO9.out.over (.bel blw), HINV.out, HSV.out, HB9.out.trans ((blw (a := w91)).mono HZ9.out)⟩
                  case measure => simp [intOf]; omega
                | some p =>
                  as_aux_lemma =>
                  have TMN := hide (fun W (h : @Ag.Ok (avo [w3.heap.size]) W bb) => (by have := @mine_s (avo [w3.heap.size]) bb W h; rw [hmi] at this; exact this : Calls Tryz.prog 19 #[bb.v] W (RetMn W (some p))))
                  obtain ⟨mo1, mo2, mo3⟩ := mine_of HINV.out (show mineP bb.br = some p.br from by rw [mineP_br, hmi]; rfl)
                  have HMR := hide (show p.rd = bb.rd from mo1)
                  have HMS := hide (show p.sv = q from by have : p.sv = bb.sv := mo2; rw [this, HSV.out])
                  have HMM := hide (show p.mayB = true from mo3)
                  have HR0 := hide (show 0 ≤ bb.rd from HINV.out.r0)
                  have HWF := hide (show ∀ c ∈ p.cs, wfP c from HINV.out.wf p.br (find_mem (show mineP bb.br = some p.br from by rw [mineP_br, hmi]; rfl)).1)
                  clear hmi mo1 mo2 mo3
                  go_wp2_with fail
                  (with_reducible refine (TMN.out _ HO9.out).mono ?_)
                  rintro e w10 ⟨y, hy, rfl, hyn, hb10⟩
                  haveI : Stp _ w10 := ⟨hb10⟩
                  have hy : y.br = p.br := hy
                  have y1 : y.rd = bb.rd := (congrArg Pp.rd hy : y.br.rd = p.br.rd).trans HMR.out
                  have y2 : eqP y.n y.i q.1 q.2 = true := eqP_iff.2 ((congrArg Pp.sv hy : y.br.sv = p.br.sv).trans HMS.out)
                  have TPM := hide (fun W (hb : Below w10.heap.size w10 W) => (by
                    have h1 := refPMay_s y W (hyn.ok.step hb) ⟨by rw [show y.ss = p.ss from (congrArg Pp.ss hy : y.br.ss = p.br.ss)]; exact setB_nn (mayB_facts HMM.out).2.2.1, by rw [show y.cs = p.cs from (congrArg Pp.cs hy : y.br.cs = p.br.cs)]; exact fun c hc => (HWF.out c hc).2.2.1⟩ (by rw [y1]; exact HR0.out)
                    have h2 : y.mayB = true := (congrArg Pp.mayB hy : y.br.mayB = p.br.mayB).trans HMM.out
                    rw [h2] at h1
                    have h3 : y.v = .agg #[.int .i64 y.n, .int .u64 y.i, .int .u64 bb.rd, .slice y.SA y.ss.length y.sc, .slice y.CA y.cs.length y.cc, .slice y.UA y.us.length y.uc] := by unfold Pp.v; rw [y1]
                    rw [h3] at h1
                    exact h1 : Calls Tryz.prog 20 #[.agg #[.int .i64 y.n, .int .u64 y.i, .int .u64 bb.rd, .slice y.SA y.ss.length y.sc, .slice y.CA y.cs.length y.cc, .slice y.UA y.us.length y.uc]] W (RetBp W true)))
                  clear hy hyn hb10
                  go_wp2_with fail
                  (with_reducible refine (TPM.out _ ?_).mono ?_)
                  · exact blw
                  rintro e w11 ⟨rfl, hb11⟩
                  haveI : Stp _ w11 := ⟨hb11⟩
                  clear hb11
                  go_wp2
                  go_roundw
                  case rel => exact ⟨m + 1, bb, by go_num, by omega, inferInstance, HO9.out.over (.bel blw), HINV.out, HSV.out, HB9.out.trans ((blw (a := w91)).mono HZ9.out)⟩
                  case measure => simp [intOf]; omega
      · go_wp2_with fail
        (with_reducible refine (TA.out _).mono ?_)
        rintro e w5 ⟨rfl, hb5⟩
        haveI : Stp _ w5 := ⟨hb5⟩
        go_wp2
        go_ret
        exact ⟨rfl, blw⟩
  · have TH := hide (fun W h => (by have := TH.out W h; rw [hh] at this; exact this : Calls Tryz.prog 16 #[.slice A l.length c] W (RetB W true)))
    go_enter Tryz.func4, Tryz.ntmps4
    go_wp2_with fail
    (with_reducible refine (TH.out _ src).mono ?_)
    rintro e w2 ⟨rfl, hb2⟩
    haveI : Stp _ w2 := ⟨hb2⟩
    go_wp2_with fail
    (with_reducible refine (TA.out _).mono ?_)
    rintro e w3 ⟨rfl, hb3⟩
    haveI : Stp _ w3 := ⟨hb3⟩
    go_wp2
    go_ret
    exact ⟨rfl, blw⟩
end Go.Proofs.YtfddiklhjkjipaaGreat
