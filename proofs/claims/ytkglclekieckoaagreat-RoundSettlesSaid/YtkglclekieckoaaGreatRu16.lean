/-
  Layer 18: contract: Take: what is refused.
-/
import Derived.Test.YtkglclekieckoaaGreatRu12
namespace Go.Proofs.YtkglclekieckoaaGreat
set_option linter.unusedSimpArgs false
set_option linter.unusedVariables false
set_option linter.unusedSectionVars false
open Go.RowKit

def late1 (g p : Pp) : Bool := (g.n == p.n && decide (p.i < g.i)) || (eqP g.n g.i p.n p.i && decide (p.rd ≤ g.rd))
theorem late1_eq (g p : Pp) : late1 g p = ((decide (g.n = p.n) && decide (p.i < g.i)) || (decide (g.sv = p.sv) && decide (p.rd ≤ g.rd))) := by
  unfold late1
  have e1 : (g.n == p.n) = decide (g.n = p.n) := by rw [Bool.eq_iff_iff]; simp
  have e2 : eqP g.n g.i p.n p.i = decide (g.sv = p.sv) := by rw [Bool.eq_iff_iff]; unfold Pp.sv; simp [eqP]
  rw [e1, e2]
theorem lateB_any (L : List Pp) (p : Pp) : lateB L p = L.any fun g => late1 g p := by
  unfold lateB
  congr 1
  funext g
  exact (late1_eq g p).symm
theorem lateB_br (L : List Pp) (p : Pp) : lateB (L.map Pp.br) p = lateB L p := by
  unfold lateB
  rw [List.any_map]
  rfl
def refB (a : Ag) (p : Pp) : Bool := a.sp || (!p.mayB || (p.n == a.n))
theorem rise_of {a : Ag} (h : a.br.Inv) : riseP a.gt := by
  have : (a.gt.map Pp.br).Pairwise (fun x y => x.n < y.n) := h.ri
  rw [List.pairwise_map] at this
  exact this
theorem gl_of {a : Ag} (h : a.br.Inv) : a.gt.length ≤ 4 := rise_len 4 a.gt (rise_of h) (fun p hp => by
  have hm : p.mayB = true := h.mb p.br (List.mem_map.2 ⟨p, hp, rfl⟩)
  obtain ⟨_, _, h3, _, h5, _⟩ := mayB_facts hm
  have h6 := mayB_low hm p.sv h5
  have h7 := setB_may h3 p.sv h5
  unfold Go.Proofs.YtkglclekieckoaaGreat.mayB at h7
  exact ⟨(of_decide_eq_true h7).1, h6⟩)
set_option maxRecDepth 100000 in
set_option maxHeartbeats 16000000 in
theorem take18_r (D : List Nat) (a : Ag) (p : Pp) (w : World) (h : @Ag.Ok (avo D) w a) (hD : ∀ i ∈ D, i < w.heap.size) (hi : a.br.Inv) (hp : @PpO (avo D) w [] p) (hpo : ppOk p) (hm : refB a.br p = true) :
    Calls Tryz.prog 14 #[a.v, .agg #[.int .i64 p.n, .int .u64 p.i, .int .u64 p.rd, .slice p.SA p.ss.length p.sc, .slice p.CA p.cs.length p.cc, .slice p.UA p.us.length p.uc]] w (RetAT D w (takeP a.br p)) := by
  obtain ⟨av, hav⟩ : ∃ av : Avoid, av = avo (D ++ [w.heap.size + 1 + 1, w.heap.size + 1 + 1 + 1]) := ⟨_, rfl⟩
  have TB := hide (fun W (h : a.Ok W) (hD : ∀ i ∈ Avoid.D, i < W.heap.size) => begin_s a W h hD)
  have H := hide h
  have HP := hide hp
  have HAV := hide hav
  have HD := hide hD
  have HI := hide hi
  have HPO := hide hpo
  have HMO := hide hm
  clear hm
  clear h hp hD hi hpo hav
  have htr : ∀ W, Below w.heap.size w W → Tr D (D ++ [w.heap.size + 1 + 1, w.heap.size + 1 + 1 + 1]) w W := fun W hb => ⟨.of hb, fun i hi => by
    rcases List.mem_append.1 hi with h1 | h1
    · exact .inl h1
    · right; simp at h1; omega⟩
  have HOK := hide (fun W (hb : Below w.heap.size w W) => (by rw [HAV.out]; exact H.out.over (htr W hb) : a.Ok W))
  have HPK := hide (fun W (hb : Below w.heap.size w W) => (by rw [HAV.out]; exact HP.out.over (htr W hb) : PpO W [] p))
  have HPW := hide (fun W (hb : Below w.heap.size w W) => (HPK.out W hb).ok)
  have HDD := hide (show ∀ i ∈ Avoid.D, i < w.heap.size + 1 + 1 + 1 + 1 by
    rw [HAV.out]
    intro i hi
    rcases List.mem_append.1 (show i ∈ D ++ [w.heap.size + 1 + 1, w.heap.size + 1 + 1 + 1] from hi) with h1 | h1
    · have := HD.out i h1; omega
    · simp at h1; omega)
  clear htr
  go_enter Tryz.func14, Tryz.ntmps14
  go_wp2_with fail
  (with_reducible refine (TB.out _ ?_ ?_).mono ?_)
  · exact HOK.out _ blw
  · simpa using HDD.out
  rintro e w1 ⟨g, C, b, hbr, rfl, hM, hC, hb1⟩
  haveI : Stp _ w1 := ⟨hb1⟩
  have z1 := hb1.size
  simp at z1 hC
  haveI := hM.bx
  have hgC := hC g hM.gC
  have hgw := hM.bx.lt
  haveI : LtN g w1.heap.size := ⟨hgw⟩
  haveI : LtN (w.heap.size + 1) w1.heap.size := ⟨by omega⟩
  haveI : LtN (w.heap.size + 1 + 1) w1.heap.size := ⟨by omega⟩
  haveI : LtN (w.heap.size + 1 + 1 + 1) w1.heap.size := ⟨by omega⟩
  haveI : NeN (w.heap.size + 1) g := ⟨by omega⟩
  haveI : NeN (w.heap.size + 1 + 1) g := ⟨by omega⟩
  haveI : NeN (w.heap.size + 1 + 1 + 1) g := ⟨by omega⟩
  have HM := hide hM
  have HC := hide hC
  have HIB := hide (show b.br.Inv by rw [hbr]; exact HI.out)
  have HR := hide (show takeP a.br p = takeP b.br p by rw [hbr])
  have HMO := hide (show refB b.br p = true by rw [hbr]; exact HMO.out)
  have TE := hide (fun (C : List Nat) (a : Ag) (t : Tu) W (h : MK W C g a t) => end_s g C a t W h)
  have HNE := hide (show (b.sp || (!p.mayB || (p.n == b.n))) = (b.sp || (!p.mayB || decide (p.n = b.n))) by congr 2)
  have HLB := hide (show lateB b.br.gt p = b.gt.any fun g => late1 g p from (lateB_br b.gt p).trans (lateB_any b.gt p))
  clear hM hC hb1 hbr TB
  obtain ⟨rb, hrb⟩ : ∃ rb, rb = (b.sp || (!p.mayB || (p.n == b.n))) := ⟨_, rfl⟩
  have HRB := hide hrb
  clear hrb
  go_upto_region 2 with fail
  go_cut [32] (fun s32 wx => s32 = .bool rb ∧ Below w1.heap.size w1 wx)
  case first =>
    cases hsp : b.sp
    · cases hmy : p.mayB
      · have HS := hide hsp
        have HY := hide hmy
        have TM := hide (fun W h => (by have := pmay_s p W h; rw [hmy] at this; exact this : Calls Tryz.prog 47 #[.agg #[.int .i64 p.n, .int .u64 p.i, .int .u64 p.rd, .slice p.SA p.ss.length p.sc, .slice p.CA p.cs.length p.cc, .slice p.UA p.us.length p.uc]] W (RetBp W false)))
        clear hmy
        go_wp2_with fail
        (refine wp_region_gw (by kernel_rfl) (by kernel_rfl) ?_; (repeat (go_big_quiet_step ((first | (go_at_call 47; with_reducible exact calls_gw (TM.out _ (HPW.out _ blw))) | fail)))); refine wpQuiet_nil ?_; intro _ hw'; obtain ⟨⟨dq, osq⟩, hw''⟩ := hw'; subst hw'')
        go_wp2_with fail
        go_meet
        case rel => exact ⟨by rw [HRB.out, HS.out, HY.out]; rfl, blw⟩
      · cases hnn : (p.n == b.n)
        · have HS := hide hsp
          have HY := hide hmy
          have HE := hide hnn
          have TM := hide (fun W h => (by have := pmay_s p W h; rw [hmy] at this; exact this : Calls Tryz.prog 47 #[.agg #[.int .i64 p.n, .int .u64 p.i, .int .u64 p.rd, .slice p.SA p.ss.length p.sc, .slice p.CA p.cs.length p.cc, .slice p.UA p.us.length p.uc]] W (RetBp W true)))
          clear hmy
          go_wp2_with fail
          (refine wp_region_gw (by kernel_rfl) (by kernel_rfl) ?_; (repeat (go_big_quiet_step ((first | (go_at_call 47; with_reducible exact calls_gw (TM.out _ (HPW.out _ blw))) | fail)))); refine wpQuiet_nil ?_; intro _ hw'; obtain ⟨⟨dq, osq⟩, hw''⟩ := hw'; subst hw'')
          go_wp2_with fail
          go_meet
          case rel => exact ⟨by rw [HRB.out, HS.out, HY.out, HE.out]; rfl, blw⟩
        · have HS := hide hsp
          have HY := hide hmy
          have HE := hide hnn
          have TM := hide (fun W h => (by have := pmay_s p W h; rw [hmy] at this; exact this : Calls Tryz.prog 47 #[.agg #[.int .i64 p.n, .int .u64 p.i, .int .u64 p.rd, .slice p.SA p.ss.length p.sc, .slice p.CA p.cs.length p.cc, .slice p.UA p.us.length p.uc]] W (RetBp W true)))
          clear hmy
          go_wp2_with fail
          (refine wp_region_gw (by kernel_rfl) (by kernel_rfl) ?_; (repeat (go_big_quiet_step ((first | (go_at_call 47; with_reducible exact calls_gw (TM.out _ (HPW.out _ blw))) | fail)))); refine wpQuiet_nil ?_; intro _ hw'; obtain ⟨⟨dq, osq⟩, hw''⟩ := hw'; subst hw'')
          go_wp2_with fail
          go_meet
          case rel => exact ⟨by rw [HRB.out, HS.out, HY.out, HE.out]; rfl, blw⟩
    · have HS := hide hsp
      go_wp2_with fail
      (refine wp_region_gw (by kernel_rfl) (by kernel_rfl) ?_; (repeat (go_big_quiet_step ((fail)))); refine wpQuiet_nil ?_; intro _ hw'; obtain ⟨⟨dq, osq⟩, hw''⟩ := hw'; subst hw'')
      go_wp2_with fail
      go_meet
      case rel => exact ⟨by rw [HRB.out, HS.out]; rfl, blw⟩
  case rest =>
    obtain ⟨rfl, hBc⟩ := hcut
    haveI : Stp w1 wc := ⟨hBc⟩
    have zc := hBc.size
    haveI : LtN g wc.heap.size := ⟨by omega⟩
    haveI : LtN (w.heap.size + 1) wc.heap.size := ⟨by omega⟩
    haveI : LtN (w.heap.size + 1 + 1) wc.heap.size := ⟨by omega⟩
    haveI : LtN (w.heap.size + 1 + 1 + 1) wc.heap.size := ⟨by omega⟩
    clear hBc
    cases rb
    · exact absurd (HRB.out.trans HMO.out) (by simp)
    · have HN := hide (show takeP a.br p = (b.br, tu0) by rw [HR.out]; unfold takeP; exact if_pos (HNE.out.symm.trans HRB.out.symm))
      go_wp2_with fail
      (with_reducible refine (TE.out C b tu0 _ ?_).mono ?_)
      · exact (HM.out.below blw)
      rintro e w90 ⟨rfl, hb90⟩
      haveI : Stp _ w90 := ⟨hb90⟩
      have HM90 := hide (MK.below (HM.out.below blw) hb90)
      clear hb90
      have hk2 : BoxAt w90 (w.heap.size + 1 + 1) _ 38 := inferInstance
      have hk3 : BoxAt w90 (w.heap.size + 1 + 1 + 1) _ 43 := inferInstance
      go_wp2_with fail
      obtain ⟨w91, e91, b91, g91⟩ := stored14 hk2 (.int .i64 b.n) (.int .u64 b.i) (.int .u64 b.rd) (.slice b.SA b.ss.length b.sc) (.slice b.LA b.cl.length b.lc) (.slice b.TA b.td.length b.tc) (.slice b.GA b.gt.length b.gc) (.bool b.dn) (.bool b.sp) (.int .u64 b.vw.r) (.int .i64 b.vw.n) (.int .u64 b.vw.i) (.slice b.vw.MA b.vw.ms.length b.vw.mc) (.slice b.vw.UA b.vw.us.length b.vw.uc)
      rw [← e91]
      obtain ⟨w92, e92, b92, g92⟩ := stored14 (hk3.grs g91 (by simp)) (.slice none 0 0) (.bool false) (.int .i64 0) (.int .u64 0) (.int .u64 0) (.slice none 0 0) (.slice none 0 0) (.slice none 0 0) (.bool false) (.int .u64 0) (.int .i64 0) (.int .u64 0) (.slice none 0 0) (.slice none 0 0)
      rw [← e92]
      haveI := b91.grs g92 (by simp)
      haveI := b92
      refine bodyPost_ret (v := .tuple #[b.v, tu0.v]) (by simp [results, Tryz.results14, go_sem]) rfl ?_
      exact AT.fin HAV.out HD.out (by omega) (by omega) HM90.out (fun i hi => by have := HC.out i hi; omega) blw (gr_two g91 g92) (by rw [HN.out]) (by rw [HN.out]; rfl)
end Go.Proofs.YtkglclekieckoaaGreat

namespace Go.Proofs.YtkglclekieckoaaGreat
set_option linter.unusedSimpArgs false
set_option linter.unusedVariables false
set_option linter.unusedSectionVars false
open Go.RowKit

set_option maxRecDepth 100000 in
set_option maxHeartbeats 16000000 in
theorem take18_l (D : List Nat) (a : Ag) (p : Pp) (w : World) (h : @Ag.Ok (avo D) w a) (hD : ∀ i ∈ D, i < w.heap.size) (hi : a.br.Inv) (hp : @PpO (avo D) w [] p) (hpo : ppOk p) (hm : lateB a.br.gt p = true)  (hr : refB a.br p = false) :
    Calls Tryz.prog 14 #[a.v, .agg #[.int .i64 p.n, .int .u64 p.i, .int .u64 p.rd, .slice p.SA p.ss.length p.sc, .slice p.CA p.cs.length p.cc, .slice p.UA p.us.length p.uc]] w (RetAT D w (takeP a.br p)) := by
  obtain ⟨av, hav⟩ : ∃ av : Avoid, av = avo (D ++ [w.heap.size + 1 + 1, w.heap.size + 1 + 1 + 1]) := ⟨_, rfl⟩
  have TB := hide (fun W (h : a.Ok W) (hD : ∀ i ∈ Avoid.D, i < W.heap.size) => begin_s a W h hD)
  have H := hide h
  have HP := hide hp
  have HAV := hide hav
  have HD := hide hD
  have HI := hide hi
  have HPO := hide hpo
  have HMO := hide hm
  have HMQ := hide hr
  clear hm hr
  clear h hp hD hi hpo hav
  have htr : ∀ W, Below w.heap.size w W → Tr D (D ++ [w.heap.size + 1 + 1, w.heap.size + 1 + 1 + 1]) w W := fun W hb => ⟨.of hb, fun i hi => by
    rcases List.mem_append.1 hi with h1 | h1
    · exact .inl h1
    · right; simp at h1; omega⟩
  have HOK := hide (fun W (hb : Below w.heap.size w W) => (by rw [HAV.out]; exact H.out.over (htr W hb) : a.Ok W))
  have HPK := hide (fun W (hb : Below w.heap.size w W) => (by rw [HAV.out]; exact HP.out.over (htr W hb) : PpO W [] p))
  have HPW := hide (fun W (hb : Below w.heap.size w W) => (HPK.out W hb).ok)
  have HDD := hide (show ∀ i ∈ Avoid.D, i < w.heap.size + 1 + 1 + 1 + 1 by
    rw [HAV.out]
    intro i hi
    rcases List.mem_append.1 (show i ∈ D ++ [w.heap.size + 1 + 1, w.heap.size + 1 + 1 + 1] from hi) with h1 | h1
    · have := HD.out i h1; omega
    · simp at h1; omega)
  clear htr
  go_enter Tryz.func14, Tryz.ntmps14
  go_wp2_with fail
  (with_reducible refine (TB.out _ ?_ ?_).mono ?_)
  · exact HOK.out _ blw
  · simpa using HDD.out
  rintro e w1 ⟨g, C, b, hbr, rfl, hM, hC, hb1⟩
  haveI : Stp _ w1 := ⟨hb1⟩
  have z1 := hb1.size
  simp at z1 hC
  haveI := hM.bx
  have hgC := hC g hM.gC
  have hgw := hM.bx.lt
  haveI : LtN g w1.heap.size := ⟨hgw⟩
  haveI : LtN (w.heap.size + 1) w1.heap.size := ⟨by omega⟩
  haveI : LtN (w.heap.size + 1 + 1) w1.heap.size := ⟨by omega⟩
  haveI : LtN (w.heap.size + 1 + 1 + 1) w1.heap.size := ⟨by omega⟩
  haveI : NeN (w.heap.size + 1) g := ⟨by omega⟩
  haveI : NeN (w.heap.size + 1 + 1) g := ⟨by omega⟩
  haveI : NeN (w.heap.size + 1 + 1 + 1) g := ⟨by omega⟩
  have HM := hide hM
  have HC := hide hC
  have HIB := hide (show b.br.Inv by rw [hbr]; exact HI.out)
  have HR := hide (show takeP a.br p = takeP b.br p by rw [hbr])
  have HMO := hide (show lateB b.br.gt p = true by rw [hbr]; exact HMO.out)
  have HMF := hide (show refB b.br p = false by rw [hbr]; exact HMQ.out)
  have TE := hide (fun (C : List Nat) (a : Ag) (t : Tu) W (h : MK W C g a t) => end_s g C a t W h)
  have HNE := hide (show (b.sp || (!p.mayB || (p.n == b.n))) = (b.sp || (!p.mayB || decide (p.n = b.n))) by congr 2)
  have HLB := hide (show lateB b.br.gt p = b.gt.any fun g => late1 g p from (lateB_br b.gt p).trans (lateB_any b.gt p))
  clear hM hC hb1 hbr TB
  obtain ⟨rb, hrb⟩ : ∃ rb, rb = (b.sp || (!p.mayB || (p.n == b.n))) := ⟨_, rfl⟩
  have HRB := hide hrb
  clear hrb
  go_upto_region 2 with fail
  go_cut [32] (fun s32 wx => s32 = .bool rb ∧ Below w1.heap.size w1 wx)
  case first =>
    cases hsp : b.sp
    · cases hmy : p.mayB
      · have HS := hide hsp
        have HY := hide hmy
        have TM := hide (fun W h => (by have := pmay_s p W h; rw [hmy] at this; exact this : Calls Tryz.prog 47 #[.agg #[.int .i64 p.n, .int .u64 p.i, .int .u64 p.rd, .slice p.SA p.ss.length p.sc, .slice p.CA p.cs.length p.cc, .slice p.UA p.us.length p.uc]] W (RetBp W false)))
        clear hmy
        go_wp2_with fail
        (refine wp_region_gw (by kernel_rfl) (by kernel_rfl) ?_; (repeat (go_big_quiet_step ((first | (go_at_call 47; with_reducible exact calls_gw (TM.out _ (HPW.out _ blw))) | fail)))); refine wpQuiet_nil ?_; intro _ hw'; obtain ⟨⟨dq, osq⟩, hw''⟩ := hw'; subst hw'')
        go_wp2_with fail
        go_meet
        case rel => exact ⟨by rw [HRB.out, HS.out, HY.out]; rfl, blw⟩
      · cases hnn : (p.n == b.n)
        · have HS := hide hsp
          have HY := hide hmy
          have HE := hide hnn
          have TM := hide (fun W h => (by have := pmay_s p W h; rw [hmy] at this; exact this : Calls Tryz.prog 47 #[.agg #[.int .i64 p.n, .int .u64 p.i, .int .u64 p.rd, .slice p.SA p.ss.length p.sc, .slice p.CA p.cs.length p.cc, .slice p.UA p.us.length p.uc]] W (RetBp W true)))
          clear hmy
          go_wp2_with fail
          (refine wp_region_gw (by kernel_rfl) (by kernel_rfl) ?_; (repeat (go_big_quiet_step ((first | (go_at_call 47; with_reducible exact calls_gw (TM.out _ (HPW.out _ blw))) | fail)))); refine wpQuiet_nil ?_; intro _ hw'; obtain ⟨⟨dq, osq⟩, hw''⟩ := hw'; subst hw'')
          go_wp2_with fail
          go_meet
          case rel => exact ⟨by rw [HRB.out, HS.out, HY.out, HE.out]; rfl, blw⟩
        · have HS := hide hsp
          have HY := hide hmy
          have HE := hide hnn
          have TM := hide (fun W h => (by have := pmay_s p W h; rw [hmy] at this; exact this : Calls Tryz.prog 47 #[.agg #[.int .i64 p.n, .int .u64 p.i, .int .u64 p.rd, .slice p.SA p.ss.length p.sc, .slice p.CA p.cs.length p.cc, .slice p.UA p.us.length p.uc]] W (RetBp W true)))
          clear hmy
          go_wp2_with fail
          (refine wp_region_gw (by kernel_rfl) (by kernel_rfl) ?_; (repeat (go_big_quiet_step ((first | (go_at_call 47; with_reducible exact calls_gw (TM.out _ (HPW.out _ blw))) | fail)))); refine wpQuiet_nil ?_; intro _ hw'; obtain ⟨⟨dq, osq⟩, hw''⟩ := hw'; subst hw'')
          go_wp2_with fail
          go_meet
          case rel => exact ⟨by rw [HRB.out, HS.out, HY.out, HE.out]; rfl, blw⟩
    · have HS := hide hsp
      go_wp2_with fail
      (refine wp_region_gw (by kernel_rfl) (by kernel_rfl) ?_; (repeat (go_big_quiet_step ((fail)))); refine wpQuiet_nil ?_; intro _ hw'; obtain ⟨⟨dq, osq⟩, hw''⟩ := hw'; subst hw'')
      go_wp2_with fail
      go_meet
      case rel => exact ⟨by rw [HRB.out, HS.out]; rfl, blw⟩
  case rest =>
    obtain ⟨rfl, hBc⟩ := hcut
    haveI : Stp w1 wc := ⟨hBc⟩
    have zc := hBc.size
    haveI : LtN g wc.heap.size := ⟨by omega⟩
    haveI : LtN (w.heap.size + 1) wc.heap.size := ⟨by omega⟩
    haveI : LtN (w.heap.size + 1 + 1) wc.heap.size := ⟨by omega⟩
    haveI : LtN (w.heap.size + 1 + 1 + 1) wc.heap.size := ⟨by omega⟩
    clear hBc
    cases rb
    · have hrb : (b.sp || (!p.mayB || (p.n == b.n))) = false := HRB.out.symm
      simp only [Bool.or_eq_false_iff, Bool.not_eq_false'] at hrb
      obtain ⟨hsp, hmy, hnn⟩ := hrb
      have hnn' : p.n ≠ b.n := fun e => by simp [e] at hnn
      have HSP := hide hsp
      have HMY := hide hmy
      have HNN := hide hnn'
      have HN := hide (show takeP a.br p = (if lateB b.br.gt p then (b.br, tu0) else if p.sv ∈ b.br.ss then (if b.br.rd < p.rd then agreeP (proposeP { b.br with gt := gotL b.br.gt p.br } tu0 p.rd).1 (proposeP { b.br with gt := gotL b.br.gt p.br } tu0 p.rd).2 else agreeP { b.br with gt := gotL b.br.gt p.br } tu0) else ({ b.br with gt := gotL b.br.gt p.br }, tu0)) by
        rw [HR.out]; unfold takeP; rw [if_neg (by rw [show b.br.sp = false from hsp, hmy, decide_eq_false (show ¬ p.n = b.br.n from hnn')]; simp)])
      clear hsp hmy hnn hnn'
      have HMC := hide (HM.out.below (blw (a := w1) (W := wc)))
      have hpl : b.gt.length ≤ 1000 := HM.out.ao.pl
      obtain ⟨GA, hGA⟩ : ∃ GA, GA = b.GA := ⟨_, rfl⟩
      have HGA := hide hGA
      haveI : BoxAt wc g (mkC ⟨b.n, b.i, b.rd, b.SA, b.sc, b.ss, b.LA, b.lc, b.cl, b.TA, b.tc, b.td, GA, b.gc, b.gt, b.dn, b.sp, b.vw⟩ tu0) 92 := by rw [hGA]; exact HMC.out.bx
      haveI : Src wc GA b.gt.length 6 (pps b.gt) := ⟨by rw [hGA]; exact Reads.of_own HMC.out.go⟩
      clear hGA
      go_wp2_with fail
      go_loopw [43] (fun s43 wr => ∃ m : Nat, s43 = .int .i64 m ∧ m ≤ b.gt.length ∧ (∀ q ∈ b.gt.take m, late1 q p = false) ∧ Below wc.heap.size wc wr) (fun s43 _ => b.gt.length - (intOf s43).toNat)
      case atStart => exact ⟨0, rfl, Nat.zero_le _, (fun q hq => by simp at hq), blw⟩
      case round =>
        obtain ⟨m, rfl, hm, hf, hB⟩ := hrel
        haveI : Stp wc wr := ⟨hB⟩
        have zr := hB.size
        haveI : LtN g wr.heap.size := ⟨by omega⟩
        haveI : LtN (w.heap.size + 1) wr.heap.size := ⟨by omega⟩
        haveI : LtN (w.heap.size + 1 + 1) wr.heap.size := ⟨by omega⟩
        haveI : LtN (w.heap.size + 1 + 1 + 1) wr.heap.size := ⟨by omega⟩
        have HF := hide hf
        clear hB hf
        by_cases hlt : m < b.gt.length
        · obtain ⟨bb, off, q, hA, hb, hq, g0, g1, g2, g3, g4, g5⟩ := (src (w := wc) (W := wr) (A := GA) (n := b.gt.length) (k := 6) (xs := pps b.gt)).at6 hlt
          subst hA
          haveI : InW bb wr := ⟨hb⟩
          have HQ := hide hq
          have i0 : (0 : Int) ≤ (m : Int) := by omega
          have i1 : (m : Int) < (b.gt.length : Int) := by omega
          have HLT := hide (fun hl : late1 q p = true => (show takeP a.br p = (b.br, tu0) by
            rw [HN.out, if_pos (by rw [HLB.out]; exact List.any_eq_true.2 ⟨q, List.mem_of_getElem? HQ.out, hl⟩)]))
          have HNX := hide (fun hl : late1 q p = false => (show ∀ x ∈ b.gt.take (m + 1), late1 x p = false from fun x hx => by
            rw [take_succ_of HQ.out] at hx
            rcases List.mem_append.1 hx with hx | hx
            · exact HF.out x hx
            · rw [List.mem_singleton.1 hx]; exact hl))
          clear hq
          cases c1 : (q.n == p.n)
          · have c3 : eqP q.n q.i p.n p.i = false := by
              have e : ¬ q.n = p.n := by simpa using c1
              simp [eqP, e]
            have HX := hide (HNX.out (by unfold late1; rw [c1, c3]; rfl))
            go_wp2_with fail
            go_roundw
            case rel => exact ⟨m + 1, by go_num, by omega, HX.out, blw⟩
            case measure => simp [intOf]; omega
          · cases c2 : decide (p.i < q.i)
            · cases c3 : eqP q.n q.i p.n p.i
              · have HX := hide (HNX.out (by unfold late1; rw [c1, c2, c3]; rfl))
                go_wp2_with fail
                go_roundw
                case rel => exact ⟨m + 1, by go_num, by omega, HX.out, blw⟩
                case measure => simp [intOf]; omega
              · cases c4 : decide (p.rd ≤ q.rd)
                · have HX := hide (HNX.out (by unfold late1; rw [c1, c2, c3, c4]; rfl))
                  go_wp2_with fail
                  go_roundw
                  case rel => exact ⟨m + 1, by go_num, by omega, HX.out, blw⟩
                  case measure => simp [intOf]; omega
                · have HN := hide (HLT.out (by unfold late1; rw [c1, c2, c3, c4]; rfl))
                  go_wp2_with fail
                  (with_reducible refine (TE.out C b tu0 _ ?_).mono ?_)
                  · exact (HM.out.below blw)
                  rintro e w90 ⟨rfl, hb90⟩
                  haveI : Stp _ w90 := ⟨hb90⟩
                  have HM90 := hide (MK.below (HM.out.below blw) hb90)
                  clear hb90
                  have hk2 : BoxAt w90 (w.heap.size + 1 + 1) _ 38 := inferInstance
                  have hk3 : BoxAt w90 (w.heap.size + 1 + 1 + 1) _ 43 := inferInstance
                  go_wp2_with fail
                  obtain ⟨w91, e91, b91, g91⟩ := stored14 hk2 (.int .i64 b.n) (.int .u64 b.i) (.int .u64 b.rd) (.slice b.SA b.ss.length b.sc) (.slice b.LA b.cl.length b.lc) (.slice b.TA b.td.length b.tc) (.slice b.GA b.gt.length b.gc) (.bool b.dn) (.bool b.sp) (.int .u64 b.vw.r) (.int .i64 b.vw.n) (.int .u64 b.vw.i) (.slice b.vw.MA b.vw.ms.length b.vw.mc) (.slice b.vw.UA b.vw.us.length b.vw.uc)
                  rw [← e91]
                  obtain ⟨w92, e92, b92, g92⟩ := stored14 (hk3.grs g91 (by simp)) (.slice none 0 0) (.bool false) (.int .i64 0) (.int .u64 0) (.int .u64 0) (.slice none 0 0) (.slice none 0 0) (.slice none 0 0) (.bool false) (.int .u64 0) (.int .i64 0) (.int .u64 0) (.slice none 0 0) (.slice none 0 0)
                  rw [← e92]
                  haveI := b91.grs g92 (by simp)
                  haveI := b92
                  refine bodyPost_ret (v := .tuple #[b.v, tu0.v]) (by simp [results, Tryz.results14, go_sem]) rfl ?_
                  exact AT.fin HAV.out HD.out (by omega) (by omega) HM90.out (fun i hi => by have := HC.out i hi; omega) blw (gr_two g91 g92) (by rw [HN.out]) (by rw [HN.out]; rfl)
            · have HN := hide (HLT.out (by unfold late1; rw [c1, c2]; rfl))
              go_wp2_with fail
              (with_reducible refine (TE.out C b tu0 _ ?_).mono ?_)
              · exact (HM.out.below blw)
              rintro e w90 ⟨rfl, hb90⟩
              haveI : Stp _ w90 := ⟨hb90⟩
              have HM90 := hide (MK.below (HM.out.below blw) hb90)
              clear hb90
              have hk2 : BoxAt w90 (w.heap.size + 1 + 1) _ 38 := inferInstance
              have hk3 : BoxAt w90 (w.heap.size + 1 + 1 + 1) _ 43 := inferInstance
              go_wp2_with fail
              obtain ⟨w91, e91, b91, g91⟩ := stored14 hk2 (.int .i64 b.n) (.int .u64 b.i) (.int .u64 b.rd) (.slice b.SA b.ss.length b.sc) (.slice b.LA b.cl.length b.lc) (.slice b.TA b.td.length b.tc) (.slice b.GA b.gt.length b.gc) (.bool b.dn) (.bool b.sp) (.int .u64 b.vw.r) (.int .i64 b.vw.n) (.int .u64 b.vw.i) (.slice b.vw.MA b.vw.ms.length b.vw.mc) (.slice b.vw.UA b.vw.us.length b.vw.uc)
              rw [← e91]
              obtain ⟨w92, e92, b92, g92⟩ := stored14 (hk3.grs g91 (by simp)) (.slice none 0 0) (.bool false) (.int .i64 0) (.int .u64 0) (.int .u64 0) (.slice none 0 0) (.slice none 0 0) (.slice none 0 0) (.bool false) (.int .u64 0) (.int .i64 0) (.int .u64 0) (.slice none 0 0) (.slice none 0 0)
              rw [← e92]
              haveI := b91.grs g92 (by simp)
              haveI := b92
              refine bodyPost_ret (v := .tuple #[b.v, tu0.v]) (by simp [results, Tryz.results14, go_sem]) rfl ?_
              exact AT.fin HAV.out HD.out (by omega) (by omega) HM90.out (fun i hi => by have := HC.out i hi; omega) blw (gr_two g91 g92) (by rw [HN.out]) (by rw [HN.out]; rfl)
        · obtain rfl : m = b.gt.length := by omega
          have HNL := hide (show lateB b.br.gt p = false by
            rw [HLB.out]
            refine List.any_eq_false.2 (fun q hq => ?_)
            have := HF.out q (by rw [List.take_length]; exact hq)
            simp [this])
          exact absurd (HNL.out.symm.trans HMO.out) (by simp)
    · exact absurd (HRB.out.trans HMF.out) (by simp)
end Go.Proofs.YtkglclekieckoaaGreat

namespace Go.Proofs.YtkglclekieckoaaGreat
set_option linter.unusedSimpArgs false
set_option linter.unusedVariables false
set_option linter.unusedSectionVars false
open Go.RowKit

set_option maxRecDepth 100000 in
set_option maxHeartbeats 16000000 in
theorem take18_m (D : List Nat) (a : Ag) (p : Pp) (w : World) (h : @Ag.Ok (avo D) w a) (hD : ∀ i ∈ D, i < w.heap.size) (hi : a.br.Inv) (hp : @PpO (avo D) w [] p) (hpo : ppOk p) (hm : lateB a.br.gt p = false)  (hr : refB a.br p = false) :
    Calls Tryz.prog 14 #[a.v, .agg #[.int .i64 p.n, .int .u64 p.i, .int .u64 p.rd, .slice p.SA p.ss.length p.sc, .slice p.CA p.cs.length p.cc, .slice p.UA p.us.length p.uc]] w (RetAT D w (takeP a.br p)) := by
  obtain ⟨av, hav⟩ : ∃ av : Avoid, av = avo (D ++ [w.heap.size + 1 + 1, w.heap.size + 1 + 1 + 1]) := ⟨_, rfl⟩
  have TB := hide (fun W (h : a.Ok W) (hD : ∀ i ∈ Avoid.D, i < W.heap.size) => begin_s a W h hD)
  have H := hide h
  have HP := hide hp
  have HAV := hide hav
  have HD := hide hD
  have HI := hide hi
  have HPO := hide hpo
  have HMO := hide hm
  have HMQ := hide hr
  clear hm hr
  clear h hp hD hi hpo hav
  have htr : ∀ W, Below w.heap.size w W → Tr D (D ++ [w.heap.size + 1 + 1, w.heap.size + 1 + 1 + 1]) w W := fun W hb => ⟨.of hb, fun i hi => by
    rcases List.mem_append.1 hi with h1 | h1
    · exact .inl h1
    · right; simp at h1; omega⟩
  have HOK := hide (fun W (hb : Below w.heap.size w W) => (by rw [HAV.out]; exact H.out.over (htr W hb) : a.Ok W))
  have HPK := hide (fun W (hb : Below w.heap.size w W) => (by rw [HAV.out]; exact HP.out.over (htr W hb) : PpO W [] p))
  have HPW := hide (fun W (hb : Below w.heap.size w W) => (HPK.out W hb).ok)
  have HDD := hide (show ∀ i ∈ Avoid.D, i < w.heap.size + 1 + 1 + 1 + 1 by
    rw [HAV.out]
    intro i hi
    rcases List.mem_append.1 (show i ∈ D ++ [w.heap.size + 1 + 1, w.heap.size + 1 + 1 + 1] from hi) with h1 | h1
    · have := HD.out i h1; omega
    · simp at h1; omega)
  clear htr
  go_enter Tryz.func14, Tryz.ntmps14
  go_wp2_with fail
  (with_reducible refine (TB.out _ ?_ ?_).mono ?_)
  · exact HOK.out _ blw
  · simpa using HDD.out
  rintro e w1 ⟨g, C, b, hbr, rfl, hM, hC, hb1⟩
  haveI : Stp _ w1 := ⟨hb1⟩
  have z1 := hb1.size
  simp at z1 hC
  haveI := hM.bx
  have hgC := hC g hM.gC
  have hgw := hM.bx.lt
  haveI : LtN g w1.heap.size := ⟨hgw⟩
  haveI : LtN (w.heap.size + 1) w1.heap.size := ⟨by omega⟩
  haveI : LtN (w.heap.size + 1 + 1) w1.heap.size := ⟨by omega⟩
  haveI : LtN (w.heap.size + 1 + 1 + 1) w1.heap.size := ⟨by omega⟩
  haveI : NeN (w.heap.size + 1) g := ⟨by omega⟩
  haveI : NeN (w.heap.size + 1 + 1) g := ⟨by omega⟩
  haveI : NeN (w.heap.size + 1 + 1 + 1) g := ⟨by omega⟩
  have HM := hide hM
  have HC := hide hC
  have HIB := hide (show b.br.Inv by rw [hbr]; exact HI.out)
  have HR := hide (show takeP a.br p = takeP b.br p by rw [hbr])
  have HMO := hide (show lateB b.br.gt p = false by rw [hbr]; exact HMO.out)
  have HMF := hide (show refB b.br p = false by rw [hbr]; exact HMQ.out)
  have TE := hide (fun (C : List Nat) (a : Ag) (t : Tu) W (h : MK W C g a t) => end_s g C a t W h)
  have HNE := hide (show (b.sp || (!p.mayB || (p.n == b.n))) = (b.sp || (!p.mayB || decide (p.n = b.n))) by congr 2)
  have HLB := hide (show lateB b.br.gt p = b.gt.any fun g => late1 g p from (lateB_br b.gt p).trans (lateB_any b.gt p))
  clear hM hC hb1 hbr TB
  obtain ⟨rb, hrb⟩ : ∃ rb, rb = (b.sp || (!p.mayB || (p.n == b.n))) := ⟨_, rfl⟩
  have HRB := hide hrb
  clear hrb
  go_upto_region 2 with fail
  go_cut [32] (fun s32 wx => s32 = .bool rb ∧ Below w1.heap.size w1 wx)
  case first =>
    cases hsp : b.sp
    · cases hmy : p.mayB
      · have HS := hide hsp
        have HY := hide hmy
        have TM := hide (fun W h => (by have := pmay_s p W h; rw [hmy] at this; exact this : Calls Tryz.prog 47 #[.agg #[.int .i64 p.n, .int .u64 p.i, .int .u64 p.rd, .slice p.SA p.ss.length p.sc, .slice p.CA p.cs.length p.cc, .slice p.UA p.us.length p.uc]] W (RetBp W false)))
        clear hmy
        go_wp2_with fail
        (refine wp_region_gw (by kernel_rfl) (by kernel_rfl) ?_; (repeat (go_big_quiet_step ((first | (go_at_call 47; with_reducible exact calls_gw (TM.out _ (HPW.out _ blw))) | fail)))); refine wpQuiet_nil ?_; intro _ hw'; obtain ⟨⟨dq, osq⟩, hw''⟩ := hw'; subst hw'')
        go_wp2_with fail
        go_meet
        case rel => exact ⟨by rw [HRB.out, HS.out, HY.out]; rfl, blw⟩
      · cases hnn : (p.n == b.n)
        · have HS := hide hsp
          have HY := hide hmy
          have HE := hide hnn
          have TM := hide (fun W h => (by have := pmay_s p W h; rw [hmy] at this; exact this : Calls Tryz.prog 47 #[.agg #[.int .i64 p.n, .int .u64 p.i, .int .u64 p.rd, .slice p.SA p.ss.length p.sc, .slice p.CA p.cs.length p.cc, .slice p.UA p.us.length p.uc]] W (RetBp W true)))
          clear hmy
          go_wp2_with fail
          (refine wp_region_gw (by kernel_rfl) (by kernel_rfl) ?_; (repeat (go_big_quiet_step ((first | (go_at_call 47; with_reducible exact calls_gw (TM.out _ (HPW.out _ blw))) | fail)))); refine wpQuiet_nil ?_; intro _ hw'; obtain ⟨⟨dq, osq⟩, hw''⟩ := hw'; subst hw'')
          go_wp2_with fail
          go_meet
          case rel => exact ⟨by rw [HRB.out, HS.out, HY.out, HE.out]; rfl, blw⟩
        · have HS := hide hsp
          have HY := hide hmy
          have HE := hide hnn
          have TM := hide (fun W h => (by have := pmay_s p W h; rw [hmy] at this; exact this : Calls Tryz.prog 47 #[.agg #[.int .i64 p.n, .int .u64 p.i, .int .u64 p.rd, .slice p.SA p.ss.length p.sc, .slice p.CA p.cs.length p.cc, .slice p.UA p.us.length p.uc]] W (RetBp W true)))
          clear hmy
          go_wp2_with fail
          (refine wp_region_gw (by kernel_rfl) (by kernel_rfl) ?_; (repeat (go_big_quiet_step ((first | (go_at_call 47; with_reducible exact calls_gw (TM.out _ (HPW.out _ blw))) | fail)))); refine wpQuiet_nil ?_; intro _ hw'; obtain ⟨⟨dq, osq⟩, hw''⟩ := hw'; subst hw'')
          go_wp2_with fail
          go_meet
          case rel => exact ⟨by rw [HRB.out, HS.out, HY.out, HE.out]; rfl, blw⟩
    · have HS := hide hsp
      go_wp2_with fail
      (refine wp_region_gw (by kernel_rfl) (by kernel_rfl) ?_; (repeat (go_big_quiet_step ((fail)))); refine wpQuiet_nil ?_; intro _ hw'; obtain ⟨⟨dq, osq⟩, hw''⟩ := hw'; subst hw'')
      go_wp2_with fail
      go_meet
      case rel => exact ⟨by rw [HRB.out, HS.out]; rfl, blw⟩
  case rest =>
    obtain ⟨rfl, hBc⟩ := hcut
    haveI : Stp w1 wc := ⟨hBc⟩
    have zc := hBc.size
    haveI : LtN g wc.heap.size := ⟨by omega⟩
    haveI : LtN (w.heap.size + 1) wc.heap.size := ⟨by omega⟩
    haveI : LtN (w.heap.size + 1 + 1) wc.heap.size := ⟨by omega⟩
    haveI : LtN (w.heap.size + 1 + 1 + 1) wc.heap.size := ⟨by omega⟩
    clear hBc
    cases rb
    · have hrb : (b.sp || (!p.mayB || (p.n == b.n))) = false := HRB.out.symm
      simp only [Bool.or_eq_false_iff, Bool.not_eq_false'] at hrb
      obtain ⟨hsp, hmy, hnn⟩ := hrb
      have hnn' : p.n ≠ b.n := fun e => by simp [e] at hnn
      have HSP := hide hsp
      have HMY := hide hmy
      have HNN := hide hnn'
      have HN := hide (show takeP a.br p = (if lateB b.br.gt p then (b.br, tu0) else if p.sv ∈ b.br.ss then (if b.br.rd < p.rd then agreeP (proposeP { b.br with gt := gotL b.br.gt p.br } tu0 p.rd).1 (proposeP { b.br with gt := gotL b.br.gt p.br } tu0 p.rd).2 else agreeP { b.br with gt := gotL b.br.gt p.br } tu0) else ({ b.br with gt := gotL b.br.gt p.br }, tu0)) by
        rw [HR.out]; unfold takeP; rw [if_neg (by rw [show b.br.sp = false from hsp, hmy, decide_eq_false (show ¬ p.n = b.br.n from hnn')]; simp)])
      clear hsp hmy hnn hnn'
      have HMC := hide (HM.out.below (blw (a := w1) (W := wc)))
      have hpl : b.gt.length ≤ 1000 := HM.out.ao.pl
      obtain ⟨GA, hGA⟩ : ∃ GA, GA = b.GA := ⟨_, rfl⟩
      have HGA := hide hGA
      haveI : BoxAt wc g (mkC ⟨b.n, b.i, b.rd, b.SA, b.sc, b.ss, b.LA, b.lc, b.cl, b.TA, b.tc, b.td, GA, b.gc, b.gt, b.dn, b.sp, b.vw⟩ tu0) 92 := by rw [hGA]; exact HMC.out.bx
      haveI : Src wc GA b.gt.length 6 (pps b.gt) := ⟨by rw [hGA]; exact Reads.of_own HMC.out.go⟩
      clear hGA
      go_wp2_with fail
      go_loopw [43] (fun s43 wr => ∃ m : Nat, s43 = .int .i64 m ∧ m ≤ b.gt.length ∧ (∀ q ∈ b.gt.take m, late1 q p = false) ∧ Below wc.heap.size wc wr) (fun s43 _ => b.gt.length - (intOf s43).toNat)
      case atStart => exact ⟨0, rfl, Nat.zero_le _, (fun q hq => by simp at hq), blw⟩
      case round =>
        obtain ⟨m, rfl, hm, hf, hB⟩ := hrel
        haveI : Stp wc wr := ⟨hB⟩
        have zr := hB.size
        haveI : LtN g wr.heap.size := ⟨by omega⟩
        haveI : LtN (w.heap.size + 1) wr.heap.size := ⟨by omega⟩
        haveI : LtN (w.heap.size + 1 + 1) wr.heap.size := ⟨by omega⟩
        haveI : LtN (w.heap.size + 1 + 1 + 1) wr.heap.size := ⟨by omega⟩
        have HF := hide hf
        clear hB hf
        by_cases hlt : m < b.gt.length
        · obtain ⟨bb, off, q, hA, hb, hq, g0, g1, g2, g3, g4, g5⟩ := (src (w := wc) (W := wr) (A := GA) (n := b.gt.length) (k := 6) (xs := pps b.gt)).at6 hlt
          subst hA
          haveI : InW bb wr := ⟨hb⟩
          have HQ := hide hq
          have i0 : (0 : Int) ≤ (m : Int) := by omega
          have i1 : (m : Int) < (b.gt.length : Int) := by omega
          have HLT := hide (fun hl : late1 q p = true => (show takeP a.br p = (b.br, tu0) by
            rw [HN.out, if_pos (by rw [HLB.out]; exact List.any_eq_true.2 ⟨q, List.mem_of_getElem? HQ.out, hl⟩)]))
          have HNX := hide (fun hl : late1 q p = false => (show ∀ x ∈ b.gt.take (m + 1), late1 x p = false from fun x hx => by
            rw [take_succ_of HQ.out] at hx
            rcases List.mem_append.1 hx with hx | hx
            · exact HF.out x hx
            · rw [List.mem_singleton.1 hx]; exact hl))
          clear hq
          cases c1 : (q.n == p.n)
          · have c3 : eqP q.n q.i p.n p.i = false := by
              have e : ¬ q.n = p.n := by simpa using c1
              simp [eqP, e]
            have HX := hide (HNX.out (by unfold late1; rw [c1, c3]; rfl))
            go_wp2_with fail
            go_roundw
            case rel => exact ⟨m + 1, by go_num, by omega, HX.out, blw⟩
            case measure => simp [intOf]; omega
          · cases c2 : decide (p.i < q.i)
            · cases c3 : eqP q.n q.i p.n p.i
              · have HX := hide (HNX.out (by unfold late1; rw [c1, c2, c3]; rfl))
                go_wp2_with fail
                go_roundw
                case rel => exact ⟨m + 1, by go_num, by omega, HX.out, blw⟩
                case measure => simp [intOf]; omega
              · cases c4 : decide (p.rd ≤ q.rd)
                · have HX := hide (HNX.out (by unfold late1; rw [c1, c2, c3, c4]; rfl))
                  go_wp2_with fail
                  go_roundw
                  case rel => exact ⟨m + 1, by go_num, by omega, HX.out, blw⟩
                  case measure => simp [intOf]; omega
                · have HN := hide (HLT.out (by unfold late1; rw [c1, c2, c3, c4]; rfl))
                  exact absurd ((HLB.out.symm.trans HMO.out).symm.trans (List.any_eq_true.2 ⟨q, List.mem_of_getElem? HQ.out, (by unfold late1; rw [c1, c2, c3, c4]; rfl)⟩)) (by simp)
            · have HN := hide (HLT.out (by unfold late1; rw [c1, c2]; rfl))
              exact absurd ((HLB.out.symm.trans HMO.out).symm.trans (List.any_eq_true.2 ⟨q, List.mem_of_getElem? HQ.out, (by unfold late1; rw [c1, c2]; rfl)⟩)) (by simp)
        · obtain rfl : m = b.gt.length := by omega
          have HNL := hide (show lateB b.br.gt p = false by
            rw [HLB.out]
            refine List.any_eq_false.2 (fun q hq => ?_)
            have := HF.out q (by rw [List.take_length]; exact hq)
            simp [this])
          have HN2 := hide (show takeP a.br p = (if p.sv ∈ b.br.ss then (if b.br.rd < p.rd then agreeP (proposeP { b.br with gt := gotL b.br.gt p.br } tu0 p.rd).1 (proposeP { b.br with gt := gotL b.br.gt p.br } tu0 p.rd).2 else agreeP { b.br with gt := gotL b.br.gt p.br } tu0) else ({ b.br with gt := gotL b.br.gt p.br }, tu0)) by
            rw [HN.out, if_neg (by rw [HNL.out]; simp)])
          have HMR := hide (HM.out.below (blw (a := w1) (W := wr)))
          have TGT := hide (fun W (hM : MK W C g b tu0) (hp : PpO W C p) => got_s g C b tu0 p W hM hp (rise_of HIB.out) (by have := gl_of HIB.out; omega))
          have HBP := hide (show BoxAt wr (w.heap.size + 1) #[.int .i64 p.n, .int .u64 p.i, .int .u64 p.rd, .slice p.SA p.ss.length p.sc, .slice p.CA p.cs.length p.cc, .slice p.UA p.us.length p.uc] 41 from inferInstance)
          have HB2 := hide (show BoxAt wr (w.heap.size + 1 + 1) _ 38 from inferInstance)
          have HB3 := hide (show BoxAt wr (w.heap.size + 1 + 1 + 1) _ 43 from inferInstance)
          have hn1 : w.heap.size + 1 ∉ C := fun hm => by have := HC.out _ hm; omega
          have hn2 : w.heap.size + 1 + 1 ∉ C := fun hm => by have := HC.out _ hm; omega
          have hn3 : w.heap.size + 1 + 1 + 1 ∉ C := fun hm => by have := HC.out _ hm; omega
          go_wp2_with fail
          (with_reducible refine (TGT.out _ (HM.out.below blw) ?_).mono ?_)
          · exact .old (HPK.out w (Below.refl _ _)) blw (fun i hi => by have := HC.out i hi; omega)
          rintro e w5 ⟨rfl, C5, A5, c5, G, hM5, hG, hT5⟩
          have HT5 := hide ((Tr.bel (C := C) (blw (a := wr))).trans hT5)
          have HM5 := hide (show MK w5 C5 g (⟨b.n, b.i, b.rd, b.SA, b.sc, b.ss, b.LA, b.lc, b.cl, b.TA, b.tc, b.td, A5, c5, G, b.dn, b.sp, b.vw⟩ : Ag) tu0 from hM5)
          have HBR := hide (show ((⟨b.n, b.i, b.rd, b.SA, b.sc, b.ss, b.LA, b.lc, b.cl, b.TA, b.tc, b.td, A5, c5, G, b.dn, b.sp, b.vw⟩ : Ag)).br = { b.br with gt := gotL b.br.gt p.br } by simp only [Ag.br]; rw [hG])
          clear hM5 hG hT5
          have hB1 := (HT5.out.box HBP.out hn1).1
          haveI := hB1
          haveI : BoxAt w5 g (mkC (⟨b.n, b.i, b.rd, b.SA, b.sc, b.ss, b.LA, b.lc, b.cl, b.TA, b.tc, b.td, A5, c5, G, b.dn, b.sp, b.vw⟩ : Ag) tu0) 92 := HM5.out.bx
          have hg5 := HM5.out.bx.lt
          have hg6 := hB1.lt
          haveI : LtN g w5.heap.size := ⟨hg5⟩
          haveI : LtN (w.heap.size + 1) w5.heap.size := ⟨hg6⟩
          clear hB1
          have hbsl : b.ss.length ≤ 1000000 := HM.out.ao.sl
          obtain ⟨hb, hhb⟩ : ∃ hb, hb = decide ((p.n, p.i) ∈ b.ss) := ⟨_, rfl⟩
          have TH := hide (fun W (h : Reads W W.heap.size 2 b.SA b.ss.length (pcs b.ss)) => (by have := has_b b.SA b.sc b.ss p.n p.i W h hbsl; rw [← hhb] at this; exact this : Calls Tryz.prog 30 #[.slice b.SA b.ss.length b.sc, .agg #[.int .i64 p.n, .int .u64 p.i]] W (RetB W hb)))
          have HHB := hide hhb
          clear hhb
          go_upto_region 11 with fail
          go_cut [92] (fun s92 wx => s92 = .bool hb ∧ Below w5.heap.size w5 wx)
          case first =>
            go_region_held3 (fun w' => w'.cell? ⟨g, 3, none⟩ = some (.slice b.SA b.ss.length b.sc) ∧ w'.cell? ⟨w.heap.size + 1, 0, none⟩ = some (.int .i64 p.n) ∧ w'.cell? ⟨w.heap.size + 1, 1, none⟩ = some (.int .u64 p.i)) ((refine ⟨?_, ?_, ?_⟩ <;> (rw [cell?_box]; rfl)))
              (first | (go_at_call 30; (with_reducible refine (TH.out _ ?_).mono ?_); (focus (exact (HM5.out.ao.s.tr (.bel blw)).1)); rintro e w8 ⟨rfl, hb8⟩; haveI : Stp _ w8 := ⟨hb8⟩; clear hb8) | fail)
            all_goals
              go_wp2_with fail
              go_meet
              case rel => exact ⟨rfl, blw⟩
          case rest =>
            obtain ⟨rfl, hBd⟩ := hcut
            haveI : Stp w5 wc := ⟨hBd⟩
            have zd := hBd.size
            haveI : LtN g wc.heap.size := ⟨by omega⟩
            haveI : LtN (w.heap.size + 1) wc.heap.size := ⟨by omega⟩
            clear hBd
            go_upto_if 92 with fail
            go_cut [5] (fun s5 wx => s5 = .pointer (some ⟨w.heap.size + 1 + 1 + 1, 0, none⟩) ∧ ∃ C9 a9 t9, MK wx C9 g a9 t9 ∧ a9.br = (takeP a.br p).1 ∧ t9.br = (takeP a.br p).2 ∧ Tr C C9 wr wx)
            case first =>
              cases hb
              · have HN3 := hide (show takeP a.br p = ({ b.br with gt := gotL b.br.gt p.br }, tu0) by rw [HN2.out]; exact if_neg (of_decide_eq_false HHB.out.symm))
                go_wp2_with fail
                go_meet
                case rel => exact ⟨rfl, C5, (⟨b.n, b.i, b.rd, b.SA, b.sc, b.ss, b.LA, b.lc, b.cl, b.TA, b.tc, b.td, A5, c5, G, b.dn, b.sp, b.vw⟩ : Ag), tu0, HM5.out.below blw, by rw [HN3.out]; exact HBR.out, by rw [HN3.out]; rfl, HT5.out.trans (.bel blw)⟩
              · have HIN := hide (show p.sv ∈ b.br.ss from of_decide_eq_true HHB.out.symm)
                have HPA := hide (show PaOk (⟨b.n, b.i, b.rd, b.SA, b.sc, b.ss, b.LA, b.lc, b.cl, b.TA, b.tc, b.td, A5, c5, G, b.dn, b.sp, b.vw⟩ : Ag) tu0 from ⟨by rw [HBR.out]; exact HIB.out.put HPO.out HMY.out HNN.out, HIB.out.two HIN.out HNN.out, by simp⟩)
                by_cases hq : b.rd < p.rd
                · have hqd : decide (b.rd < p.rd) = true := decide_eq_true hq
                  have HN3 := hide (show takeP a.br p = agreeP (proposeP { b.br with gt := gotL b.br.gt p.br } tu0 p.rd).1 (proposeP { b.br with gt := gotL b.br.gt p.br } tu0 p.rd).2 by rw [HN2.out, if_pos HIN.out]; exact if_pos hq)
                  have HR0 := hide (show 0 ≤ p.rd by have := HIB.out.r0; have : (0 : Int) ≤ b.rd := this; omega)
                  have TPR := hide (fun W (hW : MK W C5 g (⟨b.n, b.i, b.rd, b.SA, b.sc, b.ss, b.LA, b.lc, b.cl, b.TA, b.tc, b.td, A5, c5, G, b.dn, b.sp, b.vw⟩ : Ag) tu0) => propose_s g C5 (⟨b.n, b.i, b.rd, b.SA, b.sc, b.ss, b.LA, b.lc, b.cl, b.TA, b.tc, b.td, A5, c5, G, b.dn, b.sp, b.vw⟩ : Ag) tu0 p.rd W hW HPA.out.rise (by have := HPA.out.gl; omega) (fun p hp => by have := HPA.out.cs p hp; omega) (fun x hx => by have := HPA.out.inv.cw x hx; exact ⟨this.2.1, this.2.2.1⟩) (by simp))
                  clear hq
                  go_wp2_with fail
                  (refine wp_region_gw (by kernel_rfl) (by kernel_rfl) ?_; (repeat (go_big_quiet_step ((fail)))); refine wpQuiet_nil ?_; intro _ hw'; obtain ⟨⟨dq, osq⟩, hw''⟩ := hw'; subst hw'')
                  go_wp2_with fail
                  (with_reducible refine (TPR.out _ (HM5.out.below blw)).mono ?_)
                  rintro e w8 ⟨rfl, C8, a8, t8, hM8, ha8, ht8, hT8⟩
                  have hpp := PaOk.prop (a := (⟨b.n, b.i, b.rd, b.SA, b.sc, b.ss, b.LA, b.lc, b.cl, b.TA, b.tc, b.td, A5, c5, G, b.dn, b.sp, b.vw⟩ : Ag)) (t := tu0) (n := p.rd) HPA.out.inv HPA.out.tog (by simp) HR0.out HPO.out.rg ha8 ht8
                  have TAG := hide (agree18_s g C8 a8 t8 w8 hM8 hpp.1 (by have := hpp.2; simp at this; omega))
                  have HT8 := hide ((HT5.out.trans (.bel (blw (a := w5)))).trans hT8)
                  have HA8 := hide ha8
                  have HU8 := hide ht8
                  clear hM8 hpp hT8 ha8 ht8
                  go_wp2_with fail
                  (with_reducible refine TAG.out.mono ?_)
                  rintro e w9 ⟨rfl, C9, a9, t9, hM9, ha9, ht9, hT9⟩
                  have HT9 := hide (HT8.out.trans hT9)
                  have HM9 := hide hM9
                  have HA9 := hide ha9
                  have HU9 := hide ht9
                  clear hM9 hT9 ha9 ht9
                  go_wp2_with fail
                  go_meet
                  case rel => exact ⟨rfl, C9, a9, t9, HM9.out, by rw [HN3.out, HA9.out, HA8.out, HU8.out, HBR.out]; rfl, by rw [HN3.out, HU9.out, HA8.out, HU8.out, HBR.out]; rfl, HT9.out⟩
                · have hqd : decide (b.rd < p.rd) = false := decide_eq_false hq
                  have HN3 := hide (show takeP a.br p = agreeP { b.br with gt := gotL b.br.gt p.br } tu0 by rw [HN2.out, if_pos HIN.out]; exact if_neg hq)
                  have TAG := hide (fun W (hW : MK W C5 g (⟨b.n, b.i, b.rd, b.SA, b.sc, b.ss, b.LA, b.lc, b.cl, b.TA, b.tc, b.td, A5, c5, G, b.dn, b.sp, b.vw⟩ : Ag) tu0) => agree18_s g C5 (⟨b.n, b.i, b.rd, b.SA, b.sc, b.ss, b.LA, b.lc, b.cl, b.TA, b.tc, b.td, A5, c5, G, b.dn, b.sp, b.vw⟩ : Ag) tu0 W hW HPA.out (by simp))
                  clear hq
                  go_wp2_with fail
                  (refine wp_region_gw (by kernel_rfl) (by kernel_rfl) ?_; (repeat (go_big_quiet_step ((fail)))); refine wpQuiet_nil ?_; intro _ hw'; obtain ⟨⟨dq, osq⟩, hw''⟩ := hw'; subst hw'')
                  go_wp2_with fail
                  (with_reducible refine (TAG.out _ (HM5.out.below blw)).mono ?_)
                  rintro e w9 ⟨rfl, C9, a9, t9, hM9, ha9, ht9, hT9⟩
                  have HT9 := hide ((HT5.out.trans (.bel (blw (a := w5)))).trans hT9)
                  have HM9 := hide hM9
                  have HA9 := hide ha9
                  have HU9 := hide ht9
                  clear hM9 hT9 ha9 ht9
                  go_wp2_with fail
                  go_meet
                  case rel => exact ⟨rfl, C9, a9, t9, HM9.out, by rw [HN3.out, HA9.out, HBR.out]; rfl, by rw [HN3.out, HU9.out, HBR.out]; rfl, HT9.out⟩
            case rest =>
              obtain ⟨rfl, C9, a9, t9, hM9, ha9, ht9, hT9⟩ := hcut
              have HM9 := hide hM9
              have HA9 := hide ha9
              have HU9 := hide ht9
              have HT9 := hide hT9
              have hB2 := (hT9.box HB2.out hn2).1
              have hB3 := (hT9.box HB3.out hn3).1
              haveI := hB2
              haveI := hB3
              have hl2 := hB2.lt
              have hl3 := hB3.lt
              haveI : LtN (w.heap.size + 1 + 1) wc.heap.size := ⟨hl2⟩
              haveI : LtN (w.heap.size + 1 + 1 + 1) wc.heap.size := ⟨hl3⟩
              clear hM9 ha9 ht9 hT9 hB2 hB3
              go_wp2_with fail
              (with_reducible refine (TE.out C9 a9 t9 _ ?_).mono ?_)
              · exact (HM9.out.below blw)
              rintro e w90 ⟨rfl, hb90⟩
              haveI : Stp _ w90 := ⟨hb90⟩
              have HM90 := hide (MK.below (HM9.out.below blw) hb90)
              clear hb90
              have hk2 : BoxAt w90 (w.heap.size + 1 + 1) _ 38 := inferInstance
              have hk3 : BoxAt w90 (w.heap.size + 1 + 1 + 1) _ 43 := inferInstance
              go_wp2_with fail
              obtain ⟨w91, e91, b91, g91⟩ := stored14 hk2 (.int .i64 a9.n) (.int .u64 a9.i) (.int .u64 a9.rd) (.slice a9.SA a9.ss.length a9.sc) (.slice a9.LA a9.cl.length a9.lc) (.slice a9.TA a9.td.length a9.tc) (.slice a9.GA a9.gt.length a9.gc) (.bool a9.dn) (.bool a9.sp) (.int .u64 a9.vw.r) (.int .i64 a9.vw.n) (.int .u64 a9.vw.i) (.slice a9.vw.MA a9.vw.ms.length a9.vw.mc) (.slice a9.vw.UA a9.vw.us.length a9.vw.uc)
              rw [← e91]
              obtain ⟨w92, e92, b92, g92⟩ := stored14 (hk3.grs g91 (by simp)) (.slice t9.A t9.ts.length t9.c) (.bool t9.sd) (.int .i64 t9.pp.n) (.int .u64 t9.pp.i) (.int .u64 t9.pp.rd) (.slice t9.pp.SA t9.pp.ss.length t9.pp.sc) (.slice t9.pp.CA t9.pp.cs.length t9.pp.cc) (.slice t9.pp.UA t9.pp.us.length t9.pp.uc) (.bool t9.md) (.int .u64 t9.vw.r) (.int .i64 t9.vw.n) (.int .u64 t9.vw.i) (.slice t9.vw.MA t9.vw.ms.length t9.vw.mc) (.slice t9.vw.UA t9.vw.us.length t9.vw.uc)
              rw [← e92]
              haveI := b91.grs g92 (by simp)
              haveI := b92
              refine bodyPost_ret (v := .tuple #[a9.v, t9.v]) (by simp [results, Tryz.results14, go_sem]) rfl ?_
              exact AT.fin HAV.out HD.out (by omega) (by omega) HM90.out (fun i hi => by have := HT9.out.ge (B := w.heap.size + 1 + 1 + 1 + 1) HC.out (by have := HMR.out.bx.lt; omega) i hi; omega) ((blw (a := w) (W := wr)).trans ((HT9.out.trans (.bel blw)).g.below (blw (a := w)).size (fun i hi => by have := HC.out i hi; omega))) (gr_two g91 g92) HA9.out HU9.out
    · exact absurd (HRB.out.trans HMF.out) (by simp)
end Go.Proofs.YtkglclekieckoaaGreat

namespace Go.Proofs.YtkglclekieckoaaGreat
set_option linter.unusedSimpArgs false
set_option linter.unusedVariables false
set_option linter.unusedSectionVars false
open Go.RowKit

theorem take18_s (D : List Nat) (a : Ag) (p : Pp) (w : World) (h : @Ag.Ok (avo D) w a) (hD : ∀ i ∈ D, i < w.heap.size) (hi : a.br.Inv) (hp : @PpO (avo D) w [] p) (hpo : ppOk p) :
    Calls Tryz.prog 14 #[a.v, .agg #[.int .i64 p.n, .int .u64 p.i, .int .u64 p.rd, .slice p.SA p.ss.length p.sc, .slice p.CA p.cs.length p.cc, .slice p.UA p.us.length p.uc]] w (RetAT D w (takeP a.br p)) := by
  cases hr : refB a.br p
  · cases hm : lateB a.br.gt p
    · exact take18_m D a p w h hD hi hp hpo hm hr
    · exact take18_l D a p w h hD hi hp hpo hm hr
  · exact take18_r D a p w h hD hi hp hpo hr
end Go.Proofs.YtkglclekieckoaaGreat
