/-
  Layer 18: contract: the reference's Same of two agreements that are alike.
-/
import Derived.Test.YtfddiklhjkjipaaGreatOp8
import Derived.Test.YtfddiklhjkjipaaGreatLaw17
namespace Go.Proofs.YtfddiklhjkjipaaGreat
set_option linter.unusedSimpArgs false
set_option linter.unusedVariables false
set_option linter.unusedSectionVars false
open Go.RowKit

/-- an agreement can be read -/
structure AgR (W : World) (a : Ag) : Prop where
  s : Reads W W.heap.size 2 a.SA a.ss.length (pcs a.ss)
  sl : a.ss.length ≤ 1000000
  c : Reads W W.heap.size 6 a.LA a.cl.length (ccs a.cl)
  cl : a.cl.length ≤ 1000000
  t : Reads W W.heap.size 2 a.TA a.td.length (pcs a.td)
  tl : a.td.length ≤ 1000000
  p : ∀ p ∈ a.gt, p.Ok W
  pl : a.gt.length ≤ 1000
  v : a.vw.Ok W
  g : Reads W W.heap.size 6 a.GA a.gt.length (pps a.gt)
theorem Ag.Ok.rd' [Avoid] {W : World} {a : Ag} (h : a.Ok W) : AgR W a := ⟨h.o.s.1, h.o.sl, h.o.c.1, h.o.cl, h.o.t.1, h.o.tl, fun p hp => (h.o.p p hp).ok, h.o.pl, h.o.v.ok, h.g.1⟩
theorem Ag.Ok.rdD {D : List Nat} {W : World} {a : Ag} (h : @Ag.Ok (avo D) W a) : AgR W a := @Ag.Ok.rd' (avo D) W a h
theorem AgR.step {X W : World} {a : Ag} (h : AgR X a) (hb : Below X.heap.size X W) : AgR W a := ⟨(h.s.below hb).more hb.size, h.sl, (h.c.below hb).more hb.size, h.cl, (h.t.below hb).more hb.size, h.tl, fun p hp => (h.p p hp).step hb, h.pl, h.v.step hb, (h.g.below hb).more hb.size⟩
theorem br_eqB {p q : Pp} (h : p.br = q.br) : Pp.eqB p q = true := by
  obtain ⟨n, i, rd, SA, sc, ss, CA, cc, cs, UA, uc, us⟩ := p
  obtain ⟨n', i', rd', SA', sc', ss', CA', cc', cs', UA', uc', us'⟩ := q
  unfold Pp.br at h
  simp only [Pp.mk.injEq] at h
  obtain ⟨rfl, rfl, rfl, _, _, rfl, _, _, rfl, _, _, rfl⟩ := h
  simp [Pp.eqB, eqP]
theorem br_eqV {p q : Vw} (h : p.br = q.br) : Vw.eqB p q = true := by
  obtain ⟨r, n, i, MA, mc, ms, UA, uc, us⟩ := p
  obtain ⟨r', n', i', MA', mc', ms', UA', uc', us'⟩ := q
  unfold Vw.br at h
  simp only [Vw.mk.injEq] at h
  obtain ⟨rfl, rfl, rfl, _, _, rfl, _, _, rfl⟩ := h
  simp [Vw.eqB]
set_option maxRecDepth 100000 in
set_option maxHeartbeats 16000000 in
theorem refASame_s (a b : Ag) (w : World) (ha : AgR w a) (hb : AgR w b) (he : a.br = b.br) : Calls Tryz.prog 18 #[a.v, b.v] w (RetB w true) := by
  obtain ⟨n, i, rd, SA, sc, ss, LA, lc, cl, TA, tc, td, GA, gc, gt, dn, sp, ⟨vr, vn, vi, MA, mc, ms, UA, uc, us⟩⟩ := a
  obtain ⟨n', i', rd', SA', sc', ss', LA', lc', cl', TA', tc', td', GA', gc', gt', dn', sp', ⟨vr', vn', vi', MA', mc', ms', UA', uc', us'⟩⟩ := b
  unfold Ag.br Vw.br at he
  simp only [Ag.mk.injEq, Vw.mk.injEq] at he
  obtain ⟨rfl, rfl, rfl, _, _, rfl, _, _, rfl, _, _, rfl, _, _, hgt, rfl, rfl, rfl, rfl, rfl, _, _, rfl, _, _, rfl⟩ := he
  have hgl : gt'.length = gt.length := by have := congrArg List.length hgt; simpa using this.symm
  have hpl := ha.pl
  have hsl := ha.sl
  have hcl := ha.cl
  have htl := ha.tl
  simp only at hpl hsl hcl htl
  have HGT := hide hgt
  have HGL := hide hgl
  have hne : ((gt.length : Int) != (gt'.length : Int)) = false := by rw [hgl]; simp
  haveI : Src w SA ss.length 2 (pcs ss) := ⟨ha.s⟩
  haveI : Src w SA' ss.length 2 (pcs ss) := ⟨hb.s⟩
  haveI : Src w LA cl.length 6 (ccs cl) := ⟨ha.c⟩
  haveI : Src w LA' cl.length 6 (ccs cl) := ⟨hb.c⟩
  haveI : Src w TA td.length 2 (pcs td) := ⟨ha.t⟩
  haveI : Src w TA' td.length 2 (pcs td) := ⟨hb.t⟩
  haveI : Src w GA gt.length 6 (pps gt) := ⟨ha.g⟩
  haveI : Src w GA' gt'.length 6 (pps gt') := ⟨hb.g⟩
  have HPA := hide ha.p
  have HPB := hide hb.p
  have HVA := hide ha.v
  have HVB := hide hb.v
  have TE := hide (fun (A A' : Option Addr) (c c' : Nat) (l : List Pr) W (hl : l.length ≤ 1000000) (h : Reads W W.heap.size 2 A l.length (pcs l)) (h' : Reads W W.heap.size 2 A' l.length (pcs l)) => refEqual_t A A' c c' l l W h h' hl rfl)
  have TR := hide (fun W (h : Reads W W.heap.size 6 LA cl.length (ccs cl)) (h' : Reads W W.heap.size 6 LA' cl.length (ccs cl)) => (by have := refSame_s LA LA' lc lc' cl cl W h h' hcl hcl; rw [decide_eq_true rfl] at this; exact this : Calls Tryz.prog 66 #[.agg #[.slice LA cl.length lc], .agg #[.slice LA' cl.length lc']] W (RetB7 W true)))
  have TV := hide (fun W (h : Vw.Ok W ⟨vr, vn, vi, MA, mc, ms, UA, uc, us⟩) (h' : Vw.Ok W ⟨vr, vn, vi, MA', mc', ms, UA', uc', us⟩) => (by have := refVSame_s _ _ W h h'; rw [show Vw.eqB ⟨vr, vn, vi, MA, mc, ms, UA, uc, us⟩ ⟨vr, vn, vi, MA', mc', ms, UA', uc', us⟩ = true from br_eqV rfl] at this; exact this : Calls Tryz.prog 67 #[.agg #[.int .u64 vr, .int .i64 vn, .int .u64 vi, .slice MA ms.length mc, .slice UA us.length uc], .agg #[.int .u64 vr, .int .i64 vn, .int .u64 vi, .slice MA' ms.length mc', .slice UA' us.length uc']] W (RetB W true)))
  have TP := hide (fun (p q : Pp) W (h : p.Ok W) (h' : q.Ok W) (e : p.br = q.br) => (by have := refPSame_s p q W h h'; rw [br_eqB e] at this; exact this : Calls Tryz.prog 68 #[.agg #[.int .i64 p.n, .int .u64 p.i, .int .u64 p.rd, .slice p.SA p.ss.length p.sc, .slice p.CA p.cs.length p.cc, .slice p.UA p.us.length p.uc], .agg #[.int .i64 q.n, .int .u64 q.i, .int .u64 q.rd, .slice q.SA q.ss.length q.sc, .slice q.CA q.cs.length q.cc, .slice q.UA q.us.length q.uc]] W (RetBp W true)))
  have hee : eqP n i n i = true := by simp [eqP]
  clear ha hb hgt hgl
  go_enter Tryz.func18, Tryz.ntmps18
  go_wp2_with fail
  (with_reducible refine (TE.out _ _ _ _ ss _ hsl src src).mono ?_)
  rintro e w1 ⟨rfl, hb1⟩
  haveI : Stp _ w1 := ⟨hb1⟩
  clear hb1
  go_wp2_with fail
  (with_reducible refine (TR.out _ src src).mono ?_)
  rintro e w2 ⟨rfl, hb2⟩
  haveI : Stp _ w2 := ⟨hb2⟩
  clear hb2
  go_wp2_with fail
  (with_reducible refine (TE.out _ _ _ _ td _ htl src src).mono ?_)
  rintro e w3 ⟨rfl, hb3⟩
  haveI : Stp _ w3 := ⟨hb3⟩
  clear hb3
  go_wp2_with fail
  (with_reducible refine (TV.out _ ?_ ?_).mono ?_)
  · exact HVA.out.step blw
  · exact HVB.out.step blw
  rintro e w4 ⟨rfl, hb4⟩
  haveI : Stp _ w4 := ⟨hb4⟩
  clear hb4
  go_wp2_with fail
  go_loopw [5] (fun s5 wr => ∃ m : Nat, s5 = .int .i64 m ∧ m ≤ gt.length ∧ Below w4.heap.size w4 wr) (fun s5 _ => gt.length - (intOf s5).toNat)
  case atStart => exact ⟨0, rfl, Nat.zero_le _, blw⟩
  case round =>
    obtain ⟨m, rfl, hm, hB⟩ := hrel
    haveI : Stp w4 wr := ⟨hB⟩
    have zr := hB.size
    clear hB
    by_cases hlt : m < gt.length
    · have hlt' : m < gt'.length := by have := HGL.out; omega
      obtain ⟨ba, oa, p, hA, hba, hp, g0, g1, g2, g3, g4, g5⟩ := (src (w := w) (W := wr) (A := GA) (n := gt.length) (k := 6) (xs := pps gt)).at6 hlt
      obtain ⟨bb, ob, q, hB, hbb, hq, e0, e1, e2, e3, e4, e5⟩ := (src (w := w) (W := wr) (A := GA') (n := gt'.length) (k := 6) (xs := pps gt')).at6 hlt'
      subst hA hB
      haveI : InW ba wr := ⟨hba⟩
      haveI : InW bb wr := ⟨hbb⟩
      have HE := hide (show p.br = q.br by
        have h1 := congrArg (fun l : List Pp => l[m]?) HGT.out
        simp only [List.getElem?_map, hp, hq, Option.map_some] at h1
        injection h1)
      have HPO := hide (HPA.out p (List.mem_of_getElem? hp))
      have HQO := hide (HPB.out q (List.mem_of_getElem? hq))
      have i0 : (0 : Int) ≤ (m : Int) := by omega
      have i1 : (m : Int) < (gt.length : Int) := by omega
      have i2 : (m : Int) < (gt'.length : Int) := by omega
      clear hp hq
      go_wp2_with fail
      (refine wp_region_gw (by kernel_rfl) (by kernel_rfl) ?_; (repeat (go_big_quiet_step ((first | (go_at_call 68; with_reducible exact calls_gw (TP.out p q _ (HPO.out.step blw) (HQO.out.step blw) HE.out)) | fail)))); refine wpQuiet_nil ?_; intro _ hw'; obtain ⟨⟨dq, osq⟩, hw''⟩ := hw'; subst hw'')
      go_wp2
      go_roundw
      case rel => exact ⟨m + 1, by go_num, by omega, blw⟩
      case measure => simp [intOf]; omega
    · obtain rfl : m = gt.length := by omega
      go_wp2
      go_ret
      exact ⟨rfl, blw⟩
end Go.Proofs.YtfddiklhjkjipaaGreat
