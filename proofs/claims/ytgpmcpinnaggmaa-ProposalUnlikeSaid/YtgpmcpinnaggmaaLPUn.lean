/-
  Layer 9: the law ProposalUnlike: true for every input.
-/
import Derived.Test.YtgpmcpinnaggmaaLP0
namespace Go.Proofs.Ytgpmcpinnaggmaa
set_option linter.unusedSimpArgs false
set_option linter.unusedVariables false
set_option linter.unusedSectionVars false
open Go.RowKit

set_option maxRecDepth 100000 in
set_option maxHeartbeats 4000000 in
theorem punlikeTT (x y : Pp) (w : World) (okx : x.Ok w) (oky : y.Ok w) (wx : x.Wf) (wy : y.Wf) (hhx : hvP x = false) (hhy : hvP y = false) (hmx : x.mayB = true) (hmy : y.mayB = true) :
    Calls Try.prog 8 #[x.v, y.v] w (RetB w true) := by
  have TA := hide (fun W => awake9_t W)
  have TE := hide (fun W (h : x.Ok W) => pencode_f x W h (PpF.of wx) hmx)
  have TE' := hide (fun W (h : y.Ok W) => pencode_f y W h (PpF.of wy) hmy)
  have HX := hide okx
  have HY := hide oky
  have HK1 := hide (penc_ok x (PpF.of wx))
  have HK2 := hide (penc_ok y (PpF.of wy))
  have hl1 := penc_len x hmx
  have hl2 := penc_len y hmy
  have T3 := hide (fun W (h : x.Ok W) (h' : y.Ok W) => psame_s x y W h h')
  have T4 := hide (fun W (h : x.Ok W) (h' : y.Ok W) => refPSame_s x y W h h')
  have hse : (((strOfNums x.enc).toList == (strOfNums y.enc).toList) == Pp.eqB x y) = true := by
    have h := pp_enc_eq hmx hmy (PpF.of wx) (PpF.of wy)
    cases hq : Pp.eqB x y
    · rw [hq] at h
      have : ¬ (strOfNums x.enc).toList = (strOfNums y.enc).toList := fun h' => by
        have := h.1 (strOfNums_inj HK1.out HK2.out h'); cases this
      simp [this]
    · rw [h.2 hq]; simp
  generalize Pp.eqB x y = b2 at T3 T4 hse
  generalize x.enc = en at TE hl1 HK1 hse
  generalize y.enc = en' at TE' hl2 HK2 hse
  have e2 : (b2 == b2) = true := by simp
  obtain ⟨n, i, rd, SA, sc, ss, CA, cc, cs, UA, uc, us⟩ := x
  obtain ⟨n', i', rd', SA', sc', ss', CA', cc', cs', UA', uc', us'⟩ := y
  have TH : Hid (Calls Try.prog 19 #[.slice (some ⟨w.heap.size + 1 + 1, 0, none⟩) 1 1] (((w.alloc (bxP n i rd SA ss.length sc CA cs.length cc UA us.length uc)).alloc (bxP n' i' rd' SA' ss'.length sc' CA' cs'.length cc' UA' us'.length uc')).alloc (.cells #[.int .i64 n, .int .u64 i, .int .u64 rd, .slice SA ss.length sc, .slice CA cs.length cc, .slice UA us.length uc] 51)) fun e w' => e = .returned (.bool (hvP ⟨n, i, rd, SA, sc, ss, CA, cc, cs, UA, uc, us⟩)) ∧ (((w.alloc (bxP n i rd SA ss.length sc CA cs.length cc UA us.length uc)).alloc (bxP n' i' rd' SA' ss'.length sc' CA' cs'.length cc' UA' us'.length uc')).alloc (.cells #[.int .i64 n, .int .u64 i, .int .u64 rd, .slice SA ss.length sc, .slice CA cs.length cc, .slice UA us.length uc] 51)) = w') := hide (heavy9_1 ⟨n, i, rd, SA, sc, ss, CA, cc, cs, UA, uc, us⟩ ((w.alloc (bxP n i rd SA ss.length sc CA cs.length cc UA us.length uc)).alloc (bxP n' i' rd' SA' ss'.length sc' CA' cs'.length cc' UA' us'.length uc')) (w.heap.size + 1 + 1) (by simp))
  rw [hhx] at TH
  have TH' : Hid (Calls Try.prog 19 #[.slice (some ⟨w.heap.size + 1 + 1 + 1, 0, none⟩) 1 1] ((((w.alloc (bxP n i rd SA ss.length sc CA cs.length cc UA us.length uc)).alloc (bxP n' i' rd' SA' ss'.length sc' CA' cs'.length cc' UA' us'.length uc')).alloc (.cells #[.int .i64 n, .int .u64 i, .int .u64 rd, .slice SA ss.length sc, .slice CA cs.length cc, .slice UA us.length uc] 51)).alloc (.cells #[.int .i64 n', .int .u64 i', .int .u64 rd', .slice SA' ss'.length sc', .slice CA' cs'.length cc', .slice UA' us'.length uc'] 51)) fun e w' => e = .returned (.bool (hvP ⟨n', i', rd', SA', sc', ss', CA', cc', cs', UA', uc', us'⟩)) ∧ ((((w.alloc (bxP n i rd SA ss.length sc CA cs.length cc UA us.length uc)).alloc (bxP n' i' rd' SA' ss'.length sc' CA' cs'.length cc' UA' us'.length uc')).alloc (.cells #[.int .i64 n, .int .u64 i, .int .u64 rd, .slice SA ss.length sc, .slice CA cs.length cc, .slice UA us.length uc] 51)).alloc (.cells #[.int .i64 n', .int .u64 i', .int .u64 rd', .slice SA' ss'.length sc', .slice CA' cs'.length cc', .slice UA' us'.length uc'] 51)) = w') := hide (heavy9_1 ⟨n', i', rd', SA', sc', ss', CA', cc', cs', UA', uc', us'⟩ (((w.alloc (bxP n i rd SA ss.length sc CA cs.length cc UA us.length uc)).alloc (bxP n' i' rd' SA' ss'.length sc' CA' cs'.length cc' UA' us'.length uc')).alloc (.cells #[.int .i64 n, .int .u64 i, .int .u64 rd, .slice SA ss.length sc, .slice CA cs.length cc, .slice UA us.length uc] 51)) (w.heap.size + 1 + 1 + 1) (by simp))
  rw [hhy] at TH'
  unfold Pp.v at *
  simp only at *
  clear okx oky wx wy hhx hhy hmx hmy
  go_enter Try.func8, Try.ntmps8
  go_wp2_with fail
  (with_reducible refine TH.out.mono ?_)
  rintro e w1 ⟨rfl, rfl⟩
  clear TH
  go_wp2_with fail
  (with_reducible refine TH'.out.mono ?_)
  rintro e w1 ⟨rfl, rfl⟩
  clear TH'
  have hB : Below w.heap.size w ((((w.alloc (bxP n i rd SA ss.length sc CA cs.length cc UA us.length uc)).alloc (bxP n' i' rd' SA' ss'.length sc' CA' cs'.length cc' UA' us'.length uc')).alloc (.cells #[.int .i64 n, .int .u64 i, .int .u64 rd, .slice SA ss.length sc, .slice CA cs.length cc, .slice UA us.length uc] 51)).alloc (.cells #[.int .i64 n', .int .u64 i', .int .u64 rd', .slice SA' ss'.length sc', .slice CA' cs'.length cc', .slice UA' us'.length uc'] 51)) := (by repeat (first | exact Below.refl _ _ | assumption | refine bel_al ?_ _ | refine bel_gw ?_ _ _ | refine bel_drew ?_ | refine bel_drewN ?_ _))
  have p0 := ((((boxTop w (csP n i rd SA ss.length sc CA cs.length cc UA us.length uc) 51).alloc' (bxP n' i' rd' SA' ss'.length sc' CA' cs'.length cc' UA' us'.length uc')).alloc' (.cells #[.int .i64 n, .int .u64 i, .int .u64 rd, .slice SA ss.length sc, .slice CA cs.length cc, .slice UA us.length uc] 51)).alloc' (.cells #[.int .i64 n', .int .u64 i', .int .u64 rd', .slice SA' ss'.length sc', .slice CA' cs'.length cc', .slice UA' us'.length uc'] 51))
  have p1 := (((boxTop (w.alloc (bxP n i rd SA ss.length sc CA cs.length cc UA us.length uc)) (csP n' i' rd' SA' ss'.length sc' CA' cs'.length cc' UA' us'.length uc') 51).alloc' (.cells #[.int .i64 n, .int .u64 i, .int .u64 rd, .slice SA ss.length sc, .slice CA cs.length cc, .slice UA us.length uc] 51)).alloc' (.cells #[.int .i64 n', .int .u64 i', .int .u64 rd', .slice SA' ss'.length sc', .slice CA' cs'.length cc', .slice UA' us'.length uc'] 51))
  rw [World.size_alloc] at p1
  generalize ((((w.alloc (bxP n i rd SA ss.length sc CA cs.length cc UA us.length uc)).alloc (bxP n' i' rd' SA' ss'.length sc' CA' cs'.length cc' UA' us'.length uc')).alloc (.cells #[.int .i64 n, .int .u64 i, .int .u64 rd, .slice SA ss.length sc, .slice CA cs.length cc, .slice UA us.length uc] 51)).alloc (.cells #[.int .i64 n', .int .u64 i', .int .u64 rd', .slice SA' ss'.length sc', .slice CA' cs'.length cc', .slice UA' us'.length uc'] 51)) = w1 at hB p0 p1 ⊢
  haveI := p0
  haveI := p1
  go_wp2_with fail
  (with_reducible refine (TE.out _ (HX.out.step hB)).mono ?_)
  rintro e w4 ⟨v4, rfl, ho4, hb⟩
  obtain ⟨A4, c4, rfl, _, _⟩ := own_slice ho4
  replace p0 := p0.step hb
  replace p1 := p1.step hb
  replace hB := below_step hB hb
  have HO4 := hide ho4
  haveI := p0
  haveI := p1
  clear hb TE ho4
  go_wp2_with fail
  (with_reducible refine (TE'.out _ (HY.out.step hB)).mono ?_)
  rintro e w5 ⟨v5, rfl, ho5, hb⟩
  obtain ⟨A5, c5, rfl, _, _⟩ := own_slice ho5
  replace p0 := p0.step hb
  replace p1 := p1.step hb
  replace hB := below_step hB hb
  have HO5 := hide (own_below HO4.out hb (Nat.le_refl _))
  have hcv := fun d os => conv_reads (w := gw w5 d os) (c := c4) (Reads.below (Reads.of_own HO5.out) (below_gw w5 d os))
  have hcv2 := fun d os => conv_reads (w := gw w5 d os) (c := c5) (Reads.below (Reads.of_own ho5) (below_gw w5 d os))
  haveI := p0
  haveI := p1
  haveI : InW w.heap.size w5 := ⟨p0.lt⟩
  haveI : InW (w.heap.size + 1) w5 := ⟨p1.lt⟩
  clear hb TE' ho5 HO4 HO5 p0 p1
  go_wp2_with fail
  (refine wp_region_gw (by kernel_rfl) (by kernel_rfl) ?_; (repeat (go_big_quiet_step ((first | (go_at_call 29; with_reducible exact calls_gw (T4.out _ (HX.out.step (below_step hB (by repeat (first | exact Below.refl _ _ | assumption | refine bel_al ?_ _ | refine bel_gw ?_ _ _ | refine bel_drew ?_ | refine bel_drewN ?_ _)))) (HY.out.step (below_step hB (by repeat (first | exact Below.refl _ _ | assumption | refine bel_al ?_ _ | refine bel_gw ?_ _ _ | refine bel_drew ?_ | refine bel_drewN ?_ _)))))) | (go_at_call 28; with_reducible exact calls_gw (T3.out _ (HX.out.step (below_step hB (by repeat (first | exact Below.refl _ _ | assumption | refine bel_al ?_ _ | refine bel_gw ?_ _ _ | refine bel_drew ?_ | refine bel_drewN ?_ _)))) (HY.out.step (below_step hB (by repeat (first | exact Below.refl _ _ | assumption | refine bel_al ?_ _ | refine bel_gw ?_ _ _ | refine bel_drew ?_ | refine bel_drewN ?_ _)))))) | (go_at_call 20; with_reducible exact calls_gw (TA.out _)))))); refine wpQuiet_nil ?_; intro _ hw'; obtain ⟨⟨dq, osq⟩, hw''⟩ := hw'; subst hw'')
  go_wp2
  go_ret
  exact ⟨rfl, below_step hB (by repeat (first | exact Below.refl _ _ | assumption | refine bel_al ?_ _ | refine bel_gw ?_ _ _ | refine bel_drew ?_ | refine bel_drewN ?_ _))⟩
set_option maxRecDepth 100000 in
set_option maxHeartbeats 4000000 in
theorem punlikeTF (x y : Pp) (w : World) (okx : x.Ok w) (oky : y.Ok w) (wx : x.Wf) (wy : y.Wf) (hhx : hvP x = false) (hhy : hvP y = false) (hmx : x.mayB = true) (hmy : y.mayB = false) :
    Calls Try.prog 8 #[x.v, y.v] w (RetB w true) := by
  have TA := hide (fun W => awake9_t W)
  have TE := hide (fun W (h : x.Ok W) => pencode_f x W h (PpF.of wx) hmx)
  have TE' : Hid (∀ W, y.Ok W → Calls Try.prog 30 #[y.v] W fun e w' => e = .returned (.tuple #[.slice none 0 0, .int .i64 3]) ∧ Below W.heap.size W w') := hide (fun W h => pencode_no y W h hmy)
  have HX := hide okx
  have HY := hide oky
  obtain ⟨n, i, rd, SA, sc, ss, CA, cc, cs, UA, uc, us⟩ := x
  obtain ⟨n', i', rd', SA', sc', ss', CA', cc', cs', UA', uc', us'⟩ := y
  have TH : Hid (Calls Try.prog 19 #[.slice (some ⟨w.heap.size + 1 + 1, 0, none⟩) 1 1] (((w.alloc (bxP n i rd SA ss.length sc CA cs.length cc UA us.length uc)).alloc (bxP n' i' rd' SA' ss'.length sc' CA' cs'.length cc' UA' us'.length uc')).alloc (.cells #[.int .i64 n, .int .u64 i, .int .u64 rd, .slice SA ss.length sc, .slice CA cs.length cc, .slice UA us.length uc] 51)) fun e w' => e = .returned (.bool (hvP ⟨n, i, rd, SA, sc, ss, CA, cc, cs, UA, uc, us⟩)) ∧ (((w.alloc (bxP n i rd SA ss.length sc CA cs.length cc UA us.length uc)).alloc (bxP n' i' rd' SA' ss'.length sc' CA' cs'.length cc' UA' us'.length uc')).alloc (.cells #[.int .i64 n, .int .u64 i, .int .u64 rd, .slice SA ss.length sc, .slice CA cs.length cc, .slice UA us.length uc] 51)) = w') := hide (heavy9_1 ⟨n, i, rd, SA, sc, ss, CA, cc, cs, UA, uc, us⟩ ((w.alloc (bxP n i rd SA ss.length sc CA cs.length cc UA us.length uc)).alloc (bxP n' i' rd' SA' ss'.length sc' CA' cs'.length cc' UA' us'.length uc')) (w.heap.size + 1 + 1) (by simp))
  rw [hhx] at TH
  have TH' : Hid (Calls Try.prog 19 #[.slice (some ⟨w.heap.size + 1 + 1 + 1, 0, none⟩) 1 1] ((((w.alloc (bxP n i rd SA ss.length sc CA cs.length cc UA us.length uc)).alloc (bxP n' i' rd' SA' ss'.length sc' CA' cs'.length cc' UA' us'.length uc')).alloc (.cells #[.int .i64 n, .int .u64 i, .int .u64 rd, .slice SA ss.length sc, .slice CA cs.length cc, .slice UA us.length uc] 51)).alloc (.cells #[.int .i64 n', .int .u64 i', .int .u64 rd', .slice SA' ss'.length sc', .slice CA' cs'.length cc', .slice UA' us'.length uc'] 51)) fun e w' => e = .returned (.bool (hvP ⟨n', i', rd', SA', sc', ss', CA', cc', cs', UA', uc', us'⟩)) ∧ ((((w.alloc (bxP n i rd SA ss.length sc CA cs.length cc UA us.length uc)).alloc (bxP n' i' rd' SA' ss'.length sc' CA' cs'.length cc' UA' us'.length uc')).alloc (.cells #[.int .i64 n, .int .u64 i, .int .u64 rd, .slice SA ss.length sc, .slice CA cs.length cc, .slice UA us.length uc] 51)).alloc (.cells #[.int .i64 n', .int .u64 i', .int .u64 rd', .slice SA' ss'.length sc', .slice CA' cs'.length cc', .slice UA' us'.length uc'] 51)) = w') := hide (heavy9_1 ⟨n', i', rd', SA', sc', ss', CA', cc', cs', UA', uc', us'⟩ (((w.alloc (bxP n i rd SA ss.length sc CA cs.length cc UA us.length uc)).alloc (bxP n' i' rd' SA' ss'.length sc' CA' cs'.length cc' UA' us'.length uc')).alloc (.cells #[.int .i64 n, .int .u64 i, .int .u64 rd, .slice SA ss.length sc, .slice CA cs.length cc, .slice UA us.length uc] 51)) (w.heap.size + 1 + 1 + 1) (by simp))
  rw [hhy] at TH'
  unfold Pp.v at *
  simp only at *
  clear okx oky wx wy hhx hhy hmx hmy
  go_enter Try.func8, Try.ntmps8
  go_wp2_with fail
  (with_reducible refine TH.out.mono ?_)
  rintro e w1 ⟨rfl, rfl⟩
  clear TH
  go_wp2_with fail
  (with_reducible refine TH'.out.mono ?_)
  rintro e w1 ⟨rfl, rfl⟩
  clear TH'
  have hB : Below w.heap.size w ((((w.alloc (bxP n i rd SA ss.length sc CA cs.length cc UA us.length uc)).alloc (bxP n' i' rd' SA' ss'.length sc' CA' cs'.length cc' UA' us'.length uc')).alloc (.cells #[.int .i64 n, .int .u64 i, .int .u64 rd, .slice SA ss.length sc, .slice CA cs.length cc, .slice UA us.length uc] 51)).alloc (.cells #[.int .i64 n', .int .u64 i', .int .u64 rd', .slice SA' ss'.length sc', .slice CA' cs'.length cc', .slice UA' us'.length uc'] 51)) := (by repeat (first | exact Below.refl _ _ | assumption | refine bel_al ?_ _ | refine bel_gw ?_ _ _ | refine bel_drew ?_ | refine bel_drewN ?_ _))
  have p0 := ((((boxTop w (csP n i rd SA ss.length sc CA cs.length cc UA us.length uc) 51).alloc' (bxP n' i' rd' SA' ss'.length sc' CA' cs'.length cc' UA' us'.length uc')).alloc' (.cells #[.int .i64 n, .int .u64 i, .int .u64 rd, .slice SA ss.length sc, .slice CA cs.length cc, .slice UA us.length uc] 51)).alloc' (.cells #[.int .i64 n', .int .u64 i', .int .u64 rd', .slice SA' ss'.length sc', .slice CA' cs'.length cc', .slice UA' us'.length uc'] 51))
  have p1 := (((boxTop (w.alloc (bxP n i rd SA ss.length sc CA cs.length cc UA us.length uc)) (csP n' i' rd' SA' ss'.length sc' CA' cs'.length cc' UA' us'.length uc') 51).alloc' (.cells #[.int .i64 n, .int .u64 i, .int .u64 rd, .slice SA ss.length sc, .slice CA cs.length cc, .slice UA us.length uc] 51)).alloc' (.cells #[.int .i64 n', .int .u64 i', .int .u64 rd', .slice SA' ss'.length sc', .slice CA' cs'.length cc', .slice UA' us'.length uc'] 51))
  rw [World.size_alloc] at p1
  generalize ((((w.alloc (bxP n i rd SA ss.length sc CA cs.length cc UA us.length uc)).alloc (bxP n' i' rd' SA' ss'.length sc' CA' cs'.length cc' UA' us'.length uc')).alloc (.cells #[.int .i64 n, .int .u64 i, .int .u64 rd, .slice SA ss.length sc, .slice CA cs.length cc, .slice UA us.length uc] 51)).alloc (.cells #[.int .i64 n', .int .u64 i', .int .u64 rd', .slice SA' ss'.length sc', .slice CA' cs'.length cc', .slice UA' us'.length uc'] 51)) = w1 at hB p0 p1 ⊢
  haveI := p0
  haveI := p1
  go_wp2_with fail
  (with_reducible refine (TE.out _ (HX.out.step hB)).mono ?_)
  rintro e w4 ⟨v4, rfl, ho4, hb⟩
  obtain ⟨A4, c4, rfl, _, _⟩ := own_slice ho4
  replace p0 := p0.step hb
  replace p1 := p1.step hb
  replace hB := below_step hB hb
  have HO4 := hide ho4
  haveI := p0
  haveI := p1
  clear hb TE ho4
  go_wp2_with fail
  (with_reducible refine (TE'.out _ (HY.out.step hB)).mono ?_)
  rintro e w5 ⟨rfl, hb⟩
  replace hB := below_step hB hb
  clear hb TE' p0 p1
  go_wp2_with fail
  (with_reducible refine (TA.out _).mono ?_)
  rintro e w17 ⟨rfl, hb⟩
  replace hB := below_step hB hb
  clear hb
  go_wp2
  go_ret
  exact ⟨rfl, hB⟩
set_option maxRecDepth 100000 in
set_option maxHeartbeats 4000000 in
theorem punlikeFT (x y : Pp) (w : World) (okx : x.Ok w) (oky : y.Ok w) (wx : x.Wf) (wy : y.Wf) (hhx : hvP x = false) (hhy : hvP y = false) (hmx : x.mayB = false) (hmy : y.mayB = true) :
    Calls Try.prog 8 #[x.v, y.v] w (RetB w true) := by
  have TA := hide (fun W => awake9_t W)
  have TE : Hid (∀ W, x.Ok W → Calls Try.prog 30 #[x.v] W fun e w' => e = .returned (.tuple #[.slice none 0 0, .int .i64 3]) ∧ Below W.heap.size W w') := hide (fun W h => pencode_no x W h hmx)
  have TE' := hide (fun W (h : y.Ok W) => pencode_f y W h (PpF.of wy) hmy)
  have HX := hide okx
  have HY := hide oky
  obtain ⟨n, i, rd, SA, sc, ss, CA, cc, cs, UA, uc, us⟩ := x
  obtain ⟨n', i', rd', SA', sc', ss', CA', cc', cs', UA', uc', us'⟩ := y
  have TH : Hid (Calls Try.prog 19 #[.slice (some ⟨w.heap.size + 1 + 1, 0, none⟩) 1 1] (((w.alloc (bxP n i rd SA ss.length sc CA cs.length cc UA us.length uc)).alloc (bxP n' i' rd' SA' ss'.length sc' CA' cs'.length cc' UA' us'.length uc')).alloc (.cells #[.int .i64 n, .int .u64 i, .int .u64 rd, .slice SA ss.length sc, .slice CA cs.length cc, .slice UA us.length uc] 51)) fun e w' => e = .returned (.bool (hvP ⟨n, i, rd, SA, sc, ss, CA, cc, cs, UA, uc, us⟩)) ∧ (((w.alloc (bxP n i rd SA ss.length sc CA cs.length cc UA us.length uc)).alloc (bxP n' i' rd' SA' ss'.length sc' CA' cs'.length cc' UA' us'.length uc')).alloc (.cells #[.int .i64 n, .int .u64 i, .int .u64 rd, .slice SA ss.length sc, .slice CA cs.length cc, .slice UA us.length uc] 51)) = w') := hide (heavy9_1 ⟨n, i, rd, SA, sc, ss, CA, cc, cs, UA, uc, us⟩ ((w.alloc (bxP n i rd SA ss.length sc CA cs.length cc UA us.length uc)).alloc (bxP n' i' rd' SA' ss'.length sc' CA' cs'.length cc' UA' us'.length uc')) (w.heap.size + 1 + 1) (by simp))
  rw [hhx] at TH
  have TH' : Hid (Calls Try.prog 19 #[.slice (some ⟨w.heap.size + 1 + 1 + 1, 0, none⟩) 1 1] ((((w.alloc (bxP n i rd SA ss.length sc CA cs.length cc UA us.length uc)).alloc (bxP n' i' rd' SA' ss'.length sc' CA' cs'.length cc' UA' us'.length uc')).alloc (.cells #[.int .i64 n, .int .u64 i, .int .u64 rd, .slice SA ss.length sc, .slice CA cs.length cc, .slice UA us.length uc] 51)).alloc (.cells #[.int .i64 n', .int .u64 i', .int .u64 rd', .slice SA' ss'.length sc', .slice CA' cs'.length cc', .slice UA' us'.length uc'] 51)) fun e w' => e = .returned (.bool (hvP ⟨n', i', rd', SA', sc', ss', CA', cc', cs', UA', uc', us'⟩)) ∧ ((((w.alloc (bxP n i rd SA ss.length sc CA cs.length cc UA us.length uc)).alloc (bxP n' i' rd' SA' ss'.length sc' CA' cs'.length cc' UA' us'.length uc')).alloc (.cells #[.int .i64 n, .int .u64 i, .int .u64 rd, .slice SA ss.length sc, .slice CA cs.length cc, .slice UA us.length uc] 51)).alloc (.cells #[.int .i64 n', .int .u64 i', .int .u64 rd', .slice SA' ss'.length sc', .slice CA' cs'.length cc', .slice UA' us'.length uc'] 51)) = w') := hide (heavy9_1 ⟨n', i', rd', SA', sc', ss', CA', cc', cs', UA', uc', us'⟩ (((w.alloc (bxP n i rd SA ss.length sc CA cs.length cc UA us.length uc)).alloc (bxP n' i' rd' SA' ss'.length sc' CA' cs'.length cc' UA' us'.length uc')).alloc (.cells #[.int .i64 n, .int .u64 i, .int .u64 rd, .slice SA ss.length sc, .slice CA cs.length cc, .slice UA us.length uc] 51)) (w.heap.size + 1 + 1 + 1) (by simp))
  rw [hhy] at TH'
  unfold Pp.v at *
  simp only at *
  clear okx oky wx wy hhx hhy hmx hmy
  go_enter Try.func8, Try.ntmps8
  go_wp2_with fail
  (with_reducible refine TH.out.mono ?_)
  rintro e w1 ⟨rfl, rfl⟩
  clear TH
  go_wp2_with fail
  (with_reducible refine TH'.out.mono ?_)
  rintro e w1 ⟨rfl, rfl⟩
  clear TH'
  have hB : Below w.heap.size w ((((w.alloc (bxP n i rd SA ss.length sc CA cs.length cc UA us.length uc)).alloc (bxP n' i' rd' SA' ss'.length sc' CA' cs'.length cc' UA' us'.length uc')).alloc (.cells #[.int .i64 n, .int .u64 i, .int .u64 rd, .slice SA ss.length sc, .slice CA cs.length cc, .slice UA us.length uc] 51)).alloc (.cells #[.int .i64 n', .int .u64 i', .int .u64 rd', .slice SA' ss'.length sc', .slice CA' cs'.length cc', .slice UA' us'.length uc'] 51)) := (by repeat (first | exact Below.refl _ _ | assumption | refine bel_al ?_ _ | refine bel_gw ?_ _ _ | refine bel_drew ?_ | refine bel_drewN ?_ _))
  have p0 := ((((boxTop w (csP n i rd SA ss.length sc CA cs.length cc UA us.length uc) 51).alloc' (bxP n' i' rd' SA' ss'.length sc' CA' cs'.length cc' UA' us'.length uc')).alloc' (.cells #[.int .i64 n, .int .u64 i, .int .u64 rd, .slice SA ss.length sc, .slice CA cs.length cc, .slice UA us.length uc] 51)).alloc' (.cells #[.int .i64 n', .int .u64 i', .int .u64 rd', .slice SA' ss'.length sc', .slice CA' cs'.length cc', .slice UA' us'.length uc'] 51))
  have p1 := (((boxTop (w.alloc (bxP n i rd SA ss.length sc CA cs.length cc UA us.length uc)) (csP n' i' rd' SA' ss'.length sc' CA' cs'.length cc' UA' us'.length uc') 51).alloc' (.cells #[.int .i64 n, .int .u64 i, .int .u64 rd, .slice SA ss.length sc, .slice CA cs.length cc, .slice UA us.length uc] 51)).alloc' (.cells #[.int .i64 n', .int .u64 i', .int .u64 rd', .slice SA' ss'.length sc', .slice CA' cs'.length cc', .slice UA' us'.length uc'] 51))
  rw [World.size_alloc] at p1
  generalize ((((w.alloc (bxP n i rd SA ss.length sc CA cs.length cc UA us.length uc)).alloc (bxP n' i' rd' SA' ss'.length sc' CA' cs'.length cc' UA' us'.length uc')).alloc (.cells #[.int .i64 n, .int .u64 i, .int .u64 rd, .slice SA ss.length sc, .slice CA cs.length cc, .slice UA us.length uc] 51)).alloc (.cells #[.int .i64 n', .int .u64 i', .int .u64 rd', .slice SA' ss'.length sc', .slice CA' cs'.length cc', .slice UA' us'.length uc'] 51)) = w1 at hB p0 p1 ⊢
  haveI := p0
  haveI := p1
  go_wp2_with fail
  (with_reducible refine (TE.out _ (HX.out.step hB)).mono ?_)
  rintro e w4 ⟨rfl, hb⟩
  replace p0 := p0.step hb
  replace p1 := p1.step hb
  replace hB := below_step hB hb
  haveI := p0
  haveI := p1
  clear hb TE
  go_wp2_with fail
  (with_reducible refine (TE'.out _ (HY.out.step hB)).mono ?_)
  rintro e w5 ⟨v5, rfl, ho5, hb⟩
  replace hB := below_step hB hb
  clear hb TE' p0 p1 ho5
  go_wp2_with fail
  (with_reducible refine (TA.out _).mono ?_)
  rintro e w17 ⟨rfl, hb⟩
  replace hB := below_step hB hb
  clear hb
  go_wp2
  go_ret
  exact ⟨rfl, hB⟩
set_option maxRecDepth 100000 in
set_option maxHeartbeats 4000000 in
theorem punlikeFF (x y : Pp) (w : World) (okx : x.Ok w) (oky : y.Ok w) (wx : x.Wf) (wy : y.Wf) (hhx : hvP x = false) (hhy : hvP y = false) (hmx : x.mayB = false) (hmy : y.mayB = false) :
    Calls Try.prog 8 #[x.v, y.v] w (RetB w true) := by
  have TA := hide (fun W => awake9_t W)
  have TE : Hid (∀ W, x.Ok W → Calls Try.prog 30 #[x.v] W fun e w' => e = .returned (.tuple #[.slice none 0 0, .int .i64 3]) ∧ Below W.heap.size W w') := hide (fun W h => pencode_no x W h hmx)
  have TE' : Hid (∀ W, y.Ok W → Calls Try.prog 30 #[y.v] W fun e w' => e = .returned (.tuple #[.slice none 0 0, .int .i64 3]) ∧ Below W.heap.size W w') := hide (fun W h => pencode_no y W h hmy)
  have HX := hide okx
  have HY := hide oky
  obtain ⟨n, i, rd, SA, sc, ss, CA, cc, cs, UA, uc, us⟩ := x
  obtain ⟨n', i', rd', SA', sc', ss', CA', cc', cs', UA', uc', us'⟩ := y
  have TH : Hid (Calls Try.prog 19 #[.slice (some ⟨w.heap.size + 1 + 1, 0, none⟩) 1 1] (((w.alloc (bxP n i rd SA ss.length sc CA cs.length cc UA us.length uc)).alloc (bxP n' i' rd' SA' ss'.length sc' CA' cs'.length cc' UA' us'.length uc')).alloc (.cells #[.int .i64 n, .int .u64 i, .int .u64 rd, .slice SA ss.length sc, .slice CA cs.length cc, .slice UA us.length uc] 51)) fun e w' => e = .returned (.bool (hvP ⟨n, i, rd, SA, sc, ss, CA, cc, cs, UA, uc, us⟩)) ∧ (((w.alloc (bxP n i rd SA ss.length sc CA cs.length cc UA us.length uc)).alloc (bxP n' i' rd' SA' ss'.length sc' CA' cs'.length cc' UA' us'.length uc')).alloc (.cells #[.int .i64 n, .int .u64 i, .int .u64 rd, .slice SA ss.length sc, .slice CA cs.length cc, .slice UA us.length uc] 51)) = w') := hide (heavy9_1 ⟨n, i, rd, SA, sc, ss, CA, cc, cs, UA, uc, us⟩ ((w.alloc (bxP n i rd SA ss.length sc CA cs.length cc UA us.length uc)).alloc (bxP n' i' rd' SA' ss'.length sc' CA' cs'.length cc' UA' us'.length uc')) (w.heap.size + 1 + 1) (by simp))
  rw [hhx] at TH
  have TH' : Hid (Calls Try.prog 19 #[.slice (some ⟨w.heap.size + 1 + 1 + 1, 0, none⟩) 1 1] ((((w.alloc (bxP n i rd SA ss.length sc CA cs.length cc UA us.length uc)).alloc (bxP n' i' rd' SA' ss'.length sc' CA' cs'.length cc' UA' us'.length uc')).alloc (.cells #[.int .i64 n, .int .u64 i, .int .u64 rd, .slice SA ss.length sc, .slice CA cs.length cc, .slice UA us.length uc] 51)).alloc (.cells #[.int .i64 n', .int .u64 i', .int .u64 rd', .slice SA' ss'.length sc', .slice CA' cs'.length cc', .slice UA' us'.length uc'] 51)) fun e w' => e = .returned (.bool (hvP ⟨n', i', rd', SA', sc', ss', CA', cc', cs', UA', uc', us'⟩)) ∧ ((((w.alloc (bxP n i rd SA ss.length sc CA cs.length cc UA us.length uc)).alloc (bxP n' i' rd' SA' ss'.length sc' CA' cs'.length cc' UA' us'.length uc')).alloc (.cells #[.int .i64 n, .int .u64 i, .int .u64 rd, .slice SA ss.length sc, .slice CA cs.length cc, .slice UA us.length uc] 51)).alloc (.cells #[.int .i64 n', .int .u64 i', .int .u64 rd', .slice SA' ss'.length sc', .slice CA' cs'.length cc', .slice UA' us'.length uc'] 51)) = w') := hide (heavy9_1 ⟨n', i', rd', SA', sc', ss', CA', cc', cs', UA', uc', us'⟩ (((w.alloc (bxP n i rd SA ss.length sc CA cs.length cc UA us.length uc)).alloc (bxP n' i' rd' SA' ss'.length sc' CA' cs'.length cc' UA' us'.length uc')).alloc (.cells #[.int .i64 n, .int .u64 i, .int .u64 rd, .slice SA ss.length sc, .slice CA cs.length cc, .slice UA us.length uc] 51)) (w.heap.size + 1 + 1 + 1) (by simp))
  rw [hhy] at TH'
  unfold Pp.v at *
  simp only at *
  clear okx oky wx wy hhx hhy hmx hmy
  go_enter Try.func8, Try.ntmps8
  go_wp2_with fail
  (with_reducible refine TH.out.mono ?_)
  rintro e w1 ⟨rfl, rfl⟩
  clear TH
  go_wp2_with fail
  (with_reducible refine TH'.out.mono ?_)
  rintro e w1 ⟨rfl, rfl⟩
  clear TH'
  have hB : Below w.heap.size w ((((w.alloc (bxP n i rd SA ss.length sc CA cs.length cc UA us.length uc)).alloc (bxP n' i' rd' SA' ss'.length sc' CA' cs'.length cc' UA' us'.length uc')).alloc (.cells #[.int .i64 n, .int .u64 i, .int .u64 rd, .slice SA ss.length sc, .slice CA cs.length cc, .slice UA us.length uc] 51)).alloc (.cells #[.int .i64 n', .int .u64 i', .int .u64 rd', .slice SA' ss'.length sc', .slice CA' cs'.length cc', .slice UA' us'.length uc'] 51)) := (by repeat (first | exact Below.refl _ _ | assumption | refine bel_al ?_ _ | refine bel_gw ?_ _ _ | refine bel_drew ?_ | refine bel_drewN ?_ _))
  have p0 := ((((boxTop w (csP n i rd SA ss.length sc CA cs.length cc UA us.length uc) 51).alloc' (bxP n' i' rd' SA' ss'.length sc' CA' cs'.length cc' UA' us'.length uc')).alloc' (.cells #[.int .i64 n, .int .u64 i, .int .u64 rd, .slice SA ss.length sc, .slice CA cs.length cc, .slice UA us.length uc] 51)).alloc' (.cells #[.int .i64 n', .int .u64 i', .int .u64 rd', .slice SA' ss'.length sc', .slice CA' cs'.length cc', .slice UA' us'.length uc'] 51))
  have p1 := (((boxTop (w.alloc (bxP n i rd SA ss.length sc CA cs.length cc UA us.length uc)) (csP n' i' rd' SA' ss'.length sc' CA' cs'.length cc' UA' us'.length uc') 51).alloc' (.cells #[.int .i64 n, .int .u64 i, .int .u64 rd, .slice SA ss.length sc, .slice CA cs.length cc, .slice UA us.length uc] 51)).alloc' (.cells #[.int .i64 n', .int .u64 i', .int .u64 rd', .slice SA' ss'.length sc', .slice CA' cs'.length cc', .slice UA' us'.length uc'] 51))
  rw [World.size_alloc] at p1
  generalize ((((w.alloc (bxP n i rd SA ss.length sc CA cs.length cc UA us.length uc)).alloc (bxP n' i' rd' SA' ss'.length sc' CA' cs'.length cc' UA' us'.length uc')).alloc (.cells #[.int .i64 n, .int .u64 i, .int .u64 rd, .slice SA ss.length sc, .slice CA cs.length cc, .slice UA us.length uc] 51)).alloc (.cells #[.int .i64 n', .int .u64 i', .int .u64 rd', .slice SA' ss'.length sc', .slice CA' cs'.length cc', .slice UA' us'.length uc'] 51)) = w1 at hB p0 p1 ⊢
  haveI := p0
  haveI := p1
  go_wp2_with fail
  (with_reducible refine (TE.out _ (HX.out.step hB)).mono ?_)
  rintro e w4 ⟨rfl, hb⟩
  replace p0 := p0.step hb
  replace p1 := p1.step hb
  replace hB := below_step hB hb
  haveI := p0
  haveI := p1
  clear hb TE
  go_wp2_with fail
  (with_reducible refine (TE'.out _ (HY.out.step hB)).mono ?_)
  rintro e w5 ⟨rfl, hb⟩
  replace hB := below_step hB hb
  clear hb TE' p0 p1
  go_wp2_with fail
  (with_reducible refine (TA.out _).mono ?_)
  rintro e w17 ⟨rfl, hb⟩
  replace hB := below_step hB hb
  clear hb
  go_wp2
  go_ret
  exact ⟨rfl, hB⟩
set_option maxRecDepth 100000 in
set_option maxHeartbeats 4000000 in
theorem proposalUnlike_true (x y : Pp) (w : World) (hx : x.In w) (wx : x.Wf) (hy : y.In w) (wy : y.Wf) :
    Calls Try.prog 8 #[x.v, y.v] w (RetB w true) := by
  have TA := hide (fun W => awake9_t W)
  cases hh : hvP x
  · cases hh' : hvP y
    · have okx := Pp.ok_of hx hh
      have oky := Pp.ok_of hy hh'
      cases hmx : x.mayB <;> cases hmy : y.mayB
      · exact punlikeFF x y w okx oky wx wy hh hh' hmx hmy
      · exact punlikeFT x y w okx oky wx wy hh hh' hmx hmy
      · exact punlikeTF x y w okx oky wx wy hh hh' hmx hmy
      · exact punlikeTT x y w okx oky wx wy hh hh' hmx hmy
    · clear hx hy wx wy
      obtain ⟨n, i, rd, SA, sc, ss, CA, cc, cs, UA, uc, us⟩ := x
      obtain ⟨n', i', rd', SA', sc', ss', CA', cc', cs', UA', uc', us'⟩ := y
      have TH : Hid (Calls Try.prog 19 #[.slice (some ⟨w.heap.size + 1 + 1, 0, none⟩) 1 1] (((w.alloc (bxP n i rd SA ss.length sc CA cs.length cc UA us.length uc)).alloc (bxP n' i' rd' SA' ss'.length sc' CA' cs'.length cc' UA' us'.length uc')).alloc (.cells #[.int .i64 n, .int .u64 i, .int .u64 rd, .slice SA ss.length sc, .slice CA cs.length cc, .slice UA us.length uc] 51)) fun e w' => e = .returned (.bool (hvP ⟨n, i, rd, SA, sc, ss, CA, cc, cs, UA, uc, us⟩)) ∧ (((w.alloc (bxP n i rd SA ss.length sc CA cs.length cc UA us.length uc)).alloc (bxP n' i' rd' SA' ss'.length sc' CA' cs'.length cc' UA' us'.length uc')).alloc (.cells #[.int .i64 n, .int .u64 i, .int .u64 rd, .slice SA ss.length sc, .slice CA cs.length cc, .slice UA us.length uc] 51)) = w') := hide (heavy9_1 ⟨n, i, rd, SA, sc, ss, CA, cc, cs, UA, uc, us⟩ ((w.alloc (bxP n i rd SA ss.length sc CA cs.length cc UA us.length uc)).alloc (bxP n' i' rd' SA' ss'.length sc' CA' cs'.length cc' UA' us'.length uc')) (w.heap.size + 1 + 1) (by simp))
      rw [hh] at TH
      have TH' : Hid (Calls Try.prog 19 #[.slice (some ⟨w.heap.size + 1 + 1 + 1, 0, none⟩) 1 1] ((((w.alloc (bxP n i rd SA ss.length sc CA cs.length cc UA us.length uc)).alloc (bxP n' i' rd' SA' ss'.length sc' CA' cs'.length cc' UA' us'.length uc')).alloc (.cells #[.int .i64 n, .int .u64 i, .int .u64 rd, .slice SA ss.length sc, .slice CA cs.length cc, .slice UA us.length uc] 51)).alloc (.cells #[.int .i64 n', .int .u64 i', .int .u64 rd', .slice SA' ss'.length sc', .slice CA' cs'.length cc', .slice UA' us'.length uc'] 51)) fun e w' => e = .returned (.bool (hvP ⟨n', i', rd', SA', sc', ss', CA', cc', cs', UA', uc', us'⟩)) ∧ ((((w.alloc (bxP n i rd SA ss.length sc CA cs.length cc UA us.length uc)).alloc (bxP n' i' rd' SA' ss'.length sc' CA' cs'.length cc' UA' us'.length uc')).alloc (.cells #[.int .i64 n, .int .u64 i, .int .u64 rd, .slice SA ss.length sc, .slice CA cs.length cc, .slice UA us.length uc] 51)).alloc (.cells #[.int .i64 n', .int .u64 i', .int .u64 rd', .slice SA' ss'.length sc', .slice CA' cs'.length cc', .slice UA' us'.length uc'] 51)) = w') := hide (heavy9_1 ⟨n', i', rd', SA', sc', ss', CA', cc', cs', UA', uc', us'⟩ (((w.alloc (bxP n i rd SA ss.length sc CA cs.length cc UA us.length uc)).alloc (bxP n' i' rd' SA' ss'.length sc' CA' cs'.length cc' UA' us'.length uc')).alloc (.cells #[.int .i64 n, .int .u64 i, .int .u64 rd, .slice SA ss.length sc, .slice CA cs.length cc, .slice UA us.length uc] 51)) (w.heap.size + 1 + 1 + 1) (by simp))
      rw [hh'] at TH'
      unfold Pp.v at *
      simp only at *
      clear hh hh'
      go_enter Try.func8, Try.ntmps8
      go_wp2_with fail
      (with_reducible refine TH.out.mono ?_)
      rintro e w1 ⟨rfl, rfl⟩
      clear TH
      go_wp2_with fail
      (with_reducible refine TH'.out.mono ?_)
      rintro e w1 ⟨rfl, rfl⟩
      clear TH'
      go_wp2_with fail
      (with_reducible refine (TA.out _).mono ?_)
      rintro e w3 ⟨rfl, hb⟩
      obtain ⟨⟨d3, os3⟩, rfl⟩ := gw_of_below hb
      clear hb
      go_wp2
      go_ret
      exact ⟨rfl, (by repeat (first | exact Below.refl _ _ | assumption | refine bel_al ?_ _ | refine bel_gw ?_ _ _ | refine bel_drew ?_ | refine bel_drewN ?_ _))⟩
  · clear hx hy wx wy
    obtain ⟨n, i, rd, SA, sc, ss, CA, cc, cs, UA, uc, us⟩ := x
    obtain ⟨n', i', rd', SA', sc', ss', CA', cc', cs', UA', uc', us'⟩ := y
    have TH : Hid (Calls Try.prog 19 #[.slice (some ⟨w.heap.size + 1 + 1, 0, none⟩) 1 1] (((w.alloc (bxP n i rd SA ss.length sc CA cs.length cc UA us.length uc)).alloc (bxP n' i' rd' SA' ss'.length sc' CA' cs'.length cc' UA' us'.length uc')).alloc (.cells #[.int .i64 n, .int .u64 i, .int .u64 rd, .slice SA ss.length sc, .slice CA cs.length cc, .slice UA us.length uc] 51)) fun e w' => e = .returned (.bool (hvP ⟨n, i, rd, SA, sc, ss, CA, cc, cs, UA, uc, us⟩)) ∧ (((w.alloc (bxP n i rd SA ss.length sc CA cs.length cc UA us.length uc)).alloc (bxP n' i' rd' SA' ss'.length sc' CA' cs'.length cc' UA' us'.length uc')).alloc (.cells #[.int .i64 n, .int .u64 i, .int .u64 rd, .slice SA ss.length sc, .slice CA cs.length cc, .slice UA us.length uc] 51)) = w') := hide (heavy9_1 ⟨n, i, rd, SA, sc, ss, CA, cc, cs, UA, uc, us⟩ ((w.alloc (bxP n i rd SA ss.length sc CA cs.length cc UA us.length uc)).alloc (bxP n' i' rd' SA' ss'.length sc' CA' cs'.length cc' UA' us'.length uc')) (w.heap.size + 1 + 1) (by simp))
    rw [hh] at TH
    unfold Pp.v at *
    simp only at *
    clear hh
    go_enter Try.func8, Try.ntmps8
    go_wp2_with fail
    (with_reducible refine TH.out.mono ?_)
    rintro e w1 ⟨rfl, rfl⟩
    clear TH
    go_wp2_with fail
    (with_reducible refine (TA.out _).mono ?_)
    rintro e w3 ⟨rfl, hb⟩
    obtain ⟨⟨d3, os3⟩, rfl⟩ := gw_of_below hb
    clear hb
    go_wp2
    go_ret
    exact ⟨rfl, (by repeat (first | exact Below.refl _ _ | assumption | refine bel_al ?_ _ | refine bel_gw ?_ _ _ | refine bel_drew ?_ | refine bel_drewN ?_ _))⟩
end Go.Proofs.Ytgpmcpinnaggmaa
