/-
  Layer 9: the law ProposalMay: true for every input.
-/
import Derived.Test.YtgpmcpinnaggmaaLP0
namespace Go.Proofs.Ytgpmcpinnaggmaa
set_option linter.unusedSimpArgs false
set_option linter.unusedVariables false
set_option linter.unusedSectionVars false
open Go.RowKit

set_option maxRecDepth 100000 in
set_option maxHeartbeats 4000000 in
theorem proposalMay_true (x y : Pp) (w : World) (hx : x.In w) (wx : x.Wf) (hy : y.In w) (wy : y.Wf) :
    Calls Try.prog 7 #[x.v, y.v] w (RetB w true) := by
  have TA := hide (fun W => awake9_t W)
  cases hh : (hvP x || hvP y)
  · obtain ⟨h1, h2⟩ := Bool.or_eq_false_iff.1 hh
    have okx := Pp.ok_of hx h1
    have oky := Pp.ok_of hy h2
    have T1 := hide (fun W (h : x.Ok W) => pmay_s x W h)
    have T2 := hide (fun W (h : x.Ok W) => refPMay_s x W h wx.nn wx.rd.1)
    have T3 := hide (fun W (h : x.Ok W) (h' : y.Ok W) => psame_s x y W h h')
    have T4 := hide (fun W (h : x.Ok W) (h' : y.Ok W) => refPSame_s x y W h h')
    generalize x.mayB = b1 at T1 T2
    generalize Pp.eqB x y = b2 at T3 T4
    have e1 : (b1 == b1) = true := by simp
    have e2 : (b2 == b2) = true := by simp
    have HX := hide okx
    have HY := hide oky
    clear okx oky hx hy wx wy h1 h2
    obtain ⟨n, i, rd, SA, sc, ss, CA, cc, cs, UA, uc, us⟩ := x
    obtain ⟨n', i', rd', SA', sc', ss', CA', cc', cs', UA', uc', us'⟩ := y
    have TH : Hid (Calls Try.prog 19 #[.slice (some ⟨w.heap.size + 1 + 1, 0, none⟩) 2 2] (((w.alloc (bxP n i rd SA ss.length sc CA cs.length cc UA us.length uc)).alloc (bxP n' i' rd' SA' ss'.length sc' CA' cs'.length cc' UA' us'.length uc')).alloc (.cells #[.int .i64 n, .int .u64 i, .int .u64 rd, .slice SA ss.length sc, .slice CA cs.length cc, .slice UA us.length uc, .int .i64 n', .int .u64 i', .int .u64 rd', .slice SA' ss'.length sc', .slice CA' cs'.length cc', .slice UA' us'.length uc'] 51)) fun e w' => e = .returned (.bool (hvP ⟨n, i, rd, SA, sc, ss, CA, cc, cs, UA, uc, us⟩ || hvP ⟨n', i', rd', SA', sc', ss', CA', cc', cs', UA', uc', us'⟩)) ∧ ((w.alloc (bxP n i rd SA ss.length sc CA cs.length cc UA us.length uc)).alloc (bxP n' i' rd' SA' ss'.length sc' CA' cs'.length cc' UA' us'.length uc')).alloc (.cells #[.int .i64 n, .int .u64 i, .int .u64 rd, .slice SA ss.length sc, .slice CA cs.length cc, .slice UA us.length uc, .int .i64 n', .int .u64 i', .int .u64 rd', .slice SA' ss'.length sc', .slice CA' cs'.length cc', .slice UA' us'.length uc'] 51) = w') := hide (heavy9_2 ⟨n, i, rd, SA, sc, ss, CA, cc, cs, UA, uc, us⟩ ⟨n', i', rd', SA', sc', ss', CA', cc', cs', UA', uc', us'⟩ ((w.alloc (bxP n i rd SA ss.length sc CA cs.length cc UA us.length uc)).alloc (bxP n' i' rd' SA' ss'.length sc' CA' cs'.length cc' UA' us'.length uc')) (w.heap.size + 1 + 1) (by simp))
    rw [hh] at TH
    unfold Pp.v at *
    simp only at *
    clear hh
    go_enter Try.func7, Try.ntmps7
    go_wp2_with fail
    (with_reducible refine TH.out.mono ?_)
    rintro e w1 ⟨rfl, rfl⟩
    clear TH
    go_wp2_with fail
    (refine wp_region_gw (by kernel_rfl) (by kernel_rfl) ?_; (repeat (go_big_quiet_step ((first | (go_at_call 26; with_reducible exact calls_gw (T1.out _ (HX.out.step (by repeat (first | exact Below.refl _ _ | assumption | refine bel_al ?_ _ | refine bel_gw ?_ _ _ | refine bel_drew ?_ | refine bel_drewN ?_ _))))) | (go_at_call 27; with_reducible exact calls_gw (T2.out _ (HX.out.step (by repeat (first | exact Below.refl _ _ | assumption | refine bel_al ?_ _ | refine bel_gw ?_ _ _ | refine bel_drew ?_ | refine bel_drewN ?_ _))))) | (go_at_call 28; with_reducible exact calls_gw (T3.out _ (HX.out.step (by repeat (first | exact Below.refl _ _ | assumption | refine bel_al ?_ _ | refine bel_gw ?_ _ _ | refine bel_drew ?_ | refine bel_drewN ?_ _))) (HY.out.step (by repeat (first | exact Below.refl _ _ | assumption | refine bel_al ?_ _ | refine bel_gw ?_ _ _ | refine bel_drew ?_ | refine bel_drewN ?_ _))))) | (go_at_call 29; with_reducible exact calls_gw (T4.out _ (HX.out.step (by repeat (first | exact Below.refl _ _ | assumption | refine bel_al ?_ _ | refine bel_gw ?_ _ _ | refine bel_drew ?_ | refine bel_drewN ?_ _))) (HY.out.step (by repeat (first | exact Below.refl _ _ | assumption | refine bel_al ?_ _ | refine bel_gw ?_ _ _ | refine bel_drew ?_ | refine bel_drewN ?_ _))))) | (go_at_call 20; with_reducible exact calls_gw (TA.out _)))))); refine wpQuiet_nil ?_; intro _ hw'; obtain ⟨⟨dq, osq⟩, hw''⟩ := hw'; subst hw'')
    go_wp2
    go_ret
    exact ⟨rfl, (by repeat (first | exact Below.refl _ _ | assumption | refine bel_al ?_ _ | refine bel_gw ?_ _ _ | refine bel_drew ?_ | refine bel_drewN ?_ _))⟩
  · clear hx hy wx wy
    obtain ⟨n, i, rd, SA, sc, ss, CA, cc, cs, UA, uc, us⟩ := x
    obtain ⟨n', i', rd', SA', sc', ss', CA', cc', cs', UA', uc', us'⟩ := y
    have TH : Hid (Calls Try.prog 19 #[.slice (some ⟨w.heap.size + 1 + 1, 0, none⟩) 2 2] (((w.alloc (bxP n i rd SA ss.length sc CA cs.length cc UA us.length uc)).alloc (bxP n' i' rd' SA' ss'.length sc' CA' cs'.length cc' UA' us'.length uc')).alloc (.cells #[.int .i64 n, .int .u64 i, .int .u64 rd, .slice SA ss.length sc, .slice CA cs.length cc, .slice UA us.length uc, .int .i64 n', .int .u64 i', .int .u64 rd', .slice SA' ss'.length sc', .slice CA' cs'.length cc', .slice UA' us'.length uc'] 51)) fun e w' => e = .returned (.bool (hvP ⟨n, i, rd, SA, sc, ss, CA, cc, cs, UA, uc, us⟩ || hvP ⟨n', i', rd', SA', sc', ss', CA', cc', cs', UA', uc', us'⟩)) ∧ ((w.alloc (bxP n i rd SA ss.length sc CA cs.length cc UA us.length uc)).alloc (bxP n' i' rd' SA' ss'.length sc' CA' cs'.length cc' UA' us'.length uc')).alloc (.cells #[.int .i64 n, .int .u64 i, .int .u64 rd, .slice SA ss.length sc, .slice CA cs.length cc, .slice UA us.length uc, .int .i64 n', .int .u64 i', .int .u64 rd', .slice SA' ss'.length sc', .slice CA' cs'.length cc', .slice UA' us'.length uc'] 51) = w') := hide (heavy9_2 ⟨n, i, rd, SA, sc, ss, CA, cc, cs, UA, uc, us⟩ ⟨n', i', rd', SA', sc', ss', CA', cc', cs', UA', uc', us'⟩ ((w.alloc (bxP n i rd SA ss.length sc CA cs.length cc UA us.length uc)).alloc (bxP n' i' rd' SA' ss'.length sc' CA' cs'.length cc' UA' us'.length uc')) (w.heap.size + 1 + 1) (by simp))
    rw [hh] at TH
    unfold Pp.v at *
    simp only at *
    clear hh
    go_enter Try.func7, Try.ntmps7
    go_wp2_with fail
    (with_reducible refine TH.out.mono ?_)
    rintro e w1 ⟨rfl, rfl⟩
    clear TH
    go_wp2_with fail
    (with_reducible refine (TA.out _).mono ?_)
    rintro e w3 ⟨rfl, hb⟩
    obtain ⟨⟨d3, os3⟩, rfl⟩ := gw_of_below hb
    clear hb
    go_wp2
    go_ret
    exact ⟨rfl, (by repeat (first | exact Below.refl _ _ | assumption | refine bel_al ?_ _ | refine bel_gw ?_ _ _ | refine bel_drew ?_ | refine bel_drewN ?_ _))⟩
end Go.Proofs.Ytgpmcpinnaggmaa
