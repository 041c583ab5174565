/-
  Layer 4: heavy; the reference's Place, Start; the laws ViewFirst, ViewPlaces: true for every input.
-/
import Derived.Test.YtgbappmidllnmaaLView1
import Derived.Test.YtgbappmidllnmaaOpenV
namespace Go.Proofs.Ytgbappmidllnmaa
set_option linter.unusedSimpArgs false
set_option linter.unusedVariables false
set_option linter.unusedSectionVars false
open Go.RowKit

theorem first_u (n i : Int) (w : World) : Calls Try.prog 22 #[.agg #[.int .i64 n, .int .u64 i]] w fun e w' => ∃ MA mc UA uc, e = .returned (.agg #[.int .u64 0, .int .i64 n, .int .u64 i, .slice MA 1 mc, .slice UA 1 uc]) ∧ Vw.Ok w' ⟨0, n, i, MA, mc, [(n, i)], UA, uc, [0]⟩ ∧ Below w.heap.size w w' := first_s n i w
/-- is a view longer than is gone through? -/
def hvV (x : Vw) : Bool := decide (300 < (x.ms.length : Int)) || decide (300 < (x.us.length : Int))
set_option maxHeartbeats 400000 in
theorem heavy4_s (x : Vw) (w : World) : Calls Try.prog 14 #[x.v] w fun e w' => e = .returned (.bool (hvV x)) ∧ Below w.heap.size w w' := by
  obtain ⟨r, n, i, MA, mc, ms, UA, uc, us⟩ := x
  unfold hvV Vw.v
  simp only
  generalize f1 : decide (300 < (ms.length : Int)) = b1
  cases b1
  · go_enter Try.func14, Try.ntmps14
    go_wp2
    go_ret
    exact ⟨by simp, (by repeat (first | exact Below.refl _ _ | assumption | refine bel_al ?_ _ | refine bel_gw ?_ _ _ | refine bel_drew ?_ | refine bel_drewN ?_ _))⟩
  · go_enter Try.func14, Try.ntmps14
    go_wp2
    go_ret
    exact ⟨rfl, (by repeat (first | exact Below.refl _ _ | assumption | refine bel_al ?_ _ | refine bel_gw ?_ _ _ | refine bel_drew ?_ | refine bel_drewN ?_ _))⟩
theorem start_first (n i : Int) : startV [(n, i)] [0] (n, i) = .tuple #[.int .u64 0, .bool true] := by simp [startV]
theorem mayB_first (n i : Int) (MA UA : Option Addr) (mc uc : Nat) : Vw.mayB ⟨0, n, i, MA, mc, [(n, i)], UA, uc, [0]⟩ = mayIdB 0 n i := by
  unfold Vw.mayB
  simp [Vw.eqB]
theorem Vw.ok_of {w : World} {x : Vw} (hm : Sl w x.MA x.ms) (hu : Ul w x.UA x.us) (h : hvV x = false) : x.Ok w := by
  unfold hvV at h
  simp at h
  exact ⟨hm, hu, by omega, by omega⟩
set_option maxRecDepth 100000 in
set_option maxHeartbeats 2000000 in
theorem viewFirst_true (n i : Int) (x : Vw) (w : World) (hm : Sl w x.MA x.ms) (hu : Ul w x.UA x.us) (hw : x.Wf) (_ : wfP (n, i)) :
    Calls Try.prog 6 #[.agg #[.int .i64 n, .int .u64 i], x.v] w (RetB w true) := by
  have T1 := hide (fun W => first_u n i W)
  have T2 : Hid (∀ (W : World) MA mc UA uc, Vw.Ok W ⟨0, n, i, MA, mc, [(n, i)], UA, uc, [0]⟩ → Calls Try.prog 26 #[.agg #[.int .u64 0, .int .i64 n, .int .u64 i, .slice MA 1 mc, .slice UA 1 uc], .agg #[.int .i64 n, .int .u64 i]] W fun e w' => e = .returned (.tuple #[.int .u64 0, .bool true]) ∧ Below W.heap.size W w') := fun W MA mc UA uc h => by
    have := start_s ⟨0, n, i, MA, mc, [(n, i)], UA, uc, [0]⟩ n i W h
    rw [start_first] at this
    exact this
  have T3 : Hid (∀ (W : World) MA mc UA uc, Vw.Ok W ⟨0, n, i, MA, mc, [(n, i)], UA, uc, [0]⟩ → Calls Try.prog 17 #[.agg #[.int .u64 0, .int .i64 n, .int .u64 i, .slice MA 1 mc, .slice UA 1 uc]] W fun e w' => e = .returned (.bool (mayIdB 0 n i)) ∧ Below W.heap.size W w') := fun W MA mc UA uc h => by
    have := vmay_s ⟨0, n, i, MA, mc, [(n, i)], UA, uc, [0]⟩ W h
    rw [mayB_first] at this
    exact this
  have T4 := hide (fun W => mayId_s 0 n i W)
  have TA := hide (fun W => awake4_t W)
  have TH := hide (fun W => heavy4_s x W)
  obtain ⟨r, a, b, MA, mc, ms, UA, uc, us⟩ := x
  have TC := hide (fun W => vcompare_s 0 n i r a b W)
  have hr0 := hw.r
  unfold wfU64 at hr0
  simp only at hr0
  clear hm hu hw
  unfold Vw.v at TH ⊢
  simp only at TH ⊢
  generalize mayIdB 0 n i = bm at T3 T4
  have hbb : (bm == bm) = true := by simp
  cases hh : hvV ⟨r, a, b, MA, mc, ms, UA, uc, us⟩
  · rw [hh] at TH
    clear hh
    by_cases hr : 0 < r
    · have hc : cmpV 0 n i r a b = -1 := by
        have h1 := (cmpV_lt 0 n i r a b).2 (.inl hr)
        rcases cmpV_one 0 n i r a b with h | h | h <;> omega
      rw [hc] at TC
      clear hc
      go_enter Try.func6, Try.ntmps6
      go_wp2_with fail
      (with_reducible refine (T1.out _).mono ?_)
      rintro e w1 ⟨FA, fc, GA, gc, rfl, hok, hb⟩
      obtain ⟨⟨d1, os1⟩, rfl⟩ := gw_of_below hb
      clear hb
      have hok1 := hok.step (below_alloc _ (bxV 0 n i FA 1 fc GA 1 gc))
      clear hok
      go_wp2_with fail
      (with_reducible refine (T2.out _ _ _ _ _ hok1).mono ?_)
      rintro e w2 ⟨rfl, hb⟩
      replace hok1 := hok1.step hb
      obtain ⟨⟨d2, os2⟩, rfl⟩ := gw_of_below hb
      clear hb
      go_wp2_with fail
      (with_reducible refine (TH.out _).mono ?_)
      rintro e w3 ⟨rfl, hb⟩
      replace hok1 := hok1.step hb
      obtain ⟨⟨d3, os3⟩, rfl⟩ := gw_of_below hb
      clear hb
      go_wp2_with fail
      (with_reducible refine (TC.out _).mono ?_)
      rintro e w4 ⟨rfl, hb⟩
      replace hok1 := hok1.step hb
      obtain ⟨⟨d4, os4⟩, rfl⟩ := gw_of_below hb
      clear hb
      have HOK := hide hok1
      clear hok1
      go_wp2_with fail
      (refine wp_region_gw (by kernel_rfl) (by kernel_rfl) ?_; (repeat (go_big_quiet_step ((first | (go_at_call 17; with_reducible exact calls_gw (T3.out _ _ _ _ _ (HOK.out.step (by repeat (first | exact Below.refl _ _ | assumption | refine bel_al ?_ _ | refine bel_gw ?_ _ _ | refine bel_drew ?_ | refine bel_drewN ?_ _))))) | (go_at_call 19; with_reducible exact calls_gw (T4.out _)) | (go_at_call 15; with_reducible exact calls_gw (TA.out _)))))); refine wpQuiet_nil ?_; intro _ hw'; obtain ⟨⟨dq, osq⟩, hw''⟩ := hw'; subst hw'')
      go_wp2
      go_ret
      exact ⟨rfl, (by repeat (first | exact Below.refl _ _ | assumption | refine bel_al ?_ _ | refine bel_gw ?_ _ _ | refine bel_drew ?_ | refine bel_drewN ?_ _))⟩
    · obtain rfl : r = 0 := by omega
      go_enter Try.func6, Try.ntmps6
      go_wp2_with fail
      (with_reducible refine (T1.out _).mono ?_)
      rintro e w1 ⟨FA, fc, GA, gc, rfl, hok, hb⟩
      obtain ⟨⟨d1, os1⟩, rfl⟩ := gw_of_below hb
      clear hb
      have hok1 := hok.step (below_alloc _ (bxV 0 n i FA 1 fc GA 1 gc))
      clear hok
      go_wp2_with fail
      (with_reducible refine (T2.out _ _ _ _ _ hok1).mono ?_)
      rintro e w2 ⟨rfl, hb⟩
      replace hok1 := hok1.step hb
      obtain ⟨⟨d2, os2⟩, rfl⟩ := gw_of_below hb
      clear hb
      go_wp2_with fail
      (with_reducible refine (TH.out _).mono ?_)
      rintro e w3 ⟨rfl, hb⟩
      replace hok1 := hok1.step hb
      obtain ⟨⟨d3, os3⟩, rfl⟩ := gw_of_below hb
      clear hb
      have HOK := hide hok1
      clear hok1
      go_wp2_with fail
      (refine wp_region_gw (by kernel_rfl) (by kernel_rfl) ?_; (repeat (go_big_quiet_step ((first | (go_at_call 17; with_reducible exact calls_gw (T3.out _ _ _ _ _ (HOK.out.step (by repeat (first | exact Below.refl _ _ | assumption | refine bel_al ?_ _ | refine bel_gw ?_ _ _ | refine bel_drew ?_ | refine bel_drewN ?_ _))))) | (go_at_call 19; with_reducible exact calls_gw (T4.out _)) | (go_at_call 15; with_reducible exact calls_gw (TA.out _)))))); refine wpQuiet_nil ?_; intro _ hw'; obtain ⟨⟨dq, osq⟩, hw''⟩ := hw'; subst hw'')
      go_wp2
      go_ret
      exact ⟨rfl, (by repeat (first | exact Below.refl _ _ | assumption | refine bel_al ?_ _ | refine bel_gw ?_ _ _ | refine bel_drew ?_ | refine bel_drewN ?_ _))⟩
  · rw [hh] at TH
    clear hh
    go_enter Try.func6, Try.ntmps6
    go_wp2_with fail
    (with_reducible refine (T1.out _).mono ?_)
    rintro e w1 ⟨FA, fc, GA, gc, rfl, hok, hb⟩
    obtain ⟨⟨d1, os1⟩, rfl⟩ := gw_of_below hb
    clear hb
    have hok1 := hok.step (below_alloc _ (bxV 0 n i FA 1 fc GA 1 gc))
    clear hok
    go_wp2_with fail
    (with_reducible refine (T2.out _ _ _ _ _ hok1).mono ?_)
    rintro e w2 ⟨rfl, hb⟩
    obtain ⟨⟨d2, os2⟩, rfl⟩ := gw_of_below hb
    clear hb hok1
    go_wp2_with fail
    (with_reducible refine (TH.out _).mono ?_)
    rintro e w3 ⟨rfl, hb⟩
    obtain ⟨⟨d3, os3⟩, rfl⟩ := gw_of_below hb
    clear hb
    go_wp2_with fail
    (with_reducible refine (TH.out _).mono ?_)
    rintro e w4 ⟨rfl, hb⟩
    obtain ⟨⟨d4, os4⟩, rfl⟩ := gw_of_below hb
    clear hb
    go_wp2_with fail
    (with_reducible refine (TA.out _).mono ?_)
    rintro e w5 ⟨rfl, hb⟩
    obtain ⟨⟨d5, os5⟩, rfl⟩ := gw_of_below hb
    clear hb
    go_wp2
    go_ret
    exact ⟨rfl, (by repeat (first | exact Below.refl _ _ | assumption | refine bel_al ?_ _ | refine bel_gw ?_ _ _ | refine bel_drew ?_ | refine bel_drewN ?_ _))⟩
end Go.Proofs.Ytgbappmidllnmaa
