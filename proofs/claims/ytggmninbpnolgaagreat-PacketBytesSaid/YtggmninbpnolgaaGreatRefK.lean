/-
  Layer 6: contracts of the reference: Count, Node, Life, Server, servers.
-/
import Derived.Test.YtggmninbpnolgaaGreatPk3
namespace Go.Proofs.YtggmninbpnolgaaGreat
set_option linter.unusedSimpArgs false
set_option linter.unusedVariables false
set_option linter.unusedSectionVars false
open Go.RowKit

theorem rcount_s (x : Int) (w : World) : Calls Tryz.prog 49 #[.int .u64 x] w fun e w' => e = .returned (.bool (decide (x < 34359738368))) ∧ w = w' := by
  by_cases h1 : x < 34359738368
  · have H := hide (show decide (x < 34359738368) = true from decide_eq_true h1)
    go_enter Tryz.func49, Tryz.ntmps49
    go_wp2
    go_ret
    exact ⟨ret_b H.out.symm, rfl⟩
  · have H := hide (show decide (x < 34359738368) = false from decide_eq_false h1)
    go_enter Tryz.func49, Tryz.ntmps49
    go_wp2
    go_ret
    exact ⟨ret_b H.out.symm, rfl⟩
theorem rnode_s (x : Int) (w : World) : Calls Tryz.prog 54 #[.int .i64 x] w fun e w' => e = .returned (.bool (decide (1 ≤ x) && decide (x ≤ 10))) ∧ w = w' := by
  cases h1 : decide (1 ≤ x)
  · go_enter Tryz.func54, Tryz.ntmps54
    go_wp2
    go_ret
    exact ⟨rfl, rfl⟩
  · go_enter Tryz.func54, Tryz.ntmps54
    go_wp2
    go_ret
    exact ⟨ret_b (by simp), rfl⟩
theorem lifeB_eq (n i : Int) (h0 : 0 ≤ i) : lifeB n i = (mayB n i && decide (i < 34359738368)) := by
  cases hm : mayB n i
  · simp [lifeB, hm]
  · have h1 : 1 ≤ i := by simp [mayB] at hm; omega
    rw [lifeB, hm, countB, decide_eq_true h1, Bool.true_and, Bool.true_and, Bool.true_and]
    exact decide_eq_decide.2 ⟨fun h => by omega, fun h => by omega⟩
theorem rlife_s (n i : Int) (w : World) (h0 : 0 ≤ i) : Calls Tryz.prog 20 #[.agg #[.int .i64 n, .int .u64 i]] w (RetB w (lifeB n i)) := by
  have TM := hide (fun W => refMay_b n i W h0)
  have TC := hide (fun W => rcount_s i W)
  rw [lifeB_eq n i h0]
  clear h0
  cases hm : mayB n i with
  | false =>
    rw [hm] at TM
    clear hm
    go_enter Tryz.func20, Tryz.ntmps20
    go_wp2_with (go_at_call 53; (with_reducible refine (TM.out _).mono ?_); rintro e w1 ⟨rfl, hb⟩; haveI : Stp _ w1 := ⟨hb⟩; clear hb)
    go_ret
    exact ⟨rfl, blw⟩
  | true =>
    rw [hm] at TM
    clear hm
    cases hc : decide (i < 34359738368) with
    | _ =>
      rw [hc] at TC
      clear hc
      go_enter Tryz.func20, Tryz.ntmps20
      go_wp2_with (first
        | (go_at_call 53; (with_reducible refine (TM.out _).mono ?_); rintro e w1 ⟨rfl, hb⟩; haveI : Stp _ w1 := ⟨hb⟩; clear hb)
        | (go_at_call 49; (with_reducible refine (TC.out _).mono ?_); rintro e w2 ⟨rfl, rfl⟩))
      go_ret
      exact ⟨rfl, blw⟩
set_option maxHeartbeats 400000 in
theorem rserv_s (n i : Int) (w : World) (h0 : 0 ≤ i) : Calls Tryz.prog 48 #[.agg #[.int .i64 n, .int .u64 i]] w (RetB w (servB n i)) := by
  have TM := hide (fun W => rlife_s n i W h0)
  unfold servB
  clear h0
  cases hm : lifeB n i with
  | false =>
    rw [hm] at TM
    clear hm
    go_enter Tryz.func48, Tryz.ntmps48
    go_wp2_with (go_at_call 20; (with_reducible refine (TM.out _).mono ?_); rintro e w1 ⟨rfl, hb⟩; haveI : Stp _ w1 := ⟨hb⟩; clear hb)
    go_ret
    exact ⟨rfl, blw⟩
  | true =>
    rw [hm] at TM
    clear hm
    go_enter Tryz.func48, Tryz.ntmps48
    go_wp2_with (go_at_call 20; (with_reducible refine (TM.out _).mono ?_); rintro e w1 ⟨rfl, hb⟩; haveI : Stp _ w1 := ⟨hb⟩; clear hb)
    go_ret
    exact ⟨ret_b (by simp), blw⟩
end Go.Proofs.YtggmninbpnolgaaGreat
