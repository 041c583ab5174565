/-
  Contract: the chapter's first examples hold (awake of layer 3).
-/
import Derived.Test.YtgbappmidllnmaaSet
namespace Go.Proofs.Ytgbappmidllnmaa
set_option linter.unusedSimpArgs false
set_option linter.unusedVariables false
set_option linter.unusedSectionVars false
open Go.RowKit

theorem awake_list : sortedL [(2, 1), (1, 7), (2, 1), (1, 3)] = [(1, 3), (1, 7), (2, 1)] := by
  refine sortedL_eq (by unfold SS; simp [ltP]) fun x => ?_
  obtain ⟨a, b⟩ := x
  simp
  omega

set_option maxHeartbeats 1000000 in
theorem awake_any (w : World) : Calls Try.prog 30 #[] w fun e w' => e = .returned (.bool true) ∧ Below w.heap.size w w' := by
  go_enter Try.func30, Try.ntmps30
  go_wp2_with fail
  have hR : Reads (w.alloc (.cells #[.int .i64 2, .int .u64 1, .int .i64 1, .int .u64 7, .int .i64 2, .int .u64 1, .int .i64 1, .int .u64 3] 24)) (w.heap.size + 1) 2 (some ⟨w.heap.size, 0, none⟩) 4 (pcs [(2, 1), (1, 7), (2, 1), (1, 3)]) := by
    have := Reads.of_own (World.ownsRow_lit (base := 0) (e := 24) (size := 2) w #[.int .i64 2, .int .u64 1, .int .i64 1, .int .u64 7, .int .i64 2, .int .u64 1, .int .i64 1, .int .u64 3] 4 (Nat.zero_le _) (by unfold maxLen; omega) rfl)
    simpa [pcs, pc] using this
  have C := sorted_any (some ⟨w.heap.size, 0, none⟩) 4 [(2, 1), (1, 7), (2, 1), (1, 3)] (w.alloc (.cells #[.int .i64 2, .int .u64 1, .int .i64 1, .int .u64 7, .int .i64 2, .int .u64 1, .int .i64 1, .int .u64 3] 24)) (by simpa using hR) (by simp)
  rw [awake_list] at C
  refine C.mono ?_
  clear C hR
  rintro e w1 ⟨A, rfl, hR1, hb1⟩
  obtain ⟨b, off, rfl, hb, hc⟩ := hR1.2 (by simp)
  have HR := hide hR1
  have q0 : ∀ d os, (gw w1 d os).cell? ⟨b, off, none⟩ = some (.int .i64 1) := fun d os => cell_gw hb (hc 0 _ rfl) d os
  have q1 : ∀ d os, (gw w1 d os).cell? ⟨b, off + 1, none⟩ = some (.int .u64 3) := fun d os => cell_gw hb (hc 1 _ rfl) d os
  have q2 : ∀ d os, (gw w1 d os).cell? ⟨b, off + 2, none⟩ = some (.int .i64 1) := fun d os => cell_gw hb (hc 2 _ rfl) d os
  have q3 : ∀ d os, (gw w1 d os).cell? ⟨b, off + 3, none⟩ = some (.int .u64 7) := fun d os => cell_gw hb (hc 3 _ rfl) d os
  have q4 : ∀ d os, (gw w1 d os).cell? ⟨b, off + 4, none⟩ = some (.int .i64 2) := fun d os => cell_gw hb (hc 4 _ rfl) d os
  have q5 : ∀ d os, (gw w1 d os).cell? ⟨b, off + 5, none⟩ = some (.int .u64 1) := fun d os => cell_gw hb (hc 5 _ rfl) d os
  have s1 : setB [(1, 3), (1, 7), (2, 1)] = true := by decide
  have s2 : cmpP (1, 3) (1, 7) = -1 := by decide
  have s3 : eqP 1 3 1 3 = true := by decide
  have s4 : eqP 2 1 2 1 = true := by decide
  have C1 : ∀ d os, Calls Try.prog 58 #[.slice (some ⟨b, off, none⟩) 3 3] (gw w1 d os) fun e w' => e = .returned (.bool (setB [(1, 3), (1, 7), (2, 1)])) ∧ Below (gw w1 d os).heap.size (gw w1 d os) w' := fun d os =>
    set_any (some ⟨b, off, none⟩) 3 [(1, 3), (1, 7), (2, 1)] (gw w1 d os) ((reads_gw HR.out d os).more (size_gw _ _ _)) (by simp)
  have HC := hide C1
  clear hc hR1 C1
  go_wp2
  (refine wp_region_gw (by kernel_rfl) (by kernel_rfl) ?_; (repeat (go_big_quiet_step ((first | (go_at_call 58; exact calls_gw (HC.out _ _)) | (go_at_call 66; exact calls_gw (compare_b _ _ _ _ _)))))); refine wpQuiet_nil ?_; intro _ hw'; obtain ⟨⟨dq, osq⟩, hw''⟩ := hw'; subst hw'')
  go_wp2
  go_ret
  exact ⟨rfl, below_step (below_step (below_alloc _ _) hb1) (below_gw _ _ _)⟩

end Go.Proofs.Ytgbappmidllnmaa
