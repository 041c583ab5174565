/-
  Walks: the laws ProcCompares and ProcOrder answer true at every input.
-/
import Derived.Test.YtiggbhdokdmhhaaAwake
namespace Go.Proofs.Ytiggbhdokdmhhaa
open Go.RowKit

theorem refMay_b (n i : Int) (w : World) (h0 : 0 ≤ i) : Calls Try.prog 10 #[.agg #[.int .i64 n, .int .u64 i]] w fun e w' => e = .returned (.bool (mayB n i)) ∧ Below w.heap.size w w' :=
  (refMay_any n i w h0).mono fun _ _ ⟨h, h'⟩ => ⟨h, by subst h'; exact below_alloc _ _⟩

set_option maxHeartbeats 1000000 in
theorem procCompares_true (a b c d : Int) (w : World) (hb : 0 ≤ b) : Calls Try.prog 3 #[.agg #[.int .i64 a, .int .u64 b], .agg #[.int .i64 c, .int .u64 d]] w fun e w' => e = .returned (.bool true) ∧ Below w.heap.size w w' := by
  have q0 : ∀ e os, (gw ((w.alloc (bx a b)).alloc (bx c d)) e os).cell? ⟨w.heap.size, 0, none⟩ = some (.int .i64 a) := fun e os => cell_gw (by simp; omega) (by simp) e os
  have q1 : ∀ e os, (gw ((w.alloc (bx a b)).alloc (bx c d)) e os).cell? ⟨w.heap.size, 1, none⟩ = some (.int .u64 b) := fun e os => cell_gw (by simp; omega) (by simp) e os
  have q2 : ∀ e os, (gw ((w.alloc (bx a b)).alloc (bx c d)) e os).cell? ⟨w.heap.size + 1, 0, none⟩ = some (.int .i64 c) := fun e os => cell_gw (by simp) (by simp) e os
  have q3 : ∀ e os, (gw ((w.alloc (bx a b)).alloc (bx c d)) e os).cell? ⟨w.heap.size + 1, 1, none⟩ = some (.int .u64 d) := fun e os => cell_gw (by simp) (by simp) e os
  have e1 : (mayB a b == mayB a b) = true := by simp
  have e2 : (cmpP (a, b) (c, d) == cmpP (a, b) (c, d)) = true := by simp
  go_enter Try.func3, Try.ntmps3
  go_wp2
  (refine wp_region_gw (by kernel_rfl) (by kernel_rfl) ?_; (repeat (go_big_quiet_step ((first | (go_at_call 9; exact calls_gw (may_b _ _ _)) | (go_at_call 10; exact calls_gw (refMay_b _ _ _ hb)) | (go_at_call 11; exact calls_gw (compare_b _ _ _ _ _)) | (go_at_call 12; exact calls_gw (refCompare_any _ _ _ _ _)) | (go_at_call 13; exact calls_gw (awake_any _)))))); refine wpQuiet_nil ?_; intro _ hw'; obtain ⟨⟨dq, osq⟩, hw''⟩ := hw'; subst hw'')
  go_wp2
  go_ret
  exact ⟨rfl, below_step (below_step (below_alloc _ _) (below_alloc _ _)) (below_gw _ _ _)⟩


set_option maxHeartbeats 2000000 in
theorem procOrder_true (a b c d f g : Int) (w : World) : Calls Try.prog 4 #[.agg #[.int .i64 a, .int .u64 b], .agg #[.int .i64 c, .int .u64 d], .agg #[.int .i64 f, .int .u64 g]] w fun e w' => e = .returned (.bool true) ∧ Below w.heap.size w w' := by
  have q0 : ∀ e os, (gw (((w.alloc (bx a b)).alloc (bx c d)).alloc (bx f g)) e os).cell? ⟨w.heap.size, 0, none⟩ = some (.int .i64 a) := fun e os => cell_gw (by simp <;> omega) (by repeat (first | (refine cell_top _ _ _ _ _ _ ?_ rfl; simp; done) | (refine cell_old ?_ ?_; · (simp <;> omega)))) e os
  have q1 : ∀ e os, (gw (((w.alloc (bx a b)).alloc (bx c d)).alloc (bx f g)) e os).cell? ⟨w.heap.size, 1, none⟩ = some (.int .u64 b) := fun e os => cell_gw (by simp <;> omega) (by repeat (first | (refine cell_top _ _ _ _ _ _ ?_ rfl; simp; done) | (refine cell_old ?_ ?_; · (simp <;> omega)))) e os
  have q2 : ∀ e os, (gw (((w.alloc (bx a b)).alloc (bx c d)).alloc (bx f g)) e os).cell? ⟨w.heap.size + 1, 0, none⟩ = some (.int .i64 c) := fun e os => cell_gw (by simp <;> omega) (by repeat (first | (refine cell_top _ _ _ _ _ _ ?_ rfl; simp; done) | (refine cell_old ?_ ?_; · (simp <;> omega)))) e os
  have q3 : ∀ e os, (gw (((w.alloc (bx a b)).alloc (bx c d)).alloc (bx f g)) e os).cell? ⟨w.heap.size + 1, 1, none⟩ = some (.int .u64 d) := fun e os => cell_gw (by simp <;> omega) (by repeat (first | (refine cell_top _ _ _ _ _ _ ?_ rfl; simp; done) | (refine cell_old ?_ ?_; · (simp <;> omega)))) e os
  have q4 : ∀ e os, (gw (((w.alloc (bx a b)).alloc (bx c d)).alloc (bx f g)) e os).cell? ⟨w.heap.size + 1 + 1, 0, none⟩ = some (.int .i64 f) := fun e os => cell_gw (by simp <;> omega) (by repeat (first | (refine cell_top _ _ _ _ _ _ ?_ rfl; simp; done) | (refine cell_old ?_ ?_; · (simp <;> omega)))) e os
  have q5 : ∀ e os, (gw (((w.alloc (bx a b)).alloc (bx c d)).alloc (bx f g)) e os).cell? ⟨w.heap.size + 1 + 1, 1, none⟩ = some (.int .u64 g) := fun e os => cell_gw (by simp <;> omega) (by repeat (first | (refine cell_top _ _ _ _ _ _ ?_ rfl; simp; done) | (refine cell_old ?_ ?_; · (simp <;> omega)))) e os
  have hn := cmpP_neg (a, b) (c, d)
  have hz := cmpP_zero (a, b) (c, d)
  have key : (cmpP (a, b) (c, d) = -1 ∧ cmpP (c, d) (f, g) = -1 ∧ cmpP (a, b) (f, g) = -1) ∨ (cmpP (a, b) (c, d) = -1 ∧ decide (cmpP (c, d) (f, g) < 0) = false) ∨ (cmpP (a, b) (c, d) = 0 ∧ cmpP (a, b) (f, g) = cmpP (c, d) (f, g)) ∨ cmpP (a, b) (c, d) = 1 := by
    rcases cmpP_one (a, b) (c, d) with h1 | h1 | h1
    · by_cases h2 : cmpP (c, d) (f, g) < 0
      · have h3 : cmpP (a, b) (f, g) < 0 := by
          rw [← ltP_cmp] at h2 ⊢; exact ltP_trans ((ltP_cmp _ _).2 (by omega)) h2
        refine .inl ⟨h1, ?_, ?_⟩
        · rcases cmpP_one (c, d) (f, g) with h | h | h <;> omega
        · rcases cmpP_one (a, b) (f, g) with h | h | h <;> omega
      · exact .inr (.inl ⟨h1, by simpa using h2⟩)
    · refine .inr (.inr (.inl ⟨h1, ?_⟩))
      rw [cmpP_zero] at h1; rw [h1]
    · exact .inr (.inr (.inr h1))
  have ne : cmpP (a, b) (c, d) ≠ 0 → eqP a b c d = false := fun h => by
    rw [Bool.eq_false_iff]; intro h'; exact h (hz.2 (eqP_iff.1 h'))
  rcases key with ⟨h1, h2, h3⟩ | ⟨h1, h2⟩ | ⟨h1, h2⟩ | h1
  · have he := ne (by omega)
    rw [h1] at hn
    clear ne hz
    go_enter Try.func4, Try.ntmps4
    go_wp2
    (refine wp_region_gw (by kernel_rfl) (by kernel_rfl) ?_; (repeat (go_big_quiet_step (((go_at_call 11; exact calls_gw (compare_b _ _ _ _ _)))))); refine wpQuiet_nil ?_; intro _ hw'; obtain ⟨⟨dq, osq⟩, hw''⟩ := hw'; subst hw'')
    go_wp2_with fail
    refine (compare_b _ _ _ _ _).mono ?_
    rintro e w2 ⟨rfl, hb2⟩
    have p0 := (hb2.cell (p := ⟨w.heap.size, 0, none⟩) (lt_gw (by simp <;> omega))).trans (q0 dq osq)
    have p1 := (hb2.cell (p := ⟨w.heap.size, 1, none⟩) (lt_gw (by simp <;> omega))).trans (q1 dq osq)
    have p2 := (hb2.cell (p := ⟨w.heap.size + 1, 0, none⟩) (lt_gw (by simp <;> omega))).trans (q2 dq osq)
    have p3 := (hb2.cell (p := ⟨w.heap.size + 1, 1, none⟩) (lt_gw (by simp <;> omega))).trans (q3 dq osq)
    clear q0 q1 q2 q3 q4 q5
    go_wp2_with (go_at_call 13; refine (awake_any _).mono ?_; rintro e w3 ⟨rfl, hb3⟩)
    go_ret
    exact ⟨rfl, below_step (below_step (below_step (below_step (below_step (below_alloc _ _) (below_alloc _ _)) (below_alloc _ _)) (below_gw _ _ _)) hb2) hb3⟩
  · have he := ne (by omega)
    rw [h1] at hn
    clear ne hz
    go_enter Try.func4, Try.ntmps4
    go_wp2
    (refine wp_region_gw (by kernel_rfl) (by kernel_rfl) ?_; (repeat (go_big_quiet_step (((go_at_call 11; exact calls_gw (compare_b _ _ _ _ _)))))); refine wpQuiet_nil ?_; intro _ hw'; obtain ⟨⟨dq, osq⟩, hw''⟩ := hw'; subst hw'')
    go_wp2_with fail
    refine (compare_b _ _ _ _ _).mono ?_
    rintro e w2 ⟨rfl, hb2⟩
    have p0 := (hb2.cell (p := ⟨w.heap.size, 0, none⟩) (lt_gw (by simp <;> omega))).trans (q0 dq osq)
    have p1 := (hb2.cell (p := ⟨w.heap.size, 1, none⟩) (lt_gw (by simp <;> omega))).trans (q1 dq osq)
    have p2 := (hb2.cell (p := ⟨w.heap.size + 1, 0, none⟩) (lt_gw (by simp <;> omega))).trans (q2 dq osq)
    have p3 := (hb2.cell (p := ⟨w.heap.size + 1, 1, none⟩) (lt_gw (by simp <;> omega))).trans (q3 dq osq)
    clear q0 q1 q2 q3 q4 q5
    go_wp2_with (go_at_call 13; refine (awake_any _).mono ?_; rintro e w3 ⟨rfl, hb3⟩)
    go_ret
    exact ⟨rfl, below_step (below_step (below_step (below_step (below_step (below_alloc _ _) (below_alloc _ _)) (below_alloc _ _)) (below_gw _ _ _)) hb2) hb3⟩
  · have he := eqP_iff.2 (hz.1 h1)
    rw [h1] at hn
    clear ne hz
    go_enter Try.func4, Try.ntmps4
    go_wp2
    (refine wp_region_gw (by kernel_rfl) (by kernel_rfl) ?_; (repeat (go_big_quiet_step (((go_at_call 11; exact calls_gw (compare_b _ _ _ _ _)))))); refine wpQuiet_nil ?_; intro _ hw'; obtain ⟨⟨dq, osq⟩, hw''⟩ := hw'; subst hw'')
    go_wp2_with fail
    refine (compare_b _ _ _ _ _).mono ?_
    rintro e w2 ⟨rfl, hb2⟩
    have p0 := (hb2.cell (p := ⟨w.heap.size, 0, none⟩) (lt_gw (by simp <;> omega))).trans (q0 dq osq)
    have p1 := (hb2.cell (p := ⟨w.heap.size, 1, none⟩) (lt_gw (by simp <;> omega))).trans (q1 dq osq)
    have p2 := (hb2.cell (p := ⟨w.heap.size + 1, 0, none⟩) (lt_gw (by simp <;> omega))).trans (q2 dq osq)
    have p3 := (hb2.cell (p := ⟨w.heap.size + 1, 1, none⟩) (lt_gw (by simp <;> omega))).trans (q3 dq osq)
    clear q0 q1 q2 q3 q4 q5
    go_wp2_with (go_at_call 13; refine (awake_any _).mono ?_; rintro e w3 ⟨rfl, hb3⟩)
    go_ret
    exact ⟨rfl, below_step (below_step (below_step (below_step (below_step (below_alloc _ _) (below_alloc _ _)) (below_alloc _ _)) (below_gw _ _ _)) hb2) hb3⟩
  · have he := ne (by omega)
    rw [h1] at hn
    clear ne hz
    go_enter Try.func4, Try.ntmps4
    go_wp2
    (refine wp_region_gw (by kernel_rfl) (by kernel_rfl) ?_; (repeat (go_big_quiet_step (((go_at_call 11; exact calls_gw (compare_b _ _ _ _ _)))))); refine wpQuiet_nil ?_; intro _ hw'; obtain ⟨⟨dq, osq⟩, hw''⟩ := hw'; subst hw'')
    go_wp2_with fail
    refine (compare_b _ _ _ _ _).mono ?_
    rintro e w2 ⟨rfl, hb2⟩
    have p0 := (hb2.cell (p := ⟨w.heap.size, 0, none⟩) (lt_gw (by simp <;> omega))).trans (q0 dq osq)
    have p1 := (hb2.cell (p := ⟨w.heap.size, 1, none⟩) (lt_gw (by simp <;> omega))).trans (q1 dq osq)
    have p2 := (hb2.cell (p := ⟨w.heap.size + 1, 0, none⟩) (lt_gw (by simp <;> omega))).trans (q2 dq osq)
    have p3 := (hb2.cell (p := ⟨w.heap.size + 1, 1, none⟩) (lt_gw (by simp <;> omega))).trans (q3 dq osq)
    clear q0 q1 q2 q3 q4 q5
    go_wp2_with (go_at_call 13; refine (awake_any _).mono ?_; rintro e w3 ⟨rfl, hb3⟩)
    go_ret
    exact ⟨rfl, below_step (below_step (below_step (below_step (below_step (below_alloc _ _) (below_alloc _ _)) (below_alloc _ _)) (below_gw _ _ _)) hb2) hb3⟩

end Go.Proofs.Ytiggbhdokdmhhaa
