/-
  Layer 4: the laws ViewOrder, ViewPlaces: true for every input.
-/
import Derived.Test.YtgbappmidllnmaaAwake4
namespace Go.Proofs.Ytgbappmidllnmaa
set_option linter.unusedSimpArgs false
set_option linter.unusedVariables false
set_option linter.unusedSectionVars false
open Go.RowKit

theorem cmpI_cases (a b : Int) : (a < b ∧ cmpI a b = -1 ∧ cmpI b a = 1) ∨ (a = b ∧ cmpI a b = 0 ∧ cmpI b a = 0) ∨ (b < a ∧ cmpI a b = 1 ∧ cmpI b a = -1) := by
  rcases Int.lt_trichotomy a b with h | h | h
  · exact .inl ⟨h, cmpI_lt h, cmpI_gt h⟩
  · exact .inr (.inl ⟨h, cmpI_eq h, cmpI_eq h.symm⟩)
  · exact .inr (.inr ⟨h, cmpI_gt h, cmpI_lt h⟩)
theorem cmpV_one (a b c d e f : Int) : cmpV a b c d e f = -1 ∨ cmpV a b c d e f = 0 ∨ cmpV a b c d e f = 1 := by
  unfold cmpV
  split
  · exact cmpP_one _ _
  · rcases cmpI_cases a d with ⟨_, h, _⟩ | ⟨_, h, _⟩ | ⟨_, h, _⟩ <;> rw [h] <;> simp
theorem cmpV_neg (a b c d e f : Int) : cmpV d e f a b c = - cmpV a b c d e f := by
  unfold cmpV
  rcases cmpI_cases a d with ⟨_, h, k⟩ | ⟨_, h, k⟩ | ⟨_, h, k⟩ <;> rw [h, k] <;> simp
  exact cmpP_neg _ _
theorem cmpV_zero (a b c d e f : Int) : cmpV a b c d e f = 0 ↔ a = d ∧ b = e ∧ c = f := by
  unfold cmpV
  rcases cmpI_cases a d with ⟨g, h, k⟩ | ⟨g, h, k⟩ | ⟨g, h, k⟩ <;> rw [h] <;> simp
  · intro h'; omega
  · rw [cmpP_zero]; simp [g]
  · intro h'; omega
theorem cmpV_lt (a b c d e f : Int) : cmpV a b c d e f < 0 ↔ a < d ∨ a = d ∧ ltP (b, c) (e, f) := by
  unfold cmpV
  rcases cmpI_cases a d with ⟨g, h, k⟩ | ⟨g, h, k⟩ | ⟨g, h, k⟩ <;> rw [h] <;> simp
  · exact .inl g
  · rw [← ltP_cmp]; simp [g]
  · omega
theorem cmpV_trans {a b c d e f g h i : Int} (h1 : cmpV a b c d e f < 0) (h2 : cmpV d e f g h i < 0) : cmpV a b c g h i < 0 := by
  rw [cmpV_lt] at *
  rcases h1 with h1 | ⟨h1, k1⟩ <;> rcases h2 with h2 | ⟨h2, k2⟩
  · exact .inl (by omega)
  · exact .inl (by omega)
  · exact .inl (by omega)
  · exact .inr ⟨by omega, ltP_trans k1 k2⟩
set_option maxRecDepth 100000 in
set_option maxHeartbeats 2000000 in
theorem viewOrder_true (a b c d e f g h i : Int) (w : World) :
    Calls Try.prog 5 #[.agg #[.int .u64 a, .int .i64 b, .int .u64 c], .agg #[.int .u64 d, .int .i64 e, .int .u64 f], .agg #[.int .u64 g, .int .i64 h, .int .u64 i]] w (RetB w true) := by
  have T1 := hide (fun W => vcompare_s a b c d e f W)
  have T2 := hide (fun W => vcompare_s d e f g h i W)
  have T3 := hide (fun W => vcompare_s a b c g h i W)
  have T4 := hide (fun W => vcompare_s d e f a b c W)
  have TA := hide (fun W => awake4_t W)
  have key : (cmpV a b c d e f = -1 ∧ cmpV d e f a b c = 1 ∧ cmpV d e f g h i = -1 ∧ cmpV a b c g h i = -1 ∧ eqI a b c d e f = false) ∨ (cmpV a b c d e f = -1 ∧ cmpV d e f a b c = 1 ∧ decide (cmpV d e f g h i < 0) = false ∧ eqI a b c d e f = false) ∨ (cmpV a b c d e f = 0 ∧ cmpV d e f a b c = 0 ∧ cmpV a b c g h i = cmpV d e f g h i ∧ eqI a b c d e f = true) ∨ (cmpV a b c d e f = 1 ∧ cmpV d e f a b c = -1 ∧ eqI a b c d e f = false) := by
    have hn := cmpV_neg a b c d e f
    have hz := cmpV_zero a b c d e f
    have ne : cmpV a b c d e f ≠ 0 → eqI a b c d e f = false := fun h => by
      rw [Bool.eq_false_iff]; intro h'; exact h (hz.2 (by unfold eqI at h'; simpa using h'))
    rcases cmpV_one a b c d e f with h1 | h1 | h1
    · by_cases h2 : cmpV d e f g h i < 0
      · have h3 : cmpV a b c g h i < 0 := cmpV_trans (by omega) h2
        refine .inl ⟨h1, by omega, ?_, ?_, ne (by omega)⟩
        · rcases cmpV_one d e f g h i with h | h | h <;> omega
        · rcases cmpV_one a b c g h i with h | h | h <;> omega
      · exact .inr (.inl ⟨h1, by omega, by simpa using h2, ne (by omega)⟩)
    · obtain ⟨rfl, rfl, rfl⟩ := hz.1 h1
      exact .inr (.inr (.inl ⟨h1, by omega, rfl, by simp [eqI]⟩))
    · exact .inr (.inr (.inr ⟨h1, by omega, ne (by omega)⟩))
  generalize cmpV a b c d e f = x at T1 key
  generalize cmpV d e f g h i = y at T2 key
  generalize cmpV a b c g h i = z at T3 key
  generalize cmpV d e f a b c = n at T4 key
  rcases key with ⟨rfl, rfl, rfl, rfl, k5⟩ | ⟨rfl, rfl, k3, k4⟩ | ⟨rfl, rfl, rfl, k4⟩ | ⟨rfl, rfl, k3⟩
  all_goals
    go_enter Try.func5, Try.ntmps5
    go_wp2
    (refine wp_region_gw (by kernel_rfl) (by kernel_rfl) ?_; (repeat (go_big_quiet_step ((first | (go_at_call 28; with_reducible exact calls_gw (T1.out _)) | (go_at_call 28; with_reducible exact calls_gw (T2.out _)) | (go_at_call 28; with_reducible exact calls_gw (T3.out _)))))); refine wpQuiet_nil ?_; intro _ hw'; obtain ⟨⟨dq, osq⟩, hw''⟩ := hw'; subst hw'')
    go_wp2_with fail
    (with_reducible refine (T4.out _).mono ?_)
    rintro o w2 ⟨rfl, hb⟩
    obtain ⟨⟨d2, os2⟩, rfl⟩ := gw_of_below hb
    clear hb
    go_wp2_with (go_at_call 15; (with_reducible refine (TA.out _).mono ?_); rintro o w3 ⟨rfl, hb⟩; obtain ⟨⟨d3, os3⟩, rfl⟩ := gw_of_below hb; clear hb)
    go_ret
    exact ⟨rfl, (by repeat (first | exact Below.refl _ _ | assumption | refine bel_al ?_ _ | refine bel_gw ?_ _ _ | refine bel_drew ?_ | refine bel_drewN ?_ _))⟩
end Go.Proofs.Ytgbappmidllnmaa
