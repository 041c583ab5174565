/-
  Contracts: the reference of layer 4: Compare, Same, Common, MayId, First; view.Common.
-/
import Derived.Test.YtmleeohaaipdcaaLView2
import Derived.Test.YtmleeohaaipdcaaLives
namespace Go.Proofs.Ytmleeohaaipdcaa
set_option linter.unusedSimpArgs false
set_option linter.unusedVariables false
set_option linter.unusedSectionVars false
open Go.RowKit

set_option maxHeartbeats 400000 in
theorem vcommon_s (x y : Vw) (w : World) (h : x.Ok w) (h' : y.Ok w) : Calls Try.prog 73 #[x.v, y.v] w (RetS w (chosenL x.ms y.ms true)) := by
  obtain ⟨r, n, i, MA, mc, ms, UA, uc, us⟩ := x
  obtain ⟨r', n', i', MA', mc', ms', UA', uc', us'⟩ := y
  obtain ⟨h1, h2, h3, h4⟩ := h
  obtain ⟨k1, k2, k3, k4⟩ := h'
  simp only at h1 h2 h3 h4 k1 k2 k3 k4
  have T := hide (fun W (hW : Sl W MA ms) (hW' : Sl W MA' ms') => meet_s MA MA' mc mc' ms ms' W hW hW' h3 k3)
  unfold Vw.v
  simp only
  generalize chosenL ms ms' true = C at T ⊢
  have H1 := hide h1
  have K1 := hide k1
  clear h1 h2 k1 k2
  go_enter Try.func73, Try.ntmps73
  go_wp2_with fail
  (with_reducible refine (T.out _ (H1.out.step (by repeat (first | exact Below.refl _ _ | assumption | refine bel_al ?_ _ | refine bel_gw ?_ _ _ | refine bel_drew ?_ | refine bel_drewN ?_ _))) (K1.out.step (by repeat (first | exact Below.refl _ _ | assumption | refine bel_al ?_ _ | refine bel_gw ?_ _ _ | refine bel_drew ?_ | refine bel_drewN ?_ _)))).mono ?_)
  rintro e w1 ⟨CA, cc, rfl, hs, hb⟩
  have HS := hide hs
  clear hs
  go_wp2
  go_ret
  exact ⟨CA, cc, rfl, HS.out, below_step (by repeat (first | exact Below.refl _ _ | assumption | refine bel_al ?_ _ | refine bel_gw ?_ _ _ | refine bel_drew ?_ | refine bel_drewN ?_ _)) hb⟩
end Go.Proofs.Ytmleeohaaipdcaa

namespace Go.Proofs.Ytmleeohaaipdcaa
set_option linter.unusedSimpArgs false
set_option linter.unusedVariables false
set_option linter.unusedSectionVars false
open Go.RowKit

set_option maxHeartbeats 400000 in
theorem refMayId_s (r n i : Int) (w : World) (h0 : 0 ≤ i) : Calls Try.prog 119 #[.agg #[.int .u64 r, .int .i64 n, .int .u64 i]] w fun e w' => e = .returned (.bool (mayIdB r n i)) ∧ Below w.heap.size w w' := by
  have key : (mayB n i = false ∧ mayIdB r n i = false) ∨ (mayB n i = true ∧ (r == 0) = true ∧ mayIdB r n i = true) ∨ (mayB n i = true ∧ (r == 0) = false ∧ decide (n ≤ 4) = mayIdB r n i) := by
    unfold mayIdB
    by_cases hr : r = 0 <;> cases mayB n i <;> simp [hr]
  rcases key with ⟨h1, h2⟩ | ⟨h1, h2, h3⟩ | ⟨h1, h2, h3⟩
  · have H := hide h2
    clear h2
    go_enter Try.func119, Try.ntmps119
    go_wp2_with (go_at_call 118; refine (refMay_any _ _ _ h0).mono ?_; rintro e w' ⟨rfl, rfl⟩)
    go_ret
    exact ⟨ret_b H.out.symm, (by repeat (first | exact Below.refl _ _ | assumption | refine bel_al ?_ _ | refine bel_gw ?_ _ _ | refine bel_drew ?_ | refine bel_drewN ?_ _))⟩
  · have H := hide h3
    clear h3
    go_enter Try.func119, Try.ntmps119
    go_wp2_with (go_at_call 118; refine (refMay_any _ _ _ h0).mono ?_; rintro e w' ⟨rfl, rfl⟩)
    go_ret
    exact ⟨ret_b H.out.symm, (by repeat (first | exact Below.refl _ _ | assumption | refine bel_al ?_ _ | refine bel_gw ?_ _ _ | refine bel_drew ?_ | refine bel_drewN ?_ _))⟩
  · have H := hide h3
    clear h3
    go_enter Try.func119, Try.ntmps119
    go_wp2_with (go_at_call 118; refine (refMay_any _ _ _ h0).mono ?_; rintro e w' ⟨rfl, rfl⟩)
    go_ret
    exact ⟨ret_b H.out, (by repeat (first | exact Below.refl _ _ | assumption | refine bel_al ?_ _ | refine bel_gw ?_ _ _ | refine bel_drew ?_ | refine bel_drewN ?_ _))⟩
/-! ### may a view be? -/
end Go.Proofs.Ytmleeohaaipdcaa
