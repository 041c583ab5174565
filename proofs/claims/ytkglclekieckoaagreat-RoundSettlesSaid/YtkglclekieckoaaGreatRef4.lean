/-
  Contracts: the reference of layer 4: Compare, Same, Common, MayId, First; view.Common.
-/
import Derived.Test.YtkglclekieckoaaGreatLView2
import Derived.Test.YtkglclekieckoaaGreatLives
namespace Go.Proofs.YtkglclekieckoaaGreat
set_option linter.unusedSimpArgs false
set_option linter.unusedVariables false
set_option linter.unusedSectionVars false
open Go.RowKit

set_option maxRecDepth 100000 in
set_option maxHeartbeats 1000000 in
theorem refVSame_s (x y : Vw) (w : World) (h : x.Ok w) (h' : y.Ok w) :
    Calls Tryz.prog 51 #[x.v, y.v] w fun e w' => e = .returned (.bool (Vw.eqB x y)) ∧ Below w.heap.size w w' := by
  obtain ⟨r, n, i, MA, mc, ms, UA, uc, us⟩ := x
  obtain ⟨r', n', i', MA', mc', ms', UA', uc', us'⟩ := y
  obtain ⟨h1, h2, h3, h4⟩ := h
  obtain ⟨k1, k2, k3, k4⟩ := h'
  simp only at h1 h2 h3 h4 k1 k2 k3 k4
  have TM := hide (fun W (hW : Sl W MA ms) (hW' : Sl W MA' ms') => refEqual_s MA MA' mc mc' ms ms' W hW hW' h3 k3)
  have H1 := hide h1
  have H2 := hide h2
  have K1 := hide k1
  have K2 := hide k2
  clear h1 h2 k1 k2
  unfold Vw.v Vw.eqB
  simp only
  cases e1 : eqI r n i r' n' i'
  · have E := hide (show decide (r = r' ∧ n = n' ∧ i = i' ∧ ms = ms' ∧ us = us') = false by
      unfold eqI at e1; simp at e1 ⊢; intro a b c; exact absurd c (e1 a b))
    go_enter Tryz.func51, Tryz.ntmps51
    go_wp2
    go_ret
    exact ⟨ret_b E.out.symm, (by repeat (first | exact Below.refl _ _ | assumption | refine bel_al ?_ _ | refine bel_gw ?_ _ _ | refine bel_drew ?_ | refine bel_drewN ?_ _))⟩
  · have e1' : r = r' ∧ n = n' ∧ i = i' := by unfold eqI at e1; simpa using e1
    have E0 := hide (show decide (r = r' ∧ n = n' ∧ i = i' ∧ ms = ms' ∧ us = us') = (decide (ms = ms') && decide (us = us')) by
      simp [e1'])
    clear e1'
    rw [E0.out]
    generalize decide (ms = ms') = bm at TM ⊢
    clear E0
    cases bm
    · rw [Bool.false_and]
      go_enter Tryz.func51, Tryz.ntmps51
      go_wp2_with fail
      (with_reducible refine (TM.out _ (H1.out.step (by repeat (first | exact Below.refl _ _ | assumption | refine bel_al ?_ _ | refine bel_gw ?_ _ _ | refine bel_drew ?_ | refine bel_drewN ?_ _))) (K1.out.step (by repeat (first | exact Below.refl _ _ | assumption | refine bel_al ?_ _ | refine bel_gw ?_ _ _ | refine bel_drew ?_ | refine bel_drewN ?_ _)))).mono ?_)
      rintro e w1 ⟨rfl, hb⟩
      obtain ⟨⟨d1, os1⟩, rfl⟩ := gw_of_below hb
      clear hb
      go_wp2
      go_ret
      exact ⟨rfl, (by repeat (first | exact Below.refl _ _ | assumption | refine bel_al ?_ _ | refine bel_gw ?_ _ _ | refine bel_drew ?_ | refine bel_drewN ?_ _))⟩
    · rw [Bool.true_and]
      by_cases hlen : us.length = us'.length
      · have hb : (((us.length : Nat) : Int) != ((us'.length : Nat) : Int)) = false := by simp [hlen]
        have HL := hide hlen
        clear hlen
        go_enter Tryz.func51, Tryz.ntmps51
        go_wp2_with fail
        (with_reducible refine (TM.out _ (H1.out.step (by repeat (first | exact Below.refl _ _ | assumption | refine bel_al ?_ _ | refine bel_gw ?_ _ _ | refine bel_drew ?_ | refine bel_drewN ?_ _))) (K1.out.step (by repeat (first | exact Below.refl _ _ | assumption | refine bel_al ?_ _ | refine bel_gw ?_ _ _ | refine bel_drew ?_ | refine bel_drewN ?_ _)))).mono ?_)
        rintro e w1 ⟨rfl, hb⟩
        obtain ⟨⟨d1, os1⟩, rfl⟩ := gw_of_below hb
        clear hb
        go_wp2
        generalize hW : gw ((w.alloc (bxV r n i MA ms.length mc UA us.length uc)).alloc (bxV r' n' i' MA' ms'.length mc' UA' us'.length uc')) d1 os1 = W1
        have b0 : BoxAt W1 w.heap.size #[.int .u64 r, .int .i64 n, .int .u64 i, .slice MA ms.length mc, .slice UA us.length uc] 36 := by
          rw [← hW]; exact ((boxTop w _ _).alloc' _).step (below_gw _ _ _)
        have b1 : BoxAt W1 (w.heap.size + 1) #[.int .u64 r', .int .i64 n', .int .u64 i', .slice MA' ms'.length mc', .slice UA' us'.length uc'] 36 := by
          rw [← hW]
          have := boxTop (w.alloc (bxV r n i MA ms.length mc UA us.length uc)) #[.int .u64 r', .int .i64 n', .int .u64 i', .slice MA' ms'.length mc', .slice UA' us'.length uc'] 36
          rw [World.size_alloc] at this
          exact this.step (below_gw _ _ _)
        have HU := hide (show Ul W1 UA us by rw [← hW]; exact H2.out.step (by repeat (first | exact Below.refl _ _ | assumption | refine bel_al ?_ _ | refine bel_gw ?_ _ _ | refine bel_drew ?_ | refine bel_drewN ?_ _)))
        have HU' := hide (show Ul W1 UA' us' by rw [← hW]; exact K2.out.step (by repeat (first | exact Below.refl _ _ | assumption | refine bel_al ?_ _ | refine bel_gw ?_ _ _ | refine bel_drew ?_ | refine bel_drewN ?_ _)))
        have HBW := hide (show Below w.heap.size w W1 by rw [← hW]; exact (by repeat (first | exact Below.refl _ _ | assumption | refine bel_al ?_ _ | refine bel_gw ?_ _ _ | refine bel_drew ?_ | refine bel_drewN ?_ _)))
        clear hW
        go_loopw [5] (fun i' wr => ∃ k q : Nat, k ≤ us.length ∧ i' = .int .i64 k ∧ wr = W1.drewN q ∧ us.take k = us'.take k) (fun i _ => us.length - (intOf i).toNat)
        case atStart => exact ⟨0, 0, Nat.zero_le _, rfl, rfl, by simp⟩
        case round =>
          obtain ⟨k, q, hk, rfl, rfl, hnot⟩ := hrel
          have HN := hide hnot
          haveI := b0
          haveI := b1
          clear hnot
          by_cases hlt : k < us.length
          · obtain ⟨b, off, x, rfl, hb1, hp, g1⟩ := HU.out.atU hlt
            have hlt' : k < us'.length := by rw [← HL.out]; exact hlt
            obtain ⟨b', off', y, rfl, hb2, hp', g1'⟩ := HU'.out.atU hlt'
            have HP := hide hp
            have HP' := hide hp'
            clear hp hp'
            have i0 : (0 : Int) ≤ (k : Int) := by omega
            have i1 : (k : Int) < (us.length : Int) := by omega
            have i2 : (k : Int) < (us'.length : Int) := by omega
            by_cases he : x = y
            · have H := hide (show us.take (k + 1) = us'.take (k + 1) by
                rw [take_succ_of HP.out, take_succ_of HP'.out, HN.out, he])
              have hxy : (x != y) = false := by simp [he]
              clear he
              go_wp2
              go_quiet (fail)
              go_wp2
              go_roundw
              case rel => exact ⟨k + 1, _, by omega, by go_num, rfl, H.out⟩
              case measure => simp [intOf]; omega
            · have H := hide (show ¬ us = us' by
                intro h
                have h2 := HP.out; rw [h, HP'.out] at h2
                injection h2 with h2
                exact he h2.symm)
              have hxy : (x != y) = true := by simp [he]
              clear he
              go_wp2
              go_quiet (fail)
              go_wp2
              go_ret
              exact ⟨ret_b (by simp [H.out]), below_drewN (below_drewN HBW.out _) _⟩
          · have H := hide (show us = us' by
              have := HN.out; have h2 := HL.out
              rwa [List.take_of_length_le (by omega), List.take_of_length_le (by omega)] at this)
            go_wp2
            go_ret
            exact ⟨ret_b (by simp [H.out]), below_drewN HBW.out _⟩
      · have hb : (((us.length : Nat) : Int) != ((us'.length : Nat) : Int)) = true := by simp; omega
        have H := hide (show ¬ us = us' by intro h; exact hlen (by rw [h]))
        clear hlen
        go_enter Tryz.func51, Tryz.ntmps51
        go_wp2_with fail
        (with_reducible refine (TM.out _ (H1.out.step (by repeat (first | exact Below.refl _ _ | assumption | refine bel_al ?_ _ | refine bel_gw ?_ _ _ | refine bel_drew ?_ | refine bel_drewN ?_ _))) (K1.out.step (by repeat (first | exact Below.refl _ _ | assumption | refine bel_al ?_ _ | refine bel_gw ?_ _ _ | refine bel_drew ?_ | refine bel_drewN ?_ _)))).mono ?_)
        rintro e w1 ⟨rfl, hb⟩
        obtain ⟨⟨d1, os1⟩, rfl⟩ := gw_of_below hb
        clear hb
        go_wp2
        go_ret
        exact ⟨ret_b (by simp [H.out]), (by repeat (first | exact Below.refl _ _ | assumption | refine bel_al ?_ _ | refine bel_gw ?_ _ _ | refine bel_drew ?_ | refine bel_drewN ?_ _))⟩
end Go.Proofs.YtkglclekieckoaaGreat

namespace Go.Proofs.YtkglclekieckoaaGreat
set_option linter.unusedSimpArgs false
set_option linter.unusedVariables false
set_option linter.unusedSectionVars false
open Go.RowKit

/-! ### may a view be? -/
end Go.Proofs.YtkglclekieckoaaGreat
