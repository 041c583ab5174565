/-
  Layer 16, plainly: a packet that comes a second time tells no text.
-/
import Derived.Test.YtniogmefbjfoaaaWe
namespace Go.Proofs.Ytniogmefbjfoaaa
set_option linter.unusedSimpArgs false
set_option linter.unusedVariables false
set_option linter.unusedSectionVars false
open Go.RowKit

theorem take_twice (m : En) (now : Int) (p : Pk) : ((m.take now p).1.take now p).2.bs = [] := by
  by_cases hm : p.mayB = true
  · cases hf : p.hs.find? (fun h => decide (h.d = m.n)) with
    | none =>
      have e : m.take now p = (m, an0) := by unfold En.take; rw [if_pos hm, hf]
      rw [e, e]
    | some h =>
      by_cases hk : p.k = 2
      · have e : ∀ m' : En, m'.n = m.n → m'.take now p = m'.takeData p.n p.i h p.bs := fun m' hn => by
          unfold En.take; rw [if_pos hm, hn, hf]; simp only [if_pos hk]
        rw [e m rfl]
        have key : ∀ (m1 : En), m1.n = m.n → (match m1.cm p.n with | some c => c.i = p.i ∧ c.c = h.c ∧ ¬ ((!decide (h.s = 0) && (!decide (34359738367 < h.s) && decide (h.s - 1 = c.g))) = true) | none => False) → (m1.take now p).2.bs = [] := by
          intro m1 hn hc
          rw [e m1 hn]
          unfold En.takeData
          cases hcm : m1.cm p.n with
          | none => rw [hcm] at hc; exact hc.elim
          | some c =>
            rw [hcm] at hc
            obtain ⟨h1, h2, h3⟩ := hc
            dsimp only
            have e' : (if p.i = c.i ∧ h.c = c.c then c else (⟨p.i, h.c, 0⟩ : Cm)) = c := if_pos ⟨h1.symm, h2.symm⟩
            have e2 : ¬ ((decide (p.i < c.i) || (decide (p.i = c.i) && decide (h.c < c.c))) = true) := by rw [h1, h2]; simp
            rw [if_neg e2]
            simp only [e']
            rw [if_neg h3]
        have fin : ∀ c : Cm, c.i = p.i → c.c = h.c → ∀ c' : Cm, c' = (if (!decide (h.s = 0) && (!decide (34359738367 < h.s) && decide (h.s - 1 = c.g))) = true then { c with g := h.s } else c) → c'.i = p.i ∧ c'.c = h.c ∧ ¬ ((!decide (h.s = 0) && (!decide (34359738367 < h.s) && decide (h.s - 1 = c'.g))) = true) := by
          intro c c1 c2 c' hc'
          by_cases hnx : (!decide (h.s = 0) && (!decide (34359738367 < h.s) && decide (h.s - 1 = c.g))) = true
          · rw [if_pos hnx] at hc'
            subst hc'
            refine ⟨c1, c2, ?_⟩
            simp only [Bool.and_eq_true, decide_eq_true_eq, not_and]
            intro _ _ h5
            omega
          · rw [if_neg hnx] at hc'
            subst hc'
            exact ⟨c1, c2, hnx⟩
        cases hcm : m.cm p.n with
        | none =>
          refine key _ (by unfold En.takeData; simp [hcm]) ?_
          have := fin ⟨p.i, h.c, 0⟩ rfl rfl _ rfl
          unfold En.takeData
          simp only [hcm, Bool.false_eq_true, if_false, if_true]
          exact this
        | some c0 =>
          by_cases hold : (decide (p.i < c0.i) || (decide (p.i = c0.i) && decide (h.c < c0.c))) = true
          · have e0 : m.takeData p.n p.i h p.bs = (m, an0) := by
              unfold En.takeData
              simp only [hcm, if_pos hold]
            rw [e0, e m rfl, e0]
          · by_cases hs : p.i = c0.i ∧ h.c = c0.c
            · refine key _ (by unfold En.takeData; simp only [hcm, if_neg hold]) ?_
              have := fin c0 hs.1.symm hs.2.symm _ rfl
              unfold En.takeData
              simp only [hcm, if_neg hold, if_pos hs, if_true]
              exact this
            · refine key _ (by unfold En.takeData; simp only [hcm, if_neg hold]) ?_
              have := fin ⟨p.i, h.c, 0⟩ rfl rfl _ rfl
              unfold En.takeData
              simp only [hcm, if_neg hold, if_neg hs, if_true]
              exact this
      · have e : ∀ m' : En, (m'.take now p).2.bs = [] := fun m' => by
          unfold En.take; rw [if_pos hm]
          cases p.hs.find? (fun h => decide (h.d = m'.n)) with
          | none => rfl
          | some h =>
            simp only [if_neg hk]
            unfold En.takeAck
            dsimp only
            split
            · rfl
            · split
              · rfl
              · split <;> rfl
        exact e _
  · have e : m.take now p = (m, an0) := by unfold En.take; rw [if_neg hm]
    rw [e, e]
end Go.Proofs.Ytniogmefbjfoaaa
