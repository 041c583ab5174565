/-
  Contract: the chapter's example holds (awake of layer 4).
-/
import Derived.Test.YtkglclekieckoaaGreatView
import Derived.Laws.BytesArg
namespace Go.Proofs.YtkglclekieckoaaGreat
set_option linter.unusedSimpArgs false
set_option linter.unusedVariables false
set_option linter.unusedSectionVars false
open Go.RowKit

def fewV (w : World) : Vw := ⟨3, 1, 1, some ⟨w.heap.size + 1, 0, none⟩, 2, [(5, 2), (6, 1)], some ⟨w.heap.size + 1 + 1, 0, none⟩, 2, [4, 9]⟩
def fewW (w : World) : World := ((w.alloc (bxV 3 1 1 (some ⟨w.heap.size + 1, 0, none⟩) 2 2 (some ⟨w.heap.size + 1 + 1, 0, none⟩) 2 2)).alloc (.cells #[.int .i64 5, .int .u64 2, .int .i64 6, .int .u64 1] 25)).alloc (.cells #[.int .u64 4, .int .u64 9] 22)
theorem few_below (w : World) : Below w.heap.size w (fewW w) := by unfold fewW; exact (by repeat (first | exact Below.refl _ _ | assumption | refine bel_al ?_ _ | refine bel_gw ?_ _ _ | refine bel_drew ?_ | refine bel_drewN ?_ _))
theorem few_rm (w : World) (j : Nat) (u : Value) (hu : (pcs [(5, 2), (6, 1)])[j]? = some u) : (fewW w).cell? ⟨w.heap.size + 1, 0 + j, none⟩ = some u := by
  rw [Nat.zero_add]
  unfold fewW
  match j, hu with
  | 0, hu => simp [pcs, pc] at hu; subst hu; simp [go_sem]
  | 1, hu => simp [pcs, pc] at hu; subst hu; simp [go_sem]
  | 2, hu => simp [pcs, pc] at hu; subst hu; simp [go_sem]
  | 3, hu => simp [pcs, pc] at hu; subst hu; simp [go_sem]
  | j + 4, hu => simp [pcs, pc] at hu
theorem few_ru (w : World) (j : Nat) (u : Value) (hu : (ucs [4, 9])[j]? = some u) : (fewW w).cell? ⟨w.heap.size + 1 + 1, 0 + j, none⟩ = some u := by
  rw [Nat.zero_add]
  unfold fewW
  match j, hu with
  | 0, hu => simp [ucs] at hu; subst hu; simp [go_sem]
  | 1, hu => simp [ucs] at hu; subst hu; simp [go_sem]
  | j + 2, hu => simp [ucs] at hu
theorem few_size (w : World) : (fewW w).heap.size = w.heap.size + 3 := by unfold fewW; simp
theorem few_ok (w : World) : (fewV w).Ok (fewW w) :=
  ⟨⟨rfl, fun _ => ⟨_, _, rfl, by rw [few_size]; omega, few_rm w⟩⟩, ⟨rfl, fun _ => ⟨_, _, rfl, by rw [few_size]; omega, few_ru w⟩⟩, by simp [fewV], by simp [fewV]⟩
theorem few_bytes : viewB 3 1 1 [(5, 2), (6, 1)] [4, 9] = [3, 1, 1, 2, 5, 2, 6, 1, 4, 9] := by decide
theorem few_nodes : nodesL [(5, 2), (6, 1)] = [5, 6] := by
  refine ssI_ext (nodesL_spec _).1 (by simp) fun x => ?_
  rw [(nodesL_spec _).2]; simp; omega
theorem few_may (w : World) : (fewV w).mayB = true := by
  have e : nodesL (fewV w).ms = [5, 6] := few_nodes
  unfold Vw.mayB mayAB
  rw [e]
  rfl
end Go.Proofs.YtkglclekieckoaaGreat

namespace Go.Proofs.YtkglclekieckoaaGreat
set_option linter.unusedSimpArgs false
set_option linter.unusedVariables false
set_option linter.unusedSectionVars false
open Go.RowKit

theorem cmpI_cases (a b : Int) : (a < b ∧ cmpI a b = -1 ∧ cmpI b a = 1) ∨ (a = b ∧ cmpI a b = 0 ∧ cmpI b a = 0) ∨ (b < a ∧ cmpI a b = 1 ∧ cmpI b a = -1) := by
  rcases Int.lt_trichotomy a b with h | h | h
  · exact .inl ⟨h, cmpI_lt h, cmpI_gt h⟩
  · exact .inr (.inl ⟨h, cmpI_eq h, cmpI_eq h.symm⟩)
  · exact .inr (.inr ⟨h, cmpI_gt h, cmpI_lt h⟩)
theorem cmpV_one (a b c d e f : Int) : cmpV a b c d e f = -1 ∨ cmpV a b c d e f = 0 ∨ cmpV a b c d e f = 1 := by
  unfold cmpV
  split
  · exact cmpP_one _ _
  · rcases cmpI_cases a d with ⟨_, h, _⟩ | ⟨_, h, _⟩ | ⟨_, h, _⟩ <;> rw [h] <;> simp
theorem cmpV_neg (a b c d e f : Int) : cmpV d e f a b c = - cmpV a b c d e f := by
  unfold cmpV
  rcases cmpI_cases a d with ⟨_, h, k⟩ | ⟨_, h, k⟩ | ⟨_, h, k⟩ <;> rw [h, k] <;> simp
  exact cmpP_neg _ _
theorem cmpV_zero (a b c d e f : Int) : cmpV a b c d e f = 0 ↔ a = d ∧ b = e ∧ c = f := by
  unfold cmpV
  rcases cmpI_cases a d with ⟨g, h, k⟩ | ⟨g, h, k⟩ | ⟨g, h, k⟩ <;> rw [h] <;> simp
  · intro h'; omega
  · rw [cmpP_zero]; simp [g]
  · intro h'; omega
theorem cmpV_lt (a b c d e f : Int) : cmpV a b c d e f < 0 ↔ a < d ∨ a = d ∧ ltP (b, c) (e, f) := by
  unfold cmpV
  rcases cmpI_cases a d with ⟨g, h, k⟩ | ⟨g, h, k⟩ | ⟨g, h, k⟩ <;> rw [h] <;> simp
  · exact .inl g
  · rw [← ltP_cmp]; simp [g]
  · omega
theorem cmpV_trans {a b c d e f g h i : Int} (h1 : cmpV a b c d e f < 0) (h2 : cmpV d e f g h i < 0) : cmpV a b c g h i < 0 := by
  rw [cmpV_lt] at *
  rcases h1 with h1 | ⟨h1, k1⟩ <;> rcases h2 with h2 | ⟨h2, k2⟩
  · exact .inl (by omega)
  · exact .inl (by omega)
  · exact .inl (by omega)
  · exact .inr ⟨by omega, ltP_trans k1 k2⟩
end Go.Proofs.YtkglclekieckoaaGreat
