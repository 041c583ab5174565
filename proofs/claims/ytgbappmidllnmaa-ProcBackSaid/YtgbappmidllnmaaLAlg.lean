/-
  Walk: the law ProcAlgebra answers true at every input.
-/
import Derived.Test.YtgbappmidllnmaaJoin
import Derived.Test.YtgbappmidllnmaaAwake
namespace Go.Proofs.Ytgbappmidllnmaa
set_option linter.unusedSimpArgs false
set_option linter.unusedVariables false
set_option linter.unusedSectionVars false
open Go.RowKit Go.Sort Go.Lib

theorem mem_chosenL {a b : List Pr} {f : Bool} {x : Pr} : x ∈ chosenL a b f ↔ x ∈ a ∧ (decide (x ∈ b) == f) = true := by
  simp only [chosenL, List.mem_filter, mem_sortedL]
theorem mem_meetL {a b : List Pr} {x : Pr} : x ∈ chosenL a b true ↔ x ∈ a ∧ x ∈ b := by rw [mem_chosenL]; simp
theorem mem_minusL {a b : List Pr} {x : Pr} : x ∈ chosenL a b false ↔ x ∈ a ∧ x ∉ b := by rw [mem_chosenL]; simp
theorem chosenL_len (a b : List Pr) (f : Bool) : (chosenL a b f).length ≤ a.length := Nat.le_trans (List.length_filter_le _ _) (sortedL_len a)

theorem alg1 (a b : List Pr) : sortedL (sortedL (chosenL a b true ++ chosenL a b false)) = sortedL a := by
  refine sortedL_congr fun x => ?_
  rw [mem_sortedL, List.mem_append, mem_meetL, mem_minusL]
  by_cases h : x ∈ b <;> simp [h]
theorem alg2 (a b : List Pr) : chosenL (chosenL a b true) (chosenL a b false) true = [] := by
  rw [List.eq_nil_iff_forall_not_mem]
  intro x
  rw [mem_meetL, mem_meetL, mem_minusL]
  rintro ⟨⟨_, h⟩, _, h'⟩
  exact h' h
theorem alg3 (a b : List Pr) : sortedL (sortedL (a ++ b)) = sortedL (sortedL (b ++ a)) := by
  refine sortedL_congr fun x => ?_
  rw [mem_sortedL, mem_sortedL, List.mem_append, List.mem_append, or_comm]
theorem alg4 (a b c : List Pr) : sortedL (sortedL (sortedL (a ++ b) ++ c)) = sortedL (sortedL (a ++ sortedL (b ++ c))) := by
  refine sortedL_congr fun x => ?_
  simp only [mem_sortedL, List.mem_append, or_assoc]
theorem alg5 (a b c : List Pr) : sortedL (chosenL a (sortedL (b ++ c)) true) = sortedL (sortedL (chosenL a b true ++ chosenL a c true)) := by
  refine sortedL_congr fun x => ?_
  simp only [mem_sortedL, List.mem_append, mem_meetL]
  by_cases h : x ∈ a <;> simp [h]
theorem alg6 (a b c : List Pr) : sortedL (chosenL a (sortedL (b ++ c)) false) = sortedL (chosenL (chosenL a b false) c false) := by
  refine sortedL_congr fun x => ?_
  simp only [mem_sortedL, List.mem_append, mem_minusL]
  by_cases h : x ∈ a <;> simp [h]
theorem sapp_len (a b : List Pr) : (sortedL (a ++ b)).length ≤ a.length + b.length := by have := sortedL_len (a ++ b); rwa [List.length_append] at this

theorem awake_t (w : World) : Calls Try.prog 30 #[] w (RetB w true) := awake_any w

end Go.Proofs.Ytgbappmidllnmaa
