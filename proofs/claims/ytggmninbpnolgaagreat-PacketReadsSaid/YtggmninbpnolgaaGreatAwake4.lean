/-
  Contract: the chapter's example holds (awake of layer 4).
-/
import Derived.Test.YtggmninbpnolgaaGreatView
import Derived.Laws.BytesArg
namespace Go.Proofs.YtggmninbpnolgaaGreat
set_option linter.unusedSimpArgs false
set_option linter.unusedVariables false
set_option linter.unusedSectionVars false
open Go.RowKit

theorem conv_reads {w : World} {B : Nat} {A : Option Addr} {c : Nat} {bs : List Int} (h : Reads w B 1 A bs.length (bcs bs)) : (convert 26 9 (.slice A bs.length c)).run Tryz.prog w = .ok (.string (strOfNums bs)) w := by
  rcases Nat.eq_zero_or_pos bs.length with h0 | h0
  · have : bs = [] := List.eq_nil_of_length_eq_zero h0
    subst this
    cases A with
    | none => exact (run_convert_bytes_nil (P := Tryz.prog) w 26 5 Tryz.underlying26 Tryz.underlying5 0 c 9 Tryz.underlying9)
    | some a =>
      obtain ⟨b, off, t⟩ := a
      show (convert 26 9 (.slice (some ⟨b, off, t⟩) 0 c)).run Tryz.prog w = _
      rw [run_convert_bytes_string w 26 9 5 _ 0 c Tryz.underlying26 Tryz.underlying5 Tryz.underlying9, run_bytesToString w _ 0 c [] (by simp [loadCells]; rw [loadCellsFrom]; rfl)]
      rfl
  · obtain ⟨b, off, rfl, hb, hc⟩ := h.2 h0
    refine run_convert_bytes_arg (P := Tryz.prog) w 26 5 Tryz.underlying26 Tryz.underlying5 b off bs.length c bs rfl (fun i hi => ?_) 9 Tryz.underlying9
    exact hc i _ (by simp [bcs, List.getD, hi])

def fewV (w : World) : Vw := ⟨3, 1, 1, some ⟨w.heap.size + 1, 0, none⟩, 2, [(5, 2), (6, 1)], some ⟨w.heap.size + 1 + 1, 0, none⟩, 2, [4, 9]⟩
theorem newWtr (w : World) : Wtr (w.alloc (.cells #[.slice none 0 0] 79)) w.heap.size (.slice none 0 0) [] := ⟨heap_alloc_new _ _, World.ownsRow_nil _ _ _ _⟩
theorem few_bytes : viewB 3 1 1 [(5, 2), (6, 1)] [4, 9] = [3, 1, 1, 2, 5, 2, 6, 1, 4, 9] := by decide
theorem few_nodes : nodesL [(5, 2), (6, 1)] = [5, 6] := by
  refine ssI_ext (nodesL_spec _).1 (by simp) fun x => ?_
  rw [(nodesL_spec _).2]; simp; omega
theorem few_may (w : World) : (fewV w).mayB = true := by
  have e : nodesL (fewV w).ms = [5, 6] := few_nodes
  unfold Vw.mayB mayAB
  rw [e]
  rfl
end Go.Proofs.YtggmninbpnolgaaGreat
