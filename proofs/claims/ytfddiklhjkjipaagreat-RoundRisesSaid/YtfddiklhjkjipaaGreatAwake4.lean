/-
  Contract: the chapter's example holds (awake of layer 4).
-/
import Derived.Test.YtfddiklhjkjipaaGreatView
import Derived.Laws.BytesArg
namespace Go.Proofs.YtfddiklhjkjipaaGreat
set_option linter.unusedSimpArgs false
set_option linter.unusedVariables false
set_option linter.unusedSectionVars false
open Go.RowKit

theorem conv_reads {w : World} {B : Nat} {A : Option Addr} {c : Nat} {bs : List Int} (h : Reads w B 1 A bs.length (bcs bs)) : (convert 99 9 (.slice A bs.length c)).run Tryz.prog w = .ok (.string (strOfNums bs)) w := by
  rcases Nat.eq_zero_or_pos bs.length with h0 | h0
  · have : bs = [] := List.eq_nil_of_length_eq_zero h0
    subst this
    cases A with
    | none => exact (run_convert_bytes_nil (P := Tryz.prog) w 99 5 Tryz.underlying99 Tryz.underlying5 0 c 9 Tryz.underlying9)
    | some a =>
      obtain ⟨b, off, t⟩ := a
      show (convert 99 9 (.slice (some ⟨b, off, t⟩) 0 c)).run Tryz.prog w = _
      rw [run_convert_bytes_string w 99 9 5 _ 0 c Tryz.underlying99 Tryz.underlying5 Tryz.underlying9, run_bytesToString w _ 0 c [] (by simp [loadCells]; rw [loadCellsFrom]; rfl)]
      rfl
  · obtain ⟨b, off, rfl, hb, hc⟩ := h.2 h0
    refine run_convert_bytes_arg (P := Tryz.prog) w 99 5 Tryz.underlying99 Tryz.underlying5 b off bs.length c bs rfl (fun i hi => ?_) 9 Tryz.underlying9
    exact hc i _ (by simp [bcs, List.getD, hi])

def fewV (w : World) : Vw := ⟨3, 1, 1, some ⟨w.heap.size + 1, 0, none⟩, 2, [(5, 2), (6, 1)], some ⟨w.heap.size + 1 + 1, 0, none⟩, 2, [4, 9]⟩
def fewW (w : World) : World := ((w.alloc (bxV 3 1 1 (some ⟨w.heap.size + 1, 0, none⟩) 2 2 (some ⟨w.heap.size + 1 + 1, 0, none⟩) 2 2)).alloc (.cells #[.int .i64 5, .int .u64 2, .int .i64 6, .int .u64 1] 25)).alloc (.cells #[.int .u64 4, .int .u64 9] 22)
theorem few_below (w : World) : Below w.heap.size w (fewW w) := by unfold fewW; exact (by repeat (first | exact Below.refl _ _ | assumption | refine bel_al ?_ _ | refine bel_gw ?_ _ _ | refine bel_drew ?_ | refine bel_drewN ?_ _))
theorem few_rm (w : World) (j : Nat) (u : Value) (hu : (pcs [(5, 2), (6, 1)])[j]? = some u) : (fewW w).cell? ⟨w.heap.size + 1, 0 + j, none⟩ = some u := by
  rw [Nat.zero_add]
  unfold fewW
  match j, hu with
  | 0, hu => simp [pcs, pc] at hu; subst hu; simp [go_sem]
  | 1, hu => simp [pcs, pc] at hu; subst hu; simp [go_sem]
  | 2, hu => simp [pcs, pc] at hu; subst hu; simp [go_sem]
  | 3, hu => simp [pcs, pc] at hu; subst hu; simp [go_sem]
  | j + 4, hu => simp [pcs, pc] at hu
theorem few_ru (w : World) (j : Nat) (u : Value) (hu : (ucs [4, 9])[j]? = some u) : (fewW w).cell? ⟨w.heap.size + 1 + 1, 0 + j, none⟩ = some u := by
  rw [Nat.zero_add]
  unfold fewW
  match j, hu with
  | 0, hu => simp [ucs] at hu; subst hu; simp [go_sem]
  | 1, hu => simp [ucs] at hu; subst hu; simp [go_sem]
  | j + 2, hu => simp [ucs] at hu
theorem few_size (w : World) : (fewW w).heap.size = w.heap.size + 3 := by unfold fewW; simp
theorem few_ok (w : World) : (fewV w).Ok (fewW w) :=
  ⟨⟨rfl, fun _ => ⟨_, _, rfl, by rw [few_size]; omega, few_rm w⟩⟩, ⟨rfl, fun _ => ⟨_, _, rfl, by rw [few_size]; omega, few_ru w⟩⟩, by simp [fewV], by simp [fewV]⟩
theorem few_rdm {w : World} {g : Nat} {v : Value} {bs : List Int} (h : Wtr w g v bs) : RdW (fewW w) g v 2 (some ⟨w.heap.size + 1, 0, none⟩) 2 (pcs [(5, 2), (6, 1)]) :=
  ⟨rfl, fun _ => ⟨_, _, rfl, by rw [few_size]; omega, by have := h.lt; omega, h.row_lt (by omega), few_rm w⟩⟩
theorem few_rdu {w : World} {g : Nat} {v : Value} {bs : List Int} (h : Wtr w g v bs) : RdW (fewW w) g v 1 (some ⟨w.heap.size + 1 + 1, 0, none⟩) 2 (ucs [4, 9]) :=
  ⟨rfl, fun _ => ⟨_, _, rfl, by rw [few_size]; omega, by have := h.lt; omega, h.row_lt (by omega), few_ru w⟩⟩
theorem newWtr (w : World) : Wtr (w.alloc (.cells #[.slice none 0 0] 305)) w.heap.size (.slice none 0 0) [] := ⟨heap_alloc_new _ _, World.ownsRow_nil _ _ _ _⟩
theorem few_bytes : viewB 3 1 1 [(5, 2), (6, 1)] [4, 9] = [3, 1, 1, 2, 5, 2, 6, 1, 4, 9] := by decide
theorem few_nodes : nodesL [(5, 2), (6, 1)] = [5, 6] := by
  refine ssI_ext (nodesL_spec _).1 (by simp) fun x => ?_
  rw [(nodesL_spec _).2]; simp; omega
theorem few_may (w : World) : (fewV w).mayB = true := by
  have e : nodesL (fewV w).ms = [5, 6] := few_nodes
  unfold Vw.mayB mayAB
  rw [e]
  rfl
end Go.Proofs.YtfddiklhjkjipaaGreat
