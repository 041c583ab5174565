/-
  Contract: the chapter's example holds (awake of layer 4).
-/
import Derived.Test.YtgbappmidllnmaaView3
import Derived.Laws.BytesArg
namespace Go.Proofs.Ytgbappmidllnmaa
set_option linter.unusedSimpArgs false
set_option linter.unusedVariables false
set_option linter.unusedSectionVars false
open Go.RowKit

theorem conv_reads {w : World} {B : Nat} {A : Option Addr} {c : Nat} {bs : List Int} (h : Reads w B 1 A bs.length (bcs bs)) : (convert 45 9 (.slice A bs.length c)).run Try.prog w = .ok (.string (strOfNums bs)) w := by
  rcases Nat.eq_zero_or_pos bs.length with h0 | h0
  · have : bs = [] := List.eq_nil_of_length_eq_zero h0
    subst this
    cases A with
    | none => exact (run_convert_bytes_nil (P := Try.prog) w 45 5 Try.underlying45 Try.underlying5 0 c 9 Try.underlying9)
    | some a =>
      obtain ⟨b, off, t⟩ := a
      show (convert 45 9 (.slice (some ⟨b, off, t⟩) 0 c)).run Try.prog w = _
      rw [run_convert_bytes_string w 45 9 5 _ 0 c Try.underlying45 Try.underlying5 Try.underlying9, run_bytesToString w _ 0 c [] (by simp [loadCells]; rw [loadCellsFrom]; rfl)]
      rfl
  · obtain ⟨b, off, rfl, hb, hc⟩ := h.2 h0
    refine run_convert_bytes_arg (P := Try.prog) w 45 5 Try.underlying45 Try.underlying5 b off bs.length c bs rfl (fun i hi => ?_) 9 Try.underlying9
    exact hc i _ (by simp [bcs, List.getD, hi])

def fewV (w : World) : Vw := ⟨3, 1, 1, some ⟨w.heap.size + 1, 0, none⟩, 2, [(5, 2), (6, 1)], some ⟨w.heap.size + 1 + 1, 0, none⟩, 2, [4, 9]⟩
def fewW (w : World) : World := ((w.alloc (bxV 3 1 1 (some ⟨w.heap.size + 1, 0, none⟩) 2 2 (some ⟨w.heap.size + 1 + 1, 0, none⟩) 2 2)).alloc (.cells #[.int .i64 5, .int .u64 2, .int .i64 6, .int .u64 1] 24)).alloc (.cells #[.int .u64 4, .int .u64 9] 22)
set_option maxHeartbeats 400000 in
theorem few_s (w : World) : Calls Try.prog 57 #[] w fun e w' => e = .returned (.agg #[.int .u64 3, .int .i64 1, .int .u64 1, .slice (some ⟨w.heap.size + 1, 0, none⟩) 2 2, .slice (some ⟨w.heap.size + 1 + 1, 0, none⟩) 2 2]) ∧ fewW w = w' := by
  go_enter Try.func57, Try.ntmps57
  go_wp2
  refine bodyPost_ret (v := .agg #[.int .u64 3, .int .i64 1, .int .u64 1, .slice (some ⟨w.heap.size + 1, 0, none⟩) 2 2, .slice (some ⟨w.heap.size + 1 + 1, 0, none⟩) 2 2]) (by simp [results, Try.results57, go_sem]) rfl ?_
  exact ⟨rfl, rfl⟩
theorem few_below (w : World) : Below w.heap.size w (fewW w) := by unfold fewW; exact (by repeat (first | exact Below.refl _ _ | assumption | refine bel_al ?_ _ | refine bel_gw ?_ _ _ | refine bel_drew ?_ | refine bel_drewN ?_ _))
theorem few_rm (w : World) (j : Nat) (u : Value) (hu : (pcs [(5, 2), (6, 1)])[j]? = some u) : (fewW w).cell? ⟨w.heap.size + 1, 0 + j, none⟩ = some u := by
  rw [Nat.zero_add]
  unfold fewW
  match j, hu with
  | 0, hu => simp [pcs, pc] at hu; subst hu; simp [go_sem]
  | 1, hu => simp [pcs, pc] at hu; subst hu; simp [go_sem]
  | 2, hu => simp [pcs, pc] at hu; subst hu; simp [go_sem]
  | 3, hu => simp [pcs, pc] at hu; subst hu; simp [go_sem]
  | j + 4, hu => simp [pcs, pc] at hu
theorem few_ru (w : World) (j : Nat) (u : Value) (hu : (ucs [4, 9])[j]? = some u) : (fewW w).cell? ⟨w.heap.size + 1 + 1, 0 + j, none⟩ = some u := by
  rw [Nat.zero_add]
  unfold fewW
  match j, hu with
  | 0, hu => simp [ucs] at hu; subst hu; simp [go_sem]
  | 1, hu => simp [ucs] at hu; subst hu; simp [go_sem]
  | j + 2, hu => simp [ucs] at hu
theorem few_size (w : World) : (fewW w).heap.size = w.heap.size + 3 := by unfold fewW; simp
theorem few_ok (w : World) : (fewV w).Ok (fewW w) :=
  ⟨⟨rfl, fun _ => ⟨_, _, rfl, by rw [few_size]; omega, few_rm w⟩⟩, ⟨rfl, fun _ => ⟨_, _, rfl, by rw [few_size]; omega, few_ru w⟩⟩, by simp [fewV], by simp [fewV]⟩
theorem few_rdm {w : World} {g : Nat} {v : Value} {bs : List Int} (h : Wtr w g v bs) : RdW (fewW w) g v 2 (some ⟨w.heap.size + 1, 0, none⟩) 2 (pcs [(5, 2), (6, 1)]) :=
  ⟨rfl, fun _ => ⟨_, _, rfl, by rw [few_size]; omega, by have := h.lt; omega, h.row_lt (by omega), few_rm w⟩⟩
theorem few_rdu {w : World} {g : Nat} {v : Value} {bs : List Int} (h : Wtr w g v bs) : RdW (fewW w) g v 1 (some ⟨w.heap.size + 1 + 1, 0, none⟩) 2 (ucs [4, 9]) :=
  ⟨rfl, fun _ => ⟨_, _, rfl, by rw [few_size]; omega, by have := h.lt; omega, h.row_lt (by omega), few_ru w⟩⟩
theorem newWtr (w : World) : Wtr (w.alloc (.cells #[.slice none 0 0] 90)) w.heap.size (.slice none 0 0) [] := ⟨heap_alloc_new _ _, World.ownsRow_nil _ _ _ _⟩
theorem few_bytes : viewB 3 1 1 [(5, 2), (6, 1)] [4, 9] = [3, 1, 1, 2, 5, 2, 6, 1, 4, 9] := by decide
theorem few_nodes : nodesL [(5, 2), (6, 1)] = [5, 6] := by
  refine ssI_ext (nodesL_spec _).1 (by simp) fun x => ?_
  rw [(nodesL_spec _).2]; simp; omega
theorem few_may (w : World) : (fewV w).mayB = true := by
  have e : nodesL (fewV w).ms = [5, 6] := few_nodes
  unfold Vw.mayB mayAB
  rw [e]
  rfl
set_option maxRecDepth 100000 in
set_option maxHeartbeats 1000000 in
theorem awake4_t (w : World) : Calls Try.prog 15 #[] w (RetB w true) := by
  go_enter Try.func15, Try.ntmps15
  go_wp2_with fail
  with_reducible refine (newWriter_s w).mono ?_
  rintro e w1 ⟨rfl, hw1⟩
  have HW1 := hide (show Wtr w1 w.heap.size (.slice none 0 0) [] by rw [← hw1]; exact newWtr w)
  have HB1 := hide (show Below w.heap.size w w1 by rw [← hw1]; exact below_alloc _ _)
  clear hw1
  go_wp2_with fail
  with_reducible refine (few_s w1).mono ?_
  rintro e w2 ⟨rfl, hw2⟩
  have hb2 : Below w1.heap.size w1 w2 := by rw [← hw2]; exact few_below w1
  have hW2 := HW1.out.below hb2
  have T : Hid (Calls Try.prog 42 #[.pointer (some ⟨w.heap.size, 0, none⟩), .agg #[.int .u64 3, .int .i64 1, .int .u64 1, .slice (some ⟨w1.heap.size + 1, 0, none⟩) 2 2, .slice (some ⟨w1.heap.size + 1 + 1, 0, none⟩) 2 2]] w2 _) :=
    hide (putV_s w.heap.size (.slice none 0 0) [] 3 1 1 (some ⟨w1.heap.size + 1, 0, none⟩) 2 [(5, 2), (6, 1)] (some ⟨w1.heap.size + 1 + 1, 0, none⟩) 2 [4, 9] w2 hW2 (by simp) (by rw [← hw2]; exact few_rdm HW1.out) (by rw [← hw2]; exact few_rdu HW1.out) (by simp) (by simp) (by unfold wfU64; omega) (by unfold wfU64; omega) (by simp [wfU64]) (by simp [wfU64]))
  rw [few_bytes, List.nil_append] at T
  have HB2 := hide (below_step HB1.out hb2)
  have HW2 := hide hW2
  clear hw2 hb2 hW2 HW1 HB1
  go_wp2_with fail
  with_reducible refine T.out.mono ?_
  rintro e w3 ⟨rfl, v3, hw3, hs3⟩
  have HB3 := hide (HB2.out.trans (hs3.to_below HW2.out (Nat.le_refl _)))
  have HW3 := hide hw3
  clear hw3 hs3 T HB2 HW2
  go_wp2_with fail
  with_reducible refine (few_s w3).mono ?_
  rintro e w4 ⟨rfl, hw4⟩
  have hb4 : Below w3.heap.size w3 w4 := by rw [← hw4]; exact few_below w3
  have T4 : Hid (Calls Try.prog 26 #[.agg #[.int .u64 3, .int .i64 1, .int .u64 1, .slice (some ⟨w3.heap.size + 1, 0, none⟩) 2 2, .slice (some ⟨w3.heap.size + 1 + 1, 0, none⟩) 2 2], .agg #[.int .i64 6, .int .u64 1]] w4 fun e w' => e = .returned (.tuple #[.int .u64 9, .bool true]) ∧ Below w4.heap.size w4 w') := hide (start_s (fewV w3) 6 1 w4 (by rw [← hw4]; exact few_ok w3))
  have HB4 := hide (below_step HB3.out hb4)
  have HW4 := hide (HW3.out.below hb4)
  clear hw4 hb4 HB3 HW3
  go_wp2_with fail
  with_reducible refine T4.out.mono ?_
  rintro e w5 ⟨rfl, hb5⟩
  have HB5 := hide (below_step HB4.out hb5)
  have HW5 := hide (HW4.out.below hb5)
  clear hb5 HB4 HW4 T4
  go_wp2_with fail
  with_reducible refine (few_s w5).mono ?_
  rintro e w6 ⟨rfl, hw6⟩
  have hb6 : Below w5.heap.size w5 w6 := by rw [← hw6]; exact few_below w5
  have T6 : Hid (Calls Try.prog 17 #[.agg #[.int .u64 3, .int .i64 1, .int .u64 1, .slice (some ⟨w5.heap.size + 1, 0, none⟩) 2 2, .slice (some ⟨w5.heap.size + 1 + 1, 0, none⟩) 2 2]] w6 fun e w' => e = .returned (.bool true) ∧ Below w6.heap.size w6 w') := by
    have := vmay_s (fewV w5) w6 (by rw [← hw6]; exact few_ok w5)
    rw [few_may] at this
    exact this
  have HB6 := hide (below_step HB5.out hb6)
  have HW6 := hide (HW5.out.below hb6)
  clear hw6 hb6 HB5 HW5
  go_wp2_with fail
  with_reducible refine T6.out.mono ?_
  rintro e w7 ⟨rfl, hb7⟩
  have HB7 := hide (below_step HB6.out hb7)
  have T7 := hide (bytes_s w.heap.size v3 _ w7 (HW6.out.below hb7) (by simp))
  clear hb7 HB6 HW6 T6
  go_wp2_with fail
  with_reducible refine T7.out.mono ?_
  rintro e w8 ⟨v8, rfl, ho, hb8⟩
  have HB8 := hide (below_step HB7.out hb8)
  obtain ⟨A8, c8, rfl, _, _⟩ := own_slice ho
  have hcv := conv_reads (c := c8) (Reads.of_own ho)
  rw [show strOfNums [3, 1, 1, 2, 5, 2, 6, 1, 4, 9] = ⟨#[3, 1, 1, 2, 5, 2, 6, 1, 4, 9]⟩ from rfl] at hcv
  simp only [List.length_cons, List.length_nil] at hcv ⊢
  clear ho hb8 HB7 T7
  go_wp2
  go_ret
  exact ⟨rfl, HB8.out⟩
end Go.Proofs.Ytgbappmidllnmaa
