/-
  Layer 21: contracts at the chapter's example: Transit, Goal.
-/
import Derived.Test.YtmleeohaaipdcaaLet12
namespace Go.Proofs.Ytmleeohaaipdcaa
set_option linter.unusedSimpArgs false
set_option linter.unusedVariables false
set_option linter.unusedSectionVars false
open Go.RowKit

instance (priority := low) CellAt.stpBx (X W : World) (B b i : Nat) (v : Value) [s : StpB B X W] [k : CellAt X b i v] [l : LtN b B] : CellAt W b i v := ⟨Nat.lt_of_lt_of_le k.lt s.h.size, (s.h.cell (p := ⟨b, i, none⟩) l.h).trans k.h⟩
set_option maxRecDepth 100000 in
set_option maxHeartbeats 8000000 in
theorem exTransit (MA : Option Addr) (mc : Nat) (UA : Option Addr) (uc : Nat) (MB : Option Addr) (nc : Nat) (UB : Option Addr) (ud : Nat) (A : Option Addr) (c : Nat) (l : List Lr) (w : World) (h : ExIn MA mc UA uc MB nc UB ud A c l w) : Calls Try.prog 39 #[.agg #[.int .u64 3, .int .i64 1, .int .u64 1, .slice MA 3 mc, .slice UA 3 uc], .agg #[.int .u64 4, .int .i64 1, .int .u64 1, .slice MB 2 nc, .slice UB 2 ud], .agg #[.int .i64 5, .int .u64 2], .slice A l.length c] w (RetS w [(5, 2), (6, 1)]) := by
  have H := hide h
  have T0 := hide (fun W => exAlongF MA mc UA uc MB nc UB ud A c l W)
  have T1 := hide (fun W h => exCommon MA mc UA uc MB nc UB ud A c l W h)
  have T2 := hide (fun W by_ bl bs bx h1 h2 h3 h4 h => @exAlong1 MA mc UA uc MB nc UB ud A c l by_ bl bs bx W h h1 h2 h3 h4)
  have T3 := hide (fun W by_ bl bs bx h1 h2 h3 h4 h => @exAlong2 MA mc UA uc MB nc UB ud A c l by_ bl bs bx W h h1 h2 h3 h4)
  clear h
  go_enter Try.func39, Try.ntmps39
  go_wp2_with fail
  (with_reducible refine (T0.out _).mono ?_)
  rintro e w0 ⟨rfl, rfl⟩
  go_wp2_with fail
  (with_reducible refine (T1.out _ (H.out.step blw)).mono ?_)
  rintro e w1 ⟨SA, sc, rfl, hs, hb1⟩
  haveI : Stp _ w1 := ⟨hb1⟩
  have z1 := hb1.size
  simp at z1
  obtain ⟨b, off, rfl, hb, g0, g1, g2, g3⟩ := two_cells hs
  haveI : LeN w.heap.size w1.heap.size := ⟨by omega⟩
  haveI : LtN (w.heap.size) w1.heap.size := ⟨by omega⟩
  haveI : LtN (w.heap.size + 1) w1.heap.size := ⟨by omega⟩
  haveI : LtN (w.heap.size + 1 + 1) w1.heap.size := ⟨by omega⟩
  haveI : LtN (w.heap.size + 1 + 1 + 1) w1.heap.size := ⟨by omega⟩
  haveI : LtN (w.heap.size + 1 + 1 + 1 + 1) w1.heap.size := ⟨by omega⟩
  haveI : LtN (w.heap.size + 1 + 1 + 1 + 1 + 1) w1.heap.size := ⟨by omega⟩
  haveI : LtN (w.heap.size + 1 + 1 + 1 + 1 + 1 + 1) w1.heap.size := ⟨by omega⟩
  haveI : InW b w1 := ⟨hb⟩
  haveI : CellAt w1 b off _ := ⟨hb, g0⟩
  haveI : CellAt w1 b (off + 1) _ := ⟨hb, g1⟩
  haveI : CellAt w1 b (off + 2) _ := ⟨hb, g2⟩
  haveI : CellAt w1 b (off + 3) _ := ⟨hb, g3⟩
  haveI : LtN b w1.heap.size := ⟨hb⟩
  clear hs hb1 g0 g1 g2 g3
  simp only [List.length_cons, List.length_nil]
  go_wp2_with fail
  refine wp_loop_rounds 3 ?_
  rw [rounds_succ]
  go_wp2_with fail
  with_reducible refine Calls.mono (T2.out _ _ _ _ _ ?_ ?_ ?_ ?_ ?_) ?_
  iterate 4 (focus infer_instance)
  focus exact H.out.step blw
  rintro e w2 ⟨rfl, hb2⟩
  haveI : Stp _ w2 := ⟨hb2⟩
  have z2 := hb2.size
  simp [World.setCell] at z2
  clear hb2
  go_wp2_with (at_builtin; refine wpList_append_w Try.okP rfl (.tmp 29) (.tmp 31) rfl (w1.heap.size) (.slice none 0 0) 0 (pcs []) 1 (pcs [(5, 2)]) ?_ ?_ ?_ ?_ ?_ ?_ ?_ ?_; go_must ((focus (first | rfl | (simp [Act.eval, Act.put]; done))); (focus (exact World.ownsRow_nil _ _ _ _)); (focus (refine ⟨_, _, rfl, ?_⟩; exact reads_p1x _ _ _ _)); (focus (exact pc_one _)); (focus (unfold maxLen; omega)); (focus omega); (focus (first | omega | (simp; done) | (simp; omega) | exact BoxAt.lt (n := w.heap.size) inferInstance)); intro v7 w7 ho7 hg7; haveI : StpB w1.heap.size _ w7 := ⟨grown_belowT hg7 (by simp; omega) (fun q hq => by cases hq)⟩; have z7 := hg7.size; (try simp at z7); obtain ⟨A7, c7, rfl, _, _⟩ := own_slice ho7; have O7 := hide (show w7.ownsRow w1.heap.size 25 2 (.slice A7 1 c7) 1 (pcs [(5, 2)]) from ho7); clear ho7 hg7))
  rw [rounds_succ]
  go_wp2_with fail
  with_reducible refine Calls.mono (T3.out _ _ _ _ _ ?_ ?_ ?_ ?_ ?_) ?_
  iterate 4 (focus infer_instance)
  focus exact H.out.step blw
  rintro e w3 ⟨rfl, hb3⟩
  haveI : Stp _ w3 := ⟨hb3⟩
  have z3 := hb3.size
  simp [World.setCell] at z3
  have O8 := hide (own_base (own_tc O7.out (W := w3)) (Nat.le_refl _))
  clear hb3
  go_wp2_with (at_builtin; refine wpList_append_w Try.okP rfl (.tmp 29) (.tmp 31) rfl (w1.heap.size) (.slice A7 1 c7) 1 (pcs [(5, 2)]) 1 (pcs [(6, 1)]) ?_ ?_ ?_ ?_ ?_ ?_ ?_ ?_; go_must ((focus (first | rfl | (simp [Act.eval, Act.put]; done))); (focus (exact own_tc O8.out)); (focus (refine ⟨_, _, rfl, ?_⟩; exact reads_p1x _ _ _ _)); (focus (exact pc_one _)); (focus (unfold maxLen; omega)); (focus omega); (focus (first | omega | (simp; done) | (simp; omega) | exact BoxAt.lt (n := w.heap.size) inferInstance)); intro v9 w9 ho9 hg9; haveI : StpB w1.heap.size _ w9 := ⟨grown_belowT hg9 (by simp; omega) (fun q hq => (O8.out.lt q hq).1)⟩; obtain ⟨A9, c9, rfl, _, _⟩ := own_slice ho9; have O9 := hide (show w9.ownsRow w1.heap.size 25 2 (.slice A9 2 c9) 2 (pcs [(5, 2), (6, 1)]) from ho9); clear ho9 hg9))
  rw [rounds_succ]
  go_wp2
  go_ret
  exact ⟨A9, c9, rfl, Reads.of_own O9.out, blw⟩
theorem made3 : madeCells (Value.int .u64 0).cells 3 = #[.int .u64 0, .int .u64 0, .int .u64 0] := by
  apply Array.ext
  · simp [madeCells]
  · intro i h1 h2
    simp at h2
    have : i = 0 ∨ i = 1 ∨ i = 2 := by omega
    rcases this with rfl | rfl | rfl <;> simp [madeCells, Value.cells]
@[go_sem] theorem run_copy3 (W : World) (b ob ooff oc : Nat) (ty : TypeId) (cur : Array Value) (v0 v1 v2 : Int) [h : BoxAt W b cur 23] [c0 : CellAt W ob ooff (.int .u64 v0)] [c1 : CellAt W ob (ooff + 1) (.int .u64 v1)] [c2 : CellAt W ob (ooff + 2) (.int .u64 v2)] (hs : 3 ≤ cur.size) :
    (Builtin.copy_ #[29, 29] ty #[.slice (some ⟨b, 0, none⟩) 3 3, .slice (some ⟨ob, ooff, none⟩) 3 oc]).run Try.prog W = .ok (.int .i64 3) (((W.setCell ⟨b, 0, none⟩ (.int .u64 v0)).setCell ⟨b, 1, none⟩ (.int .u64 v1)).setCell ⟨b, 2, none⟩ (.int .u64 v2)) := by
  have hcell : ∀ j, j < 3 → W.cell? ⟨b, 0 + j, none⟩ = some cur[j]! := fun j hj => by
    have hj' : j < cur.size := by omega
    rw [Nat.zero_add, cell?_box, getElem!_pos cur j hj']
    exact Array.getElem?_eq_getElem hj'
  have hr := run_copy_cells (P := Try.prog) W 29 29 ty 23 b 0 3 3 ⟨ob, ooff, none⟩ 3 oc [.int .u64 v0, .int .u64 v1, .int .u64 v2] Try.underlying29 (by kernel_rfl) rfl (fun j v hv => by
      match j, hv with
      | 0, hv => simp at hv; subst hv; exact c0.h
      | 1, hv => simp at hv; subst hv; exact c1.h
      | 2, hv => simp at hv; subst hv; exact c2.h
      | j + 3, hv => simp at hv) (fun j hj => by rw [hcell j (by simpa using hj)]; rfl) (fun j hj => by simp [World.frozen?, h.eq]) (by simp [Value.oneCell'])
  simpa [World.setCells, goInt] using hr
set_option maxRecDepth 100000 in
set_option maxHeartbeats 8000000 in
theorem exGoal (MA : Option Addr) (mc : Nat) (UA : Option Addr) (uc : Nat) (MB : Option Addr) (nc : Nat) (UB : Option Addr) (ud : Nat) (A : Option Addr) (c : Nat) (l : List Lr) (OA : Option Addr) (oc : Nat) (w : World) (h : ExIn MA mc UA uc MB nc UB ud A c l w) (ho : Ul w OA [2, 0, 1]) : Calls Try.prog 37 #[.agg #[.int .u64 3, .int .i64 1, .int .u64 1, .slice MA 3 mc, .slice UA 3 uc], .agg #[.int .u64 4, .int .i64 1, .int .u64 1, .slice MB 2 nc, .slice UB 2 ud], .agg #[.int .i64 5, .int .u64 2], .slice OA 3 oc, .slice A l.length c] w fun e w' => ∃ g, e = .returned (.slice (some ⟨g, 0, none⟩) 3 3) ∧ BoxAt w' g #[.int .u64 2, .int .u64 3, .int .u64 1] 23 ∧ Below w.heap.size w w' := by
  obtain ⟨i, hi, hz, hsize, hby⟩ := info_parts (show (Try.prog.info? 23).map (fun i => (i.zero, i.size, i.bytes)) = some (some (.int .u64 0), 1, 8) by kernel_rfl)
  have hmk : ∀ W : World, (Instr.makeSlice 29 (.int .i64 3) (.int .i64 3)).run Try.prog W = .ok (.slice (some ⟨W.heap.size, 0, none⟩) 3 3) (W.alloc (.cells #[.int .u64 0, .int .u64 0, .int .u64 0] 23)) := fun W => by
    have := run_make_rowN 29 23 i (.int .u64 0) Try.underlying29 hi hz .i64 .i64 3 3 (Nat.le_refl _) (by rw [hby]; omega) (by omega) W
    rw [hsize, Nat.mul_one, made3] at this
    exact this
  obtain ⟨ob, ooff, rfl, hob, hoc⟩ := ho.2 (by simp)
  haveI : InW ob w := ⟨hob⟩
  haveI : CellAt w ob ooff (.int .u64 2) := ⟨hob, hoc 0 _ rfl⟩
  haveI : CellAt w ob (ooff + 1) (.int .u64 0) := ⟨hob, hoc 1 _ rfl⟩
  haveI : CellAt w ob (ooff + 2) (.int .u64 1) := ⟨hob, hoc 2 _ rfl⟩
  have H := hide h
  have T1 := hide (fun W h => exTransit MA mc UA uc MB nc UB ud A c l W h)
  have T2 := hide (fun W h => exSync2 MA mc UA uc MB nc UB ud A c l W h)
  clear h ho hoc hi hz hsize hby
  go_enter Try.func37, Try.ntmps37
  go_wp2_with fail
  (with_reducible refine (T1.out _ (H.out.step blw)).mono ?_)
  rintro e w1 ⟨SA, sc, rfl, hs, hb1⟩
  haveI : Stp _ w1 := ⟨hb1⟩
  have z1 := hb1.size
  simp [World.setCell] at z1
  obtain ⟨b, off, rfl, hb, g0, g1, g2, g3⟩ := two_cells hs
  haveI : LeN w.heap.size w1.heap.size := ⟨by omega⟩
  haveI : LtN (w.heap.size) w1.heap.size := ⟨by omega⟩
  haveI : LtN (w.heap.size + 1) w1.heap.size := ⟨by omega⟩
  haveI : LtN (w.heap.size + 1 + 1) w1.heap.size := ⟨by omega⟩
  haveI : LtN (w.heap.size + 1 + 1 + 1) w1.heap.size := ⟨by omega⟩
  haveI : InW b w1 := ⟨hb⟩
  haveI : CellAt w1 b off _ := ⟨hb, g0⟩
  haveI : CellAt w1 b (off + 1) _ := ⟨hb, g1⟩
  haveI : CellAt w1 b (off + 2) _ := ⟨hb, g2⟩
  haveI : CellAt w1 b (off + 3) _ := ⟨hb, g3⟩
  haveI : LtN b w1.heap.size := ⟨hb⟩
  clear hs hb1 g0 g1 g2 g3
  simp only [List.length_cons, List.length_nil]
  go_wp2_with fail
  refine wp_loop_rounds 3 ?_
  rw [rounds_succ]
  go_wp2_with fail
  rw [rounds_succ]
  go_wp2_with fail
  (with_reducible refine (T2.out _ (H.out.step blw)).mono ?_)
  rintro e w2 ⟨BA, bc, CA, cc, rfl, ho2, hb2⟩
  haveI : Stp _ w2 := ⟨hb2⟩
  have z2 := hb2.size
  simp [World.setCell] at z2
  haveI : LtN (w.heap.size) w2.heap.size := ⟨by omega⟩
  haveI : LtN (w.heap.size + 1) w2.heap.size := ⟨by omega⟩
  haveI : LtN (w.heap.size + 1 + 1) w2.heap.size := ⟨by omega⟩
  haveI : LtN (w.heap.size + 1 + 1 + 1) w2.heap.size := ⟨by omega⟩
  haveI : LtN w1.heap.size w2.heap.size := ⟨by omega⟩
  obtain ⟨cb, coff, rfl, hcb, hcc⟩ := (Reads.of_own ho2).2 (by simp)
  haveI : InW cb w2 := ⟨hcb⟩
  haveI : CellAt w2 cb coff (.int .u64 1) := ⟨hcb, hcc 0 _ rfl⟩
  haveI : CellAt w2 cb (coff + 1) (.int .u64 3) := ⟨hcb, hcc 1 _ rfl⟩
  haveI : CellAt w2 cb (coff + 2) (.int .u64 0) := ⟨hcb, hcc 2 _ rfl⟩
  have hne : ¬ cb = w.heap.size + 1 + 1 + 1 := fun e => by
    have := (ho2.lt _ (show (Value.slice (some ⟨cb, coff, none⟩) 3 cc).ownBlock = some cb from rfl)).1
    simp [World.setCell] at this
    omega
  haveI : NeN cb (w.heap.size + 1 + 1 + 1) := ⟨hne⟩
  clear ho2 hb2 hcc
  go_wp2_with fail
  refine wp_loop_rounds 4 ?_
  rw [rounds_succ]
  go_wp2_with fail
  go_region
  go_wp2_with fail
  rw [rounds_succ]
  go_wp2_with fail
  go_region
  go_wp2_with fail
  rw [rounds_succ]
  go_wp2_with fail
  go_region
  go_wp2_with fail
  rw [rounds_succ]
  go_wp2_with fail
  rw [rounds_succ]
  go_wp2
  go_ret
  exact ⟨_, rfl, inferInstance, blw⟩
end Go.Proofs.Ytmleeohaaipdcaa
