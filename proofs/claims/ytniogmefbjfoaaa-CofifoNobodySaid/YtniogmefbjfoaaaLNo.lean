/-
  Layer 16: an end that is nil, and one that New did not make, answer nothing.
-/
import Derived.Test.YtniogmefbjfoaaaOpSx
namespace Go.Proofs.Ytniogmefbjfoaaa
set_option linter.unusedSimpArgs false
set_option linter.unusedVariables false
set_option linter.unusedSectionVars false
open Go.RowKit Go.Maps

theorem reads_sx1 {W : World} {m : Nat} {s : Sx} {t : TypeId} (h : BoxAt W m #[.int .i64 s.d, .int .u64 s.now, .slice s.NA s.ns.length s.nc, .slice s.BA s.bd.length s.bc, .int .i64 s.x.k, .int .i64 s.x.n, .int .u64 s.x.i, .int .i64 s.x.hp, .slice s.HA s.x.hs.length s.hc, .slice s.QA s.x.bs.length s.qc, .int .i64 s.x.an, .int .u64 s.x.ai, .int .u64 s.x.sq, .slice s.PA s.x.ps.length s.pc] t) : Reads W W.heap.size 14 (some ⟨m, 0, none⟩) [s].length (sxcs [s]) :=
  ⟨rfl, fun _ => ⟨m, 0, rfl, h.lt, fun j u hu => by
    rw [Nat.zero_add, cell?_box]
    have hj : (sxc s)[j]? = some u := by simpa [sxcs] using hu
    rw [← hj]
    simp [sxc]⟩⟩
theorem few_one (W : World) (m c : Nat) (s : Sx) (h : BoxAt W m #[.int .i64 s.d, .int .u64 s.now, .slice s.NA s.ns.length s.nc, .slice s.BA s.bd.length s.bc, .int .i64 s.x.k, .int .i64 s.x.n, .int .u64 s.x.i, .int .i64 s.x.hp, .slice s.HA s.x.hs.length s.hc, .slice s.QA s.x.bs.length s.qc, .int .i64 s.x.an, .int .u64 s.x.ai, .int .u64 s.x.sq, .slice s.PA s.x.ps.length s.pc] 34) : Calls Try.prog 7 #[.slice (some ⟨m, 0, none⟩) 1 c] W (RetFew W [s]) := few16_s W _ c [s] (reads_sx1 h)
set_option maxRecDepth 100000 in
set_option maxHeartbeats 16000000 in
theorem cofifoNobody_true (s : Sx) (w : World) (_ : SxRd w s) (_ : s.small) : Calls Try.prog 3 #[.agg #[.int .i64 s.d, .int .u64 s.now, .slice s.NA s.ns.length s.nc, .slice s.BA s.bd.length s.bc, .int .i64 s.x.k, .int .i64 s.x.n, .int .u64 s.x.i, .int .i64 s.x.hp, .slice s.HA s.x.hs.length s.hc, .slice s.QA s.x.bs.length s.qc, .int .i64 s.x.an, .int .u64 s.x.ai, .int .u64 s.x.sq, .slice s.PA s.x.ps.length s.pc]] w (RetB w true) := by
  go_enter Try.func3, Try.ntmps3
  go_wp2_with (go_at_call 7; (with_reducible refine (few_one _ _ _ s inferInstance).mono ?_); rintro e w1 ⟨b, rfl, hb1, -⟩; haveI : Stp _ w1 := ⟨hb1⟩; clear hb1; cases b)
  · go_wp2_with (go_at_call 8; (with_reducible refine (awake16_t _).mono ?_); rintro e w2 ⟨rfl, hb2⟩; haveI : Stp _ w2 := ⟨hb2⟩; clear hb2)
    go_ret
    exact ⟨rfl, blw⟩
  · go_wp2_with fail
    go_loopw [5] (fun i wr => ∃ k : Nat, k ≤ 2 ∧ i = .int .i64 k ∧ Below w.heap.size w wr ∧ BoxAt wr w.heap.size #[.int .i64 s.d, .int .u64 s.now, .slice s.NA s.ns.length s.nc, .slice s.BA s.bd.length s.bc, .int .i64 s.x.k, .int .i64 s.x.n, .int .u64 s.x.i, .int .i64 s.x.hp, .slice s.HA s.x.hs.length s.hc, .slice s.QA s.x.bs.length s.qc, .int .i64 s.x.an, .int .u64 s.x.ai, .int .u64 s.x.sq, .slice s.PA s.x.ps.length s.pc] 34 ∧ BoxAt wr w1.heap.size #[.int .i64 0, .int .u64 0, .map none, .map none] 42 ∧ BoxAt wr (w1.heap.size + 1) #[.pointer none, .pointer (some ⟨w1.heap.size, 0, none⟩)] 38) (fun i _ => 2 - (intOf i).toNat)
    case atStart => exact ⟨0, by omega, rfl, blw, inferInstance, inferInstance, inferInstance⟩
    case round =>
      obtain ⟨k, hk, rfl, hBw, b1, b2, b3⟩ := hrel
      haveI : Blw w wr := ⟨hBw⟩
      haveI := b1
      haveI := b2
      haveI := b3
      have hz1 := b1.lt
      have hz2 := b2.lt
      have hz3 := b3.lt
      clear hBw b1 b2 b3
      rcases (by omega : k = 0 ∨ k = 1 ∨ k = 2) with rfl | rfl | rfl
      · have HN : Hid (NoE wr (.pointer none)) := hide (.inl rfl)
        have hun : ∀ b : Bool, (some undef = some (Value.bool b)) = False := fun b => by simp [undef]
        go_upto_region 8 with fail
        (refine wp_region_gw (by kernel_rfl) (by kernel_rfl) ?_; (repeat (go_big_quiet_step ((first | (go_at_call 9; with_reducible exact calls_gw (no_reliable _ _ (HN.out.below blw) _ _ _)) | fail)))); refine wpQuiet_nil ?_; intro _ hw'; obtain ⟨⟨dq, osq⟩, hw''⟩ := hw'; subst hw'')
        haveI : LeN wr.heap.size (wr.heap.size + osq.size) := ⟨Nat.le_add_right _ _⟩
        haveI : LeN w.heap.size (wr.heap.size + osq.size) := ⟨Nat.le_of_lt (Nat.lt_of_lt_of_le hz1 (Nat.le_add_right _ _))⟩
        haveI : LtN w.heap.size (wr.heap.size + osq.size) := ⟨Nat.lt_of_lt_of_le hz1 (Nat.le_add_right _ _)⟩
        haveI : LtN w1.heap.size (wr.heap.size + osq.size) := ⟨Nat.lt_of_lt_of_le hz2 (Nat.le_add_right _ _)⟩
        haveI : LtN (w1.heap.size + 1) (wr.heap.size + osq.size) := ⟨Nat.lt_of_lt_of_le hz3 (Nat.le_add_right _ _)⟩
        go_upto_region 9 with fail
        go_region_held3 (fun w' => w'.cell? ⟨w.heap.size, 1, none⟩ = some (.int .u64 s.now) ∧ w'.cell? ⟨w.heap.size, 2, none⟩ = some (.slice s.NA s.ns.length s.nc) ∧ w'.cell? ⟨w.heap.size, 3, none⟩ = some (.slice s.BA s.bd.length s.bc) ∧ w'.cell? ⟨w1.heap.size + 1, 0, none⟩ = some (.pointer none)) ((refine ⟨?_, ?_, ?_, ?_⟩ <;> (rw [cell?_box]; rfl)))
          (first
            | (go_at_call 10; (with_reducible refine (no_send _ _ (HN.out.below blw) _ _ _ _ _ _ _).mono ?_); rintro e w2 ⟨rfl, hb2⟩; haveI : Stp _ w2 := ⟨hb2⟩; clear hb2)
            | fail)
        all_goals
          go_upto_region 10 with fail
          (refine wp_region_gw (by kernel_rfl) (by kernel_rfl) ?_; (repeat (go_big_quiet_step ((first
            | (go_at_call 11; with_reducible exact calls_gw (same16_nil _))
            | (go_at_call 12; with_reducible exact calls_gw (no_take _ _ (HN.out.below blw) _ _ (by exact ⟨_, _, _, _, _, _, _, _, _, _, _, _, _, _, _, _, rfl⟩)))
            | (go_at_call 13; with_reducible exact calls_gw (no_tick _ _ (HN.out.below blw) _))
            | (go_at_call 14; with_reducible exact calls_gw (no_nodes _ _ (HN.out.below blw)))
            | (go_at_call 15; with_reducible exact calls_gw (no_waits _ _ (HN.out.below blw)))
            | fail)))); refine wpQuiet_nil ?_; intro _ hw'; obtain ⟨⟨dq, osq⟩, hw''⟩ := hw'; subst hw'')
          go_wp2_with fail
          go_roundw
          case rel => exact ⟨1, by omega, rfl, blw, inferInstance, inferInstance, inferInstance⟩
          case measure => simp [intOf]
      · have HN : Hid (NoE wr (.pointer (some ⟨w1.heap.size, 0, none⟩))) := hide (.inr ⟨_, rfl, inferInstance⟩)
        have hun : ∀ b : Bool, (some undef = some (Value.bool b)) = False := fun b => by simp [undef]
        go_upto_region 8 with fail
        (refine wp_region_gw (by kernel_rfl) (by kernel_rfl) ?_; (repeat (go_big_quiet_step ((first | (go_at_call 9; with_reducible exact calls_gw (no_reliable _ _ (HN.out.below blw) _ _ _)) | fail)))); refine wpQuiet_nil ?_; intro _ hw'; obtain ⟨⟨dq, osq⟩, hw''⟩ := hw'; subst hw'')
        haveI : LeN wr.heap.size (wr.heap.size + osq.size) := ⟨Nat.le_add_right _ _⟩
        haveI : LeN w.heap.size (wr.heap.size + osq.size) := ⟨Nat.le_of_lt (Nat.lt_of_lt_of_le hz1 (Nat.le_add_right _ _))⟩
        haveI : LtN w.heap.size (wr.heap.size + osq.size) := ⟨Nat.lt_of_lt_of_le hz1 (Nat.le_add_right _ _)⟩
        haveI : LtN w1.heap.size (wr.heap.size + osq.size) := ⟨Nat.lt_of_lt_of_le hz2 (Nat.le_add_right _ _)⟩
        haveI : LtN (w1.heap.size + 1) (wr.heap.size + osq.size) := ⟨Nat.lt_of_lt_of_le hz3 (Nat.le_add_right _ _)⟩
        go_upto_region 9 with fail
        go_region_held3 (fun w' => w'.cell? ⟨w.heap.size, 1, none⟩ = some (.int .u64 s.now) ∧ w'.cell? ⟨w.heap.size, 2, none⟩ = some (.slice s.NA s.ns.length s.nc) ∧ w'.cell? ⟨w.heap.size, 3, none⟩ = some (.slice s.BA s.bd.length s.bc) ∧ w'.cell? ⟨w1.heap.size + 1, 1, none⟩ = some (.pointer (some ⟨w1.heap.size, 0, none⟩))) ((refine ⟨?_, ?_, ?_, ?_⟩ <;> (rw [cell?_box]; rfl)))
          (first
            | (go_at_call 10; (with_reducible refine (no_send _ _ (HN.out.below blw) _ _ _ _ _ _ _).mono ?_); rintro e w2 ⟨rfl, hb2⟩; haveI : Stp _ w2 := ⟨hb2⟩; clear hb2)
            | fail)
        all_goals
          go_upto_region 10 with fail
          (refine wp_region_gw (by kernel_rfl) (by kernel_rfl) ?_; (repeat (go_big_quiet_step ((first
            | (go_at_call 11; with_reducible exact calls_gw (same16_nil _))
            | (go_at_call 12; with_reducible exact calls_gw (no_take _ _ (HN.out.below blw) _ _ (by exact ⟨_, _, _, _, _, _, _, _, _, _, _, _, _, _, _, _, rfl⟩)))
            | (go_at_call 13; with_reducible exact calls_gw (no_tick _ _ (HN.out.below blw) _))
            | (go_at_call 14; with_reducible exact calls_gw (no_nodes _ _ (HN.out.below blw)))
            | (go_at_call 15; with_reducible exact calls_gw (no_waits _ _ (HN.out.below blw)))
            | fail)))); refine wpQuiet_nil ?_; intro _ hw'; obtain ⟨⟨dq, osq⟩, hw''⟩ := hw'; subst hw'')
          go_wp2_with fail
          go_roundw
          case rel => exact ⟨2, by omega, rfl, blw, inferInstance, inferInstance, inferInstance⟩
          case measure => simp [intOf]
      · go_wp2_with (go_at_call 8; (with_reducible refine (awake16_t _).mono ?_); rintro e w2 ⟨rfl, hb2⟩; haveI : Stp _ w2 := ⟨hb2⟩; clear hb2)
        go_ret
        exact ⟨rfl, blw⟩
end Go.Proofs.Ytniogmefbjfoaaa
