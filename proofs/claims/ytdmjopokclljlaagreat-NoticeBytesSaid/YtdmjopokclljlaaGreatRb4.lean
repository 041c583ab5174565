/-
  The reference's writers: contracts: IdBytes, Bytes of layer 4.
-/
import Derived.Test.YtdmjopokclljlaaGreatRb
import Derived.Test.YtdmjopokclljlaaGreatWt
import Derived.Test.YtdmjopokclljlaaGreatCopy4
namespace Go.Proofs.YtdmjopokclljlaaGreat
set_option linter.unusedSimpArgs false
set_option linter.unusedVariables false
set_option linter.unusedSectionVars false
open Go.RowKit

theorem bel_al' {a w : World} (h : Below a.heap.size a w) (o : Obj) : Below a.heap.size a (w.alloc o) := below_step h (below_alloc w o)
theorem bel_drew' {a w : World} (h : Below a.heap.size a w) : Below a.heap.size a w.drew := h.drew
theorem sl_one (W : World) (n i : Int) : Sl (W.alloc (.cells #[.int .i64 n, .int .u64 i] 24)) (some ⟨W.heap.size, 0, none⟩) [(n, i)] := by
  refine ⟨by simp [pcs, pc], fun _ => ⟨_, _, rfl, by simp, fun j u hu => ?_⟩⟩
  rw [Nat.zero_add, World.cell?_alloc_at _ _ _ _ rfl]
  simpa [pcs, pc] using hu
theorem sl_one' (W : World) (m : Nat) (n i : Int) (hm : W.heap.size = m) : Sl (W.alloc (.cells #[.int .i64 n, .int .u64 i] 24)) (some ⟨m, 0, none⟩) [(n, i)] := by subst hm; exact sl_one W n i
set_option maxRecDepth 100000 in
set_option maxHeartbeats 2000000 in
theorem idBytes_s (r n i : Int) (w : World) (hr : wfU64 r) (hi : wfU64 i) : Calls Tryz.prog 78 #[.agg #[.int .u64 r, .int .i64 n, .int .u64 i]] w (RetY w (vidB r n i)) := by
  have TU := hide (fun W => refUint_s r W hr)
  have TB := hide (fun A c W (h : Sl W A [(n, i)]) => refBytes_s A c [(n, i)] W h (by simp) (by intro p hp; simp at hp; rw [hp]; exact hi))
  have hlr := uintB_len r
  have hlp := procsB_len [(n, i)]
  have HV : Hid (vidB r n i = uintB r ++ procsB [(n, i)]) := hide (by simp [vidB, procsB])
  generalize uintB r = ur at TU hlr HV
  generalize procsB [(n, i)] = ps at TB hlp HV
  simp only [List.length_singleton] at TB hlp
  have HK : Hid (∀ w' : World, Below (w.alloc (.cells #[.int .u64 r, .int .i64 n, .int .u64 i] 27)).heap.size (w.alloc (.cells #[.int .u64 r, .int .i64 n, .int .u64 i] 27)) w' → w'.cell? ⟨w.heap.size, 0, none⟩ = some (.int .u64 r) ∧ w'.cell? ⟨w.heap.size, 1, none⟩ = some (.int .i64 n) ∧ w'.cell? ⟨w.heap.size, 2, none⟩ = some (.int .u64 i)) := hide (fun w' h => by
    have k := (boxTop w #[.int .u64 r, .int .i64 n, .int .u64 i] 27).step h
    refine ⟨?_, ?_, ?_⟩ <;> (rw [cell?_box]; rfl))
  go_enter Tryz.func78, Tryz.ntmps78
  go_wp2_with fail
  go_region_held3 (fun w' => w'.cell? ⟨w.heap.size, 0, none⟩ = some (.int .u64 r) ∧ w'.cell? ⟨w.heap.size, 1, none⟩ = some (.int .i64 n) ∧ w'.cell? ⟨w.heap.size, 2, none⟩ = some (.int .u64 i)) (exact HK.out _ (by repeat (first | exact Below.refl _ _ | assumption | refine bel_al' ?_ _ | refine bel_drew' ?_)))
    (first
      | (go_at_call 41; (with_reducible refine (TU.out _).mono ?_); rintro e wU ⟨vU, rfl, hoU, hbU⟩; obtain ⟨AU, cU, rfl, _, _⟩ := own_slice hoU; have HBU := below_step (show Below (w.alloc (.cells #[.int .u64 r, .int .i64 n, .int .u64 i] 27)).heap.size (w.alloc (.cells #[.int .u64 r, .int .i64 n, .int .u64 i] 27)) _ from (by repeat (first | exact Below.refl _ _ | assumption | refine bel_al' ?_ _ | refine bel_drew' ?_))) hbU)
      | (go_at_call 40; (with_reducible refine (TB.out _ _ _ (by first | exact sl_one _ _ _ | exact sl_one' _ _ _ _ (by simp) | exact Sl.step (sl_one' (w.alloc (.cells #[.int .u64 r, .int .i64 n, .int .u64 i] 27)).drew (w.heap.size + 1) n i (by simp)) (by assumption) | exact Sl.step (sl_one' (w.alloc (.cells #[.int .u64 r, .int .i64 n, .int .u64 i] 27)) (w.heap.size + 1) n i (by simp)) (below_step (bel_drew' (Below.refl _ _)) hbU) | exact Sl.step (sl_one _ _ _) (by assumption))).mono ?_); rintro e wB ⟨vB, rfl, hoB, hbB⟩; obtain ⟨AB, cB, rfl, _, _⟩ := own_slice hoB; have HBB := below_step (show Below (w.alloc (.cells #[.int .u64 r, .int .i64 n, .int .u64 i] 27)).heap.size (w.alloc (.cells #[.int .u64 r, .int .i64 n, .int .u64 i] 27)) _ from (by repeat (first | exact Below.refl _ _ | assumption | refine bel_al' ?_ _ | refine bel_drew' ?_))) hbB)
      | (refine step_append_any _ Tryz.okB rfl (.tmp 5) (.tmp 9) rfl _ (.slice AU ur.length cU) ur.length (bcs ur) (by simp [Act.eval, Act.put]) (by first | exact hoU | exact own_below hoU hbB (Nat.le_refl _) | exact own_below (own_below hoU (below_alloc _ _) (Nat.le_refl _)) hbB (Nat.le_refl _)) _ AB ps.length cB (bcs ps) (by simp [Act.eval, Act.put]) (by first | exact Reads.of_own hoB | exact Reads.of_own (own_below hoB hbU (Nat.le_refl _))) (bcs_one _) (by unfold maxLen; omega) (by omega) (by have h1 := hbU.size; have h2 := hbB.size; (try simp at h1 h2 ⊢); omega) ?_; intro v5 w5 ho5 hg5 hn5 ha5; have HB5 := Below.grown (show Below (w.alloc (.cells #[.int .u64 r, .int .i64 n, .int .u64 i] 27)).heap.size (w.alloc (.cells #[.int .u64 r, .int .i64 n, .int .u64 i] 27)) _ from (by repeat (first | exact Below.refl _ _ | assumption | refine bel_al' ?_ _ | refine bel_drew' ?_))) hg5 (by have h1 := hbU.size; have h2 := hbB.size; (try simp at h1 h2 ⊢); omega) (fun k hk => by have h0 := (hoU.lt k hk).1; (try simp at h0 ⊢); omega)))
  all_goals
    have HB6 := hide (below_step (show Below w.heap.size w (w.alloc (.cells #[.int .u64 r, .int .i64 n, .int .u64 i] 27)) from below_alloc _ _) HB5)
    have HO6 := hide (own_base (base' := w.heap.size) ho5 (by have h0 := hbU.size; have h2 := HBU.size; first | omega | (simp at h0 h2 ⊢; done) | (simp at h0 h2 ⊢; omega)))
    clear hoU hbU hoB hbB HBU HBB ho5 hg5 hn5 ha5 HB5
    go_wp2
    go_ret
    exact ⟨_, rfl, by rw [HV.out, OwnB, List.length_append, bcs_app]; exact HO6.out, HB6.out⟩
end Go.Proofs.YtdmjopokclljlaaGreat
