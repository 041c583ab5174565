/-
  Rows of numbers: what an append asks of their type.
-/
import Derived.Test.YtfddiklhjkjipaaGreatView
import Derived.Test.YtfddiklhjkjipaaGreatTc
namespace Go.Proofs.YtfddiklhjkjipaaGreat
set_option linter.unusedSimpArgs false
set_option linter.unusedVariables false
set_option linter.unusedSectionVars false
open Go.RowKit

theorem Tryz.okU : ElemOk Tryz.prog 34 22 1 8 := elemOk_of (.int .u64 0) Tryz.underlying34 (by kernel_rfl) rfl (by omega)
theorem uc_one (l : List Int) : ∀ u ∈ ucs l, u.oneCell' = true := by
  intro u hu
  obtain ⟨p, _, rfl⟩ := List.mem_map.1 hu
  rfl
theorem grown_belowB {B : Nat} {w w' : World} {row : Option Nat} (h : w.grownBy w' row) (hB : B ≤ w.heap.size) (hr : ∀ k, row = some k → B ≤ k) : Below B w w' := (Below.refl _ _).grown h hB hr
instance (priority := low) Kpf.stpB (B0 : Nat) (a X W : World) (B : Nat) [s : StpB B X W] [k : Kpf B0 a X] [l : LeN a.heap.size B] : Kpf B0 a W := ⟨by
  have := k.s; exact Nat.le_trans k.s s.h.size, fun i h1 h2 => (s.h.block i (Nat.lt_of_lt_of_le h2 l.h)).trans (k.h i h1 h2)⟩
theorem own_eB (w : World) (m : Nat) (hm : m = w.heap.size) : (w.alloc (.cells #[] 5)).ownsRow m 5 1 (.slice (some ⟨m, 0, none⟩) 0 0) 0 [] := by subst hm; exact World.ownsRow_lit w #[] 0 (Nat.le_refl _) (by unfold maxLen; omega) rfl
theorem own_eU (w : World) (m : Nat) (hm : m = w.heap.size) : (w.alloc (.cells #[] 22)).ownsRow m 22 1 (.slice (some ⟨m, 0, none⟩) 0 0) 0 [] := by subst hm; exact World.ownsRow_lit w #[] 0 (Nat.le_refl _) (by unfold maxLen; omega) rfl
end Go.Proofs.YtfddiklhjkjipaaGreat
