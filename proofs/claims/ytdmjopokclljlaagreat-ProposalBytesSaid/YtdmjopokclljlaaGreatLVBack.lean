/-
  Layer 4: the law ViewBack: true for every input.
-/
import Derived.Test.YtdmjopokclljlaaGreatInv
import Derived.Test.YtdmjopokclljlaaGreatLVMay
namespace Go.Proofs.YtdmjopokclljlaaGreat
set_option linter.unusedSimpArgs false
set_option linter.unusedVariables false
set_option linter.unusedSectionVars false
open Go.RowKit

theorem own_emptyBy (w : World) : OwnB (w.alloc (.cells #[] 5)) w.heap.size (.slice (some ⟨w.heap.size, 0, none⟩) 0 0) [] := World.ownsRow_lit w #[] 0 (Nat.le_refl _) (by unfold maxLen; omega) rfl
/-- bytes are appended to an empty slice -/
theorem app_fresh {W X w1 : World} {v : Value} {n : Nat} {xs : List Value} (hX : Below (W.heap.size + 1) (W.alloc (.cells #[] 5)) X) (hg : X.grownBy w1 (some W.heap.size)) (ho : w1.ownsRow W.heap.size 5 1 v (0 + n) ([] ++ xs)) : Below W.heap.size W w1 ∧ w1.ownsRow W.heap.size 5 1 v n xs := by
  rw [Nat.zero_add, List.nil_append] at ho
  refine ⟨((below_alloc W _).trans (hX.mono (by omega))).trans (grown_to_below hg (Nat.le_refl _) ?_), ho⟩
  have := hX.size; simp at this; omega
theorem own_some {w : World} {base : Nat} {e : TypeId} {k n : Nat} {v : Value} {xs : List Value} (h : w.ownsRow base e k v n xs) (hn : 0 < n) : ∃ g c, v = .slice (some ⟨g, 0, none⟩) n c ∧ n ≤ c ∧ c ≤ maxLen := by
  obtain ⟨A, c, rfl, h1, h2⟩ := own_slice h
  obtain ⟨g, cap, hv, _, _⟩ := h.form hn
  injection hv with e1 e2 e3
  subst e1
  exact ⟨g, c, rfl, h1, h2⟩
theorem viewB_len (r n i : Int) (ms : List Pr) (us : List Int) : (viewB r n i ms us).length ≤ 22 + ms.length * 11 + us.length * 10 := by
  have := vidB_len r n i
  have := procsB_len ms
  have := uintsB_len us
  simp [viewB] at *; omega
theorem eqB_back (x : Vw) (A1 A2 : Option Addr) (c1 c2 : Nat) : Vw.eqB ⟨x.r, x.n, x.i, A1, c1, x.ms, A2, c2, x.us⟩ x = true := by simp [Vw.eqB]
end Go.Proofs.YtdmjopokclljlaaGreat
