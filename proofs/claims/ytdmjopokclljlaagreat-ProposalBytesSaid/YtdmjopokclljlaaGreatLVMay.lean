/-
  Layer 4: the law ViewMay: true for every input.
-/
import Derived.Test.YtdmjopokclljlaaGreatCopy4
namespace Go.Proofs.YtdmjopokclljlaaGreat
set_option linter.unusedSimpArgs false
set_option linter.unusedVariables false
set_option linter.unusedSectionVars false
open Go.RowKit

theorem box2 {w : World} {n : Nat} {a b : Value} {t : TypeId} (h : BoxAt w n #[a, b] t) : w.cell? ⟨n, 0, none⟩ = some a ∧ w.cell? ⟨n, 1, none⟩ = some b := by
  refine ⟨?_, ?_⟩ <;> (rw [cell?_box]; rfl)
theorem box525 {w : World} {n m k : Nat} {a b c d e p q a' b' c' d' e' : Value} {t t' t'' : TypeId} (h : BoxAt w n #[a, b, c, d, e] t) (h' : BoxAt w m #[p, q] t') (h'' : BoxAt w k #[a', b', c', d', e'] t'') : w.cell? ⟨n, 0, none⟩ = some a ∧ w.cell? ⟨n, 1, none⟩ = some b ∧ w.cell? ⟨n, 2, none⟩ = some c ∧ w.cell? ⟨n, 3, none⟩ = some d ∧ w.cell? ⟨n, 4, none⟩ = some e ∧ w.cell? ⟨m, 0, none⟩ = some p ∧ w.cell? ⟨m, 1, none⟩ = some q ∧ w.cell? ⟨k, 0, none⟩ = some a' ∧ w.cell? ⟨k, 1, none⟩ = some b' ∧ w.cell? ⟨k, 2, none⟩ = some c' ∧ w.cell? ⟨k, 3, none⟩ = some d' ∧ w.cell? ⟨k, 4, none⟩ = some e' := by
  obtain ⟨h1, h2, h3, h4, h5⟩ := box5 h
  obtain ⟨k1, k2⟩ := box2 h'
  exact ⟨h1, h2, h3, h4, h5, k1, k2, box5 h''⟩
theorem eqB_same (r n i : Int) (A1 A2 B1 B2 : Option Addr) (c1 c2 d1 d2 : Nat) (ms : List Pr) (us : List Int) : Vw.eqB ⟨r, n, i, A1, c1, ms, A2, c2, us⟩ ⟨r, n, i, B1, d1, ms, B2, d2, us⟩ = true := by simp [Vw.eqB]
end Go.Proofs.YtdmjopokclljlaaGreat
