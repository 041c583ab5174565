/-
  A list of numbers that comes in.
-/
import Derived.Test.YtkglclekieckoaaGreatLOn
import Derived.Test.YtkglclekieckoaaGreatInts
namespace Go.Proofs.YtkglclekieckoaaGreat
set_option linter.unusedSimpArgs false
set_option linter.unusedVariables false
set_option linter.unusedSectionVars false
open Go.ChangeShapes Go.WideShapes Go.ChangeAt Go.RowKit Go.Deep

section
variable {H : Type} {enc : TypeId × Value → H} {w : World} {base : Nat} {spare : Nat → Bool} {held : Bool}
theorem ics_flat (l : List Int) : l.flatMap (fun a => [Value.int .i64 a]) = ics l := by
  unfold ics
  induction l with
  | nil => rfl
  | cons x l ih => rw [List.flatMap_cons, ih]; rfl
set_option maxRecDepth 100000 in
theorem open_ints {r : Reach} {b0 : Nat} {v : Value} {d : DataW H} {p : List MemPlace} (hv : Value.okWide Tryz.prog w r b0 70 v) (h : DataW.Trod enc Tryz.prog w base spare held 70 v d p) :
    ∃ (A : Option Addr) (l : List Int) (c : Nat), v = .slice A l.length c ∧ l.length ≤ 9223372036854775807 ∧ Reads w w.heap.size 1 A l.length (ics l) ∧ ∀ y ∈ l, i64B y := by
  obtain ⟨a0, len, cap, rfl⟩ := okWide_slice Tryz.underlying70 hv
  obtain ⟨fuel, hf⟩ := h
  obtain ⟨A, l, c, hq, m1, m2, h3, h4⟩ := open_sl (fun a => [Value.int .i64 a]) i64B Tryz.cellsI (fun _ => rfl) (by omega) (fun n cs x hl h => by
    match cs, hl with
    | [c0], _ =>
      obtain ⟨a0, e0, _, w0⟩ := DataW.trod_int Tryz.underlying3 h
      exact ⟨a0, by simpa using e0, bounds_i64 w0⟩) Tryz.underlying70 hf
  simp [Value.cells] at hq
  obtain ⟨rfl, rfl, rfl⟩ := hq
  unfold maxLen at m2
  rw [ics_flat] at h3
  exact ⟨_, l, _, rfl, Nat.le_trans m1 m2, h3, h4⟩
end
end Go.Proofs.YtkglclekieckoaaGreat
