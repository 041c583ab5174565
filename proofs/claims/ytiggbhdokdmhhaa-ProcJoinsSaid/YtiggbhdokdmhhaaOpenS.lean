/-
  An argument opened: a list of lists of lives.
-/
import Derived.Test.YtiggbhdokdmhhaaOpen
import Derived.Test.YtiggbhdokdmhhaaLJoin
namespace Go.Proofs.Ytiggbhdokdmhhaa
open Go.ChangeShapes Go.WideShapes Go.ChangeAt Go.RowKit Go.Deep

theorem Try.cellsS : Try.prog.cellsOf 30 = 1 := by kernel_rfl
theorem flat_sv (xs : List Sv) : xs.flatMap (fun x => [x.v]) = svs xs := by
  induction xs with
  | nil => rfl
  | cons x xs ih => rw [List.flatMap_cons, ih]; rfl
section
variable {H : Type} {enc : TypeId × Value → H} {w : World} {base : Nat} {spare : Nat → Bool} {held : Bool}
set_option maxRecDepth 100000 in
theorem open_procss {r : Reach} {b0 : Nat} {v : Value} {d : DataW H} {p : List MemPlace} (hv : Value.okWide Try.prog w r b0 31 v) (h : DataW.Trod enc Try.prog w base spare held 31 v d p) :
    ∃ (A : Option Addr) (l : List Sv) (c : Nat), v = .slice A l.length c ∧ Sls w A l ∧ l.length ≤ 9223372036854775807 := by
  obtain ⟨a0, len, cap, rfl⟩ := okWide_slice Try.underlying31 hv
  obtain ⟨fuel, hf⟩ := h
  obtain ⟨A, l, c, hcs, h1, h2, h3, h4⟩ := open_sl (fun x : Sv => [x.v]) (fun x => x.ok w w.heap.size) Try.cellsS (fun _ => rfl) (by omega) (fun n cs x hl h => by
    obtain ⟨A, l, c, rfl, _, _, hr, _⟩ := trod_procs h
    exact ⟨⟨A, c, l⟩, rfl, hr⟩) Try.underlying31 hf
  simp [Value.cells] at hcs
  obtain ⟨rfl, rfl, rfl⟩ := hcs
  rw [flat_sv] at h3
  exact ⟨_, l, _, rfl, ⟨h3, h4⟩, by unfold maxLen at h2; omega⟩
end
end Go.Proofs.Ytiggbhdokdmhhaa
