/-
  Arguments opened: names of views, views, bytes.
-/
import Derived.Test.YtniogmefbjfoaaaGreatOpen
import Derived.Test.YtniogmefbjfoaaaGreatTcL
namespace Go.Proofs.YtniogmefbjfoaaaGreat
set_option linter.unusedSimpArgs false
set_option linter.unusedVariables false
set_option linter.unusedSectionVars false
open Go.ChangeShapes Go.WideShapes Go.ChangeAt Go.RowKit Go.Deep

/-- a view's numbers are numbers of their kinds -/
structure Vw.Wf (x : Vw) : Prop where
  r : wfU64 x.r
  p : wfP (x.n, x.i)
  ms : ∀ p ∈ x.ms, wfP p
  us : ∀ u ∈ x.us, wfU64 u
  ml : x.ms.length ≤ 9223372036854775807
  ul : x.us.length ≤ 9223372036854775807
theorem Tryz.cellsPs' : Tryz.prog.cellsOf 39 = 1 := by kernel_rfl
theorem Tryz.cellsB8 : Tryz.prog.cellsOf 5 = 1 := by kernel_rfl
section
variable {H : Type} {enc : TypeId × Value → H} {w : World} {base : Nat} {spare : Nat → Bool} {held : Bool}
theorem flat_map1 (f : Int → Value) (l : List Int) : (l.flatMap fun a => [f a]) = l.map f := by induction l <;> simp_all
theorem trod_bytes {fuel : Nat} {cs : List Value} {x : DataW H × List MemPlace} (h : DataW.trod enc Tryz.prog w base spare held fuel 37 cs = some x) :
    ∃ (A : Option Addr) (l : List Int) (c : Nat), cs = [.slice A l.length c] ∧ l.length ≤ c ∧ c ≤ maxLen ∧ Reads w w.heap.size 1 A l.length (l.flatMap fun a => [Value.int .u8 a]) ∧ ∀ p ∈ l, 0 ≤ p ∧ p < 256 :=
  open_sl (fun a => [Value.int .u8 a]) (fun p => 0 ≤ p ∧ p < 256) Tryz.cellsB8 (fun _ => rfl) (by omega) (fun _ cs _ _ h => by
    obtain ⟨a, e, _, w0⟩ := DataW.trod_int Tryz.underlying5 h
    have := bounds_u8 w0
    exact ⟨a, e, by omega⟩) Tryz.underlying37 h
set_option maxRecDepth 100000 in
theorem open_bytes {r : Reach} {b0 : Nat} {v : Value} {d : DataW H} {p : List MemPlace} (hv : Value.okWide Tryz.prog w r b0 37 v) (h : DataW.Trod enc Tryz.prog w base spare held 37 v d p) :
    ∃ (A : Option Addr) (l : List Int) (c : Nat), v = .slice A l.length c ∧ l.length ≤ c ∧ c ≤ maxLen ∧ Reads w w.heap.size 1 A l.length (bcs l) ∧ bOK l := by
  obtain ⟨a0, len, cap, rfl⟩ := okWide_slice Tryz.underlying37 hv
  obtain ⟨fuel, hf⟩ := h
  obtain ⟨A, l, c, hcs, h1, h2, h3, h4⟩ := trod_bytes hf
  simp [Value.cells] at hcs
  obtain ⟨rfl, rfl, rfl⟩ := hcs
  rw [flat_map1] at h3
  exact ⟨_, l, _, rfl, h1, h2, h3, h4⟩
end
end Go.Proofs.YtniogmefbjfoaaaGreat
