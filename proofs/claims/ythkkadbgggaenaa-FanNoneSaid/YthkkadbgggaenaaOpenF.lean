/-
  How heads and ways lie in memory, read from the drawn argument.
-/
import Derived.Test.YthkkadbgggaenaaOpen
import Derived.Test.YthkkadbgggaenaaFan1
namespace Go.Proofs.Ythkkadbgggaenaa
set_option linter.unusedSimpArgs false
set_option linter.unusedVariables false
set_option linter.unusedSectionVars false
open Go.ChangeShapes Go.WideShapes Go.ChangeAt Go.RowKit Go.Deep

theorem Try.fieldsHdF : ∃ f0 f1 f2 f3, Try.prog.underlying 29 = some (.struct #[f0, f1, f2, f3]) ∧ (f0.type = 3 ∧ f0.offset = 0) ∧ (f1.type = 27 ∧ f1.offset = 1) ∧ (f2.type = 27 ∧ f2.offset = 2) ∧ (f3.type = 27 ∧ f3.offset = 3) := ⟨_, _, _, _, Try.underlying29, ⟨rfl, rfl⟩, ⟨rfl, rfl⟩, ⟨rfl, rfl⟩, ⟨rfl, rfl⟩⟩
theorem Try.fieldsWy : ∃ f0 f1 f2, Try.prog.underlying 124 = some (.struct #[f0, f1, f2]) ∧ (f0.type = 3 ∧ f0.offset = 0) ∧ (f1.type = 3 ∧ f1.offset = 1) ∧ (f2.type = 4 ∧ f2.offset = 2) := ⟨_, _, _, Try.underlying124, ⟨rfl, rfl⟩, ⟨rfl, rfl⟩, ⟨rfl, rfl⟩⟩
theorem Try.cellsHdF : Try.prog.cellsOf 29 = 4 := by kernel_rfl
theorem Try.cellsWy : Try.prog.cellsOf 124 = 3 := by kernel_rfl
theorem Try.cellsIF : Try.prog.cellsOf 3 = 1 := by kernel_rfl
theorem Try.cellsUF : Try.prog.cellsOf 27 = 1 := by kernel_rfl
theorem Try.cellsBoF : Try.prog.cellsOf 4 = 1 := by kernel_rfl
section
variable {H : Type} {enc : TypeId × Value → H} {w : World} {base : Nat} {spare : Nat → Bool} {held : Bool}
set_option maxRecDepth 100000 in
theorem trod_headF {fuel : Nat} {cs : List Value} {y : DataW H × List MemPlace} (hl : cs.length = 4) (h : DataW.trod enc Try.prog w base spare held fuel 29 cs = some y) :
    ∃ x : Hd, cs = hc x ∧ True := by
  obtain ⟨f0, f1, f2, f3, hu, ⟨t0, o0⟩, ⟨t1, o1⟩, ⟨t2, o2⟩, ⟨t3, o3⟩⟩ := Try.fieldsHdF
  obtain ⟨xs, n, _, _, _, hxl, hf⟩ := DataW.trod_struct hu h
  have g0 := hf 0 f0 rfl
  have g1 := hf 1 f1 rfl
  have g2 := hf 2 f2 rfl
  have g3 := hf 3 f3 rfl
  rw [t0, o0, Try.cellsIF] at g0
  rw [t1, o1, Try.cellsUF] at g1
  rw [t2, o2, Try.cellsUF] at g2
  rw [t3, o3, Try.cellsUF] at g3
  match cs, hl with
  | [c0, c1, c2, c3], _ =>
    match xs, hxl with
    | [y0, y1, y2, y3], _ =>
      obtain ⟨a, e0, _, _⟩ := DataW.trod_int Try.underlying3 g0
      obtain ⟨b, e1, _, _⟩ := DataW.trod_int Try.underlying27 g1
      obtain ⟨c, e2, _, _⟩ := DataW.trod_int Try.underlying27 g2
      obtain ⟨d, e3, _, _⟩ := DataW.trod_int Try.underlying27 g3
      simp at e0 e1 e2 e3
      exact ⟨⟨a, b, c, d⟩, by rw [e0, e1, e2, e3]; rfl, trivial⟩
set_option maxRecDepth 100000 in
theorem trod_way {fuel : Nat} {cs : List Value} {y : DataW H × List MemPlace} (hl : cs.length = 3) (h : DataW.trod enc Try.prog w base spare held fuel 124 cs = some y) :
    ∃ x : Wy, cs = wc x ∧ (-9223372036854775808 ≤ x.h ∧ x.h ≤ 9223372036854775807) := by
  obtain ⟨f0, f1, f2, hu, ⟨t0, o0⟩, ⟨t1, o1⟩, ⟨t2, o2⟩⟩ := Try.fieldsWy
  obtain ⟨xs, n, _, _, _, hxl, hf⟩ := DataW.trod_struct hu h
  have g0 := hf 0 f0 rfl
  have g1 := hf 1 f1 rfl
  have g2 := hf 2 f2 rfl
  rw [t0, o0, Try.cellsIF] at g0
  rw [t1, o1, Try.cellsIF] at g1
  rw [t2, o2, Try.cellsBoF] at g2
  match cs, hl with
  | [c0, c1, c2], _ =>
    match xs, hxl with
    | [y0, y1, y2], _ =>
      obtain ⟨a, e0, _, _⟩ := DataW.trod_int Try.underlying3 g0
      obtain ⟨b, e1, _, w1⟩ := DataW.trod_int Try.underlying3 g1
      obtain ⟨c, e2, _⟩ := DataW.trod_bool Try.underlying4 g2
      simp at e0 e1 e2
      exact ⟨⟨a, b, c⟩, by rw [e0, e1, e2]; rfl, bounds_i64 w1⟩
set_option maxRecDepth 100000 in
theorem open_headsF {r : Reach} {b0 : Nat} {v : Value} {d : DataW H} {p : List MemPlace} (hv : Value.okWide Try.prog w r b0 22 v) (h : DataW.Trod enc Try.prog w base spare held 22 v d p) :
    ∃ (A : Option Addr) (l : List Hd) (c : Nat), v = .slice A l.length c ∧ Reads w w.heap.size 4 A l.length (hcs l) := by
  obtain ⟨a0, len, cap, rfl⟩ := okWide_slice Try.underlying22 hv
  obtain ⟨fuel, hf⟩ := h
  obtain ⟨A, l, c, hcs', _, _, h3, _⟩ := open_sl hc (fun _ => True) Try.cellsHdF hc_len (by omega) (fun _ _ _ hl h => trod_headF hl h) Try.underlying22 hf
  simp [Value.cells] at hcs'
  obtain ⟨rfl, rfl, rfl⟩ := hcs'
  exact ⟨_, l, _, rfl, h3⟩
set_option maxRecDepth 100000 in
theorem open_waysF {r : Reach} {b0 : Nat} {v : Value} {d : DataW H} {p : List MemPlace} (hv : Value.okWide Try.prog w r b0 23 v) (h : DataW.Trod enc Try.prog w base spare held 23 v d p) :
    ∃ (A : Option Addr) (l : List Wy) (c : Nat), v = .slice A l.length c ∧ Reads w w.heap.size 3 A l.length (wcs l) ∧ ∀ x ∈ l, (-9223372036854775808 ≤ x.h ∧ x.h ≤ 9223372036854775807) := by
  obtain ⟨a0, len, cap, rfl⟩ := okWide_slice Try.underlying23 hv
  obtain ⟨fuel, hf⟩ := h
  obtain ⟨A, l, c, hcs', _, _, h3, h4⟩ := open_sl wc (fun x => -9223372036854775808 ≤ x.h ∧ x.h ≤ 9223372036854775807) Try.cellsWy wc_len (by omega) (fun _ _ _ hl h => trod_way hl h) Try.underlying23 hf
  simp [Value.cells] at hcs'
  obtain ⟨rfl, rfl, rfl⟩ := hcs'
  exact ⟨_, l, _, rfl, h3, h4⟩
end
end Go.Proofs.Ythkkadbgggaenaa
