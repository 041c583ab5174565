/-
  How letters lie in memory, read from the drawn argument.
-/
import Derived.Test.YtmleeohaaipdcaaOpenV
import Derived.Test.YtmleeohaaipdcaaLet3
namespace Go.Proofs.Ytmleeohaaipdcaa
set_option linter.unusedSimpArgs false
set_option linter.unusedVariables false
set_option linter.unusedSectionVars false
open Go.ChangeShapes Go.WideShapes Go.ChangeAt Go.RowKit Go.Deep

theorem Try.fieldsLt : ∃ f0 f1 f2 f3 f4 f5 f6 f7, Try.prog.underlying 31 = some (.struct #[f0, f1, f2, f3, f4, f5, f6, f7]) ∧ (f0.type = 3 ∧ f0.offset = 0) ∧ (f1.type = 25 ∧ f1.offset = 1) ∧ (f2.type = 27 ∧ f2.offset = 3) ∧ (f3.type = 23 ∧ f3.offset = 6) ∧ (f4.type = 28 ∧ f4.offset = 7) ∧ (f5.type = 23 ∧ f5.offset = 8) ∧ (f6.type = 29 ∧ f6.offset = 9) ∧ (f7.type = 4 ∧ f7.offset = 10) := ⟨_, _, _, _, _, _, _, _, Try.underlying31, ⟨rfl, rfl⟩, ⟨rfl, rfl⟩, ⟨rfl, rfl⟩, ⟨rfl, rfl⟩, ⟨rfl, rfl⟩, ⟨rfl, rfl⟩, ⟨rfl, rfl⟩, ⟨rfl, rfl⟩⟩
theorem Try.cellsLt : Try.prog.cellsOf 31 = 11 := by kernel_rfl
theorem Try.cellsBsL : Try.prog.cellsOf 28 = 1 := by kernel_rfl
theorem Try.cellsBoL : Try.prog.cellsOf 4 = 1 := by kernel_rfl
/-- what a drawn letter is -/
structure LrRd (w : World) (y : Lr) : Prop where
  b : Reads w w.heap.size 1 y.BA y.x.b.length (bcs y.x.b)
  c : Ul w y.CA y.x.c
  ok : bOK y.x.b
  pi : 0 ≤ y.x.p.2
  si : 0 ≤ y.x.s.2
theorem LrRd.ok' {w : World} {y : Lr} (h : LrRd w y) (h1 : y.x.b.length ≤ 100000) (h2 : y.x.c.length ≤ 100000) : y.x.Ok w y.BA y.CA := ⟨h.b, h.c, h1, h2, h.ok, h.pi, h.si⟩
section
variable {H : Type} {enc : TypeId × Value → H} {w : World} {base : Nat} {spare : Nat → Bool} {held : Bool}
set_option maxRecDepth 100000 in
theorem trod_letter {fuel : Nat} {cs : List Value} {y : DataW H × List MemPlace} (hl : cs.length = 11) (h : DataW.trod enc Try.prog w base spare held fuel 31 cs = some y) :
    ∃ z : Lr, cs = z.cl ∧ LrRd w z := by
  obtain ⟨f0, f1, f2, f3, f4, f5, f6, f7, hu, ⟨t0, o0⟩, ⟨t1, o1⟩, ⟨t2, o2⟩, ⟨t3, o3⟩, ⟨t4, o4⟩, ⟨t5, o5⟩, ⟨t6, o6⟩, ⟨t7, o7⟩⟩ := Try.fieldsLt
  obtain ⟨xs, n, _, _, _, hxl, hf⟩ := DataW.trod_struct hu h
  have g0 := hf 0 f0 rfl
  have g1 := hf 1 f1 rfl
  have g2 := hf 2 f2 rfl
  have g3 := hf 3 f3 rfl
  have g4 := hf 4 f4 rfl
  have g5 := hf 5 f5 rfl
  have g6 := hf 6 f6 rfl
  have g7 := hf 7 f7 rfl
  rw [t0, o0, Try.cellsI] at g0
  rw [t1, o1, Try.cellsP] at g1
  rw [t2, o2, Try.cellsVI] at g2
  rw [t3, o3, Try.cellsU] at g3
  rw [t4, o4, Try.cellsBsL] at g4
  rw [t5, o5, Try.cellsU] at g5
  rw [t6, o6, Try.cellsUs] at g6
  rw [t7, o7, Try.cellsBoL] at g7
  match cs, hl with
  | [c0, c1, c2, c3, c4, c5, c6, c7, c8, c9, c10], _ =>
    match xs, hxl with
    | [y0, y1, y2, y3, y4, y5, y6, y7], _ =>
      obtain ⟨k, e0, _, _⟩ := DataW.trod_int Try.underlying3 g0
      obtain ⟨p, e1, w1⟩ := trod_proc (by simp) g1
      obtain ⟨r, sn, si, e2, _, w2⟩ := trod_viewId (by simp) g2
      obtain ⟨n1, e3, _, _⟩ := DataW.trod_int Try.underlying23 g3
      obtain ⟨BA, bs, bcp, e4, n1', n2', n3, n4⟩ := trod_bytes g4
      obtain ⟨cid, e5, _, _⟩ := DataW.trod_int Try.underlying23 g5
      obtain ⟨CA, cs', ccp, e6, u1, u2, u3, u4⟩ := trod_us g6
      obtain ⟨wt, e7, _⟩ := DataW.trod_bool Try.underlying4 g7
      simp [pc] at e0 e1 e2 e3 e4 e5 e6 e7
      rw [flat_map1] at n3 u3
      exact ⟨⟨⟨k, p, r, (sn, si), n1, bs, cid, cs', wt⟩, BA, bcp, CA, ccp⟩, by rw [e0, e1.1, e1.2, e2.1, e2.2.1, e2.2.2, e3, e4, e5, e6, e7]; rfl, ⟨n3, u3, n4, w1.2.2.1, w2.2.2.1⟩⟩
theorem trod_letters {fuel : Nat} {cs : List Value} {x : DataW H × List MemPlace} (h : DataW.trod enc Try.prog w base spare held fuel 22 cs = some x) :
    ∃ (A : Option Addr) (l : List Lr) (c : Nat), cs = [.slice A l.length c] ∧ l.length ≤ c ∧ c ≤ maxLen ∧ Reads w w.heap.size 11 A l.length (lcs l) ∧ ∀ y ∈ l, LrRd w y :=
  open_sl Lr.cl (LrRd w) Try.cellsLt lc_len (by omega) (fun _ _ _ hl h => trod_letter hl h) Try.underlying22 h
set_option maxRecDepth 100000 in
theorem open_letter {r : Reach} {b0 : Nat} {v : Value} {d : DataW H} {p : List MemPlace} (hv : Value.okWide Try.prog w r b0 31 v) (h : DataW.Trod enc Try.prog w base spare held 31 v d p) :
    ∃ y : Lr, v = y.v ∧ LrRd w y := by
  obtain ⟨cs, rfl, hsz⟩ := okWide_struct Try.underlying31 hv
  obtain ⟨l⟩ := cs
  obtain ⟨fuel, hf⟩ := h
  obtain ⟨y, hq, hw⟩ := trod_letter (by simpa [Try.cellsLt, Value.cells] using hsz) hf
  simp [Value.cells] at hq
  exact ⟨y, by rw [hq]; rfl, hw⟩
set_option maxRecDepth 100000 in
theorem open_letters {r : Reach} {b0 : Nat} {v : Value} {d : DataW H} {p : List MemPlace} (hv : Value.okWide Try.prog w r b0 22 v) (h : DataW.Trod enc Try.prog w base spare held 22 v d p) :
    ∃ (A : Option Addr) (l : List Lr) (c : Nat), v = .slice A l.length c ∧ l.length ≤ 9223372036854775807 ∧ Reads w w.heap.size 11 A l.length (lcs l) ∧ ∀ y ∈ l, LrRd w y := by
  obtain ⟨a0, len, cap, rfl⟩ := okWide_slice Try.underlying22 hv
  obtain ⟨fuel, hf⟩ := h
  obtain ⟨A, l, c, hq, m1, m2, h3, h4⟩ := trod_letters hf
  simp [Value.cells] at hq
  obtain ⟨rfl, rfl, rfl⟩ := hq
  unfold maxLen at m2
  exact ⟨_, l, _, rfl, Nat.le_trans m1 m2, h3, h4⟩
end
end Go.Proofs.Ytmleeohaaipdcaa
