/-
  How a notice lies in memory, read from the drawn argument.
-/
import Derived.Test.YtdmjopokclljlaaGreatOpenV
import Derived.Test.YtdmjopokclljlaaGreatNot
namespace Go.Proofs.YtdmjopokclljlaaGreat
set_option linter.unusedSimpArgs false
set_option linter.unusedVariables false
set_option linter.unusedSectionVars false
open Go.ChangeShapes Go.WideShapes Go.ChangeAt Go.RowKit Go.Deep

theorem Tryz.fieldsN : ∃ f0 f1 f2 f3 f4 f5, Tryz.prog.underlying 32 = some (.struct #[f0, f1, f2, f3, f4, f5]) ∧ (f0.type = 3 ∧ f0.offset = 0) ∧ (f1.type = 24 ∧ f1.offset = 1) ∧ (f2.type = 22 ∧ f2.offset = 3) ∧ (f3.type = 22 ∧ f3.offset = 4) ∧ (f4.type = 25 ∧ f4.offset = 5) ∧ (f5.type = 30 ∧ f5.offset = 6) := ⟨_, _, _, _, _, _, Tryz.underlying32, ⟨rfl, rfl⟩, ⟨rfl, rfl⟩, ⟨rfl, rfl⟩, ⟨rfl, rfl⟩, ⟨rfl, rfl⟩, ⟨rfl, rfl⟩⟩
theorem Tryz.cellsNt : Tryz.prog.cellsOf 32 = 11 := by kernel_rfl
theorem Tryz.cellsI1 : Tryz.prog.cellsOf 3 = 1 := by kernel_rfl
section
variable {H : Type} {enc : TypeId × Value → H} {w : World} {base : Nat} {spare : Nat → Bool} {held : Bool}
set_option maxRecDepth 100000 in
theorem trod_notice {fuel : Nat} {cs : List Value} {y : DataW H × List MemPlace} (hl : cs.length = 11) (h : DataW.trod enc Tryz.prog w base spare held fuel 32 cs = some y) :
    ∃ x : Nt, cs = [.int .i64 x.k, .int .i64 x.n, .int .u64 x.i, .int .u64 x.rd, .int .u64 x.cd, .slice x.SA x.st.length x.sc, .int .u64 x.vw.r, .int .i64 x.vw.n, .int .u64 x.vw.i, .slice x.vw.MA x.vw.ms.length x.vw.mc, .slice x.vw.UA x.vw.us.length x.vw.uc] ∧ Sl w x.SA x.st ∧ Sl w x.vw.MA x.vw.ms ∧ Ul w x.vw.UA x.vw.us ∧ x.Wf := by
  obtain ⟨f0, f1, f2, f3, f4, f5, hu, ⟨t0, o0⟩, ⟨t1, o1⟩, ⟨t2, o2⟩, ⟨t3, o3⟩, ⟨t4, o4⟩, ⟨t5, o5⟩⟩ := Tryz.fieldsN
  obtain ⟨xs, n, _, _, _, hxl, hf⟩ := DataW.trod_struct hu h
  have g0 := hf 0 f0 rfl
  have g1 := hf 1 f1 rfl
  have g2 := hf 2 f2 rfl
  have g3 := hf 3 f3 rfl
  have g4 := hf 4 f4 rfl
  have g5 := hf 5 f5 rfl
  rw [t0, o0, Tryz.cellsI1] at g0
  rw [t1, o1, Tryz.cellsP] at g1
  rw [t2, o2, Tryz.cellsU] at g2
  rw [t3, o3, Tryz.cellsU] at g3
  rw [t4, o4, Tryz.cellsPs'] at g4
  rw [t5, o5, Tryz.cellsV] at g5
  match cs, hl with
  | [c0, c1, c2, c3, c4, c5, c6, c7, c8, c9, c10], _ =>
    match xs, hxl with
    | [y0, y1, y2, y3, y4, y5], _ =>
      obtain ⟨k, e0, _, w0⟩ := DataW.trod_int Tryz.underlying3 g0
      obtain ⟨p, e1, w1⟩ := trod_proc (by simp) g1
      obtain ⟨rd, e2, _, w2⟩ := DataW.trod_int Tryz.underlying22 g2
      obtain ⟨cd, e3, _, w3⟩ := DataW.trod_int Tryz.underlying22 g3
      obtain ⟨SA, st, sc, e4, m1, m2, m3, m4⟩ := trod_procs g4
      obtain ⟨vw, e5, q1, q2, q3⟩ := trod_view (by simp) g5
      simp [pc] at e0 e1 e2 e3 e4 e5
      unfold maxLen at m2
      exact ⟨⟨k, p.1, p.2, rd, cd, SA, sc, st, vw⟩, by rw [e0, e1.1, e1.2, e2, e3, e4, e5.1, e5.2.1, e5.2.2.1, e5.2.2.2.1, e5.2.2.2.2], m3, q1, q2, ⟨w1, bounds_u64 w2, bounds_u64 w3, m4, Nat.le_trans m1 m2, q3⟩⟩
set_option maxRecDepth 100000 in
theorem open_notice {r : Reach} {b0 : Nat} {v : Value} {d : DataW H} {p : List MemPlace} (hv : Value.okWide Tryz.prog w r b0 32 v) (h : DataW.Trod enc Tryz.prog w base spare held 32 v d p) :
    ∃ x : Nt, v = x.v ∧ Sl w x.SA x.st ∧ Sl w x.vw.MA x.vw.ms ∧ Ul w x.vw.UA x.vw.us ∧ x.Wf := by
  obtain ⟨cs, rfl, hsz⟩ := okWide_struct Tryz.underlying32 hv
  obtain ⟨l⟩ := cs
  obtain ⟨fuel, hf⟩ := h
  obtain ⟨x, hq, hw⟩ := trod_notice (by simpa [Tryz.cellsNt, Value.cells] using hsz) hf
  simp [Value.cells] at hq
  exact ⟨x, by rw [hq]; rfl, hw⟩
end
end Go.Proofs.YtdmjopokclljlaaGreat
