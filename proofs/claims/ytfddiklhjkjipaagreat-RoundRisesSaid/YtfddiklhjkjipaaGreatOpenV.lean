/-
  Arguments opened: names of views, views, bytes.
-/
import Derived.Test.YtfddiklhjkjipaaGreatOpen
import Derived.Test.YtfddiklhjkjipaaGreatView
namespace Go.Proofs.YtfddiklhjkjipaaGreat
set_option linter.unusedSimpArgs false
set_option linter.unusedVariables false
set_option linter.unusedSectionVars false
open Go.ChangeShapes Go.WideShapes Go.ChangeAt Go.RowKit Go.Deep

/-- a view's numbers are numbers of their kinds -/
structure Vw.Wf (x : Vw) : Prop where
  r : wfU64 x.r
  p : wfP (x.n, x.i)
  ms : ∀ p ∈ x.ms, wfP p
  us : ∀ u ∈ x.us, wfU64 u
  ml : x.ms.length ≤ 9223372036854775807
  ul : x.us.length ≤ 9223372036854775807
theorem Tryz.fieldsV : ∃ f0 f1 f2, Tryz.prog.underlying 36 = some (.struct #[f0, f1, f2]) ∧ (f0.type = 33 ∧ f0.offset = 0) ∧ (f1.type = 27 ∧ f1.offset = 3) ∧ (f2.type = 34 ∧ f2.offset = 4) := ⟨_, _, _, Tryz.underlying36, ⟨rfl, rfl⟩, ⟨rfl, rfl⟩, ⟨rfl, rfl⟩⟩
theorem Tryz.fieldsI : ∃ f0 f1, Tryz.prog.underlying 33 = some (.struct #[f0, f1]) ∧ (f0.type = 22 ∧ f0.offset = 0) ∧ (f1.type = 25 ∧ f1.offset = 1) := ⟨_, _, Tryz.underlying33, ⟨rfl, rfl⟩, ⟨rfl, rfl⟩⟩
theorem Tryz.cellsV : Tryz.prog.cellsOf 36 = 5 := by kernel_rfl
theorem Tryz.cellsVI : Tryz.prog.cellsOf 33 = 3 := by kernel_rfl
theorem Tryz.cellsUs : Tryz.prog.cellsOf 34 = 1 := by kernel_rfl
theorem Tryz.cellsPs' : Tryz.prog.cellsOf 27 = 1 := by kernel_rfl
theorem Tryz.cellsB8 : Tryz.prog.cellsOf 5 = 1 := by kernel_rfl
section
variable {H : Type} {enc : TypeId × Value → H} {w : World} {base : Nat} {spare : Nat → Bool} {held : Bool}
set_option maxRecDepth 100000 in
theorem trod_viewId {fuel : Nat} {cs : List Value} {x : DataW H × List MemPlace} (hl : cs.length = 3) (h : DataW.trod enc Tryz.prog w base spare held fuel 33 cs = some x) : ∃ a b c : Int, cs = [.int .u64 a, .int .i64 b, .int .u64 c] ∧ wfU64 a ∧ wfP (b, c) := by
  obtain ⟨f0, f1, hu, ⟨t0, o0⟩, ⟨t1, o1⟩⟩ := Tryz.fieldsI
  obtain ⟨xs, n, _, _, _, hxl, hf⟩ := DataW.trod_struct hu h
  have g0 := hf 0 f0 rfl
  have g1 := hf 1 f1 rfl
  rw [t0, o0, Tryz.cellsU] at g0
  rw [t1, o1, Tryz.cellsP] at g1
  match cs, hl with
  | [c0, c1, c2], _ =>
    match xs, hxl with
    | [y0, y1], _ =>
      obtain ⟨a0, e0, _, w0⟩ := DataW.trod_int Tryz.underlying22 g0
      obtain ⟨p, e1, w1⟩ := trod_proc (by simp) g1
      simp [pc] at e0 e1
      exact ⟨a0, p.1, p.2, by rw [e0, e1.1, e1.2], bounds_u64 w0, w1⟩
set_option maxRecDepth 100000 in
theorem open_viewId {r : Reach} {b0 : Nat} {v : Value} {d : DataW H} {p : List MemPlace} (hv : Value.okWide Tryz.prog w r b0 33 v) (h : DataW.Trod enc Tryz.prog w base spare held 33 v d p) :
    ∃ a b c : Int, v = .agg #[.int .u64 a, .int .i64 b, .int .u64 c] ∧ wfU64 a ∧ wfP (b, c) := by
  obtain ⟨cs, rfl, hsz⟩ := okWide_struct Tryz.underlying33 hv
  obtain ⟨l⟩ := cs
  obtain ⟨fuel, hf⟩ := h
  obtain ⟨a, b, c, hq, hw⟩ := trod_viewId (by simpa [Tryz.cellsVI, Value.cells] using hsz) hf
  simp [Value.cells] at hq
  exact ⟨a, b, c, by rw [hq], hw⟩
theorem trod_us {fuel : Nat} {cs : List Value} {x : DataW H × List MemPlace} (h : DataW.trod enc Tryz.prog w base spare held fuel 34 cs = some x) :
    ∃ (A : Option Addr) (l : List Int) (c : Nat), cs = [.slice A l.length c] ∧ l.length ≤ c ∧ c ≤ maxLen ∧ Reads w w.heap.size 1 A l.length (l.flatMap fun a => [Value.int .u64 a]) ∧ ∀ p ∈ l, wfU64 p :=
  open_sl (fun a => [Value.int .u64 a]) wfU64 Tryz.cellsU (fun _ => rfl) (by omega) (fun _ cs _ _ h => by
    obtain ⟨a, e, _, w0⟩ := DataW.trod_int Tryz.underlying22 h
    exact ⟨a, e, bounds_u64 w0⟩) Tryz.underlying34 h
theorem flat_map1 (f : Int → Value) (l : List Int) : (l.flatMap fun a => [f a]) = l.map f := by induction l <;> simp_all
set_option maxRecDepth 100000 in
theorem trod_view {fuel : Nat} {cs : List Value} {y : DataW H × List MemPlace} (hl : cs.length = 5) (h : DataW.trod enc Tryz.prog w base spare held fuel 36 cs = some y) :
    ∃ x : Vw, cs = [.int .u64 x.r, .int .i64 x.n, .int .u64 x.i, .slice x.MA x.ms.length x.mc, .slice x.UA x.us.length x.uc] ∧ Sl w x.MA x.ms ∧ Ul w x.UA x.us ∧ x.Wf := by
  obtain ⟨f0, f1, f2, hu, ⟨t0, o0⟩, ⟨t1, o1⟩, ⟨t2, o2⟩⟩ := Tryz.fieldsV
  obtain ⟨xs, n, _, _, _, hxl, hf⟩ := DataW.trod_struct hu h
  have g0 := hf 0 f0 rfl
  have g1 := hf 1 f1 rfl
  have g2 := hf 2 f2 rfl
  rw [t0, o0, Tryz.cellsVI] at g0
  rw [t1, o1, Tryz.cellsPs'] at g1
  rw [t2, o2, Tryz.cellsUs] at g2
  match cs, hl with
  | [c0, c1, c2, c3, c4], _ =>
    match xs, hxl with
    | [y0, y1, y2], _ =>
      obtain ⟨a, b, c, e0, ha, hp⟩ := trod_viewId (by simp) g0
      obtain ⟨MA, l1, mc, e1, m1, m2, m3, m4⟩ := trod_procs g1
      obtain ⟨UA, l2, uc, e2, u1, u2, u3, u4⟩ := trod_us g2
      simp at e0 e1 e2
      rw [flat_map1] at u3
      unfold maxLen at m2 u2
      exact ⟨⟨a, b, c, MA, mc, l1, UA, uc, l2⟩, by rw [e0.1, e0.2.1, e0.2.2, e1, e2], m3, u3, ⟨ha, hp, m4, u4, Nat.le_trans m1 m2, Nat.le_trans u1 u2⟩⟩
set_option maxRecDepth 100000 in
theorem open_view {r : Reach} {b0 : Nat} {v : Value} {d : DataW H} {p : List MemPlace} (hv : Value.okWide Tryz.prog w r b0 36 v) (h : DataW.Trod enc Tryz.prog w base spare held 36 v d p) :
    ∃ x : Vw, v = x.v ∧ Sl w x.MA x.ms ∧ Ul w x.UA x.us ∧ x.Wf := by
  obtain ⟨cs, rfl, hsz⟩ := okWide_struct Tryz.underlying36 hv
  obtain ⟨l⟩ := cs
  obtain ⟨fuel, hf⟩ := h
  obtain ⟨x, hq, hw⟩ := trod_view (by simpa [Tryz.cellsV, Value.cells] using hsz) hf
  simp [Value.cells] at hq
  exact ⟨x, by rw [hq]; rfl, hw⟩
theorem trod_bytes {fuel : Nat} {cs : List Value} {x : DataW H × List MemPlace} (h : DataW.trod enc Tryz.prog w base spare held fuel 99 cs = some x) :
    ∃ (A : Option Addr) (l : List Int) (c : Nat), cs = [.slice A l.length c] ∧ l.length ≤ c ∧ c ≤ maxLen ∧ Reads w w.heap.size 1 A l.length (l.flatMap fun a => [Value.int .u8 a]) ∧ ∀ p ∈ l, 0 ≤ p ∧ p < 256 :=
  open_sl (fun a => [Value.int .u8 a]) (fun p => 0 ≤ p ∧ p < 256) Tryz.cellsB8 (fun _ => rfl) (by omega) (fun _ cs _ _ h => by
    obtain ⟨a, e, _, w0⟩ := DataW.trod_int Tryz.underlying5 h
    have := bounds_u8 w0
    exact ⟨a, e, by omega⟩) Tryz.underlying99 h
set_option maxRecDepth 100000 in
theorem open_bytes {r : Reach} {b0 : Nat} {v : Value} {d : DataW H} {p : List MemPlace} (hv : Value.okWide Tryz.prog w r b0 99 v) (h : DataW.Trod enc Tryz.prog w base spare held 99 v d p) :
    ∃ (A : Option Addr) (l : List Int) (c : Nat), v = .slice A l.length c ∧ l.length ≤ c ∧ c ≤ maxLen ∧ Reads w w.heap.size 1 A l.length (bcs l) ∧ bOK l := by
  obtain ⟨a0, len, cap, rfl⟩ := okWide_slice Tryz.underlying99 hv
  obtain ⟨fuel, hf⟩ := h
  obtain ⟨A, l, c, hcs, h1, h2, h3, h4⟩ := trod_bytes hf
  simp [Value.cells] at hcs
  obtain ⟨rfl, rfl, rfl⟩ := hcs
  rw [flat_map1] at h3
  exact ⟨_, l, _, rfl, h1, h2, h3, h4⟩
end
end Go.Proofs.YtfddiklhjkjipaaGreat
