/-
  Arguments opened: clients, registries, notices.
-/
import Derived.Test.YtoajcdcdbkjefaaOpen
import Derived.Test.YtoajcdcdbkjefaaCli
namespace Go.Proofs.Ytoajcdcdbkjefaa
set_option linter.unusedSimpArgs false
set_option linter.unusedVariables false
set_option linter.unusedSectionVars false
open Go.ChangeShapes Go.WideShapes Go.ChangeAt Go.RowKit Go.Deep

def wfU (n : Int) : Prop := 0 ≤ n ∧ n ≤ 18446744073709551615
def wfC (c : Cl) : Prop := wfP (c.n, c.i) ∧ wfU c.cid ∧ wfU c.rnd ∧ wfU c.heard
theorem Try.fieldsC : ∃ f0 f1 f2 f3 f4, Try.prog.underlying 42 = some (.struct #[f0, f1, f2, f3, f4]) ∧ (f0.type = 27 ∧ f0.offset = 0) ∧ (f1.type = 25 ∧ f1.offset = 2) ∧ (f2.type = 25 ∧ f2.offset = 3) ∧ (f3.type = 25 ∧ f3.offset = 4) ∧ (f4.type = 4 ∧ f4.offset = 5) := ⟨_, _, _, _, _, Try.underlying42, ⟨rfl, rfl⟩, ⟨rfl, rfl⟩, ⟨rfl, rfl⟩, ⟨rfl, rfl⟩, ⟨rfl, rfl⟩⟩
theorem Try.cellsB : Try.prog.cellsOf 4 = 1 := by kernel_rfl
theorem Try.cellsC : Try.prog.cellsOf 42 = 6 := by kernel_rfl
theorem Try.cellsCs : Try.prog.cellsOf 22 = 1 := by kernel_rfl
theorem Try.cellsR : Try.prog.cellsOf 24 = 1 := by kernel_rfl
theorem Try.fieldsR : ∃ f0, Try.prog.underlying 24 = some (.struct #[f0]) ∧ f0.type = 22 ∧ f0.offset = 0 := ⟨_, Try.underlying24, rfl, rfl⟩
section
variable {H : Type} {enc : TypeId × Value → H} {w : World} {base : Nat} {spare : Nat → Bool} {held : Bool}
set_option maxRecDepth 100000 in
theorem trod_client {fuel : Nat} {cs : List Value} {x : DataW H × List MemPlace} (hl : cs.length = 6) (h : DataW.trod enc Try.prog w base spare held fuel 42 cs = some x) : ∃ c, cs = cc c ∧ wfC c := by
  obtain ⟨f0, f1, f2, f3, f4, hu, ⟨t0, o0⟩, ⟨t1, o1⟩, ⟨t2, o2⟩, ⟨t3, o3⟩, ⟨t4, o4⟩⟩ := Try.fieldsC
  obtain ⟨xs, n, _, _, _, hxl, hf⟩ := DataW.trod_struct hu h
  have g0 := hf 0 f0 rfl
  have g1 := hf 1 f1 rfl
  have g2 := hf 2 f2 rfl
  have g3 := hf 3 f3 rfl
  have g4 := hf 4 f4 rfl
  rw [t0, o0, Try.cellsP] at g0
  rw [t1, o1, Try.cellsU] at g1
  rw [t2, o2, Try.cellsU] at g2
  rw [t3, o3, Try.cellsU] at g3
  rw [t4, o4, Try.cellsB] at g4
  match cs, hl with
  | [c0, c1, c2, c3, c4, c5], _ =>
    match xs, hxl with
    | [y0, y1, y2, y3, y4], _ =>
      obtain ⟨p, e0, w0⟩ := trod_proc (by simp) g0
      obtain ⟨a1, e1, _, w1⟩ := DataW.trod_int Try.underlying25 g1
      obtain ⟨a2, e2, _, w2⟩ := DataW.trod_int Try.underlying25 g2
      obtain ⟨a3, e3, _, w3⟩ := DataW.trod_int Try.underlying25 g3
      obtain ⟨a4, e4, _⟩ := DataW.trod_bool Try.underlying4 g4
      simp [pc] at e0 e1 e2 e3 e4
      exact ⟨⟨p.1, p.2, a1, a2, a3, a4⟩, by rw [e0.1, e0.2, e1, e2, e3, e4]; rfl, w0, bounds_u64 w1, bounds_u64 w2, bounds_u64 w3⟩
theorem trod_clients {fuel : Nat} {cs : List Value} {x : DataW H × List MemPlace} (h : DataW.trod enc Try.prog w base spare held fuel 22 cs = some x) :
    ∃ (A : Option Addr) (l : List Cl) (c : Nat), cs = [.slice A l.length c] ∧ l.length ≤ c ∧ c ≤ maxLen ∧ Cll w A l ∧ ∀ p ∈ l, wfC p :=
  open_sl cc wfC Try.cellsC cc_len (by omega) (fun _ _ _ hl h => trod_client hl h) Try.underlying22 h
set_option maxRecDepth 100000 in
theorem open_registry {r : Reach} {b0 : Nat} {v : Value} {d : DataW H} {p : List MemPlace} (hv : Value.okWide Try.prog w r b0 24 v) (h : DataW.Trod enc Try.prog w base spare held 24 v d p) :
    ∃ (A : Option Addr) (l : List Cl) (c : Nat), v = .agg #[.slice A l.length c] ∧ l.length ≤ c ∧ c ≤ maxLen ∧ Cll w A l ∧ ∀ p ∈ l, wfC p := by
  obtain ⟨cs, rfl, hsz⟩ := okWide_struct Try.underlying24 hv
  obtain ⟨l⟩ := cs
  obtain ⟨fuel, hf⟩ := h
  obtain ⟨f0, hu, t0, o0⟩ := Try.fieldsR
  obtain ⟨xs, n, _, _, _, hxl, hf⟩ := DataW.trod_struct hu hf
  have g0 := hf 0 f0 rfl
  rw [t0, o0, Try.cellsCs] at g0
  have hsz' : l.length = 1 := by simpa [Try.cellsR, Value.cells] using hsz
  match l, hsz' with
  | [c0], _ =>
    match xs, hxl with
    | [y0], _ =>
      obtain ⟨A, l, c, hcs, h1⟩ := trod_clients g0
      simp [Value.cells] at hcs
      exact ⟨A, l, c, by rw [hcs], h1⟩
theorem Try.fieldsN : ∃ f0 f1 f2 f3 f4 f5, Try.prog.underlying 35 = some (.struct #[f0, f1, f2, f3, f4, f5]) ∧ (f0.type = 3 ∧ f0.offset = 0) ∧ (f1.type = 27 ∧ f1.offset = 1) ∧ (f2.type = 25 ∧ f2.offset = 3) ∧ (f3.type = 25 ∧ f3.offset = 4) ∧ (f4.type = 28 ∧ f4.offset = 5) ∧ (f5.type = 33 ∧ f5.offset = 6) := ⟨_, _, _, _, _, _, Try.underlying35, ⟨rfl, rfl⟩, ⟨rfl, rfl⟩, ⟨rfl, rfl⟩, ⟨rfl, rfl⟩, ⟨rfl, rfl⟩, ⟨rfl, rfl⟩⟩
theorem Try.cellsPs : Try.prog.cellsOf 28 = 1 := by kernel_rfl
theorem Try.cellsN : Try.prog.cellsOf 35 = 11 := by kernel_rfl
set_option maxRecDepth 100000 in
theorem trod_notice {fuel : Nat} {cs : List Value} {x : DataW H × List MemPlace} (hl : cs.length = 11) (h : DataW.trod enc Try.prog w base spare held fuel 35 cs = some x) :
    ∃ (k n i r c : Int) (A : Option Addr) (l : List (Int × Int)) (sc : Nat) (v6 v7 v8 v9 v10 : Value), cs = [.int .i64 k, .int .i64 n, .int .u64 i, .int .u64 r, .int .u64 c, .slice A l.length sc, v6, v7, v8, v9, v10] ∧ l.length ≤ sc ∧ sc ≤ maxLen ∧ Reads w w.heap.size 2 A l.length (pcs l) ∧ (wfP (n, i) ∧ wfU r ∧ wfU c ∧ ∀ p ∈ l, wfP p) := by
  obtain ⟨f0, f1, f2, f3, f4, f5, hu, ⟨t0, o0⟩, ⟨t1, o1⟩, ⟨t2, o2⟩, ⟨t3, o3⟩, ⟨t4, o4⟩, ⟨t5, o5⟩⟩ := Try.fieldsN
  obtain ⟨xs, n, _, _, _, hxl, hf⟩ := DataW.trod_struct hu h
  have g0 := hf 0 f0 rfl
  have g1 := hf 1 f1 rfl
  have g2 := hf 2 f2 rfl
  have g3 := hf 3 f3 rfl
  have g4 := hf 4 f4 rfl
  rw [t0, o0, Try.cellsI] at g0
  rw [t1, o1, Try.cellsP] at g1
  rw [t2, o2, Try.cellsU] at g2
  rw [t3, o3, Try.cellsU] at g3
  rw [t4, o4, Try.cellsPs] at g4
  match cs, hl with
  | [c0, c1, c2, c3, c4, c5, c6, c7, c8, c9, c10], _ =>
    match xs, hxl with
    | [y0, y1, y2, y3, y4, y5], _ =>
      obtain ⟨a0, e0, _, _⟩ := DataW.trod_int Try.underlying3 g0
      obtain ⟨p, e1, w1⟩ := trod_proc (by simp) g1
      obtain ⟨a2, e2, _, w2⟩ := DataW.trod_int Try.underlying25 g2
      obtain ⟨a3, e3, _, w3⟩ := DataW.trod_int Try.underlying25 g3
      obtain ⟨A, l, sc, e4, l1, l2, l3, l4⟩ := trod_procs g4
      simp [pc] at e0 e1 e2 e3 e4
      exact ⟨a0, p.1, p.2, a2, a3, A, l, sc, c6, c7, c8, c9, c10, by rw [e0, e1.1, e1.2, e2, e3, e4], l1, l2, l3, w1, bounds_u64 w2, bounds_u64 w3, l4⟩
set_option maxRecDepth 100000 in
theorem open_notice {r : Reach} {b0 : Nat} {v : Value} {d : DataW H} {p : List MemPlace} (hv : Value.okWide Try.prog w r b0 35 v) (h : DataW.Trod enc Try.prog w base spare held 35 v d p) :
    ∃ (k n i r c : Int) (A : Option Addr) (l : List (Int × Int)) (sc : Nat) (v6 v7 v8 v9 v10 : Value), v = .agg #[.int .i64 k, .int .i64 n, .int .u64 i, .int .u64 r, .int .u64 c, .slice A l.length sc, v6, v7, v8, v9, v10] ∧ l.length ≤ sc ∧ sc ≤ maxLen ∧ Reads w w.heap.size 2 A l.length (pcs l) ∧ (wfP (n, i) ∧ wfU r ∧ wfU c ∧ ∀ p ∈ l, wfP p) := by
  obtain ⟨cs, rfl, hsz⟩ := okWide_struct Try.underlying35 hv
  obtain ⟨l⟩ := cs
  obtain ⟨fuel, hf⟩ := h
  obtain ⟨k, n, i, r, c, A, l', sc, v6, v7, v8, v9, v10, hcs, h1⟩ := trod_notice (by simpa [Try.cellsN, Value.cells] using hsz) hf
  simp [Value.cells] at hcs
  exact ⟨k, n, i, r, c, A, l', sc, v6, v7, v8, v9, v10, by rw [hcs], h1⟩
end
end Go.Proofs.Ytoajcdcdbkjefaa
