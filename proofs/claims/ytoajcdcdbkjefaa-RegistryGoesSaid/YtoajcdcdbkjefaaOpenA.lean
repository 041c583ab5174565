/-
  Arguments opened: lists of acts (RegistryGoes).
-/
import Derived.Test.YtoajcdcdbkjefaaOpenR
import Derived.Test.YtoajcdcdbkjefaaLGoes
namespace Go.Proofs.Ytoajcdcdbkjefaa
set_option linter.unusedSimpArgs false
set_option linter.unusedVariables false
set_option linter.unusedSectionVars false
open Go.ChangeShapes Go.WideShapes Go.ChangeAt Go.RowKit Go.Deep

theorem Try.fieldsV : ∃ f0 f1 f2, Try.prog.underlying 33 = some (.struct #[f0, f1, f2]) ∧ (f0.type = 30 ∧ f0.offset = 0) ∧ (f1.type = 28 ∧ f1.offset = 3) ∧ (f2.type = 31 ∧ f2.offset = 4) := ⟨_, _, _, Try.underlying33, ⟨rfl, rfl⟩, ⟨rfl, rfl⟩, ⟨rfl, rfl⟩⟩
theorem Try.fieldsI : ∃ f0 f1, Try.prog.underlying 30 = some (.struct #[f0, f1]) ∧ (f0.type = 25 ∧ f0.offset = 0) ∧ (f1.type = 27 ∧ f1.offset = 1) := ⟨_, _, Try.underlying30, ⟨rfl, rfl⟩, ⟨rfl, rfl⟩⟩
theorem Try.cellsV : Try.prog.cellsOf 33 = 5 := by kernel_rfl
theorem Try.cellsVI : Try.prog.cellsOf 30 = 3 := by kernel_rfl
theorem Try.cellsUs : Try.prog.cellsOf 31 = 1 := by kernel_rfl
theorem Try.fieldsA : ∃ f0 f1 f2, Try.prog.underlying 56 = some (.struct #[f0, f1, f2]) ∧ (f0.type = 3 ∧ f0.offset = 0) ∧ (f1.type = 35 ∧ f1.offset = 1) ∧ (f2.type = 25 ∧ f2.offset = 12) := ⟨_, _, _, Try.underlying56, ⟨rfl, rfl⟩, ⟨rfl, rfl⟩, ⟨rfl, rfl⟩⟩
theorem Try.cellsA : Try.prog.cellsOf 56 = 13 := by kernel_rfl
section
variable {H : Type} {enc : TypeId × Value → H} {w : World} {base : Nat} {spare : Nat → Bool} {held : Bool}
set_option maxRecDepth 100000 in
theorem trod_viewId {fuel : Nat} {cs : List Value} {x : DataW H × List MemPlace} (hl : cs.length = 3) (h : DataW.trod enc Try.prog w base spare held fuel 30 cs = some x) : ∃ a b c : Int, cs = [.int .u64 a, .int .i64 b, .int .u64 c] ∧ wfU a ∧ wfP (b, c) := by
  obtain ⟨f0, f1, hu, ⟨t0, o0⟩, ⟨t1, o1⟩⟩ := Try.fieldsI
  obtain ⟨xs, n, _, _, _, hxl, hf⟩ := DataW.trod_struct hu h
  have g0 := hf 0 f0 rfl
  have g1 := hf 1 f1 rfl
  rw [t0, o0, Try.cellsU] at g0
  rw [t1, o1, Try.cellsP] at g1
  match cs, hl with
  | [c0, c1, c2], _ =>
    match xs, hxl with
    | [y0, y1], _ =>
      obtain ⟨a0, e0, _, w0⟩ := DataW.trod_int Try.underlying25 g0
      obtain ⟨p, e1, w1⟩ := trod_proc (by simp) g1
      simp [pc] at e0 e1
      exact ⟨a0, p.1, p.2, by rw [e0, e1.1, e1.2], bounds_u64 w0, w1⟩
theorem trod_us {fuel : Nat} {cs : List Value} {x : DataW H × List MemPlace} (h : DataW.trod enc Try.prog w base spare held fuel 31 cs = some x) :
    ∃ (A : Option Addr) (l : List Int) (c : Nat), cs = [.slice A l.length c] ∧ l.length ≤ c ∧ c ≤ maxLen ∧ Reads w w.heap.size 1 A l.length (l.flatMap fun a => [Value.int .u64 a]) ∧ ∀ p ∈ l, wfU p :=
  open_sl (fun a => [Value.int .u64 a]) wfU Try.cellsU (fun _ => rfl) (by omega) (fun _ cs _ _ h => by
    obtain ⟨a, e, _, w0⟩ := DataW.trod_int Try.underlying25 h
    exact ⟨a, e, bounds_u64 w0⟩) Try.underlying31 h
set_option maxRecDepth 100000 in
theorem trod_view {fuel : Nat} {cs : List Value} {x : DataW H × List MemPlace} (hl : cs.length = 5) (h : DataW.trod enc Try.prog w base spare held fuel 33 cs = some x) : ∃ (a b c : Int) (MA : Option Addr) (ml mc : Nat) (UA : Option Addr) (ul uc : Nat), cs = [.int .u64 a, .int .i64 b, .int .u64 c, .slice MA ml mc, .slice UA ul uc] := by
  obtain ⟨f0, f1, f2, hu, ⟨t0, o0⟩, ⟨t1, o1⟩, ⟨t2, o2⟩⟩ := Try.fieldsV
  obtain ⟨xs, n, _, _, _, hxl, hf⟩ := DataW.trod_struct hu h
  have g0 := hf 0 f0 rfl
  have g1 := hf 1 f1 rfl
  have g2 := hf 2 f2 rfl
  rw [t0, o0, Try.cellsVI] at g0
  rw [t1, o1, Try.cellsPs] at g1
  rw [t2, o2, Try.cellsUs] at g2
  match cs, hl with
  | [c0, c1, c2, c3, c4], _ =>
    match xs, hxl with
    | [y0, y1, y2], _ =>
      obtain ⟨a, b, c, e0, _⟩ := trod_viewId (by simp) g0
      obtain ⟨MA, l1, mc, e1, _⟩ := trod_procs g1
      obtain ⟨UA, l2, uc, e2, _⟩ := trod_us g2
      simp at e0 e1 e2
      exact ⟨a, b, c, MA, l1.length, mc, UA, l2.length, uc, by rw [e0.1, e0.2.1, e0.2.2, e1, e2]⟩
set_option maxRecDepth 100000 in
theorem trod_notice2 {fuel : Nat} {cs : List Value} {x : DataW H × List MemPlace} (hl : cs.length = 11) (h : DataW.trod enc Try.prog w base spare held fuel 35 cs = some x) :
    ∃ (k n i r c : Int) (A : Option Addr) (l : List (Int × Int)) (sc : Nat) (vr vn vi : Int) (MA : Option Addr) (ml mc : Nat) (UA : Option Addr) (ul uc : Nat), cs = [.int .i64 k, .int .i64 n, .int .u64 i, .int .u64 r, .int .u64 c, .slice A l.length sc, .int .u64 vr, .int .i64 vn, .int .u64 vi, .slice MA ml mc, .slice UA ul uc] ∧ l.length ≤ sc ∧ sc ≤ maxLen ∧ Reads w w.heap.size 2 A l.length (pcs l) ∧ (wfP (n, i) ∧ wfU r ∧ wfU c ∧ ∀ p ∈ l, wfP p) := by
  have h' := h
  obtain ⟨f0, f1, f2, f3, f4, f5, hu, _, _, _, _, _, ⟨t5, o5⟩⟩ := Try.fieldsN
  obtain ⟨xs, n, _, _, _, hxl, hf⟩ := DataW.trod_struct hu h
  have g5 := hf 5 f5 rfl
  rw [t5, o5, Try.cellsV] at g5
  obtain ⟨k, n', i, r, c, A, l, sc, v6, v7, v8, v9, v10, rfl, h1⟩ := trod_notice hl h'
  match xs, hxl with
  | [y0, y1, y2, y3, y4, y5], _ =>
    obtain ⟨vr, vn, vi, MA, ml, mc, UA, ul, uc, e⟩ := trod_view (by simp) g5
    simp at e
    obtain ⟨rfl, rfl, rfl, rfl, rfl⟩ := e
    exact ⟨k, n', i, r, c, A, l, sc, vr, vn, vi, MA, ml, mc, UA, ul, uc, rfl, h1⟩
set_option maxRecDepth 100000 in
theorem trod_act {fuel : Nat} {cs : List Value} {x : DataW H × List MemPlace} (hl : cs.length = 13) (h : DataW.trod enc Try.prog w base spare held fuel 56 cs = some x) : ∃ a : Ac, cs = ac a ∧ wfA w a := by
  obtain ⟨f0, f1, f2, hu, ⟨t0, o0⟩, ⟨t1, o1⟩, ⟨t2, o2⟩⟩ := Try.fieldsA
  obtain ⟨xs, n, _, _, _, hxl, hf⟩ := DataW.trod_struct hu h
  have g0 := hf 0 f0 rfl
  have g1 := hf 1 f1 rfl
  have g2 := hf 2 f2 rfl
  rw [t0, o0, Try.cellsI] at g0
  rw [t1, o1, Try.cellsN] at g1
  rw [t2, o2, Try.cellsU] at g2
  match cs, hl with
  | [c0, c1, c2, c3, c4, c5, c6, c7, c8, c9, c10, c11, c12], _ =>
    match xs, hxl with
    | [y0, y1, y2], _ =>
      obtain ⟨a0, e0, _, w0⟩ := DataW.trod_int Try.underlying3 g0
      obtain ⟨k, n', i, r, c, A, l, sc, vr, vn, vi, MA, ml, mc, UA, ul, uc, e1, s1, s2, s3, s4, s5, s6, s7⟩ := trod_notice2 (by simp) g1
      obtain ⟨a2, e2, _, w2⟩ := DataW.trod_int Try.underlying25 g2
      simp at e0 e1 e2
      obtain ⟨rfl, rfl, rfl, rfl, rfl, rfl, rfl, rfl, rfl, rfl, rfl⟩ := e1
      subst e0 e2
      obtain ⟨b1, b2⟩ := bounds_i64 w0
      exact ⟨⟨a0, k, n', i, r, c, A, sc, l, vr, vn, vi, MA, ml, mc, UA, ul, uc, a2⟩, rfl, s3, Nat.le_trans s1 (by unfold maxLen at s2; exact s2), s6.1, b1, b2⟩
set_option maxRecDepth 100000 in
theorem open_acts {r : Reach} {b0 : Nat} {v : Value} {d : DataW H} {p : List MemPlace} (hv : Value.okWide Try.prog w r b0 52 v) (h : DataW.Trod enc Try.prog w base spare held 52 v d p) :
    ∃ (A : Option Addr) (l : List Ac) (c : Nat), v = .slice A l.length c ∧ l.length ≤ c ∧ c ≤ maxLen ∧ Reads w w.heap.size 13 A l.length (acs l) ∧ ∀ p ∈ l, wfA w p := by
  obtain ⟨a0, len, cap, rfl⟩ := okWide_slice Try.underlying52 hv
  obtain ⟨fuel, hf⟩ := h
  obtain ⟨A, l, c, hcs, h1⟩ := open_sl ac (wfA w) Try.cellsA ac_len (by omega) (fun _ _ _ hl h => trod_act hl h) Try.underlying52 hf
  simp [Value.cells] at hcs
  obtain ⟨rfl, rfl, rfl⟩ := hcs
  exact ⟨_, l, _, rfl, h1⟩
end
end Go.Proofs.Ytoajcdcdbkjefaa
