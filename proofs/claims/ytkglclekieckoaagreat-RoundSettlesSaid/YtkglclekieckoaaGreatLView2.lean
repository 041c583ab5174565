/-
  Arguments opened: what a life, a list of lives, a list of such lists that came in holds in memory.
-/
import Derived.Test.YtkglclekieckoaaGreatBase
import Derived.ProofKit
import Derived.OpenShut
import Derived.Deep.Slices
import Derived.Deep.Fields
import Derived.ChangeSame
import Derived.ChangeOld
import Derived.Lib.SmallJoins
import Derived.Test.YtkglclekieckoaaGreatView
import Derived.Test.YtkglclekieckoaaGreatLView1
namespace Go.Proofs.YtkglclekieckoaaGreat
set_option linter.unusedSimpArgs false
set_option linter.unusedVariables false
set_option linter.unusedSectionVars false
open Go.ChangeShapes Go.WideShapes Go.ChangeAt Go.RowKit Go.Deep

theorem Tryz.own : ownKnob Tryz.prog.godebug = none := by kernel_rfl
theorem Tryz.laidOut : laidOutB Tryz.prog = true := by kernel_rfl

theorem cell_lt {w : World} {a : Addr} {v : Value} (h : w.cell? a = some v) : a.block < w.heap.size := by
  rcases Nat.lt_or_ge a.block w.heap.size with h' | h'
  · exact h'
  · simp [World.cell?, Array.getElem?_eq_none h'] at h

section
variable {H : Type} {enc : TypeId × Value → H} {P : Program} {w : World} {base : Nat} {spare : Nat → Bool} {held : Bool}
/-- a slice that came in, whatever its elements read as -/
theorem open_sl {α : Type} [Inhabited α] {t e : TypeId} {k : Nat} (E : α → List Value) (R : α → Prop) (hk : P.cellsOf e = k) (hEk : ∀ a, (E a).length = k) (hk0 : 0 < k) (hE : ∀ n cs x, cs.length = k → DataW.trod enc P w base spare held n e cs = some x → ∃ a, cs = E a ∧ R a)
    (ht : P.underlying t = some (.slice e)) {fuel : Nat} {cs : List Value} {x : DataW H × List MemPlace} (h : DataW.trod enc P w base spare held fuel t cs = some x) :
    ∃ (A : Option Addr) (l : List α) (c : Nat), cs = [.slice A l.length c] ∧ l.length ≤ c ∧ c ≤ maxLen ∧ Reads w w.heap.size k A l.length (l.flatMap E) ∧ ∀ a ∈ l, R a := by
  rcases open_slice ht h with ⟨rfl, _⟩ | ⟨a, len, cap, m, n, D, Pl, hcs, hb, hl, hm, hmm, hx, hi⟩
  · exact ⟨none, [], 0, rfl, Nat.le_refl _, by unfold maxLen; omega, Reads.none_, by simp⟩
  · have hlm : len ≤ m := by rw [hmm]; split <;> omega
    rw [hk] at hi
    have hget : ∀ i, ∃ a', i < len → w.cells? base (a.add (i * k)) k = some (E a') ∧ R a' := by
      intro i
      by_cases hil : i < len
      · obtain ⟨cs', h1, h2⟩ := hi i (by omega)
        obtain ⟨_, hlen, _⟩ := World.cells?_some h1
        obtain ⟨a', rfl, h4⟩ := hE n cs' _ hlen h2
        exact ⟨a', fun _ => ⟨h1, h4⟩⟩
      · exact ⟨default, fun h => absurd h hil⟩
    obtain ⟨F, hF⟩ := Classical.axiomOfChoice hget
    have hlen : ((List.range len).map F).length = len := by simp
    have hcell : ∀ i j, i < len → j < k → w.cell? (a.add (i * k + j)) = (E (F i))[j]? := by
      intro i j hil hj
      have h1 := (World.cells?_some (hF i hil).1).2.2 j hj
      rw [Go.Deep.add_add] at h1; exact h1
    refine ⟨some a, (List.range len).map F, cap, by rw [hlen]; exact hcs, by omega, hm, ?_, ?_⟩
    · rw [hlen]
      refine ⟨by rw [flat_length hEk, hlen], fun hpos => ?_⟩
      have h0 : w.cell? (a.add (0 * k + 0)) = some ((E (F 0))[0]'(by rw [hEk]; omega)) := by
        rw [hcell 0 0 hpos hk0]; exact List.getElem?_eq_getElem _
      have hsp : a.spot = none := by have := World.cell?_spot h0; simpa [Addr.add] using this
      have hlt := cell_lt h0
      obtain ⟨b, off, spot⟩ := a
      simp only at hsp; subst hsp
      refine ⟨b, off, rfl, by simpa [Addr.add] using hlt, fun j u hu => ?_⟩
      have hj : j < len * k := by
        have := (List.getElem?_eq_some_iff.1 hu).1
        rw [flat_length hEk, hlen] at this; exact this
      have hq : j / k < len := Nat.div_lt_of_lt_mul (by rw [Nat.mul_comm]; exact hj)
      have hr : j % k < k := Nat.mod_lt _ hk0
      have e1 := hcell (j / k) (j % k) hq hr
      have hdm : j / k * k + j % k = j := by rw [Nat.mul_comm]; exact Nat.div_add_mod j k
      rw [hdm] at e1
      have hg : ((List.range len).map F)[j / k]? = some (F (j / k)) := by simp [hq]
      have e2 := flat_get hEk ((List.range len).map F) (j / k) (j % k) _ hg hr
      rw [hdm, hu] at e2
      rw [← e2] at e1
      rw [← e1]
      unfold Addr.add
      split
      · rename_i h0; subst h0; rfl
      · rfl
    · intro x hx'
      obtain ⟨i, hi', rfl⟩ := List.mem_map.1 hx'
      exact (hF i (List.mem_range.1 hi')).2
end

/-! ### lives -/
theorem Tryz.fieldsP : ∃ f0 f1, Tryz.prog.underlying 25 = some (.struct #[f0, f1]) ∧ f0.type = 3 ∧ f0.offset = 0 ∧ f1.type = 22 ∧ f1.offset = 1 := ⟨_, _, Tryz.underlying25, rfl, rfl, rfl, rfl⟩
theorem Tryz.cellsI : Tryz.prog.cellsOf 3 = 1 := by kernel_rfl
theorem Tryz.cellsU : Tryz.prog.cellsOf 22 = 1 := by kernel_rfl
theorem Tryz.cellsP : Tryz.prog.cellsOf 25 = 2 := by kernel_rfl

section
variable {H : Type} {enc : TypeId × Value → H} {w : World} {base : Nat} {spare : Nat → Bool} {held : Bool}
set_option maxRecDepth 100000 in
theorem trod_proc {fuel : Nat} {cs : List Value} {x : DataW H × List MemPlace} (hl : cs.length = 2) (h : DataW.trod enc Tryz.prog w base spare held fuel 25 cs = some x) : ∃ p, cs = pc p ∧ wfP p := by
  obtain ⟨f0, f1, hu, t0, o0, t1, o1⟩ := Tryz.fieldsP
  obtain ⟨xs, n, _, _, _, hxl, hf⟩ := DataW.trod_struct hu h
  have g0 := hf 0 f0 rfl
  have g1 := hf 1 f1 rfl
  rw [t0, o0, Tryz.cellsI] at g0
  rw [t1, o1, Tryz.cellsU] at g1
  match cs, hl with
  | [c0, c1], _ =>
    match xs, hxl with
    | [y0, y1], _ =>
      obtain ⟨a, e0, _, w0⟩ := DataW.trod_int Tryz.underlying3 g0
      obtain ⟨b, e1, _, w1⟩ := DataW.trod_int Tryz.underlying22 g1
      simp at e0 e1
      obtain ⟨b1, b2⟩ := bounds_i64 w0
      obtain ⟨b3, b4⟩ := bounds_u64 w1
      exact ⟨(a, b), by rw [e0, e1]; rfl, b1, b2, b3, b4⟩
set_option maxRecDepth 100000 in
theorem open_proc {r : Reach} {b0 : Nat} {v : Value} {d : DataW H} {p : List MemPlace} (hv : Value.okWide Tryz.prog w r b0 25 v) (h : DataW.Trod enc Tryz.prog w base spare held 25 v d p) :
    ∃ q : Int × Int, v = .agg #[.int .i64 q.1, .int .u64 q.2] ∧ wfP q := by
  obtain ⟨cs, rfl, hsz⟩ := okWide_struct Tryz.underlying25 hv
  obtain ⟨l⟩ := cs
  obtain ⟨fuel, hf⟩ := h
  obtain ⟨q, hq, hw⟩ := trod_proc (by simpa [Tryz.cellsP, Value.cells] using hsz) hf
  simp [Value.cells] at hq
  exact ⟨q, by rw [hq]; rfl, hw⟩
theorem trod_procs {fuel : Nat} {cs : List Value} {x : DataW H × List MemPlace} (h : DataW.trod enc Tryz.prog w base spare held fuel 27 cs = some x) :
    ∃ (A : Option Addr) (l : List (Int × Int)) (c : Nat), cs = [.slice A l.length c] ∧ l.length ≤ c ∧ c ≤ maxLen ∧ Reads w w.heap.size 2 A l.length (pcs l) ∧ ∀ p ∈ l, wfP p :=
  open_sl pc wfP Tryz.cellsP pc_len (by omega) (fun _ _ _ hl h => trod_proc hl h) Tryz.underlying27 h
set_option maxRecDepth 100000 in
theorem open_procs {r : Reach} {b0 : Nat} {v : Value} {d : DataW H} {p : List MemPlace} (hv : Value.okWide Tryz.prog w r b0 27 v) (h : DataW.Trod enc Tryz.prog w base spare held 27 v d p) :
    ∃ (A : Option Addr) (l : List (Int × Int)) (c : Nat), v = .slice A l.length c ∧ l.length ≤ c ∧ c ≤ maxLen ∧ Reads w w.heap.size 2 A l.length (pcs l) ∧ ∀ p ∈ l, wfP p := by
  obtain ⟨a0, len, cap, rfl⟩ := okWide_slice Tryz.underlying27 hv
  obtain ⟨fuel, hf⟩ := h
  obtain ⟨A, l, c, hcs, h1⟩ := trod_procs hf
  simp [Value.cells] at hcs
  obtain ⟨rfl, rfl, rfl⟩ := hcs
  exact ⟨_, l, _, rfl, h1⟩
end
end Go.Proofs.YtkglclekieckoaaGreat

namespace Go.Proofs.YtkglclekieckoaaGreat
set_option linter.unusedSimpArgs false
set_option linter.unusedVariables false
set_option linter.unusedSectionVars false
open Go.ChangeShapes Go.WideShapes Go.ChangeAt Go.RowKit Go.Deep

/-- a view's numbers are numbers of their kinds -/
structure Vw.Wf (x : Vw) : Prop where
  r : wfU64 x.r
  p : wfP (x.n, x.i)
  ms : ∀ p ∈ x.ms, wfP p
  us : ∀ u ∈ x.us, wfU64 u
  ml : x.ms.length ≤ 9223372036854775807
  ul : x.us.length ≤ 9223372036854775807
theorem Tryz.fieldsV : ∃ f0 f1 f2, Tryz.prog.underlying 36 = some (.struct #[f0, f1, f2]) ∧ (f0.type = 33 ∧ f0.offset = 0) ∧ (f1.type = 27 ∧ f1.offset = 3) ∧ (f2.type = 34 ∧ f2.offset = 4) := ⟨_, _, _, Tryz.underlying36, ⟨rfl, rfl⟩, ⟨rfl, rfl⟩, ⟨rfl, rfl⟩⟩
theorem Tryz.fieldsI : ∃ f0 f1, Tryz.prog.underlying 33 = some (.struct #[f0, f1]) ∧ (f0.type = 22 ∧ f0.offset = 0) ∧ (f1.type = 25 ∧ f1.offset = 1) := ⟨_, _, Tryz.underlying33, ⟨rfl, rfl⟩, ⟨rfl, rfl⟩⟩
theorem Tryz.cellsV : Tryz.prog.cellsOf 36 = 5 := by kernel_rfl
theorem Tryz.cellsVI : Tryz.prog.cellsOf 33 = 3 := by kernel_rfl
theorem Tryz.cellsUs : Tryz.prog.cellsOf 34 = 1 := by kernel_rfl
theorem Tryz.cellsPs' : Tryz.prog.cellsOf 27 = 1 := by kernel_rfl
theorem Tryz.cellsB8 : Tryz.prog.cellsOf 5 = 1 := by kernel_rfl
section
variable {H : Type} {enc : TypeId × Value → H} {w : World} {base : Nat} {spare : Nat → Bool} {held : Bool}
set_option maxRecDepth 100000 in
theorem trod_viewId {fuel : Nat} {cs : List Value} {x : DataW H × List MemPlace} (hl : cs.length = 3) (h : DataW.trod enc Tryz.prog w base spare held fuel 33 cs = some x) : ∃ a b c : Int, cs = [.int .u64 a, .int .i64 b, .int .u64 c] ∧ wfU64 a ∧ wfP (b, c) := by
  obtain ⟨f0, f1, hu, ⟨t0, o0⟩, ⟨t1, o1⟩⟩ := Tryz.fieldsI
  obtain ⟨xs, n, _, _, _, hxl, hf⟩ := DataW.trod_struct hu h
  have g0 := hf 0 f0 rfl
  have g1 := hf 1 f1 rfl
  rw [t0, o0, Tryz.cellsU] at g0
  rw [t1, o1, Tryz.cellsP] at g1
  match cs, hl with
  | [c0, c1, c2], _ =>
    match xs, hxl with
    | [y0, y1], _ =>
      obtain ⟨a0, e0, _, w0⟩ := DataW.trod_int Tryz.underlying22 g0
      obtain ⟨p, e1, w1⟩ := trod_proc (by simp) g1
      simp [pc] at e0 e1
      exact ⟨a0, p.1, p.2, by rw [e0, e1.1, e1.2], bounds_u64 w0, w1⟩
set_option maxRecDepth 100000 in
theorem open_viewId {r : Reach} {b0 : Nat} {v : Value} {d : DataW H} {p : List MemPlace} (hv : Value.okWide Tryz.prog w r b0 33 v) (h : DataW.Trod enc Tryz.prog w base spare held 33 v d p) :
    ∃ a b c : Int, v = .agg #[.int .u64 a, .int .i64 b, .int .u64 c] ∧ wfU64 a ∧ wfP (b, c) := by
  obtain ⟨cs, rfl, hsz⟩ := okWide_struct Tryz.underlying33 hv
  obtain ⟨l⟩ := cs
  obtain ⟨fuel, hf⟩ := h
  obtain ⟨a, b, c, hq, hw⟩ := trod_viewId (by simpa [Tryz.cellsVI, Value.cells] using hsz) hf
  simp [Value.cells] at hq
  exact ⟨a, b, c, by rw [hq], hw⟩
theorem trod_us {fuel : Nat} {cs : List Value} {x : DataW H × List MemPlace} (h : DataW.trod enc Tryz.prog w base spare held fuel 34 cs = some x) :
    ∃ (A : Option Addr) (l : List Int) (c : Nat), cs = [.slice A l.length c] ∧ l.length ≤ c ∧ c ≤ maxLen ∧ Reads w w.heap.size 1 A l.length (l.flatMap fun a => [Value.int .u64 a]) ∧ ∀ p ∈ l, wfU64 p :=
  open_sl (fun a => [Value.int .u64 a]) wfU64 Tryz.cellsU (fun _ => rfl) (by omega) (fun _ cs _ _ h => by
    obtain ⟨a, e, _, w0⟩ := DataW.trod_int Tryz.underlying22 h
    exact ⟨a, e, bounds_u64 w0⟩) Tryz.underlying34 h
theorem flat_map1 (f : Int → Value) (l : List Int) : (l.flatMap fun a => [f a]) = l.map f := by induction l <;> simp_all
set_option maxRecDepth 100000 in
theorem trod_view {fuel : Nat} {cs : List Value} {y : DataW H × List MemPlace} (hl : cs.length = 5) (h : DataW.trod enc Tryz.prog w base spare held fuel 36 cs = some y) :
    ∃ x : Vw, cs = [.int .u64 x.r, .int .i64 x.n, .int .u64 x.i, .slice x.MA x.ms.length x.mc, .slice x.UA x.us.length x.uc] ∧ Sl w x.MA x.ms ∧ Ul w x.UA x.us ∧ x.Wf := by
  obtain ⟨f0, f1, f2, hu, ⟨t0, o0⟩, ⟨t1, o1⟩, ⟨t2, o2⟩⟩ := Tryz.fieldsV
  obtain ⟨xs, n, _, _, _, hxl, hf⟩ := DataW.trod_struct hu h
  have g0 := hf 0 f0 rfl
  have g1 := hf 1 f1 rfl
  have g2 := hf 2 f2 rfl
  rw [t0, o0, Tryz.cellsVI] at g0
  rw [t1, o1, Tryz.cellsPs'] at g1
  rw [t2, o2, Tryz.cellsUs] at g2
  match cs, hl with
  | [c0, c1, c2, c3, c4], _ =>
    match xs, hxl with
    | [y0, y1, y2], _ =>
      obtain ⟨a, b, c, e0, ha, hp⟩ := trod_viewId (by simp) g0
      obtain ⟨MA, l1, mc, e1, m1, m2, m3, m4⟩ := trod_procs g1
      obtain ⟨UA, l2, uc, e2, u1, u2, u3, u4⟩ := trod_us g2
      simp at e0 e1 e2
      rw [flat_map1] at u3
      unfold maxLen at m2 u2
      exact ⟨⟨a, b, c, MA, mc, l1, UA, uc, l2⟩, by rw [e0.1, e0.2.1, e0.2.2, e1, e2], m3, u3, ⟨ha, hp, m4, u4, Nat.le_trans m1 m2, Nat.le_trans u1 u2⟩⟩
set_option maxRecDepth 100000 in
theorem open_view {r : Reach} {b0 : Nat} {v : Value} {d : DataW H} {p : List MemPlace} (hv : Value.okWide Tryz.prog w r b0 36 v) (h : DataW.Trod enc Tryz.prog w base spare held 36 v d p) :
    ∃ x : Vw, v = x.v ∧ Sl w x.MA x.ms ∧ Ul w x.UA x.us ∧ x.Wf := by
  obtain ⟨cs, rfl, hsz⟩ := okWide_struct Tryz.underlying36 hv
  obtain ⟨l⟩ := cs
  obtain ⟨fuel, hf⟩ := h
  obtain ⟨x, hq, hw⟩ := trod_view (by simpa [Tryz.cellsV, Value.cells] using hsz) hf
  simp [Value.cells] at hq
  exact ⟨x, by rw [hq]; rfl, hw⟩
end
end Go.Proofs.YtkglclekieckoaaGreat

namespace Go.Proofs.YtkglclekieckoaaGreat
set_option linter.unusedSimpArgs false
set_option linter.unusedVariables false
set_option linter.unusedSectionVars false
open Go.RowKit

theorem first_u (n i : Int) (w : World) : Calls Tryz.prog 97 #[.agg #[.int .i64 n, .int .u64 i]] w fun e w' => ∃ MA mc UA uc, e = .returned (.agg #[.int .u64 0, .int .i64 n, .int .u64 i, .slice MA 1 mc, .slice UA 1 uc]) ∧ Vw.Ok w' ⟨0, n, i, MA, mc, [(n, i)], UA, uc, [0]⟩ ∧ Below w.heap.size w w' := first_s n i w
/-- is a view longer than is gone through? -/
def hvV (x : Vw) : Bool := decide (300 < (x.ms.length : Int)) || decide (300 < (x.us.length : Int))
theorem start_first (n i : Int) : startV [(n, i)] [0] (n, i) = .tuple #[.int .u64 0, .bool true] := by simp [startV]
theorem mayB_first (n i : Int) (MA UA : Option Addr) (mc uc : Nat) : Vw.mayB ⟨0, n, i, MA, mc, [(n, i)], UA, uc, [0]⟩ = mayIdB 0 n i := by
  unfold Vw.mayB
  simp [Vw.eqB]
theorem Vw.ok_of {w : World} {x : Vw} (hm : Sl w x.MA x.ms) (hu : Ul w x.UA x.us) (h : hvV x = false) : x.Ok w := by
  unfold hvV at h
  simp at h
  exact ⟨hm, hu, by omega, by omega⟩
end Go.Proofs.YtkglclekieckoaaGreat
