/-
  Arguments opened: what a life, a list of lives, a list of such lists that came in holds in memory.
-/
import Derived.Test.YtniogmefbjfoaaaGreatBase
import Derived.ProofKit
import Derived.OpenShut
import Derived.Deep.Slices
import Derived.Deep.Fields
import Derived.ChangeSame
import Derived.ChangeOld
import Derived.Lib.SmallJoins
namespace Go.Proofs.YtniogmefbjfoaaaGreat
set_option linter.unusedSimpArgs false
set_option linter.unusedVariables false
set_option linter.unusedSectionVars false
open Go.ChangeShapes Go.WideShapes Go.ChangeAt Go.RowKit Go.Deep

theorem Tryz.own : ownKnob Tryz.prog.godebug = none := by kernel_rfl
theorem Tryz.laidOut : laidOutB Tryz.prog = true := by kernel_rfl

theorem cell_lt {w : World} {a : Addr} {v : Value} (h : w.cell? a = some v) : a.block < w.heap.size := by
  rcases Nat.lt_or_ge a.block w.heap.size with h' | h'
  · exact h'
  · simp [World.cell?, Array.getElem?_eq_none h'] at h

section
variable {H : Type} {enc : TypeId × Value → H} {P : Program} {w : World} {base : Nat} {spare : Nat → Bool} {held : Bool}
/-- a slice that came in, whatever its elements read as -/
theorem open_sl {α : Type} [Inhabited α] {t e : TypeId} {k : Nat} (E : α → List Value) (R : α → Prop) (hk : P.cellsOf e = k) (hEk : ∀ a, (E a).length = k) (hk0 : 0 < k) (hE : ∀ n cs x, cs.length = k → DataW.trod enc P w base spare held n e cs = some x → ∃ a, cs = E a ∧ R a)
    (ht : P.underlying t = some (.slice e)) {fuel : Nat} {cs : List Value} {x : DataW H × List MemPlace} (h : DataW.trod enc P w base spare held fuel t cs = some x) :
    ∃ (A : Option Addr) (l : List α) (c : Nat), cs = [.slice A l.length c] ∧ l.length ≤ c ∧ c ≤ maxLen ∧ Reads w w.heap.size k A l.length (l.flatMap E) ∧ ∀ a ∈ l, R a := by
  rcases open_slice ht h with ⟨rfl, _⟩ | ⟨a, len, cap, m, n, D, Pl, hcs, hb, hl, hm, hmm, hx, hi⟩
  · exact ⟨none, [], 0, rfl, Nat.le_refl _, by unfold maxLen; omega, Reads.none_, by simp⟩
  · have hlm : len ≤ m := by rw [hmm]; split <;> omega
    rw [hk] at hi
    have hget : ∀ i, ∃ a', i < len → w.cells? base (a.add (i * k)) k = some (E a') ∧ R a' := by
      intro i
      by_cases hil : i < len
      · obtain ⟨cs', h1, h2⟩ := hi i (by omega)
        obtain ⟨_, hlen, _⟩ := World.cells?_some h1
        obtain ⟨a', rfl, h4⟩ := hE n cs' _ hlen h2
        exact ⟨a', fun _ => ⟨h1, h4⟩⟩
      · exact ⟨default, fun h => absurd h hil⟩
    obtain ⟨F, hF⟩ := Classical.axiomOfChoice hget
    have hlen : ((List.range len).map F).length = len := by simp
    have hcell : ∀ i j, i < len → j < k → w.cell? (a.add (i * k + j)) = (E (F i))[j]? := by
      intro i j hil hj
      have h1 := (World.cells?_some (hF i hil).1).2.2 j hj
      rw [Go.Deep.add_add] at h1; exact h1
    refine ⟨some a, (List.range len).map F, cap, by rw [hlen]; exact hcs, by omega, hm, ?_, ?_⟩
    · rw [hlen]
      refine ⟨by rw [flat_length hEk, hlen], fun hpos => ?_⟩
      have h0 : w.cell? (a.add (0 * k + 0)) = some ((E (F 0))[0]'(by rw [hEk]; omega)) := by
        rw [hcell 0 0 hpos hk0]; exact List.getElem?_eq_getElem _
      have hsp : a.spot = none := by have := World.cell?_spot h0; simpa [Addr.add] using this
      have hlt := cell_lt h0
      obtain ⟨b, off, spot⟩ := a
      simp only at hsp; subst hsp
      refine ⟨b, off, rfl, by simpa [Addr.add] using hlt, fun j u hu => ?_⟩
      have hj : j < len * k := by
        have := (List.getElem?_eq_some_iff.1 hu).1
        rw [flat_length hEk, hlen] at this; exact this
      have hq : j / k < len := Nat.div_lt_of_lt_mul (by rw [Nat.mul_comm]; exact hj)
      have hr : j % k < k := Nat.mod_lt _ hk0
      have e1 := hcell (j / k) (j % k) hq hr
      have hdm : j / k * k + j % k = j := by rw [Nat.mul_comm]; exact Nat.div_add_mod j k
      rw [hdm] at e1
      have hg : ((List.range len).map F)[j / k]? = some (F (j / k)) := by simp [hq]
      have e2 := flat_get hEk ((List.range len).map F) (j / k) (j % k) _ hg hr
      rw [hdm, hu] at e2
      rw [← e2] at e1
      rw [← e1]
      unfold Addr.add
      split
      · rename_i h0; subst h0; rfl
      · rfl
    · intro x hx'
      obtain ⟨i, hi', rfl⟩ := List.mem_map.1 hx'
      exact (hF i (List.mem_range.1 hi')).2
end

/-! ### lives -/
theorem Tryz.fieldsP : ∃ f0 f1, Tryz.prog.underlying 24 = some (.struct #[f0, f1]) ∧ f0.type = 3 ∧ f0.offset = 0 ∧ f1.type = 22 ∧ f1.offset = 1 := ⟨_, _, Tryz.underlying24, rfl, rfl, rfl, rfl⟩
theorem Tryz.cellsI : Tryz.prog.cellsOf 3 = 1 := by kernel_rfl
theorem Tryz.cellsU : Tryz.prog.cellsOf 22 = 1 := by kernel_rfl
theorem Tryz.cellsP : Tryz.prog.cellsOf 24 = 2 := by kernel_rfl

section
variable {H : Type} {enc : TypeId × Value → H} {w : World} {base : Nat} {spare : Nat → Bool} {held : Bool}
set_option maxRecDepth 100000 in
theorem trod_proc {fuel : Nat} {cs : List Value} {x : DataW H × List MemPlace} (hl : cs.length = 2) (h : DataW.trod enc Tryz.prog w base spare held fuel 24 cs = some x) : ∃ p, cs = pc p ∧ wfP p := by
  obtain ⟨f0, f1, hu, t0, o0, t1, o1⟩ := Tryz.fieldsP
  obtain ⟨xs, n, _, _, _, hxl, hf⟩ := DataW.trod_struct hu h
  have g0 := hf 0 f0 rfl
  have g1 := hf 1 f1 rfl
  rw [t0, o0, Tryz.cellsI] at g0
  rw [t1, o1, Tryz.cellsU] at g1
  match cs, hl with
  | [c0, c1], _ =>
    match xs, hxl with
    | [y0, y1], _ =>
      obtain ⟨a, e0, _, w0⟩ := DataW.trod_int Tryz.underlying3 g0
      obtain ⟨b, e1, _, w1⟩ := DataW.trod_int Tryz.underlying22 g1
      simp at e0 e1
      obtain ⟨b1, b2⟩ := bounds_i64 w0
      obtain ⟨b3, b4⟩ := bounds_u64 w1
      exact ⟨(a, b), by rw [e0, e1]; rfl, b1, b2, b3, b4⟩
set_option maxRecDepth 100000 in
theorem open_proc {r : Reach} {b0 : Nat} {v : Value} {d : DataW H} {p : List MemPlace} (hv : Value.okWide Tryz.prog w r b0 24 v) (h : DataW.Trod enc Tryz.prog w base spare held 24 v d p) :
    ∃ q : Int × Int, v = .agg #[.int .i64 q.1, .int .u64 q.2] ∧ wfP q := by
  obtain ⟨cs, rfl, hsz⟩ := okWide_struct Tryz.underlying24 hv
  obtain ⟨l⟩ := cs
  obtain ⟨fuel, hf⟩ := h
  obtain ⟨q, hq, hw⟩ := trod_proc (by simpa [Tryz.cellsP, Value.cells] using hsz) hf
  simp [Value.cells] at hq
  exact ⟨q, by rw [hq]; rfl, hw⟩
theorem trod_procs {fuel : Nat} {cs : List Value} {x : DataW H × List MemPlace} (h : DataW.trod enc Tryz.prog w base spare held fuel 39 cs = some x) :
    ∃ (A : Option Addr) (l : List (Int × Int)) (c : Nat), cs = [.slice A l.length c] ∧ l.length ≤ c ∧ c ≤ maxLen ∧ Reads w w.heap.size 2 A l.length (pcs l) ∧ ∀ p ∈ l, wfP p :=
  open_sl pc wfP Tryz.cellsP pc_len (by omega) (fun _ _ _ hl h => trod_proc hl h) Tryz.underlying39 h
set_option maxRecDepth 100000 in
theorem open_procs {r : Reach} {b0 : Nat} {v : Value} {d : DataW H} {p : List MemPlace} (hv : Value.okWide Tryz.prog w r b0 39 v) (h : DataW.Trod enc Tryz.prog w base spare held 39 v d p) :
    ∃ (A : Option Addr) (l : List (Int × Int)) (c : Nat), v = .slice A l.length c ∧ l.length ≤ c ∧ c ≤ maxLen ∧ Reads w w.heap.size 2 A l.length (pcs l) ∧ ∀ p ∈ l, wfP p := by
  obtain ⟨a0, len, cap, rfl⟩ := okWide_slice Tryz.underlying39 hv
  obtain ⟨fuel, hf⟩ := h
  obtain ⟨A, l, c, hcs, h1⟩ := trod_procs hf
  simp [Value.cells] at hcs
  obtain ⟨rfl, rfl, rfl⟩ := hcs
  exact ⟨_, l, _, rfl, h1⟩
end
end Go.Proofs.YtniogmefbjfoaaaGreat
