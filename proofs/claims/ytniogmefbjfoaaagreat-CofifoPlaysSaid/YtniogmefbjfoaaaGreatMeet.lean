/-
  Contracts: slices.BinarySearchFunc and slices.Equal at lives; proc.chosen, Meet, Minus, Same.
-/
import Derived.Test.YtniogmefbjfoaaaGreatRow
namespace Go.Proofs.YtniogmefbjfoaaaGreat
set_option linter.unusedSimpArgs false
set_option linter.unusedVariables false
set_option linter.unusedSectionVars false
open Go.RowKit Go.Sort Go.Lib

/-! ### the binary search, in plain lists -/
def bsInv (o : List Pr) (p : Pr) (i j : Nat) : Prop :=
  i ≤ j ∧ j ≤ o.length ∧ (∀ k, k < i → ∀ x, o[k]? = some x → cmpP x p < 0) ∧ (∀ k, j ≤ k → ∀ x, o[k]? = some x → ¬ cmpP x p < 0)
theorem ss_get {o : List Pr} (h : SS o) {i j : Nat} {x y : Pr} (hij : i < j) (hx : o[i]? = some x) (hy : o[j]? = some y) : ltP x y := by
  obtain ⟨h1, rfl⟩ := List.getElem?_eq_some_iff.1 hx
  obtain ⟨h2, rfl⟩ := List.getElem?_eq_some_iff.1 hy
  exact List.pairwise_iff_getElem.1 h i j h1 h2 hij
theorem bsInv_start (o : List Pr) (p : Pr) : bsInv o p 0 o.length := ⟨Nat.zero_le _, Nat.le_refl _, fun k hk => absurd hk (by omega), fun k hk x hx => by
  have := (List.getElem?_eq_some_iff.1 hx).1; omega⟩
theorem chosen_step {o b : List Pr} {f : Bool} {k : Nat} {p : Pr} (h : o[k]? = some p) : (o.take (k + 1)).filter (fun p => decide (p ∈ b) == f) = (o.take k).filter (fun p => decide (p ∈ b) == f) ++ (if (decide (p ∈ b) == f) = true then [p] else []) := by
  rw [take_succ_of h, List.filter_append]
  by_cases hc : (decide (p ∈ b) == f) = true <;> simp [hc]

end Go.Proofs.YtniogmefbjfoaaaGreat

namespace Go.Proofs.YtniogmefbjfoaaaGreat
set_option linter.unusedSimpArgs false
set_option linter.unusedVariables false
set_option linter.unusedSectionVars false
open Go.RowKit Go.Sort Go.Lib

/-! ### the reference's Sorted: one by one, each put where it belongs -/
theorem before_b (a b c d : Int) (w : World) : Calls Tryz.prog 108 #[.agg #[.int .i64 a, .int .u64 b], .agg #[.int .i64 c, .int .u64 d]] w fun e w' => e = .returned (.bool (befB a b c d)) ∧ Below w.heap.size w w' :=
  (before_any a b c d w).mono fun _ _ ⟨h, h'⟩ => ⟨h, by subst h'; exact below_step (below_alloc _ _) (below_alloc _ _)⟩

end Go.Proofs.YtniogmefbjfoaaaGreat

namespace Go.Proofs.YtniogmefbjfoaaaGreat
set_option linter.unusedSimpArgs false
set_option linter.unusedVariables false
set_option linter.unusedSectionVars false
open Go.RowKit Go.Sort Go.Lib

/-- the slice at A reads as l -/
def Sl (w : World) (A : Option Addr) (l : List Pr) : Prop := Reads w w.heap.size 2 A l.length (pcs l)
theorem Sl.step {w w' : World} {A : Option Addr} {l : List Pr} (h : Sl w A l) (hb : Below w.heap.size w w') : Sl w' A l := (Reads.below h hb).more hb.size
/-- a list of lives is handed back; all that was there is kept -/
def RetS (w : World) (l : List Pr) (e : Ending) (w' : World) : Prop := ∃ A c, e = .returned (.slice A l.length c) ∧ Sl w' A l ∧ Below w.heap.size w w'
theorem retS_own {w w' : World} {base : Nat} {l : List Pr} {v : Value} (h : OwnP w' base v l) (hb : Below w.heap.size w w') : RetS w l (.returned v) w' := by
  obtain ⟨A, c, rfl, _, _⟩ := own_slice h
  exact ⟨A, c, rfl, Reads.of_own h, hb⟩

/-- a bool that is known is handed back -/
def RetB (w : World) (b : Bool) (e : Ending) (w' : World) : Prop := e = .returned (.bool b) ∧ Below w.heap.size w w'
theorem refEqual_t (A A' : Option Addr) (c c' : Nat) (a b : List Pr) (w : World) (h : Sl w A a) (h' : Sl w A' b) (hn : a.length ≤ 1000000) (he : a = b) : Calls Tryz.prog 75 #[.slice A a.length c, .slice A' b.length c'] w (RetB w true) :=
  (refEqual_any A A' c c' a b w h h' hn (by rw [← he]; exact hn)).mono fun _ _ ⟨h1, h2⟩ => ⟨by rw [h1]; simp [he], h2⟩

theorem refEqual_s (A A' : Option Addr) (c c' : Nat) (a b : List Pr) (w : World) (h : Sl w A a) (h' : Sl w A' b) (hn : a.length ≤ 1000000) (hm : b.length ≤ 1000000) : Calls Tryz.prog 75 #[.slice A a.length c, .slice A' b.length c'] w (RetB w (decide (a = b))) :=
  refEqual_any A A' c c' a b w h h' hn hm

theorem kept_step {a b : List Pr} {f : Bool} {k : Nat} {p : Pr} (h : a[k]? = some p) : (a.take (k + 1)).filter (fun p => decide (p ∈ b) == f) = (a.take k).filter (fun p => decide (p ∈ b) == f) ++ (if (decide (p ∈ b) == f) = true then [p] else []) := chosen_step h
end Go.Proofs.YtniogmefbjfoaaaGreat
