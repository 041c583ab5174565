/-
  Contracts: view.GetId, view.Get.
-/
import Derived.Test.YtniogmefbjfoaaaGreatCopy4
namespace Go.Proofs.YtniogmefbjfoaaaGreat
set_option linter.unusedSimpArgs false
set_option linter.unusedVariables false
set_option linter.unusedSectionVars false
open Go.RowKit

/-- a view's name is read -/
def rId (s : RS) : (Int × Int × Int) × RS :=
  if (rGet (rUint s).2).2.2 = true ∨ mayIdB (rUint s).1 (rGet (rUint s).2).1.1 (rGet (rUint s).2).1.2 = false then ((0, 0, 0), ((rGet (rUint s).2).2.1, true)) else (((rUint s).1, (rGet (rUint s).2).1.1, (rGet (rUint s).2).1.2), (rGet (rUint s).2).2)
theorem rId_len (s : RS) : (rId s).2.1.length ≤ s.1.length := by
  have h1 := rUint_len s
  have h2 := rGet_len (rUint s).2
  unfold rId
  split <;> (simp only; omega)
/-- so many numbers are read -/
def rUints : Nat → RS → List Int → List Int × RS
  | 0, s, acc => (acc, s)
  | k + 1, s, acc => rUints k (rUint s).2 (acc ++ [(rUint s).1])
theorem rUints_len : ∀ (k : Nat) (s : RS) (acc : List Int), (rUints k s acc).2.1.length ≤ s.1.length := by
  intro k
  induction k with
  | zero => intro s acc; exact Nat.le_refl _
  | succ k ih => intro s acc; rw [rUints]; exact Nat.le_trans (ih _ _) (rUint_len s)
/-- a view is read: its name, members, starts -/
def rView (s : RS) : ((Int × Int × Int) × List Pr × List Int) × RS :=
  let a := rId s
  let l := rGetSet 6 a.2
  let u := rUints l.1.length l.2 []
  if u.2.2 = true ∨ Vw.mayB ⟨a.1.1, a.1.2.1, a.1.2.2, none, 0, l.1, none, 0, u.1⟩ = false then (((0, 0, 0), [], []), (u.2.1, true)) else ((a.1, l.1, u.1), u.2)
theorem rView_eq (s : RS) : rView s = if (rUints (rGetSet 6 (rId s).2).1.length (rGetSet 6 (rId s).2).2 []).2.2 = true ∨ Vw.mayB ⟨(rId s).1.1, (rId s).1.2.1, (rId s).1.2.2, none, 0, (rGetSet 6 (rId s).2).1, none, 0, (rUints (rGetSet 6 (rId s).2).1.length (rGetSet 6 (rId s).2).2 []).1⟩ = false then (((0, 0, 0), [], []), ((rUints (rGetSet 6 (rId s).2).1.length (rGetSet 6 (rId s).2).2 []).2.1, true)) else (((rId s).1, (rGetSet 6 (rId s).2).1, (rUints (rGetSet 6 (rId s).2).1.length (rGetSet 6 (rId s).2).2 []).1), (rUints (rGetSet 6 (rId s).2).1.length (rGetSet 6 (rId s).2).2 []).2) := rfl
theorem rRun_le (k : Nat) (s : RS) : (rRun k s []).1.length ≤ k := by have := (rRun_len k s []).2; simpa using this
theorem rGetSet_le (most : Nat) (s : RS) (h : bOK s.1) : (rGetSet most s).1.length ≤ 255 := by
  have hr := rU8_range h
  have := rRun_le (rU8 s).1.toNat (rU8 s).2
  rw [rGetSet_eq]
  split
  · simp
  · split
    · simp
    · split
      · omega
      · simp
theorem ucs_app (l m : List Int) : ucs (l ++ m) = ucs l ++ ucs m := List.map_append
structure VN (w : World) (g B n0 nv base bm : Nat) (vm : Value) : Prop where
  e0 : n0 = w.heap.size
  h1 : n0 < nv
  h2 : nv < bm
  h3 : bm ≤ base
  h4 : B ≤ w.heap.size
  h5 : g < B
  h6 : ∀ r, vm.ownBlock = some r → r < base
end Go.Proofs.YtniogmefbjfoaaaGreat
