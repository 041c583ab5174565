/-
  Contract: proc.GetSet.
-/
import Derived.Test.YtggmninbpnolgaaGreatRdr
import Derived.Test.YtggmninbpnolgaaGreatMeet
namespace Go.Proofs.YtggmninbpnolgaaGreat
set_option linter.unusedSimpArgs false
set_option linter.unusedVariables false
set_option linter.unusedSectionVars false
open Go.RowKit

/-- so many lives are read, one behind the other -/
def rRun : Nat → RS → List Pr → List Pr × RS
  | 0, s, acc => (acc, s)
  | k + 1, s, acc => if (rGet s).2.2 = true then ([], (rGet s).2) else rRun k (rGet s).2 (acc ++ [(rGet s).1])
/-- a set of at most so many lives is read -/
def rGetSet (most : Nat) (s : RS) : List Pr × RS :=
  if (rU8 s).2.2 = true ∨ (most : Int) < (rU8 s).1 then ([], ((rU8 s).2.1, true)) else
    let r := rRun (rU8 s).1.toNat (rU8 s).2 []
    if r.2.2 = true then ([], r.2) else if setB r.1 = true then r else ([], (r.2.1, true))
theorem rGetSet_eq (most : Nat) (s : RS) : rGetSet most s = if (rU8 s).2.2 = true ∨ (most : Int) < (rU8 s).1 then ([], ((rU8 s).2.1, true)) else
    (if (rRun (rU8 s).1.toNat (rU8 s).2 []).2.2 = true then ([], (rRun (rU8 s).1.toNat (rU8 s).2 []).2) else if setB (rRun (rU8 s).1.toNat (rU8 s).2 []).1 = true then rRun (rU8 s).1.toNat (rU8 s).2 [] else ([], ((rRun (rU8 s).1.toNat (rU8 s).2 []).2.1, true))) := rfl
theorem rRun_len : ∀ (k : Nat) (s : RS) (acc : List Pr), (rRun k s acc).2.1.length ≤ s.1.length ∧ (rRun k s acc).1.length ≤ acc.length + k := by
  intro k
  induction k with
  | zero => intro s acc; simp [rRun]
  | succ k ih =>
    intro s acc
    have h1 := rGet_len s
    rw [rRun]
    split
    · exact ⟨h1, by simp⟩
    · obtain ⟨h2, h3⟩ := ih (rGet s).2 (acc ++ [(rGet s).1])
      refine ⟨by omega, ?_⟩
      simp at h3 ⊢; omega
theorem rGetSet_len (most : Nat) (s : RS) : (rGetSet most s).2.1.length ≤ s.1.length := by
  have h1 := rU8_len s
  have h2 := (rRun_len (rU8 s).1.toNat (rU8 s).2 []).1
  rw [rGetSet_eq]
  split
  · exact h1
  · split
    · exact Nat.le_trans h2 h1
    · split <;> exact Nat.le_trans h2 h1
/-- lives are read into new memory -/
def RetRP (g B : Nat) (w : World) (l : List Pr) (s : RS) (e : Ending) (w' : World) : Prop := ∃ v, e = .returned v ∧ OwnP w' w.heap.size v l ∧ Rds w' g B s.1 s.2 ∧ w.grownBy w' (some g)
theorem own_nilP (w : World) (base : Nat) : OwnP w base (.slice none 0 0) [] := World.ownsRow_nil _ _ _ _
theorem grown_keep {w w1 w2 : World} {g base : Nat} {v : Value} {n : Nat} {xs : List Value} {e : TypeId} {k : Nat} (h : w.grownBy w1 (some g)) (h2 : w1.grownBy w2 v.ownBlock) (ho : w1.ownsRow base e k v n xs) (hb : w.heap.size ≤ base) (hg : g < base) : w.grownBy w2 (some g) ∧ ∀ i, i < base → i < w1.heap.size → w2.heap[i]? = w1.heap[i]? := by
  have key : ∀ i, i < base → i < w1.heap.size → w2.heap[i]? = w1.heap[i]? := fun i hi hi1 => h2.block i hi1 (fun e => by have := (ho.lt i e.symm).1; omega)
  exact ⟨⟨h2.os.trans h.os, h2.tape.trans h.tape, h2.output.trans h.output, Nat.le_trans h.size h2.size, fun i hi hr => (key i (by omega) (Nat.lt_of_lt_of_le hi h.size)).trans (h.block i hi hr)⟩, key⟩
end Go.Proofs.YtggmninbpnolgaaGreat
