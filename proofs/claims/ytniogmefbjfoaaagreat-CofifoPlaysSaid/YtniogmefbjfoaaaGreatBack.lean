/-
  Contract: proc.GetSet.
-/
import Derived.Test.YtniogmefbjfoaaaGreatRdr
import Derived.Test.YtniogmefbjfoaaaGreatMeet
import Derived.Test.YtniogmefbjfoaaaGreatRow
namespace Go.Proofs.YtniogmefbjfoaaaGreat
set_option linter.unusedSimpArgs false
set_option linter.unusedVariables false
set_option linter.unusedSectionVars false
open Go.RowKit

/-- so many lives are read, one behind the other -/
def rRun : Nat → RS → List Pr → List Pr × RS
  | 0, s, acc => (acc, s)
  | k + 1, s, acc => if (rGet s).2.2 = true then ([], (rGet s).2) else rRun k (rGet s).2 (acc ++ [(rGet s).1])
/-- a set of at most so many lives is read -/
def rGetSet (most : Nat) (s : RS) : List Pr × RS :=
  if (rU8 s).2.2 = true ∨ (most : Int) < (rU8 s).1 then ([], ((rU8 s).2.1, true)) else
    let r := rRun (rU8 s).1.toNat (rU8 s).2 []
    if r.2.2 = true then ([], r.2) else if setB r.1 = true then r else ([], (r.2.1, true))
theorem rGetSet_eq (most : Nat) (s : RS) : rGetSet most s = if (rU8 s).2.2 = true ∨ (most : Int) < (rU8 s).1 then ([], ((rU8 s).2.1, true)) else
    (if (rRun (rU8 s).1.toNat (rU8 s).2 []).2.2 = true then ([], (rRun (rU8 s).1.toNat (rU8 s).2 []).2) else if setB (rRun (rU8 s).1.toNat (rU8 s).2 []).1 = true then rRun (rU8 s).1.toNat (rU8 s).2 [] else ([], ((rRun (rU8 s).1.toNat (rU8 s).2 []).2.1, true))) := rfl
theorem rRun_len : ∀ (k : Nat) (s : RS) (acc : List Pr), (rRun k s acc).2.1.length ≤ s.1.length ∧ (rRun k s acc).1.length ≤ acc.length + k := by
  intro k
  induction k with
  | zero => intro s acc; simp [rRun]
  | succ k ih =>
    intro s acc
    have h1 := rGet_len s
    rw [rRun]
    split
    · exact ⟨h1, by simp⟩
    · obtain ⟨h2, h3⟩ := ih (rGet s).2 (acc ++ [(rGet s).1])
      refine ⟨by omega, ?_⟩
      simp at h3 ⊢; omega
theorem rGetSet_len (most : Nat) (s : RS) : (rGetSet most s).2.1.length ≤ s.1.length := by
  have h1 := rU8_len s
  have h2 := (rRun_len (rU8 s).1.toNat (rU8 s).2 []).1
  rw [rGetSet_eq]
  split
  · exact h1
  · split
    · exact Nat.le_trans h2 h1
    · split <;> exact Nat.le_trans h2 h1
theorem own_nilP (w : World) (base : Nat) : OwnP w base (.slice none 0 0) [] := World.ownsRow_nil _ _ _ _
theorem grown_keep {w w1 w2 : World} {g base : Nat} {v : Value} {n : Nat} {xs : List Value} {e : TypeId} {k : Nat} (h : w.grownBy w1 (some g)) (h2 : w1.grownBy w2 v.ownBlock) (ho : w1.ownsRow base e k v n xs) (hb : w.heap.size ≤ base) (hg : g < base) : w.grownBy w2 (some g) ∧ ∀ i, i < base → i < w1.heap.size → w2.heap[i]? = w1.heap[i]? := by
  have key : ∀ i, i < base → i < w1.heap.size → w2.heap[i]? = w1.heap[i]? := fun i hi hi1 => h2.block i hi1 (fun e => by have := (ho.lt i e.symm).1; omega)
  exact ⟨⟨h2.os.trans h.os, h2.tape.trans h.tape, h2.output.trans h.output, Nat.le_trans h.size h2.size, fun i hi hr => (key i (by omega) (Nat.lt_of_lt_of_le hi h.size)).trans (h.block i hi hr)⟩, key⟩
end Go.Proofs.YtniogmefbjfoaaaGreat

namespace Go.Proofs.YtniogmefbjfoaaaGreat
set_option linter.unusedSimpArgs false
set_option linter.unusedVariables false
set_option linter.unusedSectionVars false
open Go.RowKit

theorem rU8_cons (b : Int) (bs : List Int) : rU8 (b :: bs, false) = (b, (bs, false)) := rfl
theorem rUint_back (x : Int) (rest : List Int) (h0 : 0 ≤ x) (h1 : x ≤ 18446744073709551615) : rUint (uintB x ++ rest, false) = (x, (rest, false)) := by
  have e : numV (uintB x ++ rest) false = (x, (uintB x).length) := numGo_uintB x rest h0 h1
  have := uintB_pos x
  unfold rUint
  simp only [e]
  rw [if_neg (by omega), List.drop_left]
theorem mayB_iff (n i : Int) : mayB n i = true ↔ 1 ≤ n ∧ n ≤ 10 ∧ 0 < i := by simp [mayB]
theorem rGet_back (p : Pr) (rest : List Int) (hm : mayB p.1 p.2 = true) (h1 : p.2 ≤ 18446744073709551615) : rGet (procB p ++ rest, false) = (p, (rest, false)) := by
  obtain ⟨m1, m2, m3⟩ := (mayB_iff _ _).1 hm
  have e : p.1 % 256 = p.1 := by omega
  have e1 : rU8 (procB p ++ rest, false) = (p.1, (uintB p.2 ++ rest, false)) := by rw [procB, List.cons_append, rU8_cons, e]
  unfold rGet
  rw [e1]
  simp only
  rw [rUint_back p.2 rest (by omega) h1]
  simp [hm]
theorem rRun_back : ∀ (l acc : List Pr) (rest : List Int), (∀ p ∈ l, mayB p.1 p.2 = true ∧ p.2 ≤ 18446744073709551615) → rRun l.length (procsB l ++ rest, false) acc = (acc ++ l, (rest, false)) := by
  intro l
  induction l with
  | nil => intro acc rest _; simp [rRun, procsB]
  | cons p l ih =>
    intro acc rest h
    have hp := h p (by simp)
    have e : procsB (p :: l) ++ rest = procB p ++ (procsB l ++ rest) := by simp [procsB]
    rw [List.length_cons, rRun, e, rGet_back p _ hp.1 hp.2]
    simp only [Bool.false_eq_true, if_false]
    rw [ih _ rest (fun q hq => h q (by simp [hq]))]
    simp
/-- a set that was written is read -/
theorem rGetSet_back (l : List Pr) (rest : List Int) (most : Nat) (hl : l.length < 256) (hle : l.length ≤ most) (hs : setB l = true) (hm : ∀ p ∈ l, mayB p.1 p.2 = true ∧ p.2 ≤ 18446744073709551615) :
    rGetSet most ((l.length : Int) % 256 :: (procsB l ++ rest), false) = (l, (rest, false)) := by
  have e : (l.length : Int) % 256 = l.length := by omega
  rw [rGetSet_eq, e, rU8_cons]
  simp only [Bool.false_eq_true, false_or, Int.toNat_natCast]
  rw [if_neg (by omega), rRun_back l [] rest hm]
  simp [hs]
theorem procB_ok {p : Pr} (h0 : 0 ≤ p.2) (h1 : p.2 ≤ 18446744073709551615) : bOK (procB p) := by
  intro b hb
  rcases List.mem_cons.1 hb with rfl | hb
  · omega
  · exact uintB_ok p.2 h0 h1 b hb
theorem procsB_ok {l : List Pr} (h : ∀ p ∈ l, wfU64 p.2) : bOK (procsB l) := by
  intro b hb
  obtain ⟨p, hp, hb⟩ := List.mem_flatMap.1 hb
  exact procB_ok (h p hp).1 (h p hp).2 b hb
theorem grown_to_below {w w' : World} {g B : Nat} (h : w.grownBy w' (some g)) (hg : B ≤ g) (hB : B ≤ w.heap.size) : Below B w w' :=
  ⟨h.os, h.tape, h.output, h.size, fun k hk => h.block k (by omega) (fun e => by injection e; omega)⟩
end Go.Proofs.YtniogmefbjfoaaaGreat
