/-
  Layer 14: two sorted rows side by side become one: the plain steps of the library's symMerge.
-/
import Derived.Test.YthkkadbgggaenaaFan17
namespace Go.Proofs.Ythkkadbgggaenaa
set_option linter.unusedSimpArgs false
set_option linter.unusedVariables false
set_option linter.unusedSectionVars false
open Go.RowKit

theorem mid_get (A X B : List Hd) {t : Nat} (h1 : A.length ≤ t) (h2 : t < A.length + X.length) : (A ++ (X ++ B))[t]? = X[t - A.length]? := by
  rw [List.getElem?_append_right h1, List.getElem?_append_left (by omega)]
/-- the stretch from a to b is sorted -/
def SrtIn (K : List Hd) (a b : Nat) : Prop := ∀ s t p q, a ≤ s → s ≤ t → t < b → K[s]? = some p → K[t]? = some q → p.d ≤ q.d
theorem srtIn (A X B : List Hd) (a b : Nat) (ha : a = A.length) (hb : b = A.length + X.length) (h : Srt X) : SrtIn (A ++ (X ++ B)) a b := by
  subst ha hb
  intro s t p q h1 h2 h3 hp hq
  rw [mid_get _ _ _ h1 (by omega)] at hp
  rw [mid_get _ _ _ (by omega) h3] at hq
  exact h.at (by omega) hp hq
theorem merge_one {X1 X2 Y1 Y2 R1 R2 : List Hd} (hX : Srt (X1 ++ X2)) (hY : Srt (Y1 ++ Y2)) (h12 : ∀ x ∈ X1, ∀ y ∈ Y2, x.d ≤ y.d) (h21 : ∀ y ∈ Y1, ∀ x ∈ X2, y.d < x.d)
    (r1 : Srt R1) (f1 : Fib (X1 ++ Y1) R1) (r2 : Srt R2) (f2 : Fib (X2 ++ Y2) R2) : Srt (R1 ++ R2) ∧ Fib ((X1 ++ X2) ++ (Y1 ++ Y2)) (R1 ++ R2) := by
  constructor
  · refine r1.app r2 (fun p hp q hq => ?_)
    rcases List.mem_append.1 (f1.mem.2 hp) with a | a <;> rcases List.mem_append.1 (f2.mem.2 hq) with b | b
    · exact hX.cross p a q b
    · exact h12 p a q b
    · have := h21 p a q b; omega
    · exact hY.cross p a q b
  · refine Fib.trans ?_ (f1.app f2)
    rw [List.append_assoc, List.append_assoc]
    refine (Fib.refl X1).app ?_
    rw [← List.append_assoc, ← List.append_assoc]
    exact (Fib.comm (fun x hx y hy => by have := h21 y hy x hx; omega)).app (Fib.refl Y2)
/-- where the search ends: what lies ahead of place e is less, what lies behind is not -/
theorem lower_end (A Y B : List Hd) (m e b : Nat) (d : Int) (hm : m = A.length) (hb : b = A.length + Y.length) (he : e ≤ b) (hme : m ≤ e)
    (h1 : ∀ t q, m ≤ t → t < e → (A ++ (Y ++ B))[t]? = some q → q.d < d) (h2 : ∀ t q, e ≤ t → t < b → (A ++ (Y ++ B))[t]? = some q → d ≤ q.d) :
    (∀ y ∈ Y.take (e - m), y.d < d) ∧ (∀ y ∈ Y.drop (e - m), d ≤ y.d) := by
  subst hm hb
  constructor
  · intro y hy
    obtain ⟨i, hi, rfl⟩ := List.getElem_of_mem hy
    rw [List.length_take] at hi
    rw [List.getElem_take]
    refine h1 (A.length + i) _ (by omega) (by omega) ?_
    rw [mid_get _ _ _ (by omega) (by omega), Nat.add_sub_cancel_left, List.getElem?_eq_getElem (by omega)]
  · intro y hy
    obtain ⟨i, hi, rfl⟩ := List.getElem_of_mem hy
    rw [List.length_drop] at hi
    rw [List.getElem_drop]
    refine h2 (A.length + (e - A.length + i)) _ (by omega) (by omega) ?_
    rw [mid_get _ _ _ (by omega) (by omega), Nat.add_sub_cancel_left, List.getElem?_eq_getElem (by omega)]
theorem upper_end (A Y B : List Hd) (m e b : Nat) (d : Int) (hm : m = A.length) (hb : b = A.length + Y.length) (he : e ≤ b) (hme : m ≤ e)
    (h1 : ∀ t q, m ≤ t → t < e → (A ++ (Y ++ B))[t]? = some q → q.d ≤ d) (h2 : ∀ t q, e ≤ t → t < b → (A ++ (Y ++ B))[t]? = some q → d < q.d) :
    (∀ y ∈ Y.take (e - m), y.d ≤ d) ∧ (∀ y ∈ Y.drop (e - m), d < y.d) := by
  subst hm hb
  constructor
  · intro y hy
    obtain ⟨i, hi, rfl⟩ := List.getElem_of_mem hy
    rw [List.length_take] at hi
    rw [List.getElem_take]
    refine h1 (A.length + i) _ (by omega) (by omega) ?_
    rw [mid_get _ _ _ (by omega) (by omega), Nat.add_sub_cancel_left, List.getElem?_eq_getElem (by omega)]
  · intro y hy
    obtain ⟨i, hi, rfl⟩ := List.getElem_of_mem hy
    rw [List.length_drop] at hi
    rw [List.getElem_drop]
    refine h2 (A.length + (e - A.length + i)) _ (by omega) (by omega) ?_
    rw [mid_get _ _ _ (by omega) (by omega), Nat.add_sub_cancel_left, List.getElem?_eq_getElem (by omega)]
/-- one head ahead of a sorted row finds its place -/
theorem one_first {x : Hd} {Y1 Y2 : List Hd} (hY : Srt (Y1 ++ Y2)) (h1 : ∀ y ∈ Y1, y.d < x.d) (h2 : ∀ y ∈ Y2, x.d ≤ y.d) : Srt (Y1 ++ (x :: Y2)) ∧ Fib (x :: (Y1 ++ Y2)) (Y1 ++ (x :: Y2)) := by
  constructor
  · refine hY.left.app (List.pairwise_cons.2 ⟨h2, hY.right⟩) (fun a ha b hb => ?_)
    rcases List.mem_cons.1 hb with e | e
    · subst e; have := h1 a ha; omega
    · exact hY.cross a ha b e
  · rw [show x :: (Y1 ++ Y2) = ([x] ++ Y1) ++ Y2 by simp, show Y1 ++ (x :: Y2) = (Y1 ++ [x]) ++ Y2 by simp]
    refine (Fib.comm (fun a ha b hb => ?_)).app (Fib.refl Y2)
    obtain rfl : a = x := by simpa using ha
    have := h1 b hb; omega
/-- one head behind a sorted row finds its place -/
theorem one_last {y : Hd} {X1 X2 : List Hd} (hX : Srt (X1 ++ X2)) (h1 : ∀ x ∈ X1, x.d ≤ y.d) (h2 : ∀ x ∈ X2, y.d < x.d) : Srt (X1 ++ (y :: X2)) ∧ Fib ((X1 ++ X2) ++ [y]) (X1 ++ (y :: X2)) := by
  constructor
  · refine hX.left.app (List.pairwise_cons.2 ⟨fun x hx => by have := h2 x hx; omega, hX.right⟩) (fun a ha b hb => ?_)
    rcases List.mem_cons.1 hb with e | e
    · subst e; exact h1 a ha
    · exact hX.cross a ha b e
  · rw [List.append_assoc, show X1 ++ (y :: X2) = X1 ++ ([y] ++ X2) by simp]
    refine (Fib.refl X1).app (Fib.comm (fun a ha b hb => ?_))
    obtain rfl : b = y := by simpa using hb
    have := h2 a ha; omega
/-- where symMerge parts its rows: place s, and e = n - s -/
theorem sym_end (A X Y B : List Hd) (a m b s e n : Nat) (ha : a = A.length) (hm : m = A.length + X.length) (hb : b = A.length + X.length + Y.length) (hX : Srt X) (hY : Srt Y)
    (hs1 : a ≤ s) (hs2 : s ≤ m) (he1 : m ≤ e) (he2 : e ≤ b)
    (h1 : s = a ∨ e = b ∨ ∃ p q, (A ++ (X ++ (Y ++ B)))[s - 1]? = some p ∧ (A ++ (X ++ (Y ++ B)))[e]? = some q ∧ p.d ≤ q.d)
    (h2 : s = m ∨ e = m ∨ ∃ p q, (A ++ (X ++ (Y ++ B)))[s]? = some p ∧ (A ++ (X ++ (Y ++ B)))[e - 1]? = some q ∧ q.d < p.d) :
    ∃ X1 X2 Y1 Y2, X = X1 ++ X2 ∧ Y = Y1 ++ Y2 ∧ X1.length = s - a ∧ X2.length = m - s ∧ Y1.length = e - m ∧ Y2.length = b - e ∧ (∀ x ∈ X1, ∀ y ∈ Y2, x.d ≤ y.d) ∧ (∀ y ∈ Y1, ∀ x ∈ X2, y.d < x.d) := by
  refine ⟨X.take (s - a), X.drop (s - a), Y.take (e - m), Y.drop (e - m), (List.take_append_drop _ _).symm, (List.take_append_drop _ _).symm, by rw [List.length_take]; omega, by rw [List.length_drop]; omega, by rw [List.length_take]; omega, by rw [List.length_drop]; omega, ?_, ?_⟩
  · intro x hx y hy
    obtain ⟨i, hi, rfl⟩ := List.getElem_of_mem hx
    obtain ⟨j, hj, rfl⟩ := List.getElem_of_mem hy
    rw [List.length_take] at hi
    rw [List.length_drop] at hj
    rw [List.getElem_take, List.getElem_drop]
    rcases h1 with h | h | ⟨p, q, hp, hq, hpq⟩
    · omega
    · omega
    · rw [mid_get _ _ _ (by omega) (by omega)] at hp
      rw [← List.append_assoc, mid_get _ _ _ (by rw [List.length_append]; omega) (by rw [List.length_append]; omega), List.length_append] at hq
      have e1 := hX.at (i := i) (by omega) (List.getElem?_eq_getElem (by omega)) hp
      have e2 := hY.at (j := e - m + j) (by omega) hq (List.getElem?_eq_getElem (by omega))
      omega
  · intro y hy x hx
    obtain ⟨i, hi, rfl⟩ := List.getElem_of_mem hx
    obtain ⟨j, hj, rfl⟩ := List.getElem_of_mem hy
    rw [List.length_drop] at hi
    rw [List.length_take] at hj
    rw [List.getElem_take, List.getElem_drop]
    rcases h2 with h | h | ⟨p, q, hp, hq, hpq⟩
    · omega
    · omega
    · rw [mid_get _ _ _ (by omega) (by omega)] at hp
      rw [← List.append_assoc, mid_get _ _ _ (by rw [List.length_append]; omega) (by rw [List.length_append]; omega), List.length_append] at hq
      have e1 := hX.at (j := s - a + i) (by omega) hp (List.getElem?_eq_getElem (by omega))
      have e2 := hY.at (i := j) (by omega) (List.getElem?_eq_getElem (by omega)) hq
      omega
end Go.Proofs.Ythkkadbgggaenaa
