/-
  Plain lists of lives: strictly rising lists, and what the sorted list of a list is. No program in sight.
-/
import Derived.Test.YtgpmcpinnaggmaaSort
namespace Go.Proofs.Ytgpmcpinnaggmaa
set_option linter.unusedSimpArgs false
set_option linter.unusedVariables false
set_option linter.unusedSectionVars false
open Go.Sort Go.Lib

abbrev Pr : Type := Int × Int
def ltP (x y : Pr) : Prop := x.1 < y.1 ∨ x.1 = y.1 ∧ x.2 < y.2
instance (x y : Pr) : Decidable (ltP x y) := by unfold ltP; infer_instance
theorem ltP_irrefl (x : Pr) : ¬ ltP x x := by unfold ltP; omega
theorem ltP_trans {x y z : Pr} (h : ltP x y) (k : ltP y z) : ltP x z := by unfold ltP at *; omega
theorem ltP_asymm {x y : Pr} (h : ltP x y) : ¬ ltP y x := by unfold ltP at *; omega
theorem ltP_tri (x y : Pr) : ltP x y ∨ x = y ∨ ltP y x := by
  obtain ⟨a, b⟩ := x; obtain ⟨c, d⟩ := y
  unfold ltP; simp; omega
theorem ltP_cmp (x y : Pr) : ltP x y ↔ cmpP x y < 0 := by
  have := cmpP_lt x y
  unfold ltOf at this
  rw [decide_eq_decide] at this
  exact this.symm
theorem cmpP_zero (x y : Pr) : cmpP x y = 0 ↔ x = y := by
  obtain ⟨a, b⟩ := x; obtain ⟨c, d⟩ := y
  unfold cmpP cmpI
  by_cases h1 : a < c <;> by_cases h2 : c < a <;> by_cases h3 : b < d <;> by_cases h4 : d < b <;> simp [h1, h2, h3, h4] <;> omega
theorem cmpP_neg (x y : Pr) : cmpP y x = - cmpP x y := by
  obtain ⟨a, b⟩ := x; obtain ⟨c, d⟩ := y
  unfold cmpP cmpI
  by_cases h1 : a < c <;> by_cases h2 : c < a <;> by_cases h3 : b < d <;> by_cases h4 : d < b <;> simp [h1, h2, h3, h4] <;> omega
theorem cmpP_one (x y : Pr) : cmpP x y = -1 ∨ cmpP x y = 0 ∨ cmpP x y = 1 := by
  obtain ⟨a, b⟩ := x; obtain ⟨c, d⟩ := y
  unfold cmpP cmpI
  by_cases h1 : a < c <;> by_cases h2 : c < a <;> by_cases h3 : b < d <;> by_cases h4 : d < b <;> simp [h1, h2, h3, h4]

/-- strictly rising -/
def SS (l : List Pr) : Prop := l.Pairwise ltP
theorem ss_ext : ∀ {l m : List Pr}, SS l → SS m → (∀ x, x ∈ l ↔ x ∈ m) → l = m := by
  intro l
  induction l with
  | nil =>
    intro m _ _ h
    cases m with
    | nil => rfl
    | cons y m => exact absurd ((h y).2 (by simp)) (by simp)
  | cons x l ih =>
    intro m hl hm h
    cases m with
    | nil => exact absurd ((h x).1 (by simp)) (by simp)
    | cons y m =>
      obtain ⟨hx, hl'⟩ := List.pairwise_cons.1 hl
      obtain ⟨hy, hm'⟩ := List.pairwise_cons.1 hm
      have e : x = y := by
        rcases ltP_tri x y with a | a | a
        · have := (h x).1 (by simp)
          rcases List.mem_cons.1 this with b | b
          · exact b
          · exact absurd (hy x b) (ltP_asymm a)
        · exact a
        · have := (h y).2 (by simp)
          rcases List.mem_cons.1 this with b | b
          · exact b.symm
          · exact absurd (hx y b) (ltP_asymm a)
      subst e
      rw [ih hl' hm' fun z => ?_]
      constructor
      · intro hz
        rcases List.mem_cons.1 ((h z).1 (List.mem_cons_of_mem _ hz)) with b | b
        · subst b; exact absurd (hx z hz) (ltP_irrefl z)
        · exact b
      · intro hz
        rcases List.mem_cons.1 ((h z).2 (List.mem_cons_of_mem _ hz)) with b | b
        · subst b; exact absurd (hy z hz) (ltP_irrefl z)
        · exact b

def leB (x y : Pr) : Bool := !ltOf cmpP y x
theorem leB_iff (x y : Pr) : leB x y = true ↔ ¬ ltP y x := by
  unfold leB; rw [cmpP_lt]; simp [ltP]; omega
theorem sortL_perm (l : List Pr) : (sortL l).Perm l := List.mergeSort_perm l _
theorem sortL_sorted (l : List Pr) : (sortL l).Pairwise fun x y => ¬ ltP y x := by
  have := List.pairwise_mergeSort (le := leB) (fun x y z h1 h2 => by
    rw [leB_iff] at *
    intro h
    rcases ltP_tri y z with a | a | a
    · exact h1 (ltP_trans a h)
    · subst a; exact h1 h
    · exact h2 a) (fun x y => by
    have : leB x y = true ∨ leB y x = true := by
      rw [leB_iff, leB_iff]
      rcases ltP_tri x y with a | a | a
      · exact .inl (ltP_asymm a)
      · subst a; exact .inl (ltP_irrefl _)
      · exact .inr (ltP_asymm a)
    simpa using this) l
  exact this.imp fun h => (leB_iff _ _).1 h

theorem compactUpTo_ss (d : Array Pr) (hs : ∀ i j, i < j → j < d.size → ¬ ltP d[j]! d[i]!) : ∀ m, m ≤ d.size →
    SS (compactUpTo d m) ∧ (∀ x, x ∈ compactUpTo d m ↔ ∃ j, j < m ∧ d[j]! = x) := by
  intro m
  induction m with
  | zero => intro _; exact ⟨by simp [compactUpTo, SS], by simp [compactUpTo]⟩
  | succ m ih =>
    intro hm
    obtain ⟨h1, h2⟩ := ih (by omega)
    rw [compactUpTo_succ]
    by_cases hk : keeps d m = true
    · rw [if_pos hk]
      refine ⟨?_, ?_⟩
      · unfold SS
        rw [List.pairwise_append]
        refine ⟨h1, by simp, ?_⟩
        intro a ha b hb
        simp at hb; subst hb
        obtain ⟨j, hj, rfl⟩ := (h2 a).1 ha
        have hm0 : 0 < m := by omega
        have hne : d[m]! ≠ d[m - 1]! := by
          simp [keeps] at hk
          rcases hk with h0 | h0
          · omega
          · exact h0
        have hlast : ltP d[m - 1]! d[m]! := by
          rcases ltP_tri d[m - 1]! d[m]! with a | a | a
          · exact a
          · exact absurd a.symm hne
          · exact absurd a (hs (m - 1) m (by omega) (by omega))
        by_cases e : j = m - 1
        · subst e; exact hlast
        · rcases ltP_tri d[j]! d[m - 1]! with a | a | a
          · exact ltP_trans a hlast
          · rw [a]; exact hlast
          · exact absurd a (hs j (m - 1) (by omega) (by omega))
      · intro x
        rw [List.mem_append, h2 x]
        simp only [List.mem_singleton]
        constructor
        · rintro (⟨j, hj, rfl⟩ | rfl)
          · exact ⟨j, by omega, rfl⟩
          · exact ⟨m, by omega, rfl⟩
        · rintro ⟨j, hj, rfl⟩
          by_cases e : j = m
          · subst e; exact .inr rfl
          · exact .inl ⟨j, by omega, rfl⟩
    · rw [if_neg hk, List.append_nil]
      refine ⟨h1, fun x => ?_⟩
      rw [h2 x]
      have hm0 : m ≠ 0 ∧ d[m]! = d[m - 1]! := by
        simp [keeps] at hk
        exact hk
      constructor
      · rintro ⟨j, hj, rfl⟩; exact ⟨j, by omega, rfl⟩
      · rintro ⟨j, hj, rfl⟩
        by_cases e : j = m
        · subst e; exact ⟨j - 1, by omega, hm0.2.symm⟩
        · exact ⟨j, by omega, rfl⟩

theorem sortedL_spec (l : List Pr) : SS (sortedL l) ∧ ∀ x, x ∈ sortedL l ↔ x ∈ l := by
  have hs := sortL_sorted l
  have key := compactUpTo_ss (sortL l).toArray (fun i j hij hj => by
    have hj' : j < (sortL l).length := by simpa using hj
    have := List.pairwise_iff_getElem.1 hs i j (by omega) hj' hij
    simpa [hj', show i < (sortL l).length by omega] using this) (sortL l).length (by simp)
  refine ⟨key.1, fun x => ?_⟩
  have := key.2 x
  unfold sortedL compact
  rw [this, ← (sortL_perm l).mem_iff, List.mem_iff_getElem]
  constructor
  · rintro ⟨j, hj, rfl⟩; exact ⟨j, hj, by simp [hj]⟩
  · rintro ⟨j, hj, rfl⟩; exact ⟨j, hj, by simp [hj]⟩
theorem sortedL_ss (l : List Pr) : SS (sortedL l) := (sortedL_spec l).1
theorem mem_sortedL {l : List Pr} {x : Pr} : x ∈ sortedL l ↔ x ∈ l := (sortedL_spec l).2 x
theorem sortedL_eq {l m : List Pr} (hm : SS m) (h : ∀ x, x ∈ m ↔ x ∈ l) : sortedL l = m := ss_ext (sortedL_ss l) hm fun x => by rw [mem_sortedL, h]
theorem sortedL_self {l : List Pr} (h : SS l) : sortedL l = l := sortedL_eq h fun _ => Iff.rfl
theorem sortedL_congr {l m : List Pr} (h : ∀ x, x ∈ l ↔ x ∈ m) : sortedL l = sortedL m := sortedL_eq (sortedL_ss m) fun x => by rw [mem_sortedL, h]

end Go.Proofs.Ytgpmcpinnaggmaa
