/-
  Layer 21, plain: of letters that are sorted and told once each, the newest two of each life; and the document's way to find them.
-/
import Derived.Test.YtmleeohaaipdcaaRow
namespace Go.Proofs.Ytmleeohaaipdcaa
set_option linter.unusedSimpArgs false
set_option linter.unusedVariables false
set_option linter.unusedSectionVars false
open Go.Lib

section
variable {α : Type} (fr : α → Pr) (cd : α → Int)
/-- by life, then by number -/
def ltK (x y : α) : Prop := ltP (fr x) (fr y) ∨ fr x = fr y ∧ cd x < cd y
theorem ltK_trans {x y z : α} (h : ltK fr cd x y) (k : ltK fr cd y z) : ltK fr cd x z := by
  rcases h with h | ⟨h1, h2⟩
  · rcases k with k | ⟨k1, k2⟩
    · exact Or.inl (ltP_trans h k)
    · exact Or.inl (k1 ▸ h)
  · rcases k with k | ⟨k1, k2⟩
    · exact Or.inl (h1 ▸ k)
    · exact Or.inr ⟨h1.trans k1, by omega⟩
theorem ltK_irrefl (x : α) : ¬ ltK fr cd x x := by
  rintro (h | ⟨_, h⟩)
  · exact ltP_irrefl _ h
  · omega
def eqK (x y : α) : Bool := decide (fr x = fr y ∧ cd x = cd y)
theorem eqK_iff {x y : α} : eqK fr cd x y = true ↔ fr x = fr y ∧ cd x = cd y := by simp [eqK]
theorem tri_K (x y : α) : ltK fr cd x y ∨ (fr x = fr y ∧ cd x = cd y) ∨ ltK fr cd y x := by
  rcases ltP_tri (fr x) (fr y) with h | h | h
  · exact Or.inl (Or.inl h)
  · rcases Int.lt_trichotomy (cd x) (cd y) with k | k | k
    · exact Or.inl (Or.inr ⟨h, k⟩)
    · exact Or.inr (Or.inl ⟨h, k⟩)
    · exact Or.inr (Or.inr (Or.inr ⟨h.symm, k⟩))
  · exact Or.inr (Or.inr (Or.inl h))
/-- what CompactFunc keeps behind a value -/
def tailF : α → List α → List α
  | _, [] => []
  | p, y :: l => if eqK fr cd y p then tailF y l else y :: tailF y l
def compF : List α → List α
  | [] => []
  | x :: l => x :: tailF fr cd x l
/-- those that are kept: the last two of each life -/
def keepG : List α → List α
  | [] => []
  | x :: l => if (l[1]?.map fr) = some (fr x) then keepG l else x :: keepG l
/-- the last two -/
def last2 (l : List α) : List α := l.drop (l.length - 2)
/-- the first one of the greatest number -/
def newest (ok : α → Bool) : List α → Option α → Option α
  | [], b => b
  | x :: l, b => newest ok l (if ok x && (b.isNone || decide ((b.map cd).getD 0 < cd x)) then some x else b)
/-- sorted, by place too -/
def lt3 (x y : α × Nat) : Prop := ltK fr cd x.1 y.1 ∨ (fr x.1 = fr y.1 ∧ cd x.1 = cd y.1) ∧ x.2 < y.2

/-! what is kept of equal ones -/
theorem tailF_spec : ∀ (l : List (α × Nat)) (p : α × Nat), (p :: l).Pairwise (lt3 fr cd) →
    (p :: tailF (fr ·.1) (cd ·.1) p l).Pairwise (fun x y => ltK fr cd x.1 y.1) ∧ (∀ t ∈ tailF (fr ·.1) (cd ·.1) p l, t ∈ l) ∧
    (∀ s ∈ p :: l, ∃ t ∈ p :: tailF (fr ·.1) (cd ·.1) p l, (fr t.1 = fr s.1 ∧ cd t.1 = cd s.1) ∧ t.2 ≤ s.2)
  | [], p, _ => ⟨List.pairwise_singleton _ _, by simp [tailF], fun s hs => ⟨s, by simpa [tailF] using hs, ⟨rfl, rfl⟩, Nat.le_refl _⟩⟩
  | y :: l, p, h => by
    obtain ⟨h1, h2⟩ := List.pairwise_cons.1 h
    obtain ⟨k1, k2, k3⟩ := tailF_spec l y h2
    have hpy := h1 y (by simp)
    by_cases he : eqK (fun z : α × Nat => fr z.1) (fun z => cd z.1) y p = true
    · have hk := (eqK_iff _ _).1 he
      have e : tailF (fun z : α × Nat => fr z.1) (fun z => cd z.1) p (y :: l) = tailF (fun z : α × Nat => fr z.1) (fun z => cd z.1) y l := by rw [tailF, if_pos he]
      rw [e]
      obtain ⟨q1, q2⟩ := List.pairwise_cons.1 k1
      refine ⟨List.pairwise_cons.2 ⟨fun t ht => ?_, q2⟩, fun t ht => List.mem_cons_of_mem _ (k2 t ht), fun s hs => ?_⟩
      · have := q1 t ht
        unfold ltK at this ⊢
        rw [← hk.1, ← hk.2]; exact this
      · rcases List.mem_cons.1 hs with rfl | hs
        · exact ⟨s, by simp, ⟨rfl, rfl⟩, Nat.le_refl _⟩
        · obtain ⟨t, ht, q3, q4⟩ := k3 s hs
          rcases List.mem_cons.1 ht with rfl | ht
          · refine ⟨p, by simp, ⟨hk.1.symm.trans q3.1, hk.2.symm.trans q3.2⟩, ?_⟩
            rcases hpy with g | ⟨_, g⟩
            · exfalso
              have : ltK fr cd p.1 p.1 := by unfold ltK at g ⊢; rw [← hk.1, ← hk.2] at *; exact g
              exact ltK_irrefl _ _ _ this
            · omega
          · exact ⟨t, List.mem_cons_of_mem _ ht, q3, q4⟩
    · have e : tailF (fun z : α × Nat => fr z.1) (fun z => cd z.1) p (y :: l) = y :: tailF (fun z : α × Nat => fr z.1) (fun z => cd z.1) y l := by rw [tailF, if_neg he]
      rw [e]
      have hlt : ltK fr cd p.1 y.1 := by
        rcases hpy with g | ⟨g, _⟩
        · exact g
        · exact absurd ((eqK_iff _ _).2 ⟨g.1.symm, g.2.symm⟩) he
      obtain ⟨q1, q2⟩ := List.pairwise_cons.1 k1
      refine ⟨List.pairwise_cons.2 ⟨fun t ht => ?_, k1⟩, fun t ht => ?_, fun s hs => ?_⟩
      · rcases List.mem_cons.1 ht with rfl | ht
        · exact hlt
        · exact ltK_trans _ _ hlt (q1 t ht)
      · rcases List.mem_cons.1 ht with rfl | ht
        · simp
        · exact List.mem_cons_of_mem _ (k2 t ht)
      · rcases List.mem_cons.1 hs with rfl | hs
        · exact ⟨s, by simp, ⟨rfl, rfl⟩, Nat.le_refl _⟩
        · obtain ⟨t, ht, q⟩ := k3 s hs
          exact ⟨t, List.mem_cons_of_mem _ ht, q⟩
/-- of each life and number the first one -/
structure Firsts (F G : List α) : Prop where
  s : G.Pairwise (ltK fr cd)
  f : ∀ x ∈ G, F.find? (fun y => eqK fr cd y x) = some x
  c : ∀ y ∈ F, ∃ x ∈ G, fr x = fr y ∧ cd x = cd y
theorem find_zip {F : List α} {q : α → Bool} {x : α} {i : Nat} (hx : F[i]? = some x) (hq : q x = true) (hmin : ∀ j y, F[j]? = some y → q y = true → i ≤ j) : F.find? q = some x := by
  obtain ⟨hi, rfl⟩ := List.getElem?_eq_some_iff.1 hx
  rw [List.find?_eq_some_iff_getElem]
  refine ⟨hq, i, hi, rfl, fun j hj => ?_⟩
  cases h : q F[j] with
  | false => rfl
  | true =>
    have := hmin j F[j] (List.getElem?_eq_getElem (by omega)) h
    omega
theorem mem_zipIdx' {F : List α} {s : α × Nat} : s ∈ F.zipIdx ↔ F[s.2]? = some s.1 := by
  rw [List.mem_zipIdx_iff_getElem?]
theorem compF_firsts {F : List α} {S : List (α × Nat)} (hp : S.Perm F.zipIdx) (hs : S.Pairwise (lt3 fr cd)) : Firsts fr cd F ((compF (fun z : α × Nat => fr z.1) (fun z => cd z.1) S).map Prod.fst) := by
  cases S with
  | nil =>
    have : F = [] := by
      have := hp.length_eq
      simp at this
      exact List.length_eq_zero_iff.1 this.symm
    subst this
    exact ⟨by simp [compF], by simp [compF], by simp⟩
  | cons p l =>
    obtain ⟨k1, k2, k3⟩ := tailF_spec fr cd l p hs
    have hm : ∀ t, t ∈ p :: tailF (fun z : α × Nat => fr z.1) (fun z => cd z.1) p l → F[t.2]? = some t.1 := fun t ht => by
      have : t ∈ p :: l := by
        rcases List.mem_cons.1 ht with rfl | ht
        · simp
        · exact List.mem_cons_of_mem _ (k2 t ht)
      exact mem_zipIdx'.1 (hp.mem_iff.1 this)
    have huniq : ∀ t ∈ p :: tailF (fun z : α × Nat => fr z.1) (fun z => cd z.1) p l, ∀ t' ∈ p :: tailF (fun z : α × Nat => fr z.1) (fun z => cd z.1) p l, fr t.1 = fr t'.1 → cd t.1 = cd t'.1 → t = t' := by
      intro t ht t' ht' e1 e2
      have hno : ¬ ltK fr cd t.1 t'.1 := fun h => by unfold ltK at h; rw [e1, e2] at h; exact ltK_irrefl fr cd t'.1 h
      have hno' : ¬ ltK fr cd t'.1 t.1 := fun h => by unfold ltK at h; rw [e1, e2] at h; exact ltK_irrefl fr cd t'.1 h
      obtain ⟨i, hi, rfl⟩ := List.mem_iff_getElem.1 ht
      obtain ⟨j, hj, rfl⟩ := List.mem_iff_getElem.1 ht'
      have hpw := List.pairwise_iff_getElem.1 k1
      rcases Nat.lt_trichotomy i j with h | h | h
      · exact absurd (hpw i j hi hj h) hno
      · subst h; rfl
      · exact absurd (hpw j i hj hi h) hno'
    refine ⟨?_, ?_, ?_⟩
    · rw [compF, List.pairwise_map]; exact k1
    · intro x hx
      obtain ⟨t, ht, rfl⟩ := List.mem_map.1 hx
      rw [compF] at ht
      refine find_zip (hm t ht) ((eqK_iff _ _).2 ⟨rfl, rfl⟩) (fun j y hy hq => ?_)
      have hq := (eqK_iff _ _).1 hq
      have hin : ((y, j) : α × Nat) ∈ p :: l := hp.mem_iff.2 (mem_zipIdx'.2 hy)
      obtain ⟨t', ht', ⟨e1, e2⟩, hle⟩ := k3 _ hin
      have := huniq t ht t' ht' (hq.1.symm.trans e1.symm) (hq.2.symm.trans e2.symm)
      subst this
      exact hle
    · intro y hy
      obtain ⟨j, hj, rfl⟩ := List.mem_iff_getElem.1 hy
      have hin : ((F[j], j) : α × Nat) ∈ p :: l := hp.mem_iff.2 (mem_zipIdx'.2 (List.getElem?_eq_getElem hj))
      obtain ⟨t, ht, ⟨e1, e2⟩, _⟩ := k3 _ hin
      exact ⟨t.1, List.mem_map.2 ⟨t, by rw [compF]; exact ht, rfl⟩, e1, e2⟩
/-! the newest -/
theorem newest_spec (ok : α → Bool) : ∀ (l : List α) (b : Option α), (∀ x, b = some x → ok x = true) →
    (newest cd ok l b = none → b = none ∧ ∀ y ∈ l, ok y = false) ∧
    (∀ r, newest cd ok l b = some r → (b.toList ++ l).find? (fun y => ok y && decide (cd y = cd r)) = some r ∧ ok r = true ∧ (∀ y ∈ b.toList ++ l, ok y = true → cd y ≤ cd r))
  | [], b, hb => by
    refine ⟨fun h => ⟨h, by simp⟩, fun r h => ?_⟩
    rw [newest] at h
    subst h
    have := hb r rfl
    refine ⟨by simp [this], this, fun y hy _ => ?_⟩
    simp at hy; subst hy; exact Int.le_refl _
  | x :: l, b, hb => by
    rw [newest]
    by_cases hx : (ok x && (b.isNone || decide ((b.map cd).getD 0 < cd x))) = true
    · rw [if_pos hx]
      have hx' := (Bool.and_eq_true _ _ ▸ hx)
      obtain ⟨k1, k2⟩ := newest_spec ok l (some x) (fun y hy => by injection hy with e; subst e; exact hx'.1)
      refine ⟨fun h => absurd (k1 h).1 (by simp), fun r h => ?_⟩
      obtain ⟨q1, q2, q3⟩ := k2 r h
      cases b with
      | none => exact ⟨by simpa using q1, q2, by simpa using q3⟩
      | some z =>
        have hz : cd z < cd x := by simpa using hx'.2
        have hxr : cd x ≤ cd r := q3 x (by simp) hx'.1
        refine ⟨?_, q2, ?_⟩
        · simp only [Option.toList_some, List.singleton_append] at q1 ⊢
          rw [List.find?_cons, show (ok z && decide (cd z = cd r)) = false by rw [decide_eq_false (by omega), Bool.and_false]]
          exact q1
        · intro y hy hoy
          simp only [Option.toList_some, List.singleton_append, List.mem_cons] at hy
          rcases hy with rfl | hy | hy
          · omega
          · subst hy; exact hxr
          · exact q3 y (by simp [hy]) hoy
    · rw [if_neg hx]
      obtain ⟨k1, k2⟩ := newest_spec ok l b hb
      cases b with
      | none =>
        have hox : ok x = false := by
          cases h : ok x with
          | false => rfl
          | true => exact absurd (by simp [h]) hx
        refine ⟨fun h => ⟨rfl, fun y hy => ?_⟩, fun r h => ?_⟩
        · rcases List.mem_cons.1 hy with rfl | hy
          · exact hox
          · exact (k1 h).2 y hy
        · obtain ⟨q1, q2, q3⟩ := k2 r h
          simp only [Option.toList_none, List.nil_append] at q1 q3 ⊢
          refine ⟨?_, q2, fun y hy hoy => ?_⟩
          · rw [List.find?_cons, hox, Bool.false_and]; exact q1
          · rcases List.mem_cons.1 hy with rfl | hy
            · rw [hox] at hoy; cases hoy
            · exact q3 y hy hoy
      | some z =>
        have hzx : ok x = true → cd x ≤ cd z := fun h => by
          rw [h] at hx
          simp at hx
          exact hx
        have hz := hb z rfl
        refine ⟨fun h => absurd (k1 h).1 (by simp), fun r h => ?_⟩
        obtain ⟨q1, q2, q3⟩ := k2 r h
        simp only [Option.toList_some, List.singleton_append] at q1 q3 ⊢
        have hzr : cd z ≤ cd r := q3 z (by simp) hz
        refine ⟨?_, q2, fun y hy hoy => ?_⟩
        · rw [List.find?_cons] at q1 ⊢
          by_cases he : cd z = cd r
          · have : (ok z && decide (cd z = cd r)) = true := by rw [hz, decide_eq_true he]; rfl
            rw [this] at q1 ⊢; exact q1
          · have : (ok z && decide (cd z = cd r)) = false := by rw [decide_eq_false he, Bool.and_false]
            rw [this] at q1 ⊢
            rw [List.find?_cons]
            have hlt : cd z < cd r := by omega
            cases hox : ok x with
            | false => rw [Bool.false_and]; exact q1
            | true =>
              have := hzx hox
              rw [decide_eq_false (by omega), Bool.and_false]; exact q1
        · simp only [List.mem_cons] at hy
          rcases hy with rfl | rfl | hy
          · exact hzr
          · have := hzx hoy; omega
          · exact q3 y (by simp [hy]) hoy
/-- of rising ones, all that there are, the last is the newest -/
theorem newest_last (ok : α → Bool) (l A : List α) (hA : A.Pairwise (fun x y => cd x < cd y)) (hf : ∀ x ∈ A, l.find? (fun y => ok y && decide (cd y = cd x)) = some x) (hc : ∀ y ∈ l, ok y = true → ∃ x ∈ A, cd x = cd y) :
    newest cd ok l none = A.getLast? := by
  obtain ⟨k1, k2⟩ := newest_spec cd ok l none (fun _ h => by cases h)
  cases h : newest cd ok l none with
  | none =>
    have h0 := (k1 h).2
    cases A with
    | nil => rfl
    | cons x A =>
      exfalso
      have := hf x (by simp)
      have h1 := List.find?_some this
      have h2 := List.mem_of_find?_eq_some this
      rw [h0 x h2, Bool.false_and] at h1
      cases h1
  | some r =>
    obtain ⟨q1, q2, q3⟩ := k2 r h
    simp only [Option.toList_none, List.nil_append] at q1 q3
    obtain ⟨x, hx, ex⟩ := hc r (List.mem_of_find?_eq_some q1) q2
    have e1 := hf x hx
    rw [ex, q1] at e1
    injection e1 with e1
    subst e1
    obtain ⟨A0, z, rfl⟩ : ∃ A0 z, A = A0 ++ [z] := by
      rcases List.eq_nil_or_concat A with h | ⟨A0, z, h⟩
      · subst h; cases hx
      · exact ⟨A0, z, by simpa using h⟩
    rw [List.getLast?_append]
    simp only [List.getLast?_singleton, Option.some_or]
    rcases List.mem_append.1 hx with h | h
    · exfalso
      have h1 := (List.pairwise_append.1 hA).2.2 r h z (by simp)
      have hz := hf z (by simp)
      have h2 := q3 z (List.mem_of_find?_eq_some hz) (by
        have := List.find?_some hz
        simp at this
        exact this)
      omega
    · simp at h; rw [h]
/-! the last two of each life -/
theorem keepG_app {p : Pr} : ∀ (A B : List α), (∀ x ∈ A, fr x = p) → (∀ x ∈ B, fr x ≠ p) → keepG fr (A ++ B) = last2 A ++ keepG fr B
  | [], B, _, _ => by simp [last2]
  | [x], B, hA, hB => by
    have h1 : ((([] : List α) ++ B)[1]?.map fr) ≠ some (fr x) := by
      intro h
      rw [List.nil_append] at h
      cases hb : B[1]? with
      | none => rw [hb] at h; cases h
      | some z =>
        rw [hb] at h
        injection h with h
        exact hB z (List.mem_of_getElem? hb) (h.trans (hA x (by simp)))
    rw [List.cons_append, keepG, if_neg h1]
    simp [last2]
  | [x, y], B, hA, hB => by
    have ih := keepG_app [y] B (fun z hz => hA z (by simp at hz; simp [hz])) hB
    have h1 : ((([y] : List α) ++ B)[1]?.map fr) ≠ some (fr x) := by
      intro h
      rw [List.singleton_append, List.getElem?_cons_succ] at h
      cases hb : B[0]? with
      | none => rw [hb] at h; cases h
      | some z =>
        rw [hb] at h
        injection h with h
        exact hB z (List.mem_of_getElem? hb) (h.trans (hA x (by simp)))
    rw [List.cons_append, keepG, if_neg h1, ih]
    simp [last2]
  | x :: y :: z :: A, B, hA, hB => by
    have ih := keepG_app (y :: z :: A) B (fun z hz => hA z (by simp at hz ⊢; exact Or.inr hz)) hB
    have h1 : (((y :: z :: A) ++ B)[1]?.map fr) = some (fr x) := by
      rw [List.cons_append, List.cons_append, List.getElem?_cons_succ, List.getElem?_cons_zero, Option.map_some, hA x (by simp), hA z (by simp)]
    rw [List.cons_append, keepG, if_pos h1, ih]
    congr 1
theorem split_first {p : Pr} : ∀ (G : List α), G.Pairwise (ltK fr cd) → (∀ x ∈ G, fr x = p ∨ ltP p (fr x)) → G = G.filter (fun x => decide (fr x = p)) ++ G.filter (fun x => !decide (fr x = p))
  | [], _, _ => rfl
  | x :: G, h, hp => by
    obtain ⟨h1, h2⟩ := List.pairwise_cons.1 h
    have ih := split_first G h2 (fun y hy => hp y (List.mem_cons_of_mem _ hy))
    by_cases hx : fr x = p
    · rw [List.filter_cons_of_pos (by simp [hx]), List.filter_cons_of_neg (by simp [hx]), List.cons_append, ← ih]
    · have hlt : ltP p (fr x) := (hp x (by simp)).resolve_left hx
      have hall : ∀ y ∈ G, fr y ≠ p := fun y hy e => by
        have := h1 y hy
        unfold ltK at this
        rw [e] at this
        rcases this with k | k
        · exact ltP_asymm hlt k
        · exact hx k.1
      rw [List.filter_cons_of_neg (by simp [hx]), List.filter_cons_of_pos (by simp [hx])]
      rw [List.filter_eq_nil_iff.2 (fun y hy => by simp [hall y hy]), List.filter_eq_self.2 (fun y hy => by simp [hall y hy])]
      rfl
theorem fm_congr {β : Type} {L : List Pr} {f g : Pr → List β} (h : ∀ p ∈ L, f p = g p) : L.flatMap f = L.flatMap g := by
  induction L with
  | nil => rfl
  | cons x L ih => rw [List.flatMap_cons, List.flatMap_cons, h x (by simp), ih (fun p hp => h p (List.mem_cons_of_mem _ hp))]
theorem keepG_lives : ∀ (L : List Pr) (G : List α), SS L → G.Pairwise (ltK fr cd) → (∀ x ∈ G, fr x ∈ L) → keepG fr G = L.flatMap (fun p => last2 (G.filter (fun x => decide (fr x = p))))
  | [], G, _, _, h => by
    cases G with
    | nil => rfl
    | cons x G => exact absurd (h x (by simp)) (by simp)
  | p :: L, G, hL, hG, h => by
    obtain ⟨hp, hL'⟩ := List.pairwise_cons.1 hL
    have hs := split_first fr cd G hG (fun x hx => by
      rcases List.mem_cons.1 (h x hx) with e | e
      · exact Or.inl e
      · exact Or.inr (hp _ e))
    have e1 : keepG fr G = last2 (G.filter (fun x => decide (fr x = p))) ++ keepG fr (G.filter (fun x => !decide (fr x = p))) := by
      conv => lhs; rw [hs]
      exact keepG_app fr (p := p) _ _ (fun x hx => by simpa using (List.mem_filter.1 hx).2) (fun x hx => by simpa using (List.mem_filter.1 hx).2)
    have ih := keepG_lives L (G.filter (fun x => !decide (fr x = p))) hL' (hG.filter _) (fun x hx => by
      obtain ⟨h1, h2⟩ := List.mem_filter.1 hx
      rcases List.mem_cons.1 (h x h1) with e | e
      · simp [e] at h2
      · exact e)
    rw [e1, ih, List.flatMap_cons]
    congr 1
    refine fm_congr fun q hq => ?_
    rw [List.filter_filter]
    congr 1
    refine List.filter_congr fun x _ => ?_
    by_cases hx : fr x = q
    · have : fr x ≠ p := fun e => ltP_irrefl p (by have := hp q hq; rw [← hx, e] at this; exact this)
      simp [hx]
      rw [hx] at this; exact this
    · simp [hx]
/-- the document's: the newest, and the newest below it -/
def refTwo (ok : α → Bool) (l : List α) : List α :=
  match newest cd ok l none with
  | none => []
  | some s => (newest cd (fun x => ok x && decide (cd x < cd s)) l none).toList ++ [s]
theorem refTwo_eq (ok : α → Bool) (l A : List α) (hA : A.Pairwise (fun x y => cd x < cd y)) (hf : ∀ x ∈ A, l.find? (fun y => ok y && decide (cd y = cd x)) = some x) (hc : ∀ y ∈ l, ok y = true → ∃ x ∈ A, cd x = cd y) :
    refTwo cd ok l = last2 A := by
  unfold refTwo
  rw [newest_last cd ok l A hA hf hc]
  rcases List.eq_nil_or_concat A with h | ⟨A0, z, h⟩
  · subst h; rfl
  · have h : A = A0 ++ [z] := by simpa using h
    subst h
    have hz : (A0 ++ [z]).getLast? = some z := by simp
    rw [hz]
    simp only
    have hlt : ∀ x ∈ A0, cd x < cd z := fun x hx => (List.pairwise_append.1 hA).2.2 x hx z (by simp)
    have e2 : newest cd (fun x => ok x && decide (cd x < cd z)) l none = A0.getLast? := by
      refine newest_last cd _ l A0 (List.pairwise_append.1 hA).1 (fun x hx => ?_) (fun y hy hoy => ?_)
      · have e := hf x (by simp [hx])
        rw [← e]
        congr 1
        funext y
        by_cases hy : cd y = cd x
        · have := hlt x hx
          simp [hy, this]
        · simp [hy]
      · simp at hoy
        obtain ⟨x, hx, ex⟩ := hc y hy hoy.1
        rcases List.mem_append.1 hx with h | h
        · exact ⟨x, h, ex⟩
        · simp at h; subst h; omega
    rw [e2]
    rcases List.eq_nil_or_concat A0 with h | ⟨A1, y, h⟩
    · subst h; rfl
    · have h : A0 = A1 ++ [y] := by simpa using h
      subst h
      simp [last2]
/-- the program's way is the document's -/
theorem keep_eq (good : α → Bool) (l : List α) (L : List Pr) (hL : SS L) {S : List (α × Nat)} (hp : S.Perm (l.filter (fun x => good x && decide (fr x ∈ L))).zipIdx) (hs : S.Pairwise (lt3 fr cd)) :
    keepG fr ((compF (fun z : α × Nat => fr z.1) (fun z => cd z.1) S).map Prod.fst) = L.flatMap (fun p => refTwo cd (fun x => good x && decide (fr x = p)) l) := by
  have hF := compF_firsts fr cd hp hs
  generalize (compF (fun z : α × Nat => fr z.1) (fun z => cd z.1) S).map Prod.fst = G at hF
  have hmem : ∀ x ∈ G, x ∈ l ∧ good x = true ∧ fr x ∈ L := fun x hx => by
    have := List.mem_of_find?_eq_some (hF.f x hx)
    simpa using this
  rw [keepG_lives fr cd L G hL hF.s (fun x hx => (hmem x hx).2.2)]
  refine fm_congr fun p hp' => ?_
  symm
  refine refTwo_eq cd _ l _ ?_ ?_ ?_
  · refine (hF.s.filter _).imp_of_mem (fun {x y} hx hy h => ?_)
    have e1 : fr x = p := by simpa using (List.mem_filter.1 hx).2
    have e2 : fr y = p := by simpa using (List.mem_filter.1 hy).2
    rcases h with h | h
    · rw [e1, e2] at h; exact absurd h (ltP_irrefl _)
    · exact h.2
  · intro x hx
    obtain ⟨h1, h2⟩ := List.mem_filter.1 hx
    have e1 : fr x = p := by simpa using h2
    have := hF.f x h1
    rw [List.find?_filter] at this
    rw [← this]
    congr 1
    funext y
    unfold eqK
    rw [e1]
    by_cases hy : fr y = p
    · simp [hy, hp']
    · simp [hy]
  · intro y hy hoy
    simp at hoy
    obtain ⟨x, hx, e1, e2⟩ := hF.c y (List.mem_filter.2 ⟨hy, by simp [hoy.1, hoy.2, hp']⟩)
    exact ⟨x, List.mem_filter.2 ⟨hx, by simp [e1, hoy.2]⟩, e2⟩
end
end Go.Proofs.Ytmleeohaaipdcaa
