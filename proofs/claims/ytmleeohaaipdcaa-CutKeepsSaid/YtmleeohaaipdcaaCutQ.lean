/-
  Layer 21, plain: what the program keeps is what the document's Keep tells.
-/
import Derived.Test.YtmleeohaaipdcaaLet5
namespace Go.Proofs.Ytmleeohaaipdcaa
set_option linter.unusedSimpArgs false
set_option linter.unusedVariables false
set_option linter.unusedSectionVars false
open Go.RowKit Go.Sort

section
variable {α β : Type} (f : α → β)
theorem newest_map (cd : β → Int) (ok : β → Bool) : ∀ (l : List α) (b : Option α), newest cd ok (l.map f) (b.map f) = (newest (fun x => cd (f x)) (fun x => ok (f x)) l b).map f
  | [], b => rfl
  | x :: l, b => by
    rw [List.map_cons, newest, newest, ← newest_map cd ok l]
    congr 1
    cases b with
    | none => cases h : ok (f x) <;> simp [h]
    | some z =>
      by_cases h : (ok (f x) && ((some z : Option α).isNone || decide (((some z).map fun x => cd (f x)).getD 0 < cd (f x)))) = true
      · rw [if_pos h, if_pos (by simpa using h)]; rfl
      · rw [if_neg h, if_neg (by simpa using h)]
theorem refTwo_map (cd : β → Int) (ok : β → Bool) (l : List α) : refTwo cd ok (l.map f) = (refTwo (fun x => cd (f x)) (fun x => ok (f x)) l).map f := by
  unfold refTwo
  have h := newest_map f cd ok l none
  simp only [Option.map_none] at h
  rw [h]
  cases newest (fun x => cd (f x)) (fun x => ok (f x)) l none with
  | none => rfl
  | some s =>
    simp only [Option.map_some]
    have h2 := newest_map f cd (fun x => ok x && decide (cd x < cd (f s))) l none
    simp only [Option.map_none] at h2
    rw [h2, List.map_append]
    cases newest (fun x => cd (f x)) (fun x => ok (f x) && decide (cd (f x) < cd (f s))) l none <;> rfl
theorem keepG_map (fr : β → Pr) : ∀ (l : List α), keepG fr (l.map f) = (keepG (fun x => fr (f x)) l).map f
  | [] => rfl
  | x :: l => by
    rw [List.map_cons, keepG, keepG, keepG_map fr l]
    by_cases h : (l[1]?.map fun x => fr (f x)) = some (fr (f x))
    · rw [if_pos h, if_pos]; rw [List.getElem?_map, Option.map_map]; exact h
    · rw [if_neg h, if_neg]; · rfl
      rw [List.getElem?_map, Option.map_map]; exact h
end
section
variable {α : Type} (fr : α → Pr) (cd : α → Int)
theorem tailF_snoc (y : α) : ∀ (l : List α) (p : α), tailF fr cd p (l ++ [y]) = tailF fr cd p l ++ (if eqK fr cd y (l.getLast?.getD p) then [] else [y])
  | [], p => by
    by_cases h : eqK fr cd y p = true <;> simp [tailF, h]
  | x :: l, p => by
    have e : (x :: l).getLast?.getD p = l.getLast?.getD x := by
      cases l with
      | nil => rfl
      | cons z l => rw [List.getLast?_cons_cons]; cases h : (z :: l).getLast? with
        | none => simp at h
        | some _ => rfl
    rw [e, List.cons_append, tailF, tailF, tailF_snoc y l x]
    split
    · rfl
    · rfl
theorem compF_snoc (y z : α) (l : List α) : compF fr cd (l ++ [z] ++ [y]) = compF fr cd (l ++ [z]) ++ (if eqK fr cd y z then [] else [y]) := by
  cases l with
  | nil => by_cases h : eqK fr cd y z = true <;> simp [compF, tailF, h]
  | cons x l =>
    rw [List.cons_append, List.cons_append, compF, compF, tailF_snoc, List.getLast?_append]
    by_cases h : eqK fr cd y z = true <;> simp [h]
theorem compF_take {l : List α} {k : Nat} {y z : α} (hk : 0 < k) (hy : l[k]? = some y) (hz : l[k - 1]? = some z) : compF fr cd (l.take (k + 1)) = compF fr cd (l.take k) ++ (if eqK fr cd y z then [] else [y]) := by
  obtain ⟨j, rfl⟩ : ∃ j, k = j + 1 := ⟨k - 1, by omega⟩
  rw [Nat.add_sub_cancel] at hz
  rw [take_succ_of hy, take_succ_of hz, compF_snoc]
theorem tailF_le : ∀ (l : List α) (p : α), (tailF fr cd p l).length ≤ l.length
  | [], _ => Nat.le_refl _
  | y :: l, p => by
    rw [tailF]
    split
    · exact Nat.le_trans (tailF_le l y) (by simp)
    · simpa using tailF_le l y
theorem compF_le (l : List α) : (compF fr cd l).length ≤ l.length := by
  cases l with
  | nil => exact Nat.le_refl _
  | cons x l => simpa [compF] using tailF_le fr cd l x
theorem keepG_drop {l : List α} {m : Nat} {x : α} (h : l[m]? = some x) : keepG fr (l.drop m) = if (l[m + 2]?.map fr) = some (fr x) then keepG fr (l.drop (m + 1)) else x :: keepG fr (l.drop (m + 1)) := by
  obtain ⟨hl, rfl⟩ := List.getElem?_eq_some_iff.1 h
  rw [List.drop_eq_getElem_cons hl, keepG, List.getElem?_drop]
end
def okS (p : Pr) (x : Lc) : Bool := (x.k == 8) && (eqP x.p.1 x.p.2 p.1 p.2 && x.mayB)
theorem okN_t (p : Pr) (b : Int) : okN p b true = okS p := by funext x; simp [okN, okS]
theorem okN_f (p : Pr) (b : Int) : okN p b false = fun x => okS p x && decide (x.cid < b) := by funext x; simp [okN, okS, Bool.and_assoc]
def rkeepL (L : List Lc) (of : List Pr) : List Lc := (sortedL of).flatMap (fun p => refTwo Lc.cid (okS p) L)
/-- those that may be kept -/
def goodL (of : List Pr) (y : Lr) : Bool := (y.x.k == 8) && (y.x.mayB && decide (y.x.p ∈ of))
/-- what the program keeps, of letters that are sorted with their places -/
def kprogL (S : List (Lr × Nat)) : List Lc := (keepG (fun z : Lr × Nat => z.1.x.p) (compF (fun z : Lr × Nat => z.1.x.p) (fun z => z.1.x.cid) S)).map (fun z => z.1.x)
theorem kprog_eq (l : List Lr) (of : List Pr) {S : List (Lr × Nat)} (hp : S.Perm (l.filter (goodL of)).zipIdx) (hs : S.Pairwise (lt3 (fun y : Lr => y.x.p) (fun y => y.x.cid))) : kprogL S = rkeepL (l.map Lr.x) of := by
  have e1 : (fun x : Lr => ((x.x.k == 8) && x.x.mayB) && decide (x.x.p ∈ sortedL of)) = goodL of := by
    funext x
    unfold goodL
    rw [Bool.and_assoc]
    congr 2
    simp [mem_sortedL]
  have h := keep_eq (fun y : Lr => y.x.p) (fun y => y.x.cid) (fun y => (y.x.k == 8) && y.x.mayB) l (sortedL of) (sortedL_ss of) (S := S) (by rw [e1]; exact hp) hs
  have h2 := congrArg (List.map Lr.x) h
  rw [keepG_map Prod.fst (fun y : Lr => y.x.p), List.map_map] at h2
  unfold kprogL rkeepL
  refine Eq.trans ?_ (h2.trans ?_)
  · rfl
  · rw [List.map_flatMap]
    refine fm_congr fun p _ => ?_
    rw [refTwo_map Lr.x]
    congr 2
    funext x
    unfold okS
    rw [Bool.and_assoc]
    congr 1
    rw [Bool.and_comm]
    congr 1
    rw [Bool.eq_iff_iff, eqP_iff]
    simp
    exact Prod.ext_iff
end Go.Proofs.Ytmleeohaaipdcaa
