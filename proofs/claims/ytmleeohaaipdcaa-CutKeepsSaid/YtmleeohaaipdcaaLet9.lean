/-
  Layer 21: contract: the library's sort of letters by life, number and place.
-/
import Derived.Test.YtmleeohaaipdcaaLet8
namespace Go.Proofs.Ytmleeohaaipdcaa
set_option linter.unusedSimpArgs false
set_option linter.unusedVariables false
set_option linter.unusedSectionVars false
open Go.RowKit Go.Sort Go.Lib

section
variable {α : Type} (fr : α → Pr) (cd : α → Int)
theorem lt3_trans {x y z : α × Nat} (h : lt3 fr cd x y) (k : lt3 fr cd y z) : lt3 fr cd x z := by
  rcases h with h | ⟨⟨h1, h2⟩, h3⟩
  · rcases k with k | ⟨⟨k1, k2⟩, k3⟩
    · exact Or.inl (ltK_trans fr cd h k)
    · left; unfold ltK at h ⊢; rw [← k1, ← k2]; exact h
  · rcases k with k | ⟨⟨k1, k2⟩, k3⟩
    · left; unfold ltK at k ⊢; rw [h1, h2]; exact k
    · exact Or.inr ⟨⟨h1.trans k1, h2.trans k2⟩, by omega⟩
theorem lt3_irrefl (x : α × Nat) : ¬ lt3 fr cd x x := by
  rintro (h | ⟨_, h⟩)
  · exact ltK_irrefl fr cd _ h
  · omega
theorem lt3_tri (x y : α × Nat) : lt3 fr cd x y ∨ x.2 = y.2 ∨ lt3 fr cd y x := by
  rcases tri_K fr cd x.1 y.1 with h | ⟨h1, h2⟩ | h
  · exact Or.inl (Or.inl h)
  · rcases Nat.lt_trichotomy x.2 y.2 with h | h | h
    · exact Or.inl (Or.inr ⟨⟨h1, h2⟩, h⟩)
    · exact Or.inr (Or.inl h)
    · exact Or.inr (Or.inr (Or.inr ⟨⟨h1.symm, h2.symm⟩, h⟩))
  · exact Or.inr (Or.inr (Or.inl h))
end
/-- the letter at a place, with its place -/
def plN (F : List Lr) (i : Nat) : Lr × Nat := (F.getD i lr0, i)
def cmpN (F : List Lr) (i j : Nat) : Int := cmpK3 (plN F i) (plN F j)
def encN (F : List Lr) (i : Nat) : List Value := kc (plN F i)
theorem encN_len (F : List Lr) (i : Nat) : (encN F i).length = 12 := rfl
abbrev ltL := lt3 (fun y : Lr => y.x.p) (fun y => y.x.cid)
theorem cmpN_lt (F : List Lr) (i j : Nat) : ltOf (cmpN F) i j = true ↔ ltL (plN F i) (plN F j) := by
  unfold ltOf cmpN
  rw [decide_eq_true_iff, cmpK3_lt]
theorem cmpN_ge (F : List Lr) (i j : Nat) : ltOf (cmpN F) i j = false ↔ ¬ ltL (plN F i) (plN F j) := by
  rw [← cmpN_lt]; simp
theorem cmpN_swo (F : List Lr) : SWO (ltOf (cmpN F)) where
  irrefl i := (cmpN_ge F i i).2 (lt3_irrefl _ _ _)
  trans i j k h1 h2 := (cmpN_lt F i k).2 (lt3_trans _ _ ((cmpN_lt F i j).1 h1) ((cmpN_lt F j k).1 h2))
  ntrans i j k h1 h2 := by
    rw [cmpN_ge] at *
    intro h
    rcases lt3_tri (fun y : Lr => y.x.p) (fun y => y.x.cid) (plN F i) (plN F j) with g | g | g
    · exact h1 g
    · have g : i = j := g
      subst g; exact h2 h
    · exact h2 (lt3_trans _ _ g h)
theorem cmpN_total (F : List Lr) (i j : Nat) (h1 : ltOf (cmpN F) i j = false) (h2 : ltOf (cmpN F) j i = false) : i = j := by
  rw [cmpN_ge] at *
  rcases lt3_tri (fun y : Lr => y.x.p) (fun y => y.x.cid) (plN F i) (plN F j) with g | g | g
  · exact absurd g h1
  · exact g
  · exact absurd g h2
def sortN (F : List Lr) : List Nat := (List.range F.length).mergeSort fun i j => !ltOf (cmpN F) j i
/-- the letters in their order -/
def sortK (F : List Lr) : List (Lr × Nat) := (sortN F).map (plN F)
theorem range_plN (F : List Lr) : (List.range F.length).map (plN F) = F.zipIdx := by
  apply List.ext_getElem
  · simp
  · intro i h1 h2
    simp [plN]
    simp at h1
    simp [h1]
theorem sortK_perm (F : List Lr) : (sortK F).Perm F.zipIdx := by
  rw [← range_plN]
  exact (List.mergeSort_perm _ _).map _
theorem sortN_len (F : List Lr) : (sortN F).length = F.length := by unfold sortN; rw [List.length_mergeSort, List.length_range]
theorem sortK_len (F : List Lr) : (sortK F).length = F.length := by unfold sortK; rw [List.length_map, sortN_len]
theorem sortK_sorted (F : List Lr) : (sortK F).Pairwise ltL := by
  have h1 : (sortN F).Pairwise (fun i j => (!ltOf (cmpN F) j i) = true) := List.pairwise_mergeSort (le := fun i j => !ltOf (cmpN F) j i) (fun a b c h1 h2 => by
    simp only [Bool.not_eq_true'] at *
    exact (cmpN_swo F).ntrans c b a h2 h1) (fun a b => by
    cases h : ltOf (cmpN F) b a with
    | false => simp
    | true =>
      cases h2 : ltOf (cmpN F) a b with
      | false => simp
      | true => have := (cmpN_swo F).trans a b a h2 h; rw [(cmpN_swo F).irrefl] at this; cases this) _
  have h2 : (sortN F).Nodup := (List.mergeSort_perm _ _).nodup_iff.2 List.nodup_range
  unfold sortK
  rw [List.pairwise_map]
  refine (h1.and h2).imp ?_
  rintro i j ⟨h, hne⟩
  have h : ltOf (cmpN F) j i = false := by simpa using h
  rw [cmpN_ge] at h
  rcases lt3_tri (fun y : Lr => y.x.p) (fun y => y.x.cid) (plN F i) (plN F j) with g | g | g
  · exact g
  · exact absurd g hne
  · exact absurd g h
theorem kcs_sortK (F : List Lr) : kcs (sortK F) = (sortN F).flatMap (encN F) := by unfold kcs sortK; rw [List.flatMap_map]; rfl
theorem kcs_range (F : List Lr) : kcs F.zipIdx = (List.range F.length).flatMap (encN F) := by rw [← range_plN]; unfold kcs; rw [List.flatMap_map]; rfl
abbrev OwnK (w : World) (base : Nat) (v : Value) (l : List (Lr × Nat)) : Prop := w.ownsRow base 109 12 v l.length (kcs l)

theorem holds_of_ownN {enc : Nat → List Value} (he : ∀ i, (enc i).length = 12) {e : TypeId} {w : World} {base g cap : Nat} {l : List Nat} (h : w.ownsRow base e 12 (.slice (some ⟨g, 0, none⟩) l.length cap) l.length (l.flatMap enc)) : HoldsK enc 12 w g 0 l.toArray := by
  intro j hj
  have hj' : j < l.length * 12 := by simpa using hj
  rw [Nat.zero_add, h.cellAt _ (by omega), h.frozenAt]
  refine ⟨?_, rfl⟩
  rw [get_flatK _ _ _ _ (by simpa using hj')]
  have hi : j / 12 < l.length := by omega
  have hp : l[j / 12]? = some l[j / 12] := List.getElem?_eq_getElem hi
  have := flat_get he l (j / 12) (j % 12) _ hp (by omega)
  rw [show j / 12 * 12 + j % 12 = j by omega] at this
  rw [this]
  have h2 : j % 12 < (enc l[j / 12]).length := by rw [he]; omega
  simp [hi, h2]
theorem own_of_sortN {enc : Nat → List Value} (he : ∀ i, (enc i).length = 12) {e : TypeId} {w : World} {base g cap : Nat} {l l' : List Nat} (h : w.ownsRow base e 12 (.slice (some ⟨g, 0, none⟩) l.length cap) l.length (l.flatMap enc)) (hl : l'.length = l.length) (m : Nat) (os : Array Obj) :
    (sortWorldK enc 12 w g 0 m l'.toArray os).ownsRow base e 12 (.slice (some ⟨g, 0, none⟩) l.length cap) l.length (l'.flatMap enc) ∧ w.grownBy (sortWorldK enc 12 w g 0 m l'.toArray os) (some g) := by
  rcases h.2 with ⟨h', _⟩ | ⟨g', cap', cur, h', hb, hg, hnc, hcm, hcs, htake⟩
  · simp at h'
  · simp only [Value.slice.injEq, Option.some.injEq, Addr.mk.injEq, and_true, true_and] at h'
    obtain ⟨rfl, rfl⟩ := h'
    have hlt : g < w.heap.size := by
      rcases Nat.lt_or_ge g w.heap.size with hlt | hge
      · exact hlt
      · rw [Array.getElem?_eq_none hge] at hg; cases hg
    have hheap : (sortWorldK enc 12 w g 0 m l'.toArray os).heap[g]? = some (.cells (putCells id 0 (flatK enc 12 l'.toArray) cur) e (0, 0)) := by
      unfold sortWorldK
      rw [heap_grow_old _ _ (by simpa [putRowK, putRow, mapBlock, ahead] using hlt)]
      simp [putRowK, putRow, mapBlock, Array.getElem?_modify, hg, onCells]
    refine ⟨⟨by rw [flat_length he]; omega, .inr ⟨g, cap, _, rfl, hb, hheap, hnc, hcm, by simpa [putCells] using hcs, ?_⟩⟩, ⟨rfl, rfl, rfl, ?_, ?_⟩⟩
    · apply List.ext_getElem?
      intro j
      rw [List.getElem?_take]
      split
      · rename_i hj
        have hj' : j < l'.length * 12 := by omega
        have hjc : j < cur.size := by have := Nat.mul_le_mul_right 12 hnc; omega
        have hi : j / 12 < l'.length := by omega
        have hp : l'[j / 12]? = some l'[j / 12] := List.getElem?_eq_getElem hi
        have := flat_get he l' (j / 12) (j % 12) _ hp (by omega)
        rw [show j / 12 * 12 + j % 12 = j by omega] at this
        rw [this]
        have h2 : j % 12 < (enc l'[j / 12]).length := by rw [he]; omega
        have hget := get_flatK enc 12 l'.toArray j (by simpa using hj')
        simp only [putCells, Array.getElem?_toList, Array.getElem?_mapIdx, Array.getElem?_eq_getElem hjc, Option.map_some]
        rw [if_pos (by simp; omega), Nat.sub_zero, id, hget]
        simp [hi, h2]
      · rename_i hj
        rw [List.getElem?_eq_none (by rw [flat_length he]; omega)]
    · simp [sortWorldK, grow, putRowK, putRow, mapBlock]
    · intro k hk hne
      unfold sortWorldK
      rw [heap_grow_old _ _ (by simpa [putRowK, putRow, mapBlock, ahead] using hk)]
      have : g ≠ k := fun e => hne (by rw [e])
      simp [putRowK, putRow, mapBlock, Array.getElem?_modify, this]
theorem cmpNLays (F : List Lr) (blk off size : Nat) (w : World) : CmpLays Try.prog 45 #[] (encN F) 12 (cmpN F) blk off size w :=
  fun _ _ _ _ i j => (keep3_s (plN F i) (plN F j) _).mono fun _ _ ⟨he, hb⟩ => ⟨he, hb.h⟩
theorem sortKept_s (base g cap : Nat) (F : List Lr) (w : World) (h : OwnK w base (.slice (some ⟨g, 0, none⟩) F.zipIdx.length cap) F.zipIdx) (hb : g < w.heap.size) (hn : F.length ≤ 1000000) :
    Calls Try.prog 44 #[.slice (some ⟨g, 0, none⟩) F.length cap, .func (.func 45) #[] #[]] w fun e w' => e = .returned (.tuple #[]) ∧ OwnK w' base (.slice (some ⟨g, 0, none⟩) F.length cap) (sortK F) ∧ w.grownBy w' (some g) := by
  have eg : ∀ args w, (callFunc 45 args).run Try.prog w = .ok (.enter 45 args) w := enters_of Try.func45 (by kernel_rfl) rfl
  have h0 : w.ownsRow base 109 12 (.slice (some ⟨g, 0, none⟩) (List.range F.length).length cap) (List.range F.length).length ((List.range F.length).flatMap (encN F)) := by
    rw [OwnK, kcs_range, List.length_zipIdx] at h
    rw [List.length_range]; exact h
  have hcon := AnyQ.slices_SortFunc_total Try.sortK 12 Try.isAgg109 Try.sizeOf109 (encN F) (encN_len F) (fun x v hv => kc_one [plN F x] v (by simpa [kcs, encN] using hv)) (cmpN F) (cmpN_swo F) 45 #[] g 0 cap (List.range F.length).toArray w eg (cmpNLays F g 0 _ w) (holds_of_ownN (encN_len F) h0) hb (by simp; omega) (cmpN_total F)
  have hcon' : Calls Try.prog 44 #[.slice (some ⟨g, 0, none⟩) (List.range F.length).toArray.size cap, .func (.func 45) #[] #[]] w _ := hcon
  rw [show (List.range F.length).toArray.size = F.length by simp] at hcon'
  refine hcon'.mono ?_
  rintro e w' ⟨he, m, os, hw⟩
  obtain ⟨h1, h2⟩ := own_of_sortN (encN_len F) h0 (l' := sortN F) (by rw [sortN_len, List.length_range]) m os
  have hw' : w' = sortWorldK (encN F) 12 w g 0 m (sortN F).toArray os := hw
  rw [hw']
  refine ⟨he, ?_, h2⟩
  rw [OwnK, sortK_len, kcs_sortK]
  rw [List.length_range] at h1
  exact h1
theorem sortKept_none (p : Option Addr) (cap : Nat) (fv : Value) (w : World) : Calls Try.prog 44 #[.slice p 0 cap, fv] w fun e w' => e = .returned (.tuple #[]) ∧ w = w' :=
  (AnyF.slices_SortFunc_none { Try.sortK with } p cap fv w).mono fun _ _ ⟨h, h'⟩ => ⟨h, h'.symm⟩
end Go.Proofs.Ytmleeohaaipdcaa
