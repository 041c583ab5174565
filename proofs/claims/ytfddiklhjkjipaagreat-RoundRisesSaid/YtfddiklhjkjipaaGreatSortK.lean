/-
  The library's sort by a function on rows that a call owns, at elements of any number of cells: a sorted list with the same elements.
-/
import Derived.Test.YtfddiklhjkjipaaGreatBase
import Derived.Test.YtfddiklhjkjipaaGreatLay
namespace Go.Proofs.YtfddiklhjkjipaaGreat
set_option linter.unusedSimpArgs false
set_option linter.unusedVariables false
set_option linter.unusedSectionVars false
open Go.RowKit Go.Sort Go.Lib

section
variable {α : Type} [Inhabited α] {enc : α → List Value} {k : Nat}
omit [Inhabited α] in
theorem ownK_len {w : World} {base n : Nat} {e : TypeId} {v : Value} {l : List α} (hk : ∀ x, (enc x).length = k) (hk0 : 0 < k) (h : w.ownsRow base e k v n (l.flatMap enc)) : n = l.length := by
  have h1 := h.1
  rw [flat_length hk] at h1
  exact (Nat.eq_of_mul_eq_mul_right hk0 h1).symm
theorem flatK_eq (hk : ∀ x, (enc x).length = k) (hk0 : 0 < k) (l : List α) {j : Nat} (hj : j < l.length * k) : (l.flatMap enc)[j]? = some ((flatK enc k l.toArray)[j]!) := by
  have hi : j / k < l.length := Nat.div_lt_of_lt_mul (by rw [Nat.mul_comm]; exact hj)
  have hm : j % k < k := Nat.mod_lt _ hk0
  have hp : l[j / k]? = some l[j / k] := List.getElem?_eq_getElem hi
  have h1 := flat_get hk l (j / k) (j % k) _ hp hm
  rw [show j / k * k + j % k = j by rw [Nat.mul_comm]; exact Nat.div_add_mod j k] at h1
  rw [h1, get_flatK _ _ _ _ (by simpa using hj)]
  have h2 : j % k < (enc l[j / k]).length := by rw [hk]; exact hm
  simp [hi, h2]
theorem holds_of_ownK {w : World} {base g n cap : Nat} {e : TypeId} {l : List α} (hk : ∀ x, (enc x).length = k) (hk0 : 0 < k) (h : w.ownsRow base e k (.slice (some ⟨g, 0, none⟩) n cap) n (l.flatMap enc)) : HoldsK enc k w g 0 l.toArray := by
  intro j hj
  have hn := ownK_len hk hk0 h
  have hj' : j < l.length * k := by simpa using hj
  rw [Nat.zero_add, h.cellAt _ (by rw [hn]; exact hj'), h.frozenAt]
  exact ⟨flatK_eq hk hk0 l hj', rfl⟩
theorem own_of_sortK {w : World} {base g n cap : Nat} {e : TypeId} {l l' : List α} (hk : ∀ x, (enc x).length = k) (hk0 : 0 < k) (h : w.ownsRow base e k (.slice (some ⟨g, 0, none⟩) n cap) n (l.flatMap enc)) (hl : l'.length = l.length) (m : Nat) (os : Array Obj) :
    (sortWorldK enc k w g 0 m l'.toArray os).ownsRow base e k (.slice (some ⟨g, 0, none⟩) n cap) n (l'.flatMap enc) ∧ w.grownBy (sortWorldK enc k w g 0 m l'.toArray os) (some g) := by
  have hn := ownK_len hk hk0 h
  rcases h.2 with ⟨h', _⟩ | ⟨g', cap', cur, h', hb, hg, hnc, hcm, hcs, htake⟩
  · simp at h'
  · simp only [Value.slice.injEq, Option.some.injEq, Addr.mk.injEq, and_true, true_and] at h'
    obtain ⟨rfl, rfl⟩ := h'
    have hlt : g < w.heap.size := by
      rcases Nat.lt_or_ge g w.heap.size with hlt | hge
      · exact hlt
      · rw [Array.getElem?_eq_none hge] at hg; cases hg
    have hheap : (sortWorldK enc k w g 0 m l'.toArray os).heap[g]? = some (.cells (putCells id 0 (flatK enc k l'.toArray) cur) e (0, 0)) := by
      unfold sortWorldK
      rw [heap_grow_old _ _ (by simpa [putRowK, putRow, mapBlock, ahead] using hlt)]
      simp [putRowK, putRow, mapBlock, Array.getElem?_modify, hg, onCells]
    have hmul := Nat.mul_le_mul_right k hnc
    refine ⟨⟨by rw [flat_length hk, hl, hn], .inr ⟨g, cap, _, rfl, hb, hheap, hnc, hcm, by simpa [putCells] using hcs, ?_⟩⟩, ⟨rfl, rfl, rfl, ?_, ?_⟩⟩
    · apply List.ext_getElem?
      intro j
      rw [List.getElem?_take]
      split
      · rename_i hj
        have hj' : j < l'.length * k := by rw [hl, ← hn]; exact hj
        have hjc : j < cur.size := by omega
        rw [flatK_eq hk hk0 l' hj']
        simp only [putCells, Array.getElem?_toList, Array.getElem?_mapIdx, Array.getElem?_eq_getElem hjc, Option.map_some]
        rw [if_pos (by simpa using hj'), Nat.sub_zero, id]
      · rename_i hj
        rw [List.getElem?_eq_none (by rw [flat_length hk, hl, ← hn]; omega)]
    · simp [sortWorldK, grow, putRowK, putRow, mapBlock]
    · intro q hq hne
      unfold sortWorldK
      rw [heap_grow_old _ _ (by simpa [putRowK, putRow, mapBlock, ahead] using hq)]
      have : g ≠ q := fun e => hne (by rw [e])
      simp [putRowK, putRow, mapBlock, Array.getElem?_modify, this]
/-- what the sort leaves: the same elements, none less than one ahead of it -/
theorem sorted_of {lt : α → α → Bool} {l : List α} {d' : Array α} (hp : PermIn 0 l.toArray.size l.toArray d') (hs : SortedIn lt 0 l.toArray.size d') : d'.toList.Perm l ∧ d'.toList.Pairwise fun x y => lt y x = false := by
  obtain ⟨hsz, _, hperm⟩ := hp
  have e1 : d'.extract 0 l.toArray.size = d' := by rw [← hsz]; exact Array.extract_size
  rw [e1, Array.extract_size] at hperm
  refine ⟨hperm, ?_⟩
  rw [List.pairwise_iff_getElem]
  intro i j hi hj hij
  have hi' : i < d'.size := by simpa using hi
  have hj' : j < d'.size := by simpa using hj
  have := hs i j (Nat.zero_le _) hij (by omega)
  rw [getElem!_pos d' j hj', getElem!_pos d' i hi'] at this
  simpa using this
end
end Go.Proofs.YtfddiklhjkjipaaGreat
