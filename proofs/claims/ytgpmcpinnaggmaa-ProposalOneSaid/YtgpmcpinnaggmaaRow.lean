/-
  Rows of lives that a call owns: stores, beginnings, clear, and the library's sort by proc.Compare, as laws on the list that the row holds.
-/
import Derived.Test.YtgpmcpinnaggmaaRefA
import Derived.Test.YtgpmcpinnaggmaaLay
import Derived.Lib.SlicesCompact
import Derived.Lib.SliceRun
namespace Go.Proofs.Ytgpmcpinnaggmaa
set_option linter.unusedSimpArgs false
set_option linter.unusedVariables false
set_option linter.unusedSectionVars false
open Go.RowKit Go.Sort Go.Lib

theorem pcs_get {l : List (Int × Int)} {i : Nat} {p : Int × Int} (h : l[i]? = some p) : (pcs l)[i * 2]? = some (.int .i64 p.1) ∧ (pcs l)[i * 2 + 1]? = some (.int .u64 p.2) := by
  constructor
  · have := flat_get pc_len l i 0 p h (by omega)
    rw [Nat.add_zero] at this
    rw [pcs, this]; rfl
  · rw [pcs, flat_get pc_len l i 1 p h (by omega)]; rfl
theorem pcs_set : ∀ (l : List (Int × Int)) (i : Nat) (a b : Int), ((pcs l).set (i * 2) (.int .i64 a)).set (i * 2 + 1) (.int .u64 b) = pcs (l.set i (a, b)) := by
  intro l
  induction l with
  | nil => intro i a b; simp [pcs]
  | cons x l ih =>
    intro i a b
    cases i with
    | zero => simp [pcs, pc]
    | succ i =>
      have := ih i a b
      rw [List.set_cons_succ]
      show _ = pc x ++ pcs (l.set i (a, b))
      rw [← this]
      show ((Value.int .i64 x.1 :: Value.int .u64 x.2 :: pcs l).set _ _).set _ _ = Value.int .i64 x.1 :: Value.int .u64 x.2 :: _
      rw [show (i + 1) * 2 = i * 2 + 1 + 1 by omega, List.set_cons_succ, List.set_cons_succ, List.set_cons_succ, List.set_cons_succ]
      rfl

section
variable {w : World} {base : Nat} {g n cap : Nat} {l : List (Int × Int)}
abbrev OwnP (w : World) (base : Nat) (v : Value) (l : List (Int × Int)) : Prop := w.ownsRow base 26 2 v l.length (pcs l)
theorem own_len {v : Value} (h : w.ownsRow base 26 2 v n (pcs l)) : n = l.length := by have := h.1; rw [pcs_len] at this; omega
theorem own_at2 (h : w.ownsRow base 26 2 (.slice (some ⟨g, 0, none⟩) n cap) n (pcs l)) {i : Nat} {p : Int × Int} (hp : l[i]? = some p) :
    w.cell? ⟨g, i * 2, none⟩ = some (.int .i64 p.1) ∧ w.cell? ⟨g, i * 2 + 1, none⟩ = some (.int .u64 p.2) := by
  have hl : i < l.length := (List.getElem?_eq_some_iff.1 hp).1
  have hn := own_len h
  obtain ⟨h1, h2⟩ := pcs_get hp
  rw [h.cellAt _ (by omega), h.cellAt _ (by omega)]
  exact ⟨h1, h2⟩
theorem own_set2 (h : w.ownsRow base 26 2 (.slice (some ⟨g, 0, none⟩) n cap) n (pcs l)) (i : Nat) (a b : Int) :
    ((w.setCell ⟨g, i * 2, none⟩ (.int .i64 a)).setCell ⟨g, i * 2 + 1, none⟩ (.int .u64 b)).ownsRow base 26 2 (.slice (some ⟨g, 0, none⟩) n cap) n (pcs (l.set i (a, b))) ∧
    w.grownBy ((w.setCell ⟨g, i * 2, none⟩ (.int .i64 a)).setCell ⟨g, i * 2 + 1, none⟩ (.int .u64 b)) (some g) := by
  obtain ⟨h1, g1⟩ := h.stored (i * 2) (.int .i64 a)
  obtain ⟨h2, g2⟩ := h1.stored (i * 2 + 1) (.int .u64 b)
  rw [pcs_set] at h2
  exact ⟨h2, g1.trans g2⟩
end

/-- the beginning of an owned row -/
theorem own_take {w : World} {base : Nat} {e : TypeId} {k g n cap m : Nat} {xs : List Value} (h : w.ownsRow base e k (.slice (some ⟨g, 0, none⟩) n cap) n xs) (hm : m ≤ n) :
    w.ownsRow base e k (.slice (some ⟨g, 0, none⟩) m cap) m (xs.take (m * k)) := by
  rcases h.2 with ⟨h', _⟩ | ⟨g', cap', cur, h', hb, hg, hnc, hcm, hcs, htake⟩
  · simp at h'
  · simp only [Value.slice.injEq, Option.some.injEq, Addr.mk.injEq, and_true, true_and] at h'
    obtain ⟨rfl, rfl⟩ := h'
    have hmn : m * k ≤ n * k := Nat.mul_le_mul_right k hm
    refine ⟨by rw [List.length_take, h.1]; omega, .inr ⟨g, cap, cur, rfl, hb, hg, by omega, hcm, hcs, ?_⟩⟩
    rw [← htake, List.take_take]; congr 1; omega
/-- cells stored behind the beginning leave it as it was -/
theorem own_setCells {e : TypeId} {k base g n cap : Nat} : ∀ (vs : List Value) (o : Nat) (w : World) (xs : List Value), w.ownsRow base e k (.slice (some ⟨g, 0, none⟩) n cap) n xs → n * k ≤ o →
    (w.setCells g o vs).ownsRow base e k (.slice (some ⟨g, 0, none⟩) n cap) n xs ∧ w.grownBy (w.setCells g o vs) (some g) := by
  intro vs
  induction vs with
  | nil => intro o w xs h _; exact ⟨h, World.grownBy.refl _ _⟩
  | cons v vs ih =>
    intro o w xs h ho
    obtain ⟨h1, g1⟩ := h.stored o v
    rw [List.set_eq_of_length_le (by have := h.1; omega)] at h1
    obtain ⟨h2, g2⟩ := ih (o + 1) _ xs h1 (by omega)
    exact ⟨h2, g1.trans g2⟩
/-- 'clear' on a slice of whatever cells: some cells are stored there -/
theorem run_clear_cells {P : Program} (w : World) (t e ty : TypeId) (z : Value) (ht : P.underlying t = some (.slice e)) (hv : ∀ w, (zeroValue e).run P w = .ok z w) (h1 : ∀ u ∈ z.cells.toList, u.oneCell' = true) (hz : 0 < z.cells.size) (b o n c : Nat)
    (hc : ∀ j, j < n * z.cells.size → (w.cell? ⟨b, o + j, none⟩).isSome = true) (hf : ∀ j, j < n * z.cells.size → w.frozen? ⟨b, o + j, none⟩ = false) :
    (Builtin.clear_ #[t] ty #[.slice (some ⟨b, o, none⟩) n c]).run P w = .ok (.tuple #[]) (w.setCells b o (Builtin.zeroCells z.cells n).toList) := by
  have hs := size_zeroCells z.cells n
  have hone : ∀ v ∈ (Builtin.zeroCells z.cells n).toList, v.oneCell' = true := by
    intro v hv
    simp [Builtin.zeroCells] at hv
    obtain ⟨i, hi, rfl⟩ := hv
    have hlt : i % z.cells.size < z.cells.size := Nat.mod_lt _ hz
    apply h1
    simp [hlt]
  have hst := run_storeCells_cells (P := P) b o (Builtin.zeroCells z.cells n).toList 0 w (by simpa [hs] using hc) (by simpa [hs] using hf) hone
  simp only [Nat.add_zero] at hst
  rcases Nat.eq_zero_or_pos n with h0 | h0
  · subst h0
    have : (Builtin.zeroCells z.cells 0).toList = [] := by simp [Builtin.zeroCells]
    rw [this]
    simp [Builtin.clear_, run_underlying ht, World.setCells]
  · obtain ⟨m, rfl⟩ : ∃ m, n = m + 1 := ⟨n - 1, by omega⟩
    simp [Builtin.clear_, run_underlying ht, hv, hst]

/-! ### the sort -/
theorem holds_of_own {w : World} {base g n cap : Nat} {l : List (Int × Int)} (h : w.ownsRow base 26 2 (.slice (some ⟨g, 0, none⟩) n cap) n (pcs l)) : HoldsK pc 2 w g 0 l.toArray := by
  intro j hj
  have hn := own_len h
  have hj' : j < l.length * 2 := by simpa using hj
  rw [Nat.zero_add, h.cellAt _ (by omega), h.frozenAt]
  refine ⟨?_, rfl⟩
  rw [get_flatK _ _ _ _ (by simpa using hj')]
  have hi : j / 2 < l.length := by omega
  have hp : l[j / 2]? = some l[j / 2] := List.getElem?_eq_getElem hi
  have := flat_get pc_len l (j / 2) (j % 2) _ hp (by omega)
  rw [show j / 2 * 2 + j % 2 = j by omega] at this
  rw [pcs, this]
  have h2 : j % 2 < (pc l[j / 2]).length := by rw [pc_len]; omega
  simp [hi, h2]
theorem own_of_sort {w : World} {base g n cap : Nat} {l l' : List (Int × Int)} (h : w.ownsRow base 26 2 (.slice (some ⟨g, 0, none⟩) n cap) n (pcs l)) (hl : l'.length = l.length) (m : Nat) (os : Array Obj) :
    (sortWorldK pc 2 w g 0 m l'.toArray os).ownsRow base 26 2 (.slice (some ⟨g, 0, none⟩) n cap) n (pcs l') ∧ w.grownBy (sortWorldK pc 2 w g 0 m l'.toArray os) (some g) := by
  have hn := own_len h
  rcases h.2 with ⟨h', _⟩ | ⟨g', cap', cur, h', hb, hg, hnc, hcm, hcs, htake⟩
  · simp at h'
  · simp only [Value.slice.injEq, Option.some.injEq, Addr.mk.injEq, and_true, true_and] at h'
    obtain ⟨rfl, rfl⟩ := h'
    have hlt : g < w.heap.size := by
      rcases Nat.lt_or_ge g w.heap.size with hlt | hge
      · exact hlt
      · rw [Array.getElem?_eq_none hge] at hg; cases hg
    have hheap : (sortWorldK pc 2 w g 0 m l'.toArray os).heap[g]? = some (.cells (putCells id 0 (flatK pc 2 l'.toArray) cur) 26 (0, 0)) := by
      unfold sortWorldK
      rw [heap_grow_old _ _ (by simpa [putRowK, putRow, mapBlock, ahead] using hlt)]
      simp [putRowK, putRow, mapBlock, Array.getElem?_modify, hg, onCells]
    refine ⟨⟨by rw [pcs_len]; omega, .inr ⟨g, cap, _, rfl, hb, hheap, hnc, hcm, by simpa [putCells] using hcs, ?_⟩⟩, ⟨rfl, rfl, rfl, ?_, ?_⟩⟩
    · apply List.ext_getElem?
      intro j
      rw [List.getElem?_take]
      split
      · rename_i hj
        have hj' : j < l'.length * 2 := by omega
        have hjc : j < cur.size := by have := Nat.mul_le_mul_right 2 hnc; omega
        have hi : j / 2 < l'.length := by omega
        have hp : l'[j / 2]? = some l'[j / 2] := List.getElem?_eq_getElem hi
        have := flat_get pc_len l' (j / 2) (j % 2) _ hp (by omega)
        rw [show j / 2 * 2 + j % 2 = j by omega] at this
        rw [pcs, this]
        have h2 : j % 2 < (pc l'[j / 2]).length := by rw [pc_len]; omega
        have hget := get_flatK pc 2 l'.toArray j (by simpa using hj')
        simp only [putCells, Array.getElem?_toList, Array.getElem?_mapIdx, Array.getElem?_eq_getElem hjc, Option.map_some]
        rw [if_pos (by simp; omega), Nat.sub_zero, id, hget]
        simp [hi, h2]
      · rename_i hj
        rw [List.getElem?_eq_none (by rw [pcs_len]; omega)]
    · simp [sortWorldK, grow, putRowK, putRow, mapBlock]
    · intro k hk hne
      unfold sortWorldK
      rw [heap_grow_old _ _ (by simpa [putRowK, putRow, mapBlock, ahead] using hk)]
      have : g ≠ k := fun e => hne (by rw [e])
      simp [putRowK, putRow, mapBlock, Array.getElem?_modify, this]

theorem cmpP_lt (x y : Int × Int) : ltOf cmpP x y = decide (x.1 < y.1 ∨ x.1 = y.1 ∧ x.2 < y.2) := by
  unfold ltOf
  have := befB_cmp x.1 x.2 y.1 y.2
  unfold befB at this
  exact this.symm
theorem cmpP_swo : SWO (ltOf cmpP) where
  irrefl x := by rw [cmpP_lt]; simp
  trans x y z h1 h2 := by rw [cmpP_lt] at *; simp at *; omega
  ntrans x y z h1 h2 := by rw [cmpP_lt] at *; simp at *; omega
theorem cmpP_total (x y : Int × Int) (h1 : ltOf cmpP x y = false) (h2 : ltOf cmpP y x = false) : x = y := by
  rw [cmpP_lt] at *; simp at *; obtain ⟨a, b⟩ := x; obtain ⟨c, d⟩ := y; simp at *; omega
/-- the lives in their order, as often as they stand there -/
def sortL (l : List (Int × Int)) : List (Int × Int) := l.mergeSort fun x y => !ltOf cmpP y x
theorem sortL_len (l : List (Int × Int)) : (sortL l).length = l.length := List.length_mergeSort _

theorem cmpLays (blk off size : Nat) (w : World) : CmpLays Try.prog 107 #[] pc 2 cmpP blk off size w :=
  fun _ _ _ _ x y => (compare_any x.1 x.2 y.1 y.2 _).mono fun e w' ⟨he, hw⟩ => ⟨he, 0, #[bx x.1 x.2] ++ #[bx y.1 y.2], by rw [← hw, alloc_eq_grow, alloc_eq_grow, grow_grow]; rfl⟩

theorem sortFunc_own (base g cap : Nat) (l : List (Int × Int)) (w : World) (h : OwnP w base (.slice (some ⟨g, 0, none⟩) l.length cap) l) (hb : g < w.heap.size) (hn : l.length ≤ 1000000) :
    Calls Try.prog 106 #[.slice (some ⟨g, 0, none⟩) l.length cap, .func (.func 107) #[] #[]] w fun e w' => e = .returned (.tuple #[]) ∧ OwnP w' base (.slice (some ⟨g, 0, none⟩) (sortL l).length cap) (sortL l) ∧ w.grownBy w' (some g) := by
  have eg : ∀ args w, (callFunc 107 args).run Try.prog w = .ok (.enter 107 args) w := enters_of Try.func107 (by kernel_rfl) rfl
  have hcon := AnyQ.slices_SortFunc_total Try.sortP 2 Try.isAgg26 Try.sizeOf26 pc pc_len (fun x v hv => pc_one [x] v (by simpa [pcs] using hv)) cmpP cmpP_swo 107 #[] g 0 cap l.toArray w eg (cmpLays g 0 _ w) (holds_of_own h) hb (by simp; omega) cmpP_total
  have hcon' : Calls Try.prog 106 #[.slice (some ⟨g, 0, none⟩) l.length cap, .func (.func 107) #[] #[]] w _ := hcon
  refine hcon'.mono ?_
  rintro e w' ⟨he, m, os, hw⟩
  obtain ⟨h1, h2⟩ := own_of_sort h (sortL_len l) m os
  have hw' : w' = sortWorldK pc 2 w g 0 m (sortL l).toArray os := hw
  rw [hw']
  exact ⟨he, by rw [OwnP, sortL_len]; exact h1, h2⟩
theorem sortFunc_none (p : Option Addr) (cap : Nat) (fv : Value) (w : World) : Calls Try.prog 106 #[.slice p 0 cap, fv] w fun e w' => e = .returned (.tuple #[]) ∧ w = w' :=
  (AnyF.slices_SortFunc_none { Try.sortP with } p cap fv w).mono fun _ _ ⟨h, h'⟩ => ⟨h, h'.symm⟩

end Go.Proofs.Ytgpmcpinnaggmaa
