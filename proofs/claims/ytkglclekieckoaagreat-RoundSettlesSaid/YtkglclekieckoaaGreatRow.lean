/-
  Rows of lives that a call owns: stores, beginnings, clear, and the library's sort by proc.Compare, as laws on the list that the row holds.
-/
import Derived.Test.YtkglclekieckoaaGreatCmp
import Derived.Test.YtkglclekieckoaaGreatLay
import Derived.Lib.SlicesCompact
import Derived.Lib.SliceRun
import Derived.Shelf.SlSortCmp.NoneTotal
import Derived.Shelf.SlSortCmp.WholeK
import Derived.Lib.AppendZeros
namespace Go.Proofs.YtkglclekieckoaaGreat
set_option linter.unusedSimpArgs false
set_option linter.unusedVariables false
set_option linter.unusedSectionVars false
open Go.RowKit Go.Sort Go.Lib

theorem pcs_get {l : List (Int × Int)} {i : Nat} {p : Int × Int} (h : l[i]? = some p) : (pcs l)[i * 2]? = some (.int .i64 p.1) ∧ (pcs l)[i * 2 + 1]? = some (.int .u64 p.2) := by
  constructor
  · have := flat_get pc_len l i 0 p h (by omega)
    rw [Nat.add_zero] at this
    rw [pcs, this]; rfl
  · rw [pcs, flat_get pc_len l i 1 p h (by omega)]; rfl
theorem pcs_set : ∀ (l : List (Int × Int)) (i : Nat) (a b : Int), ((pcs l).set (i * 2) (.int .i64 a)).set (i * 2 + 1) (.int .u64 b) = pcs (l.set i (a, b)) := by
  intro l
  induction l with
  | nil => intro i a b; simp [pcs]
  | cons x l ih =>
    intro i a b
    cases i with
    | zero => simp [pcs, pc]
    | succ i =>
      have := ih i a b
      rw [List.set_cons_succ]
      show _ = pc x ++ pcs (l.set i (a, b))
      rw [← this]
      show ((Value.int .i64 x.1 :: Value.int .u64 x.2 :: pcs l).set _ _).set _ _ = Value.int .i64 x.1 :: Value.int .u64 x.2 :: _
      rw [show (i + 1) * 2 = i * 2 + 1 + 1 by omega, List.set_cons_succ, List.set_cons_succ, List.set_cons_succ, List.set_cons_succ]
      rfl

section
variable {w : World} {base : Nat} {g n cap : Nat} {l : List (Int × Int)}
abbrev OwnP (w : World) (base : Nat) (v : Value) (l : List (Int × Int)) : Prop := w.ownsRow base 25 2 v l.length (pcs l)
theorem own_len {v : Value} (h : w.ownsRow base 25 2 v n (pcs l)) : n = l.length := by have := h.1; rw [pcs_len] at this; omega
theorem own_at2 (h : w.ownsRow base 25 2 (.slice (some ⟨g, 0, none⟩) n cap) n (pcs l)) {i : Nat} {p : Int × Int} (hp : l[i]? = some p) :
    w.cell? ⟨g, i * 2, none⟩ = some (.int .i64 p.1) ∧ w.cell? ⟨g, i * 2 + 1, none⟩ = some (.int .u64 p.2) := by
  have hl : i < l.length := (List.getElem?_eq_some_iff.1 hp).1
  have hn := own_len h
  obtain ⟨h1, h2⟩ := pcs_get hp
  rw [h.cellAt _ (by omega), h.cellAt _ (by omega)]
  exact ⟨h1, h2⟩
theorem own_set2 (h : w.ownsRow base 25 2 (.slice (some ⟨g, 0, none⟩) n cap) n (pcs l)) (i : Nat) (a b : Int) :
    ((w.setCell ⟨g, i * 2, none⟩ (.int .i64 a)).setCell ⟨g, i * 2 + 1, none⟩ (.int .u64 b)).ownsRow base 25 2 (.slice (some ⟨g, 0, none⟩) n cap) n (pcs (l.set i (a, b))) ∧
    w.grownBy ((w.setCell ⟨g, i * 2, none⟩ (.int .i64 a)).setCell ⟨g, i * 2 + 1, none⟩ (.int .u64 b)) (some g) := by
  obtain ⟨h1, g1⟩ := h.stored (i * 2) (.int .i64 a)
  obtain ⟨h2, g2⟩ := h1.stored (i * 2 + 1) (.int .u64 b)
  rw [pcs_set] at h2
  exact ⟨h2, g1.trans g2⟩
end

/-- the beginning of an owned row -/
theorem own_take {w : World} {base : Nat} {e : TypeId} {k g n cap m : Nat} {xs : List Value} (h : w.ownsRow base e k (.slice (some ⟨g, 0, none⟩) n cap) n xs) (hm : m ≤ n) :
    w.ownsRow base e k (.slice (some ⟨g, 0, none⟩) m cap) m (xs.take (m * k)) := by
  rcases h.2 with ⟨h', _⟩ | ⟨g', cap', cur, h', hb, hg, hnc, hcm, hcs, htake⟩
  · simp at h'
  · simp only [Value.slice.injEq, Option.some.injEq, Addr.mk.injEq, and_true, true_and] at h'
    obtain ⟨rfl, rfl⟩ := h'
    have hmn : m * k ≤ n * k := Nat.mul_le_mul_right k hm
    refine ⟨by rw [List.length_take, h.1]; omega, .inr ⟨g, cap, cur, rfl, hb, hg, by omega, hcm, hcs, ?_⟩⟩
    rw [← htake, List.take_take]; congr 1; omega
/-- cells stored behind the beginning leave it as it was -/
theorem own_setCells {e : TypeId} {k base g n cap : Nat} : ∀ (vs : List Value) (o : Nat) (w : World) (xs : List Value), w.ownsRow base e k (.slice (some ⟨g, 0, none⟩) n cap) n xs → n * k ≤ o →
    (w.setCells g o vs).ownsRow base e k (.slice (some ⟨g, 0, none⟩) n cap) n xs ∧ w.grownBy (w.setCells g o vs) (some g) := by
  intro vs
  induction vs with
  | nil => intro o w xs h _; exact ⟨h, World.grownBy.refl _ _⟩
  | cons v vs ih =>
    intro o w xs h ho
    obtain ⟨h1, g1⟩ := h.stored o v
    rw [List.set_eq_of_length_le (by have := h.1; omega)] at h1
    obtain ⟨h2, g2⟩ := ih (o + 1) _ xs h1 (by omega)
    exact ⟨h2, g1.trans g2⟩
/-- 'clear' on a slice of whatever cells: some cells are stored there -/
theorem run_clear_cells {P : Program} (w : World) (t e ty : TypeId) (z : Value) (ht : P.underlying t = some (.slice e)) (hv : ∀ w, (zeroValue e).run P w = .ok z w) (h1 : ∀ u ∈ z.cells.toList, u.oneCell' = true) (hz : 0 < z.cells.size) (b o n c : Nat)
    (hc : ∀ j, j < n * z.cells.size → (w.cell? ⟨b, o + j, none⟩).isSome = true) (hf : ∀ j, j < n * z.cells.size → w.frozen? ⟨b, o + j, none⟩ = false) :
    (Builtin.clear_ #[t] ty #[.slice (some ⟨b, o, none⟩) n c]).run P w = .ok (.tuple #[]) (w.setCells b o (Builtin.zeroCells z.cells n).toList) := by
  have hs := size_zeroCells z.cells n
  have hone : ∀ v ∈ (Builtin.zeroCells z.cells n).toList, v.oneCell' = true := by
    intro v hv
    simp [Builtin.zeroCells] at hv
    obtain ⟨i, hi, rfl⟩ := hv
    have hlt : i % z.cells.size < z.cells.size := Nat.mod_lt _ hz
    apply h1
    simp [hlt]
  have hst := run_storeCells_cells (P := P) b o (Builtin.zeroCells z.cells n).toList 0 w (by simpa [hs] using hc) (by simpa [hs] using hf) hone
  simp only [Nat.add_zero] at hst
  rcases Nat.eq_zero_or_pos n with h0 | h0
  · subst h0
    have : (Builtin.zeroCells z.cells 0).toList = [] := by simp [Builtin.zeroCells]
    rw [this]
    simp [Builtin.clear_, run_underlying ht, World.setCells]
  · obtain ⟨m, rfl⟩ : ∃ m, n = m + 1 := ⟨n - 1, by omega⟩
    simp [Builtin.clear_, run_underlying ht, hv, hst]

/-! ### the sort -/
theorem holds_of_own {w : World} {base g n cap : Nat} {l : List (Int × Int)} (h : w.ownsRow base 25 2 (.slice (some ⟨g, 0, none⟩) n cap) n (pcs l)) : HoldsK pc 2 w g 0 l.toArray := by
  intro j hj
  have hn := own_len h
  have hj' : j < l.length * 2 := by simpa using hj
  rw [Nat.zero_add, h.cellAt _ (by omega), h.frozenAt]
  refine ⟨?_, rfl⟩
  rw [get_flatK _ _ _ _ (by simpa using hj')]
  have hi : j / 2 < l.length := by omega
  have hp : l[j / 2]? = some l[j / 2] := List.getElem?_eq_getElem hi
  have := flat_get pc_len l (j / 2) (j % 2) _ hp (by omega)
  rw [show j / 2 * 2 + j % 2 = j by omega] at this
  rw [pcs, this]
  have h2 : j % 2 < (pc l[j / 2]).length := by rw [pc_len]; omega
  simp [hi, h2]
theorem own_of_sort {w : World} {base g n cap : Nat} {l l' : List (Int × Int)} (h : w.ownsRow base 25 2 (.slice (some ⟨g, 0, none⟩) n cap) n (pcs l)) (hl : l'.length = l.length) (m : Nat) (os : Array Obj) :
    (sortWorldK pc 2 w g 0 m l'.toArray os).ownsRow base 25 2 (.slice (some ⟨g, 0, none⟩) n cap) n (pcs l') ∧ w.grownBy (sortWorldK pc 2 w g 0 m l'.toArray os) (some g) := by
  have hn := own_len h
  rcases h.2 with ⟨h', _⟩ | ⟨g', cap', cur, h', hb, hg, hnc, hcm, hcs, htake⟩
  · simp at h'
  · simp only [Value.slice.injEq, Option.some.injEq, Addr.mk.injEq, and_true, true_and] at h'
    obtain ⟨rfl, rfl⟩ := h'
    have hlt : g < w.heap.size := by
      rcases Nat.lt_or_ge g w.heap.size with hlt | hge
      · exact hlt
      · rw [Array.getElem?_eq_none hge] at hg; cases hg
    have hheap : (sortWorldK pc 2 w g 0 m l'.toArray os).heap[g]? = some (.cells (putCells id 0 (flatK pc 2 l'.toArray) cur) 25 (0, 0)) := by
      unfold sortWorldK
      rw [heap_grow_old _ _ (by simpa [putRowK, putRow, mapBlock, ahead] using hlt)]
      simp [putRowK, putRow, mapBlock, Array.getElem?_modify, hg, onCells]
    refine ⟨⟨by rw [pcs_len]; omega, .inr ⟨g, cap, _, rfl, hb, hheap, hnc, hcm, by simpa [putCells] using hcs, ?_⟩⟩, ⟨rfl, rfl, rfl, ?_, ?_⟩⟩
    · apply List.ext_getElem?
      intro j
      rw [List.getElem?_take]
      split
      · rename_i hj
        have hj' : j < l'.length * 2 := by omega
        have hjc : j < cur.size := by have := Nat.mul_le_mul_right 2 hnc; omega
        have hi : j / 2 < l'.length := by omega
        have hp : l'[j / 2]? = some l'[j / 2] := List.getElem?_eq_getElem hi
        have := flat_get pc_len l' (j / 2) (j % 2) _ hp (by omega)
        rw [show j / 2 * 2 + j % 2 = j by omega] at this
        rw [pcs, this]
        have h2 : j % 2 < (pc l'[j / 2]).length := by rw [pc_len]; omega
        have hget := get_flatK pc 2 l'.toArray j (by simpa using hj')
        simp only [putCells, Array.getElem?_toList, Array.getElem?_mapIdx, Array.getElem?_eq_getElem hjc, Option.map_some]
        rw [if_pos (by simp; omega), Nat.sub_zero, id, hget]
        simp [hi, h2]
      · rename_i hj
        rw [List.getElem?_eq_none (by rw [pcs_len]; omega)]
    · simp [sortWorldK, grow, putRowK, putRow, mapBlock]
    · intro k hk hne
      unfold sortWorldK
      rw [heap_grow_old _ _ (by simpa [putRowK, putRow, mapBlock, ahead] using hk)]
      have : g ≠ k := fun e => hne (by rw [e])
      simp [putRowK, putRow, mapBlock, Array.getElem?_modify, this]

theorem cmpP_lt (x y : Int × Int) : ltOf cmpP x y = decide (x.1 < y.1 ∨ x.1 = y.1 ∧ x.2 < y.2) := by
  unfold ltOf
  have := befB_cmp x.1 x.2 y.1 y.2
  unfold befB at this
  exact this.symm
theorem cmpP_swo : SWO (ltOf cmpP) where
  irrefl x := by rw [cmpP_lt]; simp
  trans x y z h1 h2 := by rw [cmpP_lt] at *; simp at *; omega
  ntrans x y z h1 h2 := by rw [cmpP_lt] at *; simp at *; omega
theorem cmpP_total (x y : Int × Int) (h1 : ltOf cmpP x y = false) (h2 : ltOf cmpP y x = false) : x = y := by
  rw [cmpP_lt] at *; simp at *; obtain ⟨a, b⟩ := x; obtain ⟨c, d⟩ := y; simp at *; omega
/-- the lives in their order, as often as they stand there -/
def sortL (l : List (Int × Int)) : List (Int × Int) := l.mergeSort fun x y => !ltOf cmpP y x
theorem sortL_len (l : List (Int × Int)) : (sortL l).length = l.length := List.length_mergeSort _

theorem cmpLays (blk off size : Nat) (w : World) : CmpLays Tryz.prog 82 #[] pc 2 cmpP blk off size w :=
  fun _ _ _ _ x y => (compare_any x.1 x.2 y.1 y.2 _).mono fun e w' ⟨he, hw⟩ => ⟨he, 0, #[bx x.1 x.2] ++ #[bx y.1 y.2], by rw [← hw, alloc_eq_grow, alloc_eq_grow, grow_grow]; rfl⟩

theorem sortFunc_own (base g cap : Nat) (l : List (Int × Int)) (w : World) (h : OwnP w base (.slice (some ⟨g, 0, none⟩) l.length cap) l) (hb : g < w.heap.size) (hn : l.length ≤ 1000000) :
    Calls Tryz.prog 81 #[.slice (some ⟨g, 0, none⟩) l.length cap, .func (.func 82) #[] #[]] w fun e w' => e = .returned (.tuple #[]) ∧ OwnP w' base (.slice (some ⟨g, 0, none⟩) (sortL l).length cap) (sortL l) ∧ w.grownBy w' (some g) := by
  have eg : ∀ args w, (callFunc 82 args).run Tryz.prog w = .ok (.enter 82 args) w := enters_of Tryz.func82 (by kernel_rfl) rfl
  have hcon := AnyQ.slices_SortFunc_total Tryz.sortP 2 Tryz.isAgg25 Tryz.sizeOf25 pc pc_len (fun x v hv => pc_one [x] v (by simpa [pcs] using hv)) cmpP cmpP_swo 82 #[] g 0 cap l.toArray w eg (cmpLays g 0 _ w) (holds_of_own h) hb (by simp; omega) cmpP_total
  have hcon' : Calls Tryz.prog 81 #[.slice (some ⟨g, 0, none⟩) l.length cap, .func (.func 82) #[] #[]] w _ := hcon
  refine hcon'.mono ?_
  rintro e w' ⟨he, m, os, hw⟩
  obtain ⟨h1, h2⟩ := own_of_sort h (sortL_len l) m os
  have hw' : w' = sortWorldK pc 2 w g 0 m (sortL l).toArray os := hw
  rw [hw']
  exact ⟨he, by rw [OwnP, sortL_len]; exact h1, h2⟩
theorem sortFunc_none (p : Option Addr) (cap : Nat) (fv : Value) (w : World) : Calls Tryz.prog 81 #[.slice p 0 cap, fv] w fun e w' => e = .returned (.tuple #[]) ∧ w = w' :=
  (AnyF.slices_SortFunc_none { Tryz.sortP with } p cap fv w).mono fun _ _ ⟨h, h'⟩ => ⟨h, h'.symm⟩

end Go.Proofs.YtkglclekieckoaaGreat

namespace Go.Proofs.YtkglclekieckoaaGreat
set_option linter.unusedSimpArgs false
set_option linter.unusedVariables false
set_option linter.unusedSectionVars false
open Go.RowKit Go.Sort Go.Lib

theorem get!_of {l : List (Int × Int)} {i : Nat} (h : i < l.length) : l[i]? = some (l.toArray[i]!) := by simp [h]
theorem get!_arr {d : Array (Int × Int)} {i : Nat} (h : i < d.size) : d.toList[i]? = some (d[i]!) := by simp [h]
theorem compact_short {l : List (Int × Int)} (h : l.length < 2) : compact l = l := compact_all l fun j hj => keeps_lt_one _ j (by omega)

set_option maxHeartbeats 2000000 in
theorem compact_own (base g cap : Nat) (l : List (Int × Int)) (w : World) (h : OwnP w base (.slice (some ⟨g, 0, none⟩) l.length cap) l) (hn : l.length ≤ 1000000) (hc : l.length ≤ cap) (hcap : cap ≤ maxLen) :
    Calls Tryz.prog 84 #[.slice (some ⟨g, 0, none⟩) l.length cap] w fun e w' => e = .returned (.slice (some ⟨g, 0, none⟩) (compact l).length cap) ∧ OwnP w' base (.slice (some ⟨g, 0, none⟩) (compact l).length cap) (compact l) ∧ w.grownBy w' (some g) := by
  unfold maxLen at hcap
  by_cases h2 : l.length < 2
  · have hz := compact_short h2
    rw [hz]
    have HO := hide h
    clear h hz
    go_enter Tryz.func84, Tryz.ntmps84
    go_wp2
    go_ret
    exact ⟨rfl, HO.out, World.grownBy.refl _ _⟩
  · have HO := hide h
    clear h
    have hb8 : decide ((l.length : Int) < 2) = false := by simp; omega
    go_enter Tryz.func84, Tryz.ntmps84
    go_wp2
    go_loopw [3] (fun s3 wr => ∃ k q : Nat, 1 ≤ k ∧ k ≤ l.length ∧ s3 = .int .i64 k ∧ wr = w.drewN q ∧ ∀ j, j < k → keeps l.toArray j = true) (fun s3 _ => l.length - (intOf s3).toNat)
    case atStart => exact ⟨1, 0, Nat.le_refl _, by omega, rfl, rfl, keeps_lt_one _⟩
    case round =>
      obtain ⟨k, q, hk1, hk, rfl, rfl, hall⟩ := hrel
      have HA := hide hall
      clear hall
      by_cases hlt : k < l.length
      · obtain ⟨c1, c2⟩ := own_at2 HO.out (get!_of hlt)
        obtain ⟨b1, b2⟩ := own_at2 HO.out (get!_of (l := l) (i := k - 1) (by omega))
        generalize hx : l.toArray[k]! = x at c1 c2
        generalize hy : l.toArray[k - 1]! = y at b1 b2
        obtain ⟨xn, xi⟩ := x
        obtain ⟨yn, yi⟩ := y
        simp only at c1 c2 b1 b2
        have HX := hide hx
        have HY := hide hy
        clear hx hy
        have i0 : (0 : Int) ≤ (k : Int) := by omega
        have i1 : (k : Int) < (l.length : Int) := by omega
        have i2 : (0 : Int) ≤ (k : Int) - 1 := by omega
        have i3 : (k : Int) - 1 < (l.length : Int) := by omega
        have i4 : ((k : Int) - 1).toNat = k - 1 := by omega
        have i5 : (1 : Int) ≤ (k : Int) := by omega
        cases he : eqP xn xi yn yi
        · have H := hide (show ∀ j, j < k + 1 → keeps l.toArray j = true by
            intro j hj
            by_cases e : j = k
            · subst e
              refine keeps_pos ?_
              rw [HX.out, HY.out]; intro h'; rw [← eqP_iff, he] at h'; cases h'
            · exact HA.out j (by omega))
          go_wp2
          go_quiet (fail)
          go_wp2
          go_roundw
          case rel => exact ⟨k + 1, _, by omega, by omega, by go_num, rfl, H.out⟩
          case measure => simp [intOf]; omega
        · have HD := hide (show keeps l.toArray k = false by
            refine keeps_neg (by omega) ?_
            rw [HX.out, HY.out]; exact eqP_iff.1 he)
          have n1 : ¬ cap = k := by omega
          have n2 : ¬ k = cap := by omega
          have n3 : k ≤ cap := by omega
          go_wp2
          go_quiet (fail)
          go_wp2
          clear c1 c2 b1 b2
          go_loopw [3, 5] (fun s3 s5 wr => ∃ (kk k2 : Nat) (dk : Array (Int × Int)), s3 = .int .i64 kk ∧ s5 = .int .i64 k2 ∧ 1 ≤ k2 ∧ k + k2 ≤ l.length ∧ wr.ownsRow base 25 2 (.slice (some ⟨g, 0, none⟩) l.length cap) l.length (pcs dk.toList) ∧ w.grownBy wr (some g) ∧ CompInv l.toArray (k + k2) kk dk) (fun _ s5 _ => l.length - (intOf s5).toNat)
          case atStart => exact ⟨k, 1, l.toArray, rfl, rfl, Nat.le_refl _, by omega, own_drewN HO.out _, ⟨rfl, rfl, rfl, Nat.le_refl _, fun _ _ _ => rfl⟩, CompInv.start HA.out HD.out⟩
          case round =>
            obtain ⟨kk, k2, dk, rfl, rfl, h1, hle, hown, hgr, hI⟩ := hrel
            have hkk := hI.lt
            have hds := hI.size
            have hds' : dk.toList.length = l.length := by simpa using hds
            have HW := hide hown
            have HG := hide hgr
            have HI := hide hI
            have HS := hide hds
            have HS' := hide hds'
            clear hown hgr hI hds hds'
            by_cases hlt2 : k + k2 < l.length
            · have e1 := own_at2 HW.out (get!_arr (d := dk) (i := k + k2) (by rw [HS.out]; simpa using hlt2))
              have e2 := own_at2 HW.out (get!_arr (d := dk) (i := k + k2 - 1) (by rw [HS.out]; simp; omega))
              have e3 := own_at2 HW.out (get!_arr (d := dk) (i := kk) (by rw [HS.out]; simp; omega))
              have f1 := HW.out.frozenAt (kk * 2)
              have f2 := HW.out.frozenAt (kk * 2 + 1)
              rw [HI.out.high (k + k2) (by omega), show (k + k2) * 2 = k * 2 + k2 * 2 by omega] at e1
              rw [HI.out.high (k + k2 - 1) (by omega), show (k + k2 - 1) * 2 = k * 2 + (k2 - 1) * 2 by omega] at e2
              generalize hu : l.toArray[k + k2]! = u at e1
              generalize hv : l.toArray[k + k2 - 1]! = v at e2
              generalize dk[kk]! = z at e3
              obtain ⟨un, ui⟩ := u
              obtain ⟨vn, vi⟩ := v
              obtain ⟨e11, e12⟩ := e1
              obtain ⟨e21, e22⟩ := e2
              obtain ⟨e31, e32⟩ := e3
              simp only at e11 e12 e21 e22
              have HU := hide hu
              have HV := hide hv
              clear hu hv
              have j0 : (0 : Int) ≤ (k2 : Int) := by omega
              have j1 : (k2 : Int) < (l.length : Int) - (k : Int) := by omega
              have j2 : (0 : Int) ≤ (k2 : Int) - 1 := by omega
              have j3 : (k2 : Int) - 1 < (l.length : Int) - (k : Int) := by omega
              have j4 : ((k2 : Int) - 1).toNat = k2 - 1 := by omega
              have j5 : (1 : Int) ≤ (k2 : Int) := by omega
              have j6 : k2 < l.length - k := by omega
              have j7 : (0 : Int) ≤ (kk : Int) := by omega
              have j8 : (kk : Int) < (l.length : Int) := by omega
              cases he2 : eqP un ui vn vi
              · have HK := hide (show CompInv l.toArray (k + (k2 + 1)) (kk + 1) (dk.setIfInBounds kk (un, ui)) by
                  have := HI.out.keep (by simpa using hlt2) (keeps_pos (by rw [HU.out, HV.out]; intro h'; rw [← eqP_iff, he2] at h'; cases h'))
                  rw [HU.out] at this; exact this)
                go_wp2
                go_quiet (fail)
                go_wp2
                go_roundw
                case rel =>
                  obtain ⟨s1, s2⟩ := own_set2 (own_drewN HW.out nq) kk un ui
                  refine ⟨kk + 1, k2 + 1, dk.setIfInBounds kk (un, ui), by go_num, by go_num, by omega, by omega, ?_, ?_, HK.out⟩
                  · rw [Array.toList_setIfInBounds]; exact s1
                  · exact HG.out.trans ⟨s2.os, s2.tape, s2.output, s2.size, s2.block⟩
                case measure => simp [intOf]; omega
              · have HK := hide (show CompInv l.toArray (k + (k2 + 1)) kk dk from HI.out.skip (keeps_neg (by omega) (by rw [HU.out, HV.out]; exact eqP_iff.1 he2)))
                go_wp2
                go_quiet (fail)
                go_wp2
                go_roundw
                case rel => exact ⟨kk, k2 + 1, dk, rfl, by go_num, by omega, by omega, own_drewN HW.out _, HG.out.trans ⟨rfl, rfl, rfl, Nat.le_refl _, fun _ _ _ => rfl⟩, HK.out⟩
                case measure => simp [intOf]; omega
            · have hend : k + k2 = l.length := by omega
              have HF := hide (show compact l = dk.toList.take kk ∧ (compact l).length = kk by
                have hI := HI.out
                rw [hend] at hI
                have hlen : (compact l).length = kk := hI.len
                refine ⟨?_, hlen⟩
                apply List.ext_getElem?
                intro j
                rw [List.getElem?_take]
                split
                · rename_i hj
                  rw [show dk.toList[j]? = some dk[j]! from get!_arr (by have := HS.out; simp at this; omega)]
                  exact hI.low j hj
                · exact List.getElem?_eq_none (by omega))
              have hcl : ∀ ty, (Builtin.clear_ #[27] ty #[.slice (some ⟨g, kk * 2, none⟩) (l.length - kk) (cap - kk)]).run Tryz.prog wr = .ok (.tuple #[]) (wr.setCells g (kk * 2) (Builtin.zeroCells #[.int .i64 0, .int .u64 0] (l.length - kk)).toList) := fun ty =>
                run_clear_cells wr 27 25 ty (.agg #[.int .i64 0, .int .u64 0]) Tryz.underlying27 (fun _ => by kernel_rfl) (by simp [Value.cells, Value.oneCell']) (by simp [Value.cells]) g (kk * 2) (l.length - kk) (cap - kk)
                  (fun j hj => by
                    have hj' : j < (l.length - kk) * 2 := hj
                    rw [HW.out.cellAt _ (by omega), List.getElem?_eq_getElem (by rw [pcs_len]; have := HS'.out; omega)]; rfl)
                  (fun j hj => HW.out.frozenAt _)
              have HE := hide hend
              have m0 : ¬ cap = kk := by omega
              have m1 : kk ≤ cap := by omega
              have m2 : (0 : Int) ≤ (kk : Int) := by omega
              have m3 : (kk : Int) ≤ (l.length : Int) := by omega
              have m4 : kk ≤ l.length := by omega
              clear hend
              go_wp2
              go_ret
              obtain ⟨s1, s2⟩ := own_setCells (Builtin.zeroCells #[.int .i64 0, .int .u64 0] (l.length - kk)).toList (kk * 2) wr _ (own_take HW.out m4) (Nat.le_refl _)
              refine ⟨?_, ?_, HG.out.trans s2⟩
              · rw [HF.out.2]; rfl
              · rw [OwnP, HF.out.2, HF.out.1, pcs, ← flat_take pc_len]; exact s1
      · have H := hide (show compact l = l from compact_all l fun j hj => HA.out j (by omega))
        go_wp2
        go_ret
        refine ⟨?_, ?_, ?_⟩
        · rw [H.out]; rfl
        · rw [OwnP, H.out]; exact own_drewN HO.out _
        · exact ⟨rfl, rfl, rfl, Nat.le_refl _, fun _ _ _ => rfl⟩


/-- one life in a new block -/
theorem reads_one (w : World) (a b : Int) : Reads (w.alloc (.cells #[.int .i64 a, .int .u64 b] 25)) (w.heap.size + 1) 2 (some ⟨w.heap.size, 0, none⟩) 1 (pcs [(a, b)]) := by
  have := Reads.of_own (World.ownsRow_lit (base := 0) (e := 25) (size := 2) w #[.int .i64 a, .int .u64 b] 1 (Nat.zero_le _) (by unfold maxLen; omega) rfl)
  simpa [pcs, pc] using this
theorem own_empty (w : World) : (w.alloc (.cells #[] 25)).ownsRow w.heap.size 25 2 (.slice (some ⟨w.heap.size, 0, none⟩) 0 0) 0 [] := World.ownsRow_lit w #[] 0 (Nat.le_refl _) (by unfold maxLen; omega) rfl
set_option maxHeartbeats 400000 in
/-- the library's Clone: nil of nil, else a new row -/
theorem clone_any (A : Option Addr) (c : Nat) (l : List (Int × Int)) (w : World) (hR : Reads w w.heap.size 2 A l.length (pcs l)) (hn : l.length ≤ 1000000) :
    Calls Tryz.prog 33 #[.slice A l.length c] w fun e w' => ∃ v, e = .returned v ∧ OwnP w' w.heap.size v l ∧ Below w.heap.size w w' := by
  cases A with
  | none =>
    have h0 : l.length = 0 := by
      rcases Nat.eq_zero_or_pos l.length with h | h
      · exact h
      · obtain ⟨_, _, h', _⟩ := hR.2 h; cases h'
    have hl : l = [] := List.eq_nil_of_length_eq_zero h0
    subst hl
    clear hR h0
    have hnil : ∀ W c, (binOp .eql 27 (.slice none 0 c) (.slice none 0 0)).run Tryz.prog W = .ok (.bool true) W := fun W c => Lib.run_eql_slice_nil W 27 25 none 0 c 0 0 Tryz.underlying27
    rw [show ([] : List (Int × Int)).length = 0 from rfl]
    go_enter Tryz.func33, Tryz.ntmps33
    go_wp2
    go_ret
    exact ⟨_, rfl, World.ownsRow_nil _ _ _ _, Below.refl _ _⟩
  | some ad =>
    have hnil : ∀ W, (binOp .eql 27 (.slice (some ad) l.length c) (.slice none 0 0)).run Tryz.prog W = .ok (.bool false) W := fun W => Lib.run_eql_slice_nil W 27 25 (some ad) l.length c 0 0 Tryz.underlying27
    go_enter Tryz.func33, Tryz.ntmps33
    go_wp2_with (at_builtin; go_must (refine wpList_append_any _ Tryz.okP (by rfl) (.tmp 5) (.tmp 6) (by rfl) w.heap.size (.slice (some ⟨w.heap.size, 0, none⟩) 0 0) 0 [] (by rfl) (own_empty w) w.heap.size (some ad) l.length c (pcs l) (by rfl) (hR.alloc (Nat.le_refl _) _) (pc_one l) (by unfold maxLen; omega) (by omega) (by simp) ?_); intro v1 w1 hown1 hg1 hnil1 hat1)
    go_ret
    rw [Nat.zero_add, List.nil_append] at hown1
    exact ⟨_, rfl, hown1, (below_alloc w _).grown hg1 (by simp) (by simp [Value.ownBlock])⟩

set_option maxHeartbeats 400000 in
theorem clip_any (A : Option Addr) (n c : Nat) (w : World) (_hn : n ≤ 1000000) (hc : n ≤ c) (_hm : c ≤ maxLen) :
    Calls Tryz.prog 83 #[.slice A n c] w fun e w' => e = .returned (.slice A n n) ∧ w = w' := by
  go_enter Tryz.func83, Tryz.ntmps83
  go_wp2
  go_ret
  exact ⟨rfl, rfl⟩
set_option maxHeartbeats 400000 in
theorem compact_few (A : Option Addr) (n c : Nat) (w : World) (hn : n < 2) :
    Calls Tryz.prog 84 #[.slice A n c] w fun e w' => e = .returned (.slice A n c) ∧ w = w' := by
  have hb : decide ((n : Int) < 2) = true := by simp; omega
  go_enter Tryz.func84, Tryz.ntmps84
  go_wp2
  go_ret
  exact ⟨rfl, rfl⟩

/-- the lives in their order, each once -/
def sortedL (l : List (Int × Int)) : List (Int × Int) := compact (sortL l)
theorem compact_len (l : List (Int × Int)) : (compact l).length ≤ l.length := by
  unfold compact compactUpTo
  rw [List.length_map]
  exact Nat.le_trans (List.length_filter_le _ _) (by simp)
theorem sortedL_len (l : List (Int × Int)) : (sortedL l).length ≤ l.length := by
  have := compact_len (sortL l); rw [sortL_len] at this; exact this

set_option maxHeartbeats 400000 in
theorem sorted_any (A : Option Addr) (c : Nat) (l : List (Int × Int)) (w : World) (hR : Reads w w.heap.size 2 A l.length (pcs l)) (hn : l.length ≤ 1000000) :
    Calls Tryz.prog 41 #[.slice A l.length c] w fun e w' => ∃ A', e = .returned (.slice A' (sortedL l).length (sortedL l).length) ∧ Reads w' w'.heap.size 2 A' (sortedL l).length (pcs (sortedL l)) ∧ Below w.heap.size w w' := by
  go_enter Tryz.func41, Tryz.ntmps41
  go_wp2_with fail
  refine (clone_any A c l w hR hn).mono ?_
  rintro e w1 ⟨v, rfl, hown, hb1⟩
  rcases hown.2 with ⟨rfl, h0⟩ | ⟨g, cap, cur, rfl, hbase, hg, hlc, hcm, hcs, htake⟩
  · have hl : l = [] := List.eq_nil_of_length_eq_zero h0
    subst hl
    have H := hide (show sortedL [] = [] by unfold sortedL; rw [show sortL [] = [] by simp [sortL]]; exact compact_short (by simp))
    go_wp2_with (first | (go_at_call 81; refine (sortFunc_none _ _ _ _).mono ?_; rintro e w' ⟨rfl, rfl⟩) | (go_at_call 84; refine (compact_few _ _ _ _ (by omega)).mono ?_; rintro e w' ⟨rfl, rfl⟩) | (go_at_call 83; refine (clip_any _ _ _ _ (by omega) (by omega) (by unfold maxLen; omega)).mono ?_; rintro e w' ⟨rfl, rfl⟩))
    go_ret
    rw [H.out]
    exact ⟨none, rfl, Reads.none_, hb1⟩
  · have hlt : g < w1.heap.size := by
      rcases Nat.lt_or_ge g w1.heap.size with hlt | hge
      · exact hlt
      · rw [Array.getElem?_eq_none hge] at hg; cases hg
    have HO := hide hown
    clear hg hcs htake hown
    go_wp2_with fail
    refine (sortFunc_own w.heap.size g cap l w1 HO.out hlt hn).mono ?_
    rintro e w2 ⟨rfl, hown2, hg2⟩
    have hsl := sortL_len l
    have hcl := compact_len (sortL l)
    rw [hsl] at hcl
    have HO2 := hide hown2
    have HG2 := hide hg2
    have HS := hide hsl
    have C := compact_own w.heap.size g cap (sortL l) w2 HO2.out (by omega) (by omega) hcm
    rw [HS.out] at C
    have HC := hide C
    clear C hown2 hg2 hsl
    go_wp2_with fail
    refine HC.out.mono ?_
    rintro e w3 ⟨rfl, hown3, hg3⟩
    have HO3 := hide hown3
    have HG3 := hide hg3
    clear hown3 hg3
    go_wp2_with fail
    refine (clip_any _ _ _ _ (by omega) (by omega) hcm).mono ?_
    rintro e w4 ⟨rfl, rfl⟩
    go_wp2
    go_ret
    refine ⟨some ⟨g, 0, none⟩, rfl, Reads.of_own HO3.out, ?_⟩
    exact (hb1.grown HG2.out hb1.size (fun k hk => by injection hk with hk; omega)).grown HG3.out (Nat.le_trans hb1.size HG2.out.size) (fun k hk => by injection hk with hk; omega)

end Go.Proofs.YtkglclekieckoaaGreat

namespace Go.Proofs.YtkglclekieckoaaGreat
set_option linter.unusedSimpArgs false
set_option linter.unusedVariables false
set_option linter.unusedSectionVars false
open Go.Sort Go.Lib

abbrev Pr : Type := Int × Int
def ltP (x y : Pr) : Prop := x.1 < y.1 ∨ x.1 = y.1 ∧ x.2 < y.2
instance (x y : Pr) : Decidable (ltP x y) := by unfold ltP; infer_instance
theorem ltP_irrefl (x : Pr) : ¬ ltP x x := by unfold ltP; omega
theorem ltP_trans {x y z : Pr} (h : ltP x y) (k : ltP y z) : ltP x z := by unfold ltP at *; omega
theorem ltP_asymm {x y : Pr} (h : ltP x y) : ¬ ltP y x := by unfold ltP at *; omega
theorem ltP_tri (x y : Pr) : ltP x y ∨ x = y ∨ ltP y x := by
  obtain ⟨a, b⟩ := x; obtain ⟨c, d⟩ := y
  unfold ltP; simp; omega
theorem ltP_cmp (x y : Pr) : ltP x y ↔ cmpP x y < 0 := by
  have := cmpP_lt x y
  unfold ltOf at this
  rw [decide_eq_decide] at this
  exact this.symm
theorem cmpP_zero (x y : Pr) : cmpP x y = 0 ↔ x = y := by
  obtain ⟨a, b⟩ := x; obtain ⟨c, d⟩ := y
  unfold cmpP cmpI
  by_cases h1 : a < c <;> by_cases h2 : c < a <;> by_cases h3 : b < d <;> by_cases h4 : d < b <;> simp [h1, h2, h3, h4] <;> omega
theorem cmpP_neg (x y : Pr) : cmpP y x = - cmpP x y := by
  obtain ⟨a, b⟩ := x; obtain ⟨c, d⟩ := y
  unfold cmpP cmpI
  by_cases h1 : a < c <;> by_cases h2 : c < a <;> by_cases h3 : b < d <;> by_cases h4 : d < b <;> simp [h1, h2, h3, h4] <;> omega
theorem cmpP_one (x y : Pr) : cmpP x y = -1 ∨ cmpP x y = 0 ∨ cmpP x y = 1 := by
  obtain ⟨a, b⟩ := x; obtain ⟨c, d⟩ := y
  unfold cmpP cmpI
  by_cases h1 : a < c <;> by_cases h2 : c < a <;> by_cases h3 : b < d <;> by_cases h4 : d < b <;> simp [h1, h2, h3, h4]

/-- strictly rising -/
def SS (l : List Pr) : Prop := l.Pairwise ltP
theorem ss_ext : ∀ {l m : List Pr}, SS l → SS m → (∀ x, x ∈ l ↔ x ∈ m) → l = m := by
  intro l
  induction l with
  | nil =>
    intro m _ _ h
    cases m with
    | nil => rfl
    | cons y m => exact absurd ((h y).2 (by simp)) (by simp)
  | cons x l ih =>
    intro m hl hm h
    cases m with
    | nil => exact absurd ((h x).1 (by simp)) (by simp)
    | cons y m =>
      obtain ⟨hx, hl'⟩ := List.pairwise_cons.1 hl
      obtain ⟨hy, hm'⟩ := List.pairwise_cons.1 hm
      have e : x = y := by
        rcases ltP_tri x y with a | a | a
        · have := (h x).1 (by simp)
          rcases List.mem_cons.1 this with b | b
          · exact b
          · exact absurd (hy x b) (ltP_asymm a)
        · exact a
        · have := (h y).2 (by simp)
          rcases List.mem_cons.1 this with b | b
          · exact b.symm
          · exact absurd (hx y b) (ltP_asymm a)
      subst e
      rw [ih hl' hm' fun z => ?_]
      constructor
      · intro hz
        rcases List.mem_cons.1 ((h z).1 (List.mem_cons_of_mem _ hz)) with b | b
        · subst b; exact absurd (hx z hz) (ltP_irrefl z)
        · exact b
      · intro hz
        rcases List.mem_cons.1 ((h z).2 (List.mem_cons_of_mem _ hz)) with b | b
        · subst b; exact absurd (hy z hz) (ltP_irrefl z)
        · exact b

def leB (x y : Pr) : Bool := !ltOf cmpP y x
theorem leB_iff (x y : Pr) : leB x y = true ↔ ¬ ltP y x := by
  unfold leB; rw [cmpP_lt]; simp [ltP]; omega
theorem sortL_perm (l : List Pr) : (sortL l).Perm l := List.mergeSort_perm l _
theorem sortL_sorted (l : List Pr) : (sortL l).Pairwise fun x y => ¬ ltP y x := by
  have := List.pairwise_mergeSort (le := leB) (fun x y z h1 h2 => by
    rw [leB_iff] at *
    intro h
    rcases ltP_tri y z with a | a | a
    · exact h1 (ltP_trans a h)
    · subst a; exact h1 h
    · exact h2 a) (fun x y => by
    have : leB x y = true ∨ leB y x = true := by
      rw [leB_iff, leB_iff]
      rcases ltP_tri x y with a | a | a
      · exact .inl (ltP_asymm a)
      · subst a; exact .inl (ltP_irrefl _)
      · exact .inr (ltP_asymm a)
    simpa using this) l
  exact this.imp fun h => (leB_iff _ _).1 h

theorem compactUpTo_ss (d : Array Pr) (hs : ∀ i j, i < j → j < d.size → ¬ ltP d[j]! d[i]!) : ∀ m, m ≤ d.size →
    SS (compactUpTo d m) ∧ (∀ x, x ∈ compactUpTo d m ↔ ∃ j, j < m ∧ d[j]! = x) := by
  intro m
  induction m with
  | zero => intro _; exact ⟨by simp [compactUpTo, SS], by simp [compactUpTo]⟩
  | succ m ih =>
    intro hm
    obtain ⟨h1, h2⟩ := ih (by omega)
    rw [compactUpTo_succ]
    by_cases hk : keeps d m = true
    · rw [if_pos hk]
      refine ⟨?_, ?_⟩
      · unfold SS
        rw [List.pairwise_append]
        refine ⟨h1, by simp, ?_⟩
        intro a ha b hb
        simp at hb; subst hb
        obtain ⟨j, hj, rfl⟩ := (h2 a).1 ha
        have hm0 : 0 < m := by omega
        have hne : d[m]! ≠ d[m - 1]! := by
          simp [keeps] at hk
          rcases hk with h0 | h0
          · omega
          · exact h0
        have hlast : ltP d[m - 1]! d[m]! := by
          rcases ltP_tri d[m - 1]! d[m]! with a | a | a
          · exact a
          · exact absurd a.symm hne
          · exact absurd a (hs (m - 1) m (by omega) (by omega))
        by_cases e : j = m - 1
        · subst e; exact hlast
        · rcases ltP_tri d[j]! d[m - 1]! with a | a | a
          · exact ltP_trans a hlast
          · rw [a]; exact hlast
          · exact absurd a (hs j (m - 1) (by omega) (by omega))
      · intro x
        rw [List.mem_append, h2 x]
        simp only [List.mem_singleton]
        constructor
        · rintro (⟨j, hj, rfl⟩ | rfl)
          · exact ⟨j, by omega, rfl⟩
          · exact ⟨m, by omega, rfl⟩
        · rintro ⟨j, hj, rfl⟩
          by_cases e : j = m
          · subst e; exact .inr rfl
          · exact .inl ⟨j, by omega, rfl⟩
    · rw [if_neg hk, List.append_nil]
      refine ⟨h1, fun x => ?_⟩
      rw [h2 x]
      have hm0 : m ≠ 0 ∧ d[m]! = d[m - 1]! := by
        simp [keeps] at hk
        exact hk
      constructor
      · rintro ⟨j, hj, rfl⟩; exact ⟨j, by omega, rfl⟩
      · rintro ⟨j, hj, rfl⟩
        by_cases e : j = m
        · subst e; exact ⟨j - 1, by omega, hm0.2.symm⟩
        · exact ⟨j, by omega, rfl⟩

theorem sortedL_spec (l : List Pr) : SS (sortedL l) ∧ ∀ x, x ∈ sortedL l ↔ x ∈ l := by
  have hs := sortL_sorted l
  have key := compactUpTo_ss (sortL l).toArray (fun i j hij hj => by
    have hj' : j < (sortL l).length := by simpa using hj
    have := List.pairwise_iff_getElem.1 hs i j (by omega) hj' hij
    simpa [hj', show i < (sortL l).length by omega] using this) (sortL l).length (by simp)
  refine ⟨key.1, fun x => ?_⟩
  have := key.2 x
  unfold sortedL compact
  rw [this, ← (sortL_perm l).mem_iff, List.mem_iff_getElem]
  constructor
  · rintro ⟨j, hj, rfl⟩; exact ⟨j, hj, by simp [hj]⟩
  · rintro ⟨j, hj, rfl⟩; exact ⟨j, hj, by simp [hj]⟩
theorem sortedL_ss (l : List Pr) : SS (sortedL l) := (sortedL_spec l).1
theorem mem_sortedL {l : List Pr} {x : Pr} : x ∈ sortedL l ↔ x ∈ l := (sortedL_spec l).2 x
theorem sortedL_eq {l m : List Pr} (hm : SS m) (h : ∀ x, x ∈ m ↔ x ∈ l) : sortedL l = m := ss_ext (sortedL_ss l) hm fun x => by rw [mem_sortedL, h]
theorem sortedL_self {l : List Pr} (h : SS l) : sortedL l = l := sortedL_eq h fun _ => Iff.rfl
theorem sortedL_congr {l m : List Pr} (h : ∀ x, x ∈ l ↔ x ∈ m) : sortedL l = sortedL m := sortedL_eq (sortedL_ss m) fun x => by rw [mem_sortedL, h]

end Go.Proofs.YtkglclekieckoaaGreat

namespace Go.Proofs.YtkglclekieckoaaGreat
set_option linter.unusedSimpArgs false
set_option linter.unusedVariables false
set_option linter.unusedSectionVars false
open Go.RowKit Go.Sort Go.Lib

/-- a list of lives where it lies: its address, its capacity, its lives -/
structure Sv where
  A : Option Addr
  c : Nat
  l : List (Int × Int)
  deriving Inhabited
def Sv.v (x : Sv) : Value := .slice x.A x.l.length x.c
def svs (xs : List Sv) : List Value := xs.map Sv.v
def Sv.ok (w : World) (B : Nat) (x : Sv) : Prop := Reads w B 2 x.A x.l.length (pcs x.l)
theorem Sv.ok_below {w w' : World} {B : Nat} {x : Sv} (h : x.ok w B) (hb : Below B w w') : x.ok w' B := Reads.below h hb
theorem svs_len (xs : List Sv) : (svs xs).length = xs.length * 1 := by simp [svs]
theorem Reads.atS {w : World} {B : Nat} {A : Option Addr} {n k : Nat} {xs : List Sv} (h : Reads w B 1 A n (svs xs)) (hk : k < n) :
    ∃ b off x, A = some ⟨b, off, none⟩ ∧ b < B ∧ xs[k]? = some x ∧ w.cell? ⟨b, off + k, none⟩ = some (.slice x.A x.l.length x.c) := by
  obtain ⟨b, off, rfl, hb, hc⟩ := h.2 (by omega)
  have hl : k < xs.length := by have := h.1; rw [svs_len] at this; omega
  exact ⟨b, off, xs[k], rfl, hb, List.getElem?_eq_getElem hl, hc k _ (by simp [svs, hl, Sv.v])⟩

def hvB (xs : List Sv) : Bool := xs.any (fun x => decide (300 < x.l.length)) || decide (20 < xs.length)

set_option maxHeartbeats 400000 in
theorem grow_nil (n : Nat) (w : World) (hn : n ≤ 1000000) : Calls Tryz.prog 139 #[.slice none 0 0, .int .i64 n] w fun e w' => ∃ v, e = .returned v ∧ OwnP w' w.heap.size v [] ∧ Below w.heap.size w w' := by
  by_cases h0 : n = 0
  · subst h0
    go_enter Tryz.func139, Tryz.ntmps139
    go_wp2
    go_ret
    exact ⟨_, rfl, World.ownsRow_nil _ _ _ _, Below.refl _ _⟩
  · obtain ⟨i, hi, hz, hsize, hby⟩ := info_parts (show (Tryz.prog.info? 25).map (fun i => (i.zero, i.size, i.bytes)) = some (some (.agg #[.int .i64 0, .int .u64 0]), 2, 16) by kernel_rfl)
    have hrun := fun ty => Lib.run_append_nil_zeros w 27 3 ty 25 i (.agg #[.int .i64 0, .int .u64 0]) .i64 .i64 Tryz.underlying27 Tryz.underlying3 hi hz n (by omega) (by omega) (by omega) (by rw [hby]; omega)
    have hG1 := grownCap_ge w n 0 25
    have hG2 := grownCap_le_maxLen w n 0 25 (by unfold maxLen; omega)
    have hG3 : n + (grownCap w n 0 25 - n) = grownCap w n 0 25 := by omega
    generalize grownCap w n 0 25 = G at *
    have hG4 : G ≤ 9223372036854775807 := by unfold maxLen at hG2; exact hG2
    have HG2 := hide hG2
    have HI := hide hG3
    have HR := hide hrun
    clear hrun hi hz hsize hby hG2 hG3
    have j0 : (0 : Int) < (n : Int) := by omega
    have j1 : ¬ (n : Int) < 0 := by omega
    go_enter Tryz.func139, Tryz.ntmps139
    go_wp2_with (at_builtin; refine Lib.wpList_append_run _ rfl _ _ _ _ rfl _ _ rfl rfl _ _ (HR.out _) ?_)
    go_ret
    refine ⟨_, rfl, ⟨rfl, .inr ⟨w.heap.size, G, _, rfl, Nat.le_refl _, heap_alloc_new _ _, Nat.zero_le _, HG2.out, ?_, rfl⟩⟩, Below.alloc (Below.refl _ _).drew (by simp) _⟩
    rw [Array.size_append, size_zeroCells, size_zeroCells, ← Nat.add_mul, HI.out]
    rfl

def flatS (xs : List Sv) : List (Int × Int) := xs.flatMap Sv.l
theorem flatS_take {xs : List Sv} {k : Nat} {x : Sv} (h : xs[k]? = some x) : flatS (xs.take (k + 1)) = flatS (xs.take k) ++ x.l := by
  rw [take_succ_of h]; simp [flatS]
theorem flatS_le (xs : List Sv) (k : Nat) : (flatS (xs.take k)).length ≤ (flatS xs).length := by
  have : flatS xs = flatS (xs.take k) ++ flatS (xs.drop k) := by
    unfold flatS; rw [← List.flatMap_append, List.take_append_drop]
  rw [this, List.length_append]; omega

set_option maxHeartbeats 1000000 in
theorem concat_any (A : Option Addr) (c : Nat) (xs : List Sv) (w : World) (hR : Reads w w.heap.size 1 A xs.length (svs xs)) (hok : ∀ x ∈ xs, x.ok w w.heap.size) (hn : xs.length ≤ 1000000) (hm : (flatS xs).length ≤ 1000000) :
    Calls Tryz.prog 114 #[.slice A xs.length c] w fun e w' => ∃ v, e = .returned v ∧ OwnP w' w.heap.size v (flatS xs) ∧ Below w.heap.size w w' := by
  go_enter Tryz.func114, Tryz.ntmps114
  go_wp2
  go_loop [3, 11] (fun t i => ∃ k : Nat, k ≤ xs.length ∧ i = .int .i64 k ∧ t = .int .i64 (flatS (xs.take k)).length) (fun _ i => xs.length - (intOf i).toNat)
  case atStart => exact ⟨0, Nat.zero_le _, rfl, rfl⟩
  case round =>
    obtain ⟨k, hk, rfl, rfl⟩ := hrel
    have hle := flatS_le xs k
    have hle' := flatS_le xs (k + 1)
    by_cases hlt : k < xs.length
    · obtain ⟨b, off, x, rfl, hb, hx, g1⟩ := hR.atS hlt
      have hl := congrArg List.length (flatS_take hx)
      rw [List.length_append] at hl
      have HL := hide hl
      have hsum : (flatS (xs.take k)).length + x.l.length ≤ 1000000 := by omega
      clear hx hR hl
      go_wp2
      go_round
      case rel => exact ⟨k + 1, by omega, by go_num, by rw [HL.out]; go_num⟩
      case measure => simp [intOf]; omega
    · have hk' : k = xs.length := by omega
      subst hk'
      rw [List.take_length]
      clear hle hle' hlt hk
      go_wp2_with fail
      refine (grow_nil _ _ hm).mono ?_
      rintro e w1 ⟨v0, rfl, hown0, hb0⟩
      go_wp2
      go_loopw [6, 27] (fun v i wr => ∃ k : Nat, k ≤ xs.length ∧ i = .int .i64 k ∧ OwnP wr w.heap.size v (flatS (xs.take k)) ∧ Below w.heap.size w wr) (fun _ i _ => xs.length - (intOf i).toNat)
      case atStart => exact ⟨0, Nat.zero_le _, rfl, hown0, hb0⟩
      case round =>
        obtain ⟨k, hk, rfl, hown, hbw⟩ := hrel
        have HO := hide hown
        clear hown0
        by_cases hlt : k < xs.length
        · obtain ⟨b, off, x, rfl, hb, hx, g1⟩ := (hR.below hbw).atS hlt
          have hxo := Sv.ok_below (hok x (List.mem_of_getElem? hx)) hbw
          have HX := hide (flatS_take hx)
          have hle := flatS_le xs (k + 1)
          have hl := congrArg List.length HX.out
          rw [List.length_append] at hl
          have hsum : (flatS (xs.take k)).length + x.l.length ≤ 1000000 := by omega
          have HXO := hide hxo
          clear hx hxo hl hle hown
          go_wp2_with (at_builtin; refine wpList_append_any _ Tryz.okP (by rfl) (.tmp 31) (.tmp 32) (by rfl) w.heap.size _ _ (pcs (flatS (xs.take k))) (by rfl) HO.out w.heap.size x.A x.l.length x.c (pcs x.l) (by rfl) HXO.out (pc_one x.l) (by unfold maxLen; omega) (by omega) hbw.size ?_; intro v1 w1' hown1 hg1 hnil1 hat1)
          go_roundw
          case rel =>
            refine ⟨k + 1, by omega, by go_num, ?_, hbw.grown hg1 hbw.size (fun g hg => (HO.out.lt g hg).1)⟩
            rw [OwnP, HX.out, List.length_append, pcs_app]; exact hown1
          case measure => simp [intOf]; omega
        · have hk' : k = xs.length := by omega
          subst hk'
          go_wp2
          go_ret
          rw [List.take_length] at hown
          exact ⟨_, rfl, hown, hbw⟩

/-- the lives of all lists -/
def unionL (xs : List Sv) : List (Int × Int) := sortedL (flatS xs)
set_option maxHeartbeats 400000 in
theorem union_any (A : Option Addr) (c : Nat) (xs : List Sv) (w : World) (hR : Reads w w.heap.size 1 A xs.length (svs xs)) (hok : ∀ x ∈ xs, x.ok w w.heap.size) (hn : xs.length ≤ 1000000) (hm : (flatS xs).length ≤ 1000000) :
    Calls Tryz.prog 100 #[.slice A xs.length c] w fun e w' => ∃ A', e = .returned (.slice A' (unionL xs).length (unionL xs).length) ∧ Reads w' w'.heap.size 2 A' (unionL xs).length (pcs (unionL xs)) ∧ Below w.heap.size w w' := by
  go_enter Tryz.func100, Tryz.ntmps100
  go_wp2_with fail
  refine (concat_any A c xs w hR hok hn hm).mono ?_
  rintro e w1 ⟨v, rfl, hown, hb1⟩
  obtain ⟨A1, c1, rfl, _, _⟩ := own_slice hown
  have hR1 := Reads.of_own hown
  have HR := hide hR1
  clear hR hok hown hR1
  go_wp2_with fail
  refine (sorted_any A1 c1 (flatS xs) w1 HR.out hm).mono ?_
  rintro e w2 ⟨A2, rfl, hR2, hb2⟩
  go_wp2
  go_ret
  exact ⟨A2, rfl, hR2, below_step hb1 hb2⟩

end Go.Proofs.YtkglclekieckoaaGreat
