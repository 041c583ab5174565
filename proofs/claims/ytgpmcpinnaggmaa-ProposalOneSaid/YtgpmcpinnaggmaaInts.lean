/-
  Lists of int in memory: words, append, the library's sort and Compact; law03's ints; slices.Index, Contains, proc.Has; the reference's Set.
-/
import Derived.Test.YtgpmcpinnaggmaaJoin
namespace Go.Proofs.Ytgpmcpinnaggmaa
set_option linter.unusedSimpArgs false
set_option linter.unusedVariables false
set_option linter.unusedSectionVars false
open Go.RowKit Go.Sort Go.Lib

def ics (l : List Int) : List Value := l.map (Value.int .i64)
theorem ics_len (l : List Int) : (ics l).length = l.length * 1 := by simp [ics]
theorem ics_app (l m : List Int) : ics (l ++ m) = ics l ++ ics m := List.map_append
theorem ics_one (l : List Int) : ∀ u ∈ ics l, u.oneCell' = true := by
  intro u hu
  obtain ⟨p, _, rfl⟩ := List.mem_map.1 hu
  rfl
theorem Reads.atI {w : World} {B : Nat} {A : Option Addr} {n k : Nat} {xs : List Int} (h : Reads w B 1 A n (ics xs)) (hk : k < n) :
    ∃ b off x, A = some ⟨b, off, none⟩ ∧ b < B ∧ xs[k]? = some x ∧ w.cell? ⟨b, off + k, none⟩ = some (.int .i64 x) := by
  obtain ⟨b, off, rfl, hb, hc⟩ := h.2 (by omega)
  have hl : k < xs.length := by have := h.1; rw [ics_len] at this; omega
  exact ⟨b, off, xs[k], rfl, hb, List.getElem?_eq_getElem hl, hc k _ (by simp [ics, hl])⟩
def Il (w : World) (A : Option Addr) (l : List Int) : Prop := Reads w w.heap.size 1 A l.length (ics l)
theorem Il.step {w w' : World} {A : Option Addr} {l : List Int} (h : Il w A l) (hb : Below w.heap.size w w') : Il w' A l := (Reads.below h hb).more hb.size
def RetI (w : World) (l : List Int) (e : Ending) (w' : World) : Prop := ∃ A c, e = .returned (.slice A l.length c) ∧ Il w' A l ∧ Below w.heap.size w w'
abbrev OwnI (w : World) (base : Nat) (v : Value) (l : List Int) : Prop := w.ownsRow base 3 1 v l.length (ics l)
theorem Try.okI : ElemOk Try.prog 95 3 1 8 := elemOk_of (.int .i64 0) Try.underlying95 (by kernel_rfl) rfl (by omega)
theorem reads_oneI (w : World) (a : Int) : Reads (w.alloc (.cells #[.int .i64 a] 3)) (w.heap.size + 1) 1 (some ⟨w.heap.size, 0, none⟩) 1 (ics [a]) := by
  have := Reads.of_own (World.ownsRow_lit (base := 0) (e := 3) (size := 1) w #[.int .i64 a] 1 (Nat.zero_le _) (by unfold maxLen; omega) rfl)
  simpa [ics] using this

theorem reads_oneI_at (w : World) (a : Int) (n : Nat) (h : w.heap.size = n) : Reads (w.alloc (.cells #[.int .i64 a] 3)) (n + 1) 1 (some ⟨n, 0, none⟩) 1 (ics [a]) := by subst h; exact reads_oneI w a
/-! ### an owned row of ints and the shelf's 'putRow' -/
theorem ints_len {w : World} {base n : Nat} {v : Value} {l : List Int} (h : w.ownsRow base 3 1 v n (ics l)) : n = l.length := by have := h.1; rw [ics_len] at this; omega
theorem holdsI {w : World} {base g n cap : Nat} {l : List Int} (h : w.ownsRow base 3 1 (.slice (some ⟨g, 0, none⟩) n cap) n (ics l)) : Holds (Value.int .i64) w g 0 l.toArray := by
  intro j hj
  have hn := ints_len h
  have hj' : j < l.length := by simpa using hj
  rw [Nat.zero_add, h.cellAt _ (by omega), h.frozenAt]
  refine ⟨?_, rfl⟩
  simp [ics, hj']
theorem own_of_putI {w : World} {base g n cap : Nat} {l l' : List Int} (h : w.ownsRow base 3 1 (.slice (some ⟨g, 0, none⟩) n cap) n (ics l)) (hl : l'.length = l.length) (m : Nat) (os : Array Obj) :
    (grow (putRow (Value.int .i64) (Sort.ahead w m) g 0 l'.toArray) os).ownsRow base 3 1 (.slice (some ⟨g, 0, none⟩) n cap) n (ics l') ∧ w.grownBy (grow (putRow (Value.int .i64) (Sort.ahead w m) g 0 l'.toArray) os) (some g) := by
  have hn := ints_len h
  rcases h.2 with ⟨h', _⟩ | ⟨g', cap', cur, h', hb, hg, hnc, hcm, hcs, htake⟩
  · simp at h'
  · simp only [Value.slice.injEq, Option.some.injEq, Addr.mk.injEq, and_true, true_and] at h'
    obtain ⟨rfl, rfl⟩ := h'
    have hlt : g < w.heap.size := by
      rcases Nat.lt_or_ge g w.heap.size with hlt | hge
      · exact hlt
      · rw [Array.getElem?_eq_none hge] at hg; cases hg
    have hheap : (grow (putRow (Value.int .i64) (Sort.ahead w m) g 0 l'.toArray) os).heap[g]? = some (.cells (putCells (Value.int .i64) 0 l'.toArray cur) 3 (0, 0)) := by
      rw [heap_grow_old _ _ (by simpa [putRow, mapBlock] using hlt)]
      simp [putRow, mapBlock, Sort.ahead, Array.getElem?_modify, hg, onCells]
    refine ⟨⟨by rw [ics_len]; omega, .inr ⟨g, cap, _, rfl, hb, hheap, hnc, hcm, by simpa [putCells] using hcs, ?_⟩⟩, ⟨rfl, rfl, rfl, ?_, ?_⟩⟩
    · apply List.ext_getElem?
      intro j
      rw [List.getElem?_take]
      split
      · rename_i hj
        have hj' : j < l'.length := by omega
        have hjc : j < cur.size := by omega
        simp only [putCells, Array.getElem?_toList, Array.getElem?_mapIdx, Array.getElem?_eq_getElem hjc, Option.map_some]
        rw [if_pos (by simp; omega), Nat.sub_zero]
        simp [ics, hj']
      · rename_i hj
        rw [List.getElem?_eq_none (by rw [ics_len]; omega)]
    · simp [grow, putRow, mapBlock, Sort.ahead]
    · intro k hk hne
      rw [heap_grow_old _ _ (by simpa [putRow, mapBlock] using hk)]
      have : g ≠ k := fun e => hne (by rw [e])
      simp [putRow, mapBlock, Sort.ahead, Array.getElem?_modify, this]
def sortI (l : List Int) : List Int := l.mergeSort fun x y => decide (x ≤ y)
theorem sortI_len (l : List Int) : (sortI l).length = l.length := List.length_mergeSort _
theorem sortInt_own (base g cap : Nat) (l : List Int) (w : World) (h : OwnI w base (.slice (some ⟨g, 0, none⟩) l.length cap) l) (hb : g < w.heap.size) (hn : l.length ≤ 1000000) :
    Calls Try.prog 102 #[.slice (some ⟨g, 0, none⟩) l.length cap] w fun e w' => e = .returned (.tuple #[]) ∧ OwnI w' base (.slice (some ⟨g, 0, none⟩) (sortI l).length cap) (sortI l) ∧ w.grownBy w' (some g) := by
  refine (Try.slices_Sort_int g 0 cap l w (holdsI h) hb (by omega)).mono ?_
  rintro e w' ⟨he, m, os, hw⟩
  obtain ⟨h1, h2⟩ := own_of_putI h (sortI_len l) m os
  have hw' : w' = grow (putRow (Value.int .i64) (Sort.ahead w m) g 0 (sortI l).toArray) os := hw
  rw [hw']
  exact ⟨he, by rw [OwnI, sortI_len]; exact h1, h2⟩
theorem compactI_len (l : List Int) : (compact l).length ≤ l.length := by
  unfold compact compactUpTo
  rw [List.length_map]
  exact Nat.le_trans (List.length_filter_le _ _) (by simp)
theorem compactInt_own (base g cap : Nat) (l : List Int) (w : World) (h : OwnI w base (.slice (some ⟨g, 0, none⟩) l.length cap) l) (hn : l.length ≤ 1000000) (hc : l.length ≤ cap) :
    Calls Try.prog 104 #[.slice (some ⟨g, 0, none⟩) l.length cap] w fun e w' => e = .returned (.slice (some ⟨g, 0, none⟩) (compact l).length cap) ∧ OwnI w' base (.slice (some ⟨g, 0, none⟩) (compact l).length cap) (compact l) ∧ w.grownBy w' (some g) := by
  refine (Try.slices_Compact_int g 0 cap l w (holdsI h) (by omega) hc).mono ?_
  rintro e w' ⟨he, q, hw⟩
  have hlen := compactI_len l
  obtain ⟨h1, h2⟩ := own_of_putI (l' := compact l ++ List.replicate (l.length - (compact l).length) 0) h (by simp; omega) q #[]
  rw [grow_empty] at h1 h2
  have hw' : w' = putRow (Value.int .i64) (Sort.ahead w q) g 0 (compact l ++ List.replicate (l.length - (compact l).length) 0).toArray := hw
  rw [hw']
  refine ⟨he, ?_, h2⟩
  have := own_take h1 hlen
  have e : (ics (compact l ++ List.replicate (l.length - (compact l).length) 0)).take ((compact l).length * 1) = ics (compact l) := by
    rw [ics_app, List.take_append_of_le_length (by rw [ics_len]; omega), List.take_of_length_le (by rw [ics_len]; omega)]
  rw [e] at this
  exact this
set_option maxHeartbeats 400000 in
theorem clipI_any (A : Option Addr) (n c : Nat) (w : World) (hc : n ≤ c) :
    Calls Try.prog 103 #[.slice A n c] w fun e w' => e = .returned (.slice A n n) ∧ w = w' := by
  go_enter Try.func103, Try.ntmps103
  go_wp2
  go_ret
  exact ⟨rfl, rfl⟩

end Go.Proofs.Ytgpmcpinnaggmaa
