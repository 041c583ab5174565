/-
  Lists of int in memory: words, append, the library's sort and Compact; law03's ints; slices.Index, Contains, proc.Has; the reference's Set.
-/
import Derived.Test.YtniogmefbjfoaaaGreatMeet
import Derived.Laws.MakeOwn
namespace Go.Proofs.YtniogmefbjfoaaaGreat
set_option linter.unusedSimpArgs false
set_option linter.unusedVariables false
set_option linter.unusedSectionVars false
open Go.RowKit Go.Sort Go.Lib

def ics (l : List Int) : List Value := l.map (Value.int .i64)
theorem ics_len (l : List Int) : (ics l).length = l.length * 1 := by simp [ics]
theorem ics_app (l m : List Int) : ics (l ++ m) = ics l ++ ics m := List.map_append
theorem ics_one (l : List Int) : ∀ u ∈ ics l, u.oneCell' = true := by
  intro u hu
  obtain ⟨p, _, rfl⟩ := List.mem_map.1 hu
  rfl
theorem Reads.atI {w : World} {B : Nat} {A : Option Addr} {n k : Nat} {xs : List Int} (h : Reads w B 1 A n (ics xs)) (hk : k < n) :
    ∃ b off x, A = some ⟨b, off, none⟩ ∧ b < B ∧ xs[k]? = some x ∧ w.cell? ⟨b, off + k, none⟩ = some (.int .i64 x) := by
  obtain ⟨b, off, rfl, hb, hc⟩ := h.2 (by omega)
  have hl : k < xs.length := by have := h.1; rw [ics_len] at this; omega
  exact ⟨b, off, xs[k], rfl, hb, List.getElem?_eq_getElem hl, hc k _ (by simp [ics, hl])⟩
def Il (w : World) (A : Option Addr) (l : List Int) : Prop := Reads w w.heap.size 1 A l.length (ics l)
theorem Il.step {w w' : World} {A : Option Addr} {l : List Int} (h : Il w A l) (hb : Below w.heap.size w w') : Il w' A l := (Reads.below h hb).more hb.size
def RetI (w : World) (l : List Int) (e : Ending) (w' : World) : Prop := ∃ A c, e = .returned (.slice A l.length c) ∧ Il w' A l ∧ Below w.heap.size w w'
abbrev OwnI (w : World) (base : Nat) (v : Value) (l : List Int) : Prop := w.ownsRow base 3 1 v l.length (ics l)
theorem Tryz.okI : ElemOk Tryz.prog 36 3 1 8 := elemOk_of (.int .i64 0) Tryz.underlying36 (by kernel_rfl) rfl (by omega)
theorem reads_oneI (w : World) (a : Int) : Reads (w.alloc (.cells #[.int .i64 a] 3)) (w.heap.size + 1) 1 (some ⟨w.heap.size, 0, none⟩) 1 (ics [a]) := by
  have := Reads.of_own (World.ownsRow_lit (base := 0) (e := 3) (size := 1) w #[.int .i64 a] 1 (Nat.zero_le _) (by unfold maxLen; omega) rfl)
  simpa [ics] using this

theorem reads_oneI_at (w : World) (a : Int) (n : Nat) (h : w.heap.size = n) : Reads (w.alloc (.cells #[.int .i64 a] 3)) (n + 1) 1 (some ⟨n, 0, none⟩) 1 (ics [a]) := by subst h; exact reads_oneI w a
/-! ### an owned row of ints and the shelf's 'putRow' -/
theorem ints_len {w : World} {base n : Nat} {v : Value} {l : List Int} (h : w.ownsRow base 3 1 v n (ics l)) : n = l.length := by have := h.1; rw [ics_len] at this; omega
theorem holdsI {w : World} {base g n cap : Nat} {l : List Int} (h : w.ownsRow base 3 1 (.slice (some ⟨g, 0, none⟩) n cap) n (ics l)) : Holds (Value.int .i64) w g 0 l.toArray := by
  intro j hj
  have hn := ints_len h
  have hj' : j < l.length := by simpa using hj
  rw [Nat.zero_add, h.cellAt _ (by omega), h.frozenAt]
  refine ⟨?_, rfl⟩
  simp [ics, hj']
theorem own_of_putI {w : World} {base g n cap : Nat} {l l' : List Int} (h : w.ownsRow base 3 1 (.slice (some ⟨g, 0, none⟩) n cap) n (ics l)) (hl : l'.length = l.length) (m : Nat) (os : Array Obj) :
    (grow (putRow (Value.int .i64) (Sort.ahead w m) g 0 l'.toArray) os).ownsRow base 3 1 (.slice (some ⟨g, 0, none⟩) n cap) n (ics l') ∧ w.grownBy (grow (putRow (Value.int .i64) (Sort.ahead w m) g 0 l'.toArray) os) (some g) := by
  have hn := ints_len h
  rcases h.2 with ⟨h', _⟩ | ⟨g', cap', cur, h', hb, hg, hnc, hcm, hcs, htake⟩
  · simp at h'
  · simp only [Value.slice.injEq, Option.some.injEq, Addr.mk.injEq, and_true, true_and] at h'
    obtain ⟨rfl, rfl⟩ := h'
    have hlt : g < w.heap.size := by
      rcases Nat.lt_or_ge g w.heap.size with hlt | hge
      · exact hlt
      · rw [Array.getElem?_eq_none hge] at hg; cases hg
    have hheap : (grow (putRow (Value.int .i64) (Sort.ahead w m) g 0 l'.toArray) os).heap[g]? = some (.cells (putCells (Value.int .i64) 0 l'.toArray cur) 3 (0, 0)) := by
      rw [heap_grow_old _ _ (by simpa [putRow, mapBlock] using hlt)]
      simp [putRow, mapBlock, Sort.ahead, Array.getElem?_modify, hg, onCells]
    refine ⟨⟨by rw [ics_len]; omega, .inr ⟨g, cap, _, rfl, hb, hheap, hnc, hcm, by simpa [putCells] using hcs, ?_⟩⟩, ⟨rfl, rfl, rfl, ?_, ?_⟩⟩
    · apply List.ext_getElem?
      intro j
      rw [List.getElem?_take]
      split
      · rename_i hj
        have hj' : j < l'.length := by omega
        have hjc : j < cur.size := by omega
        simp only [putCells, Array.getElem?_toList, Array.getElem?_mapIdx, Array.getElem?_eq_getElem hjc, Option.map_some]
        rw [if_pos (by simp; omega), Nat.sub_zero]
        simp [ics, hj']
      · rename_i hj
        rw [List.getElem?_eq_none (by rw [ics_len]; omega)]
    · simp [grow, putRow, mapBlock, Sort.ahead]
    · intro k hk hne
      rw [heap_grow_old _ _ (by simpa [putRow, mapBlock] using hk)]
      have : g ≠ k := fun e => hne (by rw [e])
      simp [putRow, mapBlock, Sort.ahead, Array.getElem?_modify, this]
def sortI (l : List Int) : List Int := l.mergeSort fun x y => decide (x ≤ y)
theorem sortI_len (l : List Int) : (sortI l).length = l.length := List.length_mergeSort _
theorem sortInt_own (base g cap : Nat) (l : List Int) (w : World) (h : OwnI w base (.slice (some ⟨g, 0, none⟩) l.length cap) l) (hb : g < w.heap.size) (hn : l.length ≤ 1000000) :
    Calls Tryz.prog 41 #[.slice (some ⟨g, 0, none⟩) l.length cap] w fun e w' => e = .returned (.tuple #[]) ∧ OwnI w' base (.slice (some ⟨g, 0, none⟩) (sortI l).length cap) (sortI l) ∧ w.grownBy w' (some g) := by
  refine (Tryz.slices_Sort_int g 0 cap l w (holdsI h) hb (by omega)).mono ?_
  rintro e w' ⟨he, m, os, hw⟩
  obtain ⟨h1, h2⟩ := own_of_putI h (sortI_len l) m os
  have hw' : w' = grow (putRow (Value.int .i64) (Sort.ahead w m) g 0 (sortI l).toArray) os := hw
  rw [hw']
  exact ⟨he, by rw [OwnI, sortI_len]; exact h1, h2⟩
theorem compactI_len (l : List Int) : (compact l).length ≤ l.length := by
  unfold compact compactUpTo
  rw [List.length_map]
  exact Nat.le_trans (List.length_filter_le _ _) (by simp)
theorem compactInt_own (base g cap : Nat) (l : List Int) (w : World) (h : OwnI w base (.slice (some ⟨g, 0, none⟩) l.length cap) l) (hn : l.length ≤ 1000000) (hc : l.length ≤ cap) :
    Calls Tryz.prog 101 #[.slice (some ⟨g, 0, none⟩) l.length cap] w fun e w' => e = .returned (.slice (some ⟨g, 0, none⟩) (compact l).length cap) ∧ OwnI w' base (.slice (some ⟨g, 0, none⟩) (compact l).length cap) (compact l) ∧ w.grownBy w' (some g) := by
  refine (Tryz.slices_Compact_int g 0 cap l w (holdsI h) (by omega) hc).mono ?_
  rintro e w' ⟨he, q, hw⟩
  have hlen := compactI_len l
  obtain ⟨h1, h2⟩ := own_of_putI (l' := compact l ++ List.replicate (l.length - (compact l).length) 0) h (by simp; omega) q #[]
  rw [grow_empty] at h1 h2
  have hw' : w' = putRow (Value.int .i64) (Sort.ahead w q) g 0 (compact l ++ List.replicate (l.length - (compact l).length) 0).toArray := hw
  rw [hw']
  refine ⟨he, ?_, h2⟩
  have := own_take h1 hlen
  have e : (ics (compact l ++ List.replicate (l.length - (compact l).length) 0)).take ((compact l).length * 1) = ics (compact l) := by
    rw [ics_app, List.take_append_of_le_length (by rw [ics_len]; omega), List.take_of_length_le (by rw [ics_len]; omega)]
  rw [e] at this
  exact this
set_option maxHeartbeats 400000 in
theorem clipI_any (A : Option Addr) (n c : Nat) (w : World) (hc : n ≤ c) :
    Calls Tryz.prog 100 #[.slice A n c] w fun e w' => e = .returned (.slice A n n) ∧ w = w' := by
  go_enter Tryz.func100, Tryz.ntmps100
  go_wp2
  go_ret
  exact ⟨rfl, rfl⟩

end Go.Proofs.YtniogmefbjfoaaaGreat

namespace Go.Proofs.YtniogmefbjfoaaaGreat
set_option linter.unusedSimpArgs false
set_option linter.unusedVariables false
set_option linter.unusedSectionVars false
open Go.RowKit Go.Sort Go.Lib

/-! ### plain lists of int -/
theorem ssI_ext : ∀ {l m : List Int}, l.Pairwise (· < ·) → m.Pairwise (· < ·) → (∀ x, x ∈ l ↔ x ∈ m) → l = m := by
  intro l
  induction l with
  | nil =>
    intro m _ _ h
    cases m with
    | nil => rfl
    | cons y m => exact absurd ((h y).2 (by simp)) (by simp)
  | cons x l ih =>
    intro m hl hm h
    cases m with
    | nil => exact absurd ((h x).1 (by simp)) (by simp)
    | cons y m =>
      obtain ⟨hx, hl'⟩ := List.pairwise_cons.1 hl
      obtain ⟨hy, hm'⟩ := List.pairwise_cons.1 hm
      have e : x = y := by
        have h1 := (h x).1 (by simp)
        have h2 := (h y).2 (by simp)
        rcases List.mem_cons.1 h1 with a | a
        · exact a
        · rcases List.mem_cons.1 h2 with b | b
          · exact b.symm
          · have := hy x a; have := hx y b; omega
      subst e
      rw [ih hl' hm' fun z => ?_]
      constructor
      · intro hz
        rcases List.mem_cons.1 ((h z).1 (List.mem_cons_of_mem _ hz)) with b | b
        · subst b; have := hx z hz; omega
        · exact b
      · intro hz
        rcases List.mem_cons.1 ((h z).2 (List.mem_cons_of_mem _ hz)) with b | b
        · subst b; have := hy z hz; omega
        · exact b
theorem compactUpToI (d : Array Int) (hs : ∀ i j, i < j → j < d.size → d[i]! ≤ d[j]!) : ∀ m, m ≤ d.size →
    (compactUpTo d m).Pairwise (· < ·) ∧ (∀ x, x ∈ compactUpTo d m ↔ ∃ j, j < m ∧ d[j]! = x) := by
  intro m
  induction m with
  | zero => intro _; exact ⟨by simp [compactUpTo], by simp [compactUpTo]⟩
  | succ m ih =>
    intro hm
    obtain ⟨h1, h2⟩ := ih (by omega)
    rw [compactUpTo_succ]
    by_cases hk : keeps d m = true
    · rw [if_pos hk]
      refine ⟨?_, ?_⟩
      · rw [List.pairwise_append]
        refine ⟨h1, by simp, ?_⟩
        intro a ha b hb
        simp at hb; subst hb
        obtain ⟨j, hj, rfl⟩ := (h2 a).1 ha
        have hne : d[m]! ≠ d[m - 1]! := by
          simp [keeps] at hk
          rcases hk with h0 | h0
          · omega
          · exact h0
        have hl := hs (m - 1) m (by omega) (by omega)
        by_cases e : j = m - 1
        · subst e; omega
        · have := hs j (m - 1) (by omega) (by omega); omega
      · intro x
        rw [List.mem_append, h2 x]
        simp only [List.mem_singleton]
        constructor
        · rintro (⟨j, hj, rfl⟩ | rfl)
          · exact ⟨j, by omega, rfl⟩
          · exact ⟨m, by omega, rfl⟩
        · rintro ⟨j, hj, rfl⟩
          by_cases e : j = m
          · subst e; exact .inr rfl
          · exact .inl ⟨j, by omega, rfl⟩
    · rw [if_neg hk, List.append_nil]
      refine ⟨h1, fun x => ?_⟩
      rw [h2 x]
      have hm0 : m ≠ 0 ∧ d[m]! = d[m - 1]! := by
        simp [keeps] at hk
        exact hk
      constructor
      · rintro ⟨j, hj, rfl⟩; exact ⟨j, by omega, rfl⟩
      · rintro ⟨j, hj, rfl⟩
        by_cases e : j = m
        · subst e; exact ⟨j - 1, by omega, hm0.2.symm⟩
        · exact ⟨j, by omega, rfl⟩
theorem compactI_spec {l : List Int} (h : l.Pairwise (· ≤ ·)) : (compact l).Pairwise (· < ·) ∧ ∀ x, x ∈ compact l ↔ x ∈ l := by
  have key := compactUpToI l.toArray (fun i j hij hj => by
    have hj' : j < l.length := by simpa using hj
    have := List.pairwise_iff_getElem.1 h i j (by omega) hj' hij
    simpa [hj', show i < l.length by omega] using this) l.length (by simp)
  refine ⟨key.1, fun x => ?_⟩
  have := key.2 x
  unfold compact
  rw [this, List.mem_iff_getElem]
  constructor
  · rintro ⟨j, hj, rfl⟩; exact ⟨j, hj, by simp [hj]⟩
  · rintro ⟨j, hj, rfl⟩; exact ⟨j, hj, by simp [hj]⟩
theorem sortI_sorted (l : List Int) : (sortI l).Pairwise (· ≤ ·) := by
  have := List.pairwise_mergeSort (le := fun x y : Int => decide (x ≤ y)) (fun x y z h1 h2 => by simp at *; omega) (fun x y => by simp; omega) l
  exact this.imp fun h => by simpa using h
theorem sortI_mem (l : List Int) (x : Int) : x ∈ sortI l ↔ x ∈ l := (List.mergeSort_perm l _).mem_iff
/-- the nodes of the lives, rising, each once -/
def nodesL (l : List Pr) : List Int := compact (sortI (l.map (·.1)))
theorem nodesL_len (l : List Pr) : (nodesL l).length ≤ l.length := by
  have := compactI_len (sortI (l.map (·.1))); rw [sortI_len, List.length_map] at this; exact this
theorem nodesL_spec (l : List Pr) : (nodesL l).Pairwise (· < ·) ∧ ∀ x, x ∈ nodesL l ↔ ∃ p ∈ l, p.1 = x := by
  obtain ⟨h1, h2⟩ := compactI_spec (sortI_sorted (l.map (·.1)))
  exact ⟨h1, fun x => by unfold nodesL; rw [h2, sortI_mem, List.mem_map]⟩
theorem fst_sorted {l : List Pr} (h : SS l) : (l.map (·.1)).Pairwise (· ≤ ·) := by
  rw [List.pairwise_map]
  exact List.Pairwise.imp (fun h => by unfold ltP at h; omega) h
theorem run_make_rowN {P : Program} (t e : TypeId) (i : TypeInfo) (z : Value) (ht : P.underlying t = some (.slice e)) (hi : P.info? e = some i) (hz : i.zero = some z)
    (kl kc : IntKind) (n c : Nat) (hnc : n ≤ c) (hbytes : i.bytes * c ≤ 281474976710656) (h63 : c ≤ 9223372036854775807) (w : World) :
    (Instr.makeSlice t (.int kl (n : Int)) (.int kc (c : Int))).run P w = .ok (.slice (some ⟨w.heap.size, 0, none⟩) n c) (w.alloc (.cells (madeCells z.cells (c * i.size)) e)) := by
  have hb : (i.bytes : Int) * (c : Int) ≤ 281474976710656 := by
    have h : ((i.bytes * c : Nat) : Int) ≤ 281474976710656 := by omega
    rwa [Int.natCast_mul] at h
  have hr := run_make (P := P) w t e i z ht hi hz kl kc n c (by omega) (by omega) hb (by omega)
  simp only [Int.toNat_natCast] at hr
  exact hr

set_option maxHeartbeats 1000000 in
theorem nodes_s (A : Option Addr) (c : Nat) (l : List Pr) (w : World) (h : Sl w A l) (hn : l.length ≤ 1000000) :
    Calls Tryz.prog 79 #[.slice A l.length c] w (RetI w (nodesL l)) := by
  obtain ⟨i, hi, hz, hsize, hby⟩ := info_parts (show (Tryz.prog.info? 3).map (fun i => (i.zero, i.size, i.bytes)) = some (some (.int .i64 0), 1, 8) by kernel_rfl)
  have hmk : ∀ W : World, (Instr.makeSlice 36 (.int .i64 0) (.int .i64 (l.length : Int))).run Tryz.prog W = .ok (.slice (some ⟨W.heap.size, 0, none⟩) 0 l.length) (W.alloc (.cells (madeCells #[.int .i64 0] l.length) 3)) := fun W => by
    have := run_make_rowN 36 3 i (.int .i64 0) Tryz.underlying36 hi hz .i64 .i64 0 l.length (Nat.zero_le _) (by rw [hby]; omega) (by omega) W
    rw [hsize, Nat.mul_one] at this
    exact this
  have HS := hide h
  clear hi hz hsize hby h
  go_enter Tryz.func79, Tryz.ntmps79
  go_wp2
  go_loopw [3, 11] (fun v i wr => ∃ k : Nat, k ≤ l.length ∧ i = .int .i64 k ∧ OwnI wr w.heap.size v ((l.take k).map (·.1)) ∧ (∃ g cap, v = .slice (some ⟨g, 0, none⟩) ((l.take k).map (·.1)).length cap) ∧ Below w.heap.size w wr) (fun _ i _ => l.length - (intOf i).toNat)
  case atStart =>
    refine ⟨0, Nat.zero_le _, rfl, ?_, ⟨_, _, rfl⟩, below_alloc _ _⟩
    exact ⟨rfl, .inr ⟨w.heap.size, l.length, _, rfl, Nat.le_refl _, heap_alloc_new w _, Nat.zero_le _, by unfold maxLen; omega, by simp [madeCells], rfl⟩⟩
  case round =>
    obtain ⟨k, hk, rfl, hown, ⟨g, cap, rfl⟩, hbw⟩ := hrel
    have HO := hide hown
    have hsz := hbw.size
    by_cases hlt : k < l.length
    · obtain ⟨b1, off, ⟨pn, pi⟩, rfl, hb, hp, g1, g2⟩ := (Reads.below HS.out hbw).at2 hlt
      simp only at g1 g2
      have hst : (l.take (k + 1)).map (·.1) = (l.take k).map (·.1) ++ [pn] := by rw [take_succ_of hp]; simp
      have HST := hide hst
      generalize hL : (l.take k).map (·.1) = L at *
      have hLl : L.length ≤ k := by rw [← hL, List.length_map, List.length_take]; omega
      have HL := hide hL
      clear hown hp hst hL hmk
      go_wp2_with (at_builtin; go_must (refine wpList_append_any _ Tryz.okI (by rfl) (.tmp 15) (.tmp 18) (by rfl) w.heap.size _ _ (ics L) (by rfl) ((HO.out.alloc _).alloc _) (wr.heap.size + 1 + 1) (some ⟨wr.heap.size + 1, 0, none⟩) 1 1 (ics [pn]) (by rfl) (reads_oneI_at _ pn (wr.heap.size + 1) (by simp)) (ics_one _) (by unfold maxLen; omega) (by omega) (by simp; omega) ?_); intro v1 w4 hown1 hg1 hnil1 hat1)
      go_roundw
      case rel =>
        have hown2 : OwnI w4 w.heap.size v1 (L ++ [pn]) := by rw [OwnI, List.length_append, ics_app]; exact hown1
        refine ⟨k + 1, by omega, by go_num, ?_, ?_, ?_⟩
        · rw [HST.out]; exact hown2
        · rw [HST.out]
          obtain ⟨g', cap', hv', _⟩ := hown2.form (by simp)
          exact ⟨g', cap', hv'⟩
        · exact ((hbw.alloc hsz _).alloc (by simp; omega) _).grown hg1 (by simp; omega) (fun g hg => (HO.out.lt g hg).1)
      case measure => simp [intOf]; omega
    · have hk' : k = l.length := by omega
      subst hk'
      rw [List.take_length] at hown
      rw [List.take_length]
      have hLl : (l.map (·.1)).length = l.length := List.length_map _
      have hsI := sortI_len (l.map (·.1))
      have hcI := compactI_len (sortI (l.map (·.1)))
      obtain ⟨hg1, hg2⟩ := hown.lt g rfl
      have hcap : (l.map (·.1)).length ≤ cap ∧ cap ≤ maxLen := by
        obtain ⟨A', c', he, h1, h2⟩ := own_slice hown
        injection he with _ _ he
        subst he; exact ⟨h1, h2⟩
      have HD := hide (show nodesL l = compact (sortI (l.map (·.1))) from rfl)
      generalize l.map (·.1) = L at *
      have hLb : L.length ≤ 1000000 := by omega
      clear hLl
      have HO2 := hide hown
      have HCAP := hide hcap.2
      have hcap1 := hcap.1
      have HSI := hide hsI
      clear hown hlt hk hcap hmk
      rw [hsI] at hcI
      clear hsI
      go_wp2_with fail
      with_reducible refine (sortInt_own w.heap.size g cap L wr HO2.out hg2 (by omega)).mono ?_
      rintro e w2 ⟨rfl, hown2, hgr2⟩
      have C := compactInt_own w.heap.size g cap (sortI L) w2 hown2 (by rw [HSI.out]; omega) (by rw [HSI.out]; omega)
      rw [HSI.out] at C
      have HC := hide C
      clear C hown2
      go_wp2_with fail
      refine HC.out.mono ?_
      rintro e w3 ⟨rfl, hown3, hgr3⟩
      have HO3 := hide hown3
      clear hown3
      go_wp2_with fail
      refine (clipI_any _ _ _ _ (by omega)).mono ?_
      rintro e w4 ⟨rfl, rfl⟩
      go_wp2
      go_ret
      rw [HD.out]
      refine ⟨some ⟨g, 0, none⟩, _, rfl, Reads.of_own HO3.out, ?_⟩
      exact (hbw.grown hgr2 hsz (fun k hk => by injection hk with hk; omega)).grown hgr3 (Nat.le_trans hsz hgr2.size) (fun k hk => by injection hk with hk; omega)


end Go.Proofs.YtniogmefbjfoaaaGreat

namespace Go.Proofs.YtniogmefbjfoaaaGreat
set_option linter.unusedSimpArgs false
set_option linter.unusedVariables false
set_option linter.unusedSectionVars false
open Go.RowKit Go.Sort Go.Lib

/-- the first place of p in l, or -1 -/
def idxL (l : List Pr) (p : Pr) : Int := if p ∈ l then (l.idxOf p : Int) else -1
theorem idxOf_take {l : List Pr} {p : Pr} {k : Nat} (h : p ∉ l.take k) (hk : l[k]? = some p) : l.idxOf p = k := by
  have hl := (List.getElem?_eq_some_iff.1 hk).1
  have e : l = l.take k ++ (p :: l.drop (k + 1)) := by
    have h2 : l.drop k = p :: l.drop (k + 1) := by
      rw [List.drop_eq_getElem_cons hl]
      obtain ⟨_, h3⟩ := List.getElem?_eq_some_iff.1 hk
      rw [h3]
    rw [← h2, List.take_append_drop]
  rw [e, List.idxOf_append, if_neg h]
  rw [List.idxOf_cons_self, List.length_take]; omega

theorem idxL_neg (l : List Pr) (p : Pr) : decide (0 ≤ idxL l p) = decide (p ∈ l) := by
  rw [decide_eq_decide]; unfold idxL
  split
  · rename_i h; simp [h]
  · rename_i h; simp [h]
set_option maxHeartbeats 1000000 in
theorem refSet_b (A : Option Addr) (c : Nat) (l : List Pr) (w : World) (hR : Sl w A l) (hn : l.length ≤ 1000000) (hwf : ∀ p ∈ l, 0 ≤ p.2) :
    Calls Tryz.prog 95 #[.slice A l.length c] w (RetB w (setB l)) := by
  go_enter Tryz.func95, Tryz.ntmps95
  go_wp2
  go_loopw [3] (fun i wr => ∃ k : Nat, k ≤ l.length ∧ i = .int .i64 k ∧ Below w.heap.size w wr ∧ (List.range k).all (okAt l) = true) (fun i _ => l.length - (intOf i).toNat)
  case atStart => exact ⟨0, Nat.zero_le _, rfl, Below.refl _ _, by simp⟩
  case round =>
    obtain ⟨k, hk, rfl, hbw, hall⟩ := hrel
    have HN := hide hall
    clear hall
    by_cases hlt : k < l.length
    · have hRw := Reads.below hR hbw
      have hsz := hbw.size
      obtain ⟨b, off, ⟨pn, pi⟩, rfl, hb, hp, g1, g2⟩ := hRw.at2 hlt
      have hpi := hwf _ (List.mem_of_getElem? hp)
      have HP := hide hp
      have HR := hide hRw
      clear hp hRw hR hwf
      simp only at g1 g2 hpi
      have i0 : (0 : Int) ≤ (k : Int) := by omega
      have i1 : (k : Int) < (l.length : Int) := by omega
      have q1 : ∀ d os, (gw wr d os).cell? ⟨b, off + k * 2, none⟩ = some (.int .i64 pn) := fun d os => cell_gw (by simp; omega) g1 d os
      have q2 : ∀ d os, (gw wr d os).cell? ⟨b, off + k * 2 + 1, none⟩ = some (.int .u64 pi) := fun d os => cell_gw (by simp; omega) g2 d os
      have hbg : ∀ d os, Below w.heap.size w (gw wr d os) := fun d os => below_step hbw (below_gw _ _ _)
      have HBG := hide hbg
      clear g1 g2 hbg
      cases hm : mayB pn pi
      · have H := hide (setB_false hlt (okAt_may HP.out hm))
        go_wp2
        (refine wp_region_gw (by kernel_rfl) (by kernel_rfl) ?_; (repeat (go_big_quiet_step ((go_at_call 17; exact calls_gw (refMay_b _ _ _ hpi))))); refine wpQuiet_nil ?_; intro _ hw'; obtain ⟨⟨dq, osq⟩, hw''⟩ := hw'; subst hw'')
        go_wp2
        go_ret
        exact ⟨ret_b H.out.symm, HBG.out _ _⟩
      · by_cases hk0 : k = 0
        · have H := hide (show (List.range (k + 1)).all (okAt l) = true by rw [all_succ, HN.out]; subst hk0; rw [okAt_zero HP.out hm]; rfl)
          have hk1 : decide (0 < k) = false := by simp; omega
          clear hk0
          go_wp2
          (refine wp_region_gw (by kernel_rfl) (by kernel_rfl) ?_; (repeat (go_big_quiet_step ((go_at_call 17; exact calls_gw (refMay_b _ _ _ hpi))))); refine wpQuiet_nil ?_; intro _ hw'; obtain ⟨⟨dq, osq⟩, hw''⟩ := hw'; subst hw'')
          go_wp2
          go_roundw
          case rel => exact ⟨k + 1, by omega, by go_num, HBG.out _ _, H.out⟩
          case measure => simp [intOf]; omega
        · obtain ⟨b', off', ⟨pn', pi'⟩, he, hb', hp', g1', g2'⟩ := HR.out.at2 (k := k - 1) (by omega)
          injection he with he
          injection he with he1 he2
          subst he1 he2
          have HP' := hide hp'
          clear hp'
          simp only at g1' g2'
          have q1' : ∀ d os, (gw wr d os).cell? ⟨b, off + (k - 1) * 2, none⟩ = some (.int .i64 pn') := fun d os => cell_gw (by simp; omega) g1' d os
          have q2' : ∀ d os, (gw wr d os).cell? ⟨b, off + (k - 1) * 2 + 1, none⟩ = some (.int .u64 pi') := fun d os => cell_gw (by simp; omega) g2' d os
          have j0 : (0 : Int) < (k : Int) := by omega
          have hk1 : decide (0 < k) = true := by simp; omega
          have j1 : (0 : Int) ≤ (k : Int) - 1 := by omega
          have j2 : (k : Int) - 1 < (l.length : Int) := by omega
          have j3 : ((k : Int) - 1).toNat = k - 1 := by omega
          have hbf := befB_cmp pn' pi' pn pi
          clear g1' g2'
          by_cases hc : cmpP (pn', pi') (pn, pi) < 0
          · have H := hide (show (List.range (k + 1)).all (okAt l) = true by rw [all_succ, HN.out, okAt_succ HP.out HP'.out hk0 hm]; simp [hc])
            have hcb : befB pn' pi' pn pi = true := by rw [hbf]; simp [hc]
            clear hbf hc
            go_wp2
            (refine wp_region_gw (by kernel_rfl) (by kernel_rfl) ?_; (repeat (go_big_quiet_step ((first | (go_at_call 17; exact calls_gw (refMay_b _ _ _ hpi)) | (go_at_call 108; exact calls_gw (before_b _ _ _ _ _)))))); refine wpQuiet_nil ?_; intro _ hw'; obtain ⟨⟨dq, osq⟩, hw''⟩ := hw'; subst hw'')
            go_wp2
            go_roundw
            case rel => exact ⟨k + 1, by omega, by go_num, HBG.out _ _, H.out⟩
            case measure => simp [intOf]; omega
          · have H := hide (setB_false hlt (show okAt l k = false by rw [okAt_succ HP.out HP'.out hk0 hm]; simp; omega))
            have hcb : befB pn' pi' pn pi = false := by rw [hbf]; simp; omega
            clear hbf hc
            go_wp2
            (refine wp_region_gw (by kernel_rfl) (by kernel_rfl) ?_; (repeat (go_big_quiet_step ((first | (go_at_call 17; exact calls_gw (refMay_b _ _ _ hpi)) | (go_at_call 108; exact calls_gw (before_b _ _ _ _ _)))))); refine wpQuiet_nil ?_; intro _ hw'; obtain ⟨⟨dq, osq⟩, hw''⟩ := hw'; subst hw'')
            go_wp2
            go_ret
            exact ⟨ret_b H.out.symm, HBG.out _ _⟩
    · have H := hide (show setB l = true by
        have : k = l.length := by omega
        subst this; exact HN.out)
      go_wp2
      go_ret
      exact ⟨ret_b H.out.symm, hbw⟩

end Go.Proofs.YtniogmefbjfoaaaGreat
