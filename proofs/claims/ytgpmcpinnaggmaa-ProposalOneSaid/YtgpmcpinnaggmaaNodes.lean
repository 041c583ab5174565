/-
  Contracts: proc.Nodes, the reference's Nodes, law03's ints; slices.Index and Contains at lives, proc.Has; the reference's Set.
-/
import Derived.Test.YtgpmcpinnaggmaaInts
import Derived.Laws.MakeOwn
namespace Go.Proofs.Ytgpmcpinnaggmaa
set_option linter.unusedSimpArgs false
set_option linter.unusedVariables false
set_option linter.unusedSectionVars false
open Go.RowKit Go.Sort Go.Lib

/-! ### plain lists of int -/
theorem ssI_ext : ∀ {l m : List Int}, l.Pairwise (· < ·) → m.Pairwise (· < ·) → (∀ x, x ∈ l ↔ x ∈ m) → l = m := by
  intro l
  induction l with
  | nil =>
    intro m _ _ h
    cases m with
    | nil => rfl
    | cons y m => exact absurd ((h y).2 (by simp)) (by simp)
  | cons x l ih =>
    intro m hl hm h
    cases m with
    | nil => exact absurd ((h x).1 (by simp)) (by simp)
    | cons y m =>
      obtain ⟨hx, hl'⟩ := List.pairwise_cons.1 hl
      obtain ⟨hy, hm'⟩ := List.pairwise_cons.1 hm
      have e : x = y := by
        have h1 := (h x).1 (by simp)
        have h2 := (h y).2 (by simp)
        rcases List.mem_cons.1 h1 with a | a
        · exact a
        · rcases List.mem_cons.1 h2 with b | b
          · exact b.symm
          · have := hy x a; have := hx y b; omega
      subst e
      rw [ih hl' hm' fun z => ?_]
      constructor
      · intro hz
        rcases List.mem_cons.1 ((h z).1 (List.mem_cons_of_mem _ hz)) with b | b
        · subst b; have := hx z hz; omega
        · exact b
      · intro hz
        rcases List.mem_cons.1 ((h z).2 (List.mem_cons_of_mem _ hz)) with b | b
        · subst b; have := hy z hz; omega
        · exact b
theorem compactUpToI (d : Array Int) (hs : ∀ i j, i < j → j < d.size → d[i]! ≤ d[j]!) : ∀ m, m ≤ d.size →
    (compactUpTo d m).Pairwise (· < ·) ∧ (∀ x, x ∈ compactUpTo d m ↔ ∃ j, j < m ∧ d[j]! = x) := by
  intro m
  induction m with
  | zero => intro _; exact ⟨by simp [compactUpTo], by simp [compactUpTo]⟩
  | succ m ih =>
    intro hm
    obtain ⟨h1, h2⟩ := ih (by omega)
    rw [compactUpTo_succ]
    by_cases hk : keeps d m = true
    · rw [if_pos hk]
      refine ⟨?_, ?_⟩
      · rw [List.pairwise_append]
        refine ⟨h1, by simp, ?_⟩
        intro a ha b hb
        simp at hb; subst hb
        obtain ⟨j, hj, rfl⟩ := (h2 a).1 ha
        have hne : d[m]! ≠ d[m - 1]! := by
          simp [keeps] at hk
          rcases hk with h0 | h0
          · omega
          · exact h0
        have hl := hs (m - 1) m (by omega) (by omega)
        by_cases e : j = m - 1
        · subst e; omega
        · have := hs j (m - 1) (by omega) (by omega); omega
      · intro x
        rw [List.mem_append, h2 x]
        simp only [List.mem_singleton]
        constructor
        · rintro (⟨j, hj, rfl⟩ | rfl)
          · exact ⟨j, by omega, rfl⟩
          · exact ⟨m, by omega, rfl⟩
        · rintro ⟨j, hj, rfl⟩
          by_cases e : j = m
          · subst e; exact .inr rfl
          · exact .inl ⟨j, by omega, rfl⟩
    · rw [if_neg hk, List.append_nil]
      refine ⟨h1, fun x => ?_⟩
      rw [h2 x]
      have hm0 : m ≠ 0 ∧ d[m]! = d[m - 1]! := by
        simp [keeps] at hk
        exact hk
      constructor
      · rintro ⟨j, hj, rfl⟩; exact ⟨j, by omega, rfl⟩
      · rintro ⟨j, hj, rfl⟩
        by_cases e : j = m
        · subst e; exact ⟨j - 1, by omega, hm0.2.symm⟩
        · exact ⟨j, by omega, rfl⟩
theorem compactI_spec {l : List Int} (h : l.Pairwise (· ≤ ·)) : (compact l).Pairwise (· < ·) ∧ ∀ x, x ∈ compact l ↔ x ∈ l := by
  have key := compactUpToI l.toArray (fun i j hij hj => by
    have hj' : j < l.length := by simpa using hj
    have := List.pairwise_iff_getElem.1 h i j (by omega) hj' hij
    simpa [hj', show i < l.length by omega] using this) l.length (by simp)
  refine ⟨key.1, fun x => ?_⟩
  have := key.2 x
  unfold compact
  rw [this, List.mem_iff_getElem]
  constructor
  · rintro ⟨j, hj, rfl⟩; exact ⟨j, hj, by simp [hj]⟩
  · rintro ⟨j, hj, rfl⟩; exact ⟨j, hj, by simp [hj]⟩
theorem sortI_sorted (l : List Int) : (sortI l).Pairwise (· ≤ ·) := by
  have := List.pairwise_mergeSort (le := fun x y : Int => decide (x ≤ y)) (fun x y z h1 h2 => by simp at *; omega) (fun x y => by simp; omega) l
  exact this.imp fun h => by simpa using h
theorem sortI_mem (l : List Int) (x : Int) : x ∈ sortI l ↔ x ∈ l := (List.mergeSort_perm l _).mem_iff
/-- the nodes of the lives, rising, each once -/
def nodesL (l : List Pr) : List Int := compact (sortI (l.map (·.1)))
theorem nodesL_len (l : List Pr) : (nodesL l).length ≤ l.length := by
  have := compactI_len (sortI (l.map (·.1))); rw [sortI_len, List.length_map] at this; exact this
theorem nodesL_spec (l : List Pr) : (nodesL l).Pairwise (· < ·) ∧ ∀ x, x ∈ nodesL l ↔ ∃ p ∈ l, p.1 = x := by
  obtain ⟨h1, h2⟩ := compactI_spec (sortI_sorted (l.map (·.1)))
  exact ⟨h1, fun x => by unfold nodesL; rw [h2, sortI_mem, List.mem_map]⟩
theorem fst_sorted {l : List Pr} (h : SS l) : (l.map (·.1)).Pairwise (· ≤ ·) := by
  rw [List.pairwise_map]
  exact List.Pairwise.imp (fun h => by unfold ltP at h; omega) h
theorem nodesL_ref (l : List Pr) : compact ((sortedL l).map (·.1)) = nodesL l := by
  obtain ⟨h1, h2⟩ := compactI_spec (fst_sorted (sortedL_ss l))
  obtain ⟨h3, h4⟩ := nodesL_spec l
  refine ssI_ext h1 h3 fun x => ?_
  rw [h2, h4, List.mem_map]
  constructor
  · rintro ⟨p, hp, rfl⟩; exact ⟨p, mem_sortedL.1 hp, rfl⟩
  · rintro ⟨p, hp, rfl⟩; exact ⟨p, mem_sortedL.2 hp, rfl⟩

theorem run_make_rowN {P : Program} (t e : TypeId) (i : TypeInfo) (z : Value) (ht : P.underlying t = some (.slice e)) (hi : P.info? e = some i) (hz : i.zero = some z)
    (kl kc : IntKind) (n c : Nat) (hnc : n ≤ c) (hbytes : i.bytes * c ≤ 281474976710656) (h63 : c ≤ 9223372036854775807) (w : World) :
    (Instr.makeSlice t (.int kl (n : Int)) (.int kc (c : Int))).run P w = .ok (.slice (some ⟨w.heap.size, 0, none⟩) n c) (w.alloc (.cells (madeCells z.cells (c * i.size)) e)) := by
  have hb : (i.bytes : Int) * (c : Int) ≤ 281474976710656 := by
    have h : ((i.bytes * c : Nat) : Int) ≤ 281474976710656 := by omega
    rwa [Int.natCast_mul] at h
  have hr := run_make (P := P) w t e i z ht hi hz kl kc n c (by omega) (by omega) hb (by omega)
  simp only [Int.toNat_natCast] at hr
  exact hr

set_option maxHeartbeats 1000000 in
theorem nodes_s (A : Option Addr) (c : Nat) (l : List Pr) (w : World) (h : Sl w A l) (hn : l.length ≤ 1000000) :
    Calls Try.prog 66 #[.slice A l.length c] w (RetI w (nodesL l)) := by
  obtain ⟨i, hi, hz, hsize, hby⟩ := info_parts (show (Try.prog.info? 3).map (fun i => (i.zero, i.size, i.bytes)) = some (some (.int .i64 0), 1, 8) by kernel_rfl)
  have hmk : ∀ W : World, (Instr.makeSlice 95 (.int .i64 0) (.int .i64 (l.length : Int))).run Try.prog W = .ok (.slice (some ⟨W.heap.size, 0, none⟩) 0 l.length) (W.alloc (.cells (madeCells #[.int .i64 0] l.length) 3)) := fun W => by
    have := run_make_rowN 95 3 i (.int .i64 0) Try.underlying95 hi hz .i64 .i64 0 l.length (Nat.zero_le _) (by rw [hby]; omega) (by omega) W
    rw [hsize, Nat.mul_one] at this
    exact this
  have HS := hide h
  clear hi hz hsize hby h
  go_enter Try.func66, Try.ntmps66
  go_wp2
  go_loopw [3, 11] (fun v i wr => ∃ k : Nat, k ≤ l.length ∧ i = .int .i64 k ∧ OwnI wr w.heap.size v ((l.take k).map (·.1)) ∧ (∃ g cap, v = .slice (some ⟨g, 0, none⟩) ((l.take k).map (·.1)).length cap) ∧ Below w.heap.size w wr) (fun _ i _ => l.length - (intOf i).toNat)
  case atStart =>
    refine ⟨0, Nat.zero_le _, rfl, ?_, ⟨_, _, rfl⟩, below_alloc _ _⟩
    exact ⟨rfl, .inr ⟨w.heap.size, l.length, _, rfl, Nat.le_refl _, heap_alloc_new w _, Nat.zero_le _, by unfold maxLen; omega, by simp [madeCells], rfl⟩⟩
  case round =>
    obtain ⟨k, hk, rfl, hown, ⟨g, cap, rfl⟩, hbw⟩ := hrel
    have HO := hide hown
    have hsz := hbw.size
    by_cases hlt : k < l.length
    · obtain ⟨b1, off, ⟨pn, pi⟩, rfl, hb, hp, g1, g2⟩ := (Reads.below HS.out hbw).at2 hlt
      simp only at g1 g2
      have hst : (l.take (k + 1)).map (·.1) = (l.take k).map (·.1) ++ [pn] := by rw [take_succ_of hp]; simp
      have HST := hide hst
      generalize hL : (l.take k).map (·.1) = L at *
      have hLl : L.length ≤ k := by rw [← hL, List.length_map, List.length_take]; omega
      have HL := hide hL
      clear hown hp hst hL hmk
      go_wp2_with (at_builtin; go_must (refine wpList_append_any _ Try.okI (by rfl) (.tmp 15) (.tmp 18) (by rfl) w.heap.size _ _ (ics L) (by rfl) ((HO.out.alloc _).alloc _) (wr.heap.size + 1 + 1) (some ⟨wr.heap.size + 1, 0, none⟩) 1 1 (ics [pn]) (by rfl) (reads_oneI_at _ pn (wr.heap.size + 1) (by simp)) (ics_one _) (by unfold maxLen; omega) (by omega) (by simp; omega) ?_); intro v1 w4 hown1 hg1 hnil1 hat1)
      go_roundw
      case rel =>
        have hown2 : OwnI w4 w.heap.size v1 (L ++ [pn]) := by rw [OwnI, List.length_append, ics_app]; exact hown1
        refine ⟨k + 1, by omega, by go_num, ?_, ?_, ?_⟩
        · rw [HST.out]; exact hown2
        · rw [HST.out]
          obtain ⟨g', cap', hv', _⟩ := hown2.form (by simp)
          exact ⟨g', cap', hv'⟩
        · exact ((hbw.alloc hsz _).alloc (by simp; omega) _).grown hg1 (by simp; omega) (fun g hg => (HO.out.lt g hg).1)
      case measure => simp [intOf]; omega
    · have hk' : k = l.length := by omega
      subst hk'
      rw [List.take_length] at hown
      rw [List.take_length]
      have hLl : (l.map (·.1)).length = l.length := List.length_map _
      have hsI := sortI_len (l.map (·.1))
      have hcI := compactI_len (sortI (l.map (·.1)))
      obtain ⟨hg1, hg2⟩ := hown.lt g rfl
      have hcap : (l.map (·.1)).length ≤ cap ∧ cap ≤ maxLen := by
        obtain ⟨A', c', he, h1, h2⟩ := own_slice hown
        injection he with _ _ he
        subst he; exact ⟨h1, h2⟩
      have HD := hide (show nodesL l = compact (sortI (l.map (·.1))) from rfl)
      generalize l.map (·.1) = L at *
      have hLb : L.length ≤ 1000000 := by omega
      clear hLl
      have HO2 := hide hown
      have HCAP := hide hcap.2
      have hcap1 := hcap.1
      have HSI := hide hsI
      clear hown hlt hk hcap hmk
      rw [hsI] at hcI
      clear hsI
      go_wp2_with fail
      with_reducible refine (sortInt_own w.heap.size g cap L wr HO2.out hg2 (by omega)).mono ?_
      rintro e w2 ⟨rfl, hown2, hgr2⟩
      have C := compactInt_own w.heap.size g cap (sortI L) w2 hown2 (by rw [HSI.out]; omega) (by rw [HSI.out]; omega)
      rw [HSI.out] at C
      have HC := hide C
      clear C hown2
      go_wp2_with fail
      refine HC.out.mono ?_
      rintro e w3 ⟨rfl, hown3, hgr3⟩
      have HO3 := hide hown3
      clear hown3
      go_wp2_with fail
      refine (clipI_any _ _ _ _ (by omega)).mono ?_
      rintro e w4 ⟨rfl, rfl⟩
      go_wp2
      go_ret
      rw [HD.out]
      refine ⟨some ⟨g, 0, none⟩, _, rfl, Reads.of_own HO3.out, ?_⟩
      exact (hbw.grown hgr2 hsz (fun k hk => by injection hk with hk; omega)).grown hgr3 (Nat.le_trans hsz hgr2.size) (fun k hk => by injection hk with hk; omega)


end Go.Proofs.Ytgpmcpinnaggmaa
