/-
  Contracts: slices.BinarySearchFunc and slices.Equal at lives; proc.chosen, Meet, Minus, Same.
-/
import Derived.Test.YtgbappmidllnmaaUnion
namespace Go.Proofs.Ytgbappmidllnmaa
set_option linter.unusedSimpArgs false
set_option linter.unusedVariables false
set_option linter.unusedSectionVars false
open Go.RowKit Go.Sort Go.Lib

/-! ### the binary search, in plain lists -/
def bsInv (o : List Pr) (p : Pr) (i j : Nat) : Prop :=
  i ≤ j ∧ j ≤ o.length ∧ (∀ k, k < i → ∀ x, o[k]? = some x → cmpP x p < 0) ∧ (∀ k, j ≤ k → ∀ x, o[k]? = some x → ¬ cmpP x p < 0)
theorem ss_get {o : List Pr} (h : SS o) {i j : Nat} {x y : Pr} (hij : i < j) (hx : o[i]? = some x) (hy : o[j]? = some y) : ltP x y := by
  obtain ⟨h1, rfl⟩ := List.getElem?_eq_some_iff.1 hx
  obtain ⟨h2, rfl⟩ := List.getElem?_eq_some_iff.1 hy
  exact List.pairwise_iff_getElem.1 h i j h1 h2 hij
theorem bsInv_start (o : List Pr) (p : Pr) : bsInv o p 0 o.length := ⟨Nat.zero_le _, Nat.le_refl _, fun k hk => absurd hk (by omega), fun k hk x hx => by
  have := (List.getElem?_eq_some_iff.1 hx).1; omega⟩
theorem bsInv_lo {o : List Pr} {p x : Pr} {i j h : Nat} (hs : SS o) (hI : bsInv o p i j) (h2 : h < j) (hx : o[h]? = some x) (hc : cmpP x p < 0) : bsInv o p (h + 1) j := by
  refine ⟨by omega, hI.2.1, fun k hk y hy => ?_, hI.2.2.2⟩
  by_cases e : k = h
  · subst e; rw [hx] at hy; injection hy with hy; rw [← hy]; exact hc
  · exact (ltP_cmp _ _).1 (ltP_trans (ss_get hs (by omega) hy hx) ((ltP_cmp _ _).2 hc))
theorem bsInv_hi {o : List Pr} {p x : Pr} {i j h : Nat} (hs : SS o) (hI : bsInv o p i j) (h1 : i ≤ h) (h2 : h < j) (hx : o[h]? = some x) (hc : ¬ cmpP x p < 0) : bsInv o p i h := by
  refine ⟨h1, by have := hI.2.1; omega, hI.2.2.1, fun k hk y hy => ?_⟩
  by_cases e : k = h
  · subst e; rw [hx] at hy; injection hy with hy; rw [← hy]; exact hc
  · intro hlt
    exact hc ((ltP_cmp _ _).1 (ltP_trans (ss_get hs (by omega) hx hy) ((ltP_cmp _ _).2 hlt)))
theorem bsInv_end {o : List Pr} {p : Pr} {i : Nat} (hs : SS o) (hI : bsInv o p i i) : (∃ x, o[i]? = some x ∧ x = p) ↔ p ∈ o := by
  constructor
  · rintro ⟨x, hx, rfl⟩; exact List.mem_of_getElem? hx
  · intro hp
    obtain ⟨k, hk⟩ := List.mem_iff_getElem?.1 hp
    refine ⟨p, ?_, rfl⟩
    rcases Nat.lt_trichotomy k i with h | h | h
    · exact absurd (hI.2.2.1 k h p hk) (by have := (cmpP_zero p p).2 rfl; omega)
    · rw [← h]; exact hk
    · have hk' := (List.getElem?_eq_some_iff.1 hk).1
      have hi : o[i]? = some (o[i]'(by omega)) := List.getElem?_eq_getElem _
      exact absurd ((ltP_cmp _ _).1 (ss_get hs h hi hk)) (hI.2.2.2 i (Nat.le_refl _) _ hi)

set_option maxHeartbeats 1000000 in
theorem search_any (A : Option Addr) (c : Nat) (o : List Pr) (x y : Int) (w : World) (hs : SS o) (hR : Reads w w.heap.size 2 A o.length (pcs o)) (hn : o.length ≤ 1000000) :
    Calls Try.prog 134 #[.slice A o.length c, .agg #[.int .i64 x, .int .u64 y], .func (.func 66) #[] #[]] w fun e w' => ∃ i : Int, e = .returned (.tuple #[.int .i64 i, .bool (decide ((x, y) ∈ o))]) ∧ Below w.heap.size w w' := by
  go_enter Try.func134, Try.ntmps134
  go_wp2
  go_loopw [9, 10] (fun s t wr => ∃ i j : Nat, s = .int .i64 i ∧ t = .int .i64 j ∧ bsInv o (x, y) i j ∧ Below (w.heap.size + 1) (w.alloc (bx x y)) wr) (fun s t _ => (intOf t).toNat - (intOf s).toNat)
  case atStart => exact ⟨0, o.length, rfl, rfl, bsInv_start _ _, Below.refl _ _⟩
  case round =>
    obtain ⟨i, j, rfl, rfl, hI, hbw⟩ := hrel
    have hij := hI.1
    have hjn := hI.2.1
    have HI := hide hI
    have hsz := hbw.size
    simp at hsz
    have hb0 : wr.cell? ⟨w.heap.size, 0, none⟩ = some (.int .i64 x) := (hbw.cell (p := ⟨w.heap.size, 0, none⟩) (by simp)).trans (by simp)
    have hb1 : wr.cell? ⟨w.heap.size, 1, none⟩ = some (.int .u64 y) := (hbw.cell (p := ⟨w.heap.size, 1, none⟩) (by simp)).trans (by simp)
    have q0 : ∀ d os, (gw wr d os).cell? ⟨w.heap.size, 0, none⟩ = some (.int .i64 x) := fun d os => cell_gw (by simp; omega) hb0 d os
    have q1 : ∀ d os, (gw wr d os).cell? ⟨w.heap.size, 1, none⟩ = some (.int .u64 y) := fun d os => cell_gw (by simp; omega) hb1 d os
    have hRw : Reads wr w.heap.size 2 A o.length (pcs o) := (hR.alloc (Nat.le_refl _) (bx x y)).below (hbw.mono (by omega))
    clear hb0 hb1 hI
    by_cases hlt : i < j
    · obtain ⟨b, off, ⟨pn, pi⟩, rfl, hb, hp, g1, g2⟩ := hRw.at2 (k := (i + j) / 2) (by omega)
      simp only at g1 g2
      have q2 : ∀ d os, (gw wr d os).cell? ⟨b, off + (i + j) / 2 * 2, none⟩ = some (.int .i64 pn) := fun d os => cell_gw (by simp; omega) g1 d os
      have q3 : ∀ d os, (gw wr d os).cell? ⟨b, off + (i + j) / 2 * 2 + 1, none⟩ = some (.int .u64 pi) := fun d os => cell_gw (by simp; omega) g2 d os
      have HP := hide hp
      clear hp g1 g2 hRw hR
      have j0 : (0 : Int) ≤ ((i : Int) + (j : Int)) / 2 := by omega
      have j1 : ((i : Int) + (j : Int)) / 2 < (o.length : Int) := by omega
      have j2 : (((i : Int) + (j : Int)) / 2).toNat = (i + j) / 2 := by omega
      have j3 : ((i : Int) + (j : Int)) / 2 = (((i + j) / 2 : Nat) : Int) := by omega
      have HJ := hide j3
      clear j3
      by_cases hc : cmpP (pn, pi) (x, y) < 0
      · have hcb : decide (cmpP (pn, pi) (x, y) < 0) = true := by simp [hc]
        have HK := hide (bsInv_lo hs HI.out (by omega) HP.out hc)
        clear hc hs
        go_wp2
        (refine wp_region_gw (by kernel_rfl) (by kernel_rfl) ?_; (repeat (go_big_quiet_step (((go_at_call 66; exact calls_gw (compare_b _ _ _ _ _)))))); refine wpQuiet_nil ?_; intro _ hw'; obtain ⟨⟨dq, osq⟩, hw''⟩ := hw'; subst hw'')
        go_wp2
        go_roundw
        case rel => exact ⟨(i + j) / 2 + 1, j, by rw [HJ.out]; go_num, rfl, HK.out, hbw.trans ((below_gw _ _ _).mono (by omega))⟩
        case measure => simp [intOf]; omega
      · have hcb : decide (cmpP (pn, pi) (x, y) < 0) = false := by simp [hc]
        have HK := hide (bsInv_hi hs HI.out (by omega) (by omega) HP.out hc)
        clear hc hs
        go_wp2
        (refine wp_region_gw (by kernel_rfl) (by kernel_rfl) ?_; (repeat (go_big_quiet_step (((go_at_call 66; exact calls_gw (compare_b _ _ _ _ _)))))); refine wpQuiet_nil ?_; intro _ hw'; obtain ⟨⟨dq, osq⟩, hw''⟩ := hw'; subst hw'')
        go_wp2
        go_roundw
        case rel => exact ⟨i, (i + j) / 2, rfl, by rw [HJ.out], HK.out, hbw.trans ((below_gw _ _ _).mono (by omega))⟩
        case measure => simp [intOf]; omega
    · have hij' : i = j := by omega
      subst hij'
      have hmem := bsInv_end hs HI.out
      have hbz : Below w.heap.size w wr := (below_alloc w (bx x y)).trans (hbw.mono (by omega))
      by_cases hin : i < o.length
      · obtain ⟨b, off, ⟨pn, pi⟩, rfl, hb, hp, g1, g2⟩ := hRw.at2 (k := i) hin
        simp only at g1 g2
        have q2 : ∀ d os, (gw wr d os).cell? ⟨b, off + i * 2, none⟩ = some (.int .i64 pn) := fun d os => cell_gw (by simp; omega) g1 d os
        have q3 : ∀ d os, (gw wr d os).cell? ⟨b, off + i * 2 + 1, none⟩ = some (.int .u64 pi) := fun d os => cell_gw (by simp; omega) g2 d os
        have H := hide (show decide ((x, y) ∈ o) = (cmpP (pn, pi) (x, y) == 0) by
          rw [Bool.eq_iff_iff, decide_eq_true_iff, ← hmem, beq_iff_eq, cmpP_zero]
          constructor
          · rintro ⟨z, hz, rfl⟩; rw [hp] at hz; injection hz
          · intro h; exact ⟨_, hp, h⟩)
        have j0 : (0 : Int) ≤ (i : Int) := by omega
        have j1 : (i : Int) < (o.length : Int) := by omega
        have t1 : decide (i < o.length) = true := by simp [hin]
        clear hmem hp g1 g2 hRw hR hs
        go_wp2
        (refine wp_region_gw (by kernel_rfl) (by kernel_rfl) ?_; (repeat (go_big_quiet_step (((go_at_call 66; exact calls_gw (compare_b _ _ _ _ _)))))); refine wpQuiet_nil ?_; intro _ hw'; obtain ⟨⟨dq, osq⟩, hw''⟩ := hw'; subst hw'')
        go_wp2
        go_ret2
        exact ⟨i, by rw [H.out]; rfl, hbz.trans ((below_gw _ _ _).mono (by omega))⟩
      · have H := hide (show decide ((x, y) ∈ o) = false by
          rw [decide_eq_false_iff_not, ← hmem]
          rintro ⟨z, hz, _⟩
          exact hin (List.getElem?_eq_some_iff.1 hz).1)
        have t1 : decide (i < o.length) = false := by simp; omega
        clear hmem hRw hR hs
        go_wp2
        (refine wp_region_gw (by kernel_rfl) (by kernel_rfl) ?_; (repeat (go_big_quiet_step (((go_at_call 66; exact calls_gw (compare_b _ _ _ _ _)))))); refine wpQuiet_nil ?_; intro _ hw'; obtain ⟨⟨dq, osq⟩, hw''⟩ := hw'; subst hw'')
        go_wp2
        go_ret2
        exact ⟨i, by rw [H.out]; rfl, hbz.trans ((below_gw _ _ _).mono (by omega))⟩

/-- those of a that are in b, or are not, in their order -/
def chosenL (a b : List Pr) (f : Bool) : List Pr := (sortedL a).filter fun p => decide (p ∈ b) == f
theorem chosen_step {o b : List Pr} {f : Bool} {k : Nat} {p : Pr} (h : o[k]? = some p) : (o.take (k + 1)).filter (fun p => decide (p ∈ b) == f) = (o.take k).filter (fun p => decide (p ∈ b) == f) ++ (if (decide (p ∈ b) == f) = true then [p] else []) := by
  rw [take_succ_of h, List.filter_append]
  by_cases hc : (decide (p ∈ b) == f) = true <;> simp [hc]

set_option maxHeartbeats 2000000 in
theorem chosen_any (A A' : Option Addr) (c c' : Nat) (a b : List Pr) (f : Bool) (w : World) (hR : Reads w w.heap.size 2 A a.length (pcs a)) (hR' : Reads w w.heap.size 2 A' b.length (pcs b)) (hn : a.length ≤ 1000000) (hm : b.length ≤ 1000000) :
    Calls Try.prog 119 #[.slice A a.length c, .slice A' b.length c', .bool f] w fun e w' => ∃ v, e = .returned v ∧ OwnP w' w.heap.size v (chosenL a b f) ∧ Below w.heap.size w w' := by
  go_enter Try.func119, Try.ntmps119
  go_wp2_with fail
  refine (sorted_any A' c' b w hR' hm).mono ?_
  rintro e w1 ⟨B1, rfl, hB, hb1⟩
  go_wp2_with fail
  refine (sorted_any A c a w1 ((hR.below hb1).more hb1.size) hn).mono ?_
  rintro e w2 ⟨A1, rfl, hA, hb2⟩
  have hal := sortedL_len a
  have hbl := sortedL_len b
  have hB2 : Reads w2 w2.heap.size 2 B1 (sortedL b).length (pcs (sortedL b)) := (hB.below hb2).more hb2.size
  have hbw2 := below_step hb1 hb2
  clear hR hR' hB hb1 hb2
  go_wp2
  go_loopw [8, 18] (fun v i wr => ∃ (k : Nat) (L : List Pr), k ≤ (sortedL a).length ∧ i = .int .i64 k ∧ L = (((sortedL a).take k).filter fun p => decide (p ∈ b) == f) ∧ OwnP wr w2.heap.size v L ∧ Below w2.heap.size w2 wr) (fun _ i _ => (sortedL a).length - (intOf i).toNat)
  case atStart => exact ⟨0, [], Nat.zero_le _, rfl, by simp, World.ownsRow_nil _ _ _ _, Below.refl _ _⟩
  case round =>
    obtain ⟨k, L, hk, rfl, hL, hown, hbw⟩ := hrel
    have HL := hide hL
    have HO := hide hown
    have HA := hide hA
    have HB := hide hB2
    by_cases hlt : k < (sortedL a).length
    · obtain ⟨b1, off, ⟨pn, pi⟩, rfl, hb, hp, g1, g2⟩ := (hA.below hbw).at2 hlt
      have hfl : L.length ≤ 1000000 - 1 := by
        rw [hL]
        have h1 := List.length_filter_le (fun p => decide (p ∈ b) == f) ((sortedL a).take k)
        rw [List.length_take] at h1; omega
      have hst := chosen_step (b := b) (f := f) hp
      rw [← hL] at hst
      have hmem : decide ((pn, pi) ∈ sortedL b) = decide ((pn, pi) ∈ b) := by rw [decide_eq_decide, mem_sortedL]
      have HS := hide hst
      have HM := hide hmem
      have hsz := hbw.size
      have hsz2 := hbw2.size
      clear hown hA hB2 hp hst hmem hL
      simp only at g1 g2
      go_wp2_with fail
      refine (search_any B1 _ (sortedL b) pn pi _ (sortedL_ss b) (((HB.out.below hbw).alloc (by omega) _).more (by simp; omega)) (by omega)).mono ?_
      rintro e w3 ⟨i, rfl, hb3⟩
      rw [HM.out]
      have c0 : w3.cell? ⟨wr.heap.size, 0, none⟩ = some (.int .i64 pn) := (hb3.cell (p := ⟨wr.heap.size, 0, none⟩) (by simp)).trans (by simp)
      have c1 : w3.cell? ⟨wr.heap.size, 1, none⟩ = some (.int .u64 pi) := (hb3.cell (p := ⟨wr.heap.size, 1, none⟩) (by simp)).trans (by simp)
      have hsz3 := hb3.size
      simp at hsz3
      have HO3 := hide (own_below (HO.out.alloc (bx pn pi)) hb3 (Nat.le_refl _))
      have hb3' : Below w2.heap.size w2 w3 := (hbw.alloc hsz _).trans (hb3.mono (by simp; omega))
      generalize hg : decide ((pn, pi) ∈ b) = d at *
      cases hq : (d == f)
      · have HS2 := hide (show ((sortedL a).take (k + 1)).filter (fun p => decide (p ∈ b) == f) = L by
          rw [HS.out]; simp [hq])
        clear hg
        go_wp2
        go_roundw
        case rel => exact ⟨k + 1, L, by omega, by go_num, HS2.out.symm, HO3.out, hb3'⟩
        case measure => simp [intOf]; omega
      · have HS2 := hide (show ((sortedL a).take (k + 1)).filter (fun p => decide (p ∈ b) == f) = L ++ [(pn, pi)] by
          rw [HS.out]; simp [hq])
        clear hg
        go_wp2_with (at_builtin; go_must (refine wpList_append_any _ Try.okP (by rfl) (.tmp 31) (.tmp 33) (by rfl) w2.heap.size _ _ (pcs L) (by rfl) (HO3.out.alloc _) (w3.heap.size + 1) (some ⟨w3.heap.size, 0, none⟩) 1 1 (pcs [(pn, pi)]) (by rfl) (reads_one w3 pn pi) (pc_one _) (by unfold maxLen; omega) (by omega) (by simp; omega) ?_); intro v1 w4 hown1 hg1 hnil1 hat1)
        go_roundw
        case rel =>
          refine ⟨k + 1, L ++ [(pn, pi)], by omega, by go_num, HS2.out.symm, ?_, ?_⟩
          · rw [OwnP, List.length_append, pcs_app]; exact hown1
          · exact (hb3'.alloc (by omega) _).grown hg1 (by simp; omega) (fun g hg => (HO3.out.lt g hg).1)
        case measure => simp [intOf]; omega
    · have hk' : k = (sortedL a).length := by omega
      subst hk'
      rw [List.take_length] at hL
      subst hL
      go_wp2
      go_ret
      exact ⟨_, rfl, own_base hown hbw2.size, below_step hbw2 hbw⟩

end Go.Proofs.Ytgbappmidllnmaa
