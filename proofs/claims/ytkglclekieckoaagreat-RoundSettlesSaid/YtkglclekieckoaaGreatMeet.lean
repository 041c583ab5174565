/-
  Contracts: slices.BinarySearchFunc and slices.Equal at lives; proc.chosen, Meet, Minus, Same.
-/
import Derived.Test.YtkglclekieckoaaGreatRow
namespace Go.Proofs.YtkglclekieckoaaGreat
set_option linter.unusedSimpArgs false
set_option linter.unusedVariables false
set_option linter.unusedSectionVars false
open Go.RowKit Go.Sort Go.Lib

/-! ### the binary search, in plain lists -/
def bsInv (o : List Pr) (p : Pr) (i j : Nat) : Prop :=
  i ≤ j ∧ j ≤ o.length ∧ (∀ k, k < i → ∀ x, o[k]? = some x → cmpP x p < 0) ∧ (∀ k, j ≤ k → ∀ x, o[k]? = some x → ¬ cmpP x p < 0)
theorem ss_get {o : List Pr} (h : SS o) {i j : Nat} {x y : Pr} (hij : i < j) (hx : o[i]? = some x) (hy : o[j]? = some y) : ltP x y := by
  obtain ⟨h1, rfl⟩ := List.getElem?_eq_some_iff.1 hx
  obtain ⟨h2, rfl⟩ := List.getElem?_eq_some_iff.1 hy
  exact List.pairwise_iff_getElem.1 h i j h1 h2 hij
theorem bsInv_start (o : List Pr) (p : Pr) : bsInv o p 0 o.length := ⟨Nat.zero_le _, Nat.le_refl _, fun k hk => absurd hk (by omega), fun k hk x hx => by
  have := (List.getElem?_eq_some_iff.1 hx).1; omega⟩
theorem bsInv_lo {o : List Pr} {p x : Pr} {i j h : Nat} (hs : SS o) (hI : bsInv o p i j) (h2 : h < j) (hx : o[h]? = some x) (hc : cmpP x p < 0) : bsInv o p (h + 1) j := by
  refine ⟨by omega, hI.2.1, fun k hk y hy => ?_, hI.2.2.2⟩
  by_cases e : k = h
  · subst e; rw [hx] at hy; injection hy with hy; rw [← hy]; exact hc
  · exact (ltP_cmp _ _).1 (ltP_trans (ss_get hs (by omega) hy hx) ((ltP_cmp _ _).2 hc))
theorem bsInv_hi {o : List Pr} {p x : Pr} {i j h : Nat} (hs : SS o) (hI : bsInv o p i j) (h1 : i ≤ h) (h2 : h < j) (hx : o[h]? = some x) (hc : ¬ cmpP x p < 0) : bsInv o p i h := by
  refine ⟨h1, by have := hI.2.1; omega, hI.2.2.1, fun k hk y hy => ?_⟩
  by_cases e : k = h
  · subst e; rw [hx] at hy; injection hy with hy; rw [← hy]; exact hc
  · intro hlt
    exact hc ((ltP_cmp _ _).1 (ltP_trans (ss_get hs (by omega) hx hy) ((ltP_cmp _ _).2 hlt)))
theorem bsInv_end {o : List Pr} {p : Pr} {i : Nat} (hs : SS o) (hI : bsInv o p i i) : (∃ x, o[i]? = some x ∧ x = p) ↔ p ∈ o := by
  constructor
  · rintro ⟨x, hx, rfl⟩; exact List.mem_of_getElem? hx
  · intro hp
    obtain ⟨k, hk⟩ := List.mem_iff_getElem?.1 hp
    refine ⟨p, ?_, rfl⟩
    rcases Nat.lt_trichotomy k i with h | h | h
    · exact absurd (hI.2.2.1 k h p hk) (by have := (cmpP_zero p p).2 rfl; omega)
    · rw [← h]; exact hk
    · have hk' := (List.getElem?_eq_some_iff.1 hk).1
      have hi : o[i]? = some (o[i]'(by omega)) := List.getElem?_eq_getElem _
      exact absurd ((ltP_cmp _ _).1 (ss_get hs h hi hk)) (hI.2.2.2 i (Nat.le_refl _) _ hi)

set_option maxHeartbeats 1000000 in
theorem search_any (A : Option Addr) (c : Nat) (o : List Pr) (x y : Int) (w : World) (hs : SS o) (hR : Reads w w.heap.size 2 A o.length (pcs o)) (hn : o.length ≤ 1000000) :
    Calls Tryz.prog 115 #[.slice A o.length c, .agg #[.int .i64 x, .int .u64 y], .func (.func 82) #[] #[]] w fun e w' => ∃ i : Int, e = .returned (.tuple #[.int .i64 i, .bool (decide ((x, y) ∈ o))]) ∧ Below w.heap.size w w' := by
  go_enter Tryz.func115, Tryz.ntmps115
  go_wp2
  go_loopw [9, 10] (fun s t wr => ∃ i j : Nat, s = .int .i64 i ∧ t = .int .i64 j ∧ bsInv o (x, y) i j ∧ Below (w.heap.size + 1) (w.alloc (bx x y)) wr) (fun s t _ => (intOf t).toNat - (intOf s).toNat)
  case atStart => exact ⟨0, o.length, rfl, rfl, bsInv_start _ _, Below.refl _ _⟩
  case round =>
    obtain ⟨i, j, rfl, rfl, hI, hbw⟩ := hrel
    have hij := hI.1
    have hjn := hI.2.1
    have HI := hide hI
    have hsz := hbw.size
    simp at hsz
    have hb0 : wr.cell? ⟨w.heap.size, 0, none⟩ = some (.int .i64 x) := (hbw.cell (p := ⟨w.heap.size, 0, none⟩) (by simp)).trans (by simp)
    have hb1 : wr.cell? ⟨w.heap.size, 1, none⟩ = some (.int .u64 y) := (hbw.cell (p := ⟨w.heap.size, 1, none⟩) (by simp)).trans (by simp)
    have q0 : ∀ d os, (gw wr d os).cell? ⟨w.heap.size, 0, none⟩ = some (.int .i64 x) := fun d os => cell_gw (by simp; omega) hb0 d os
    have q1 : ∀ d os, (gw wr d os).cell? ⟨w.heap.size, 1, none⟩ = some (.int .u64 y) := fun d os => cell_gw (by simp; omega) hb1 d os
    have hRw : Reads wr w.heap.size 2 A o.length (pcs o) := (hR.alloc (Nat.le_refl _) (bx x y)).below (hbw.mono (by omega))
    clear hb0 hb1 hI
    by_cases hlt : i < j
    · obtain ⟨b, off, ⟨pn, pi⟩, rfl, hb, hp, g1, g2⟩ := hRw.at2 (k := (i + j) / 2) (by omega)
      simp only at g1 g2
      have q2 : ∀ d os, (gw wr d os).cell? ⟨b, off + (i + j) / 2 * 2, none⟩ = some (.int .i64 pn) := fun d os => cell_gw (by simp; omega) g1 d os
      have q3 : ∀ d os, (gw wr d os).cell? ⟨b, off + (i + j) / 2 * 2 + 1, none⟩ = some (.int .u64 pi) := fun d os => cell_gw (by simp; omega) g2 d os
      have HP := hide hp
      clear hp g1 g2 hRw hR
      have j0 : (0 : Int) ≤ ((i : Int) + (j : Int)) / 2 := by omega
      have j1 : ((i : Int) + (j : Int)) / 2 < (o.length : Int) := by omega
      have j2 : (((i : Int) + (j : Int)) / 2).toNat = (i + j) / 2 := by omega
      have j3 : ((i : Int) + (j : Int)) / 2 = (((i + j) / 2 : Nat) : Int) := by omega
      have HJ := hide j3
      clear j3
      by_cases hc : cmpP (pn, pi) (x, y) < 0
      · have hcb : decide (cmpP (pn, pi) (x, y) < 0) = true := by simp [hc]
        have HK := hide (bsInv_lo hs HI.out (by omega) HP.out hc)
        clear hc hs
        go_wp2
        (refine wp_region_gw (by kernel_rfl) (by kernel_rfl) ?_; (repeat (go_big_quiet_step (((go_at_call 82; exact calls_gw (compare_b _ _ _ _ _)))))); refine wpQuiet_nil ?_; intro _ hw'; obtain ⟨⟨dq, osq⟩, hw''⟩ := hw'; subst hw'')
        go_wp2
        go_roundw
        case rel => exact ⟨(i + j) / 2 + 1, j, by rw [HJ.out]; go_num, rfl, HK.out, hbw.trans ((below_gw _ _ _).mono (by omega))⟩
        case measure => simp [intOf]; omega
      · have hcb : decide (cmpP (pn, pi) (x, y) < 0) = false := by simp [hc]
        have HK := hide (bsInv_hi hs HI.out (by omega) (by omega) HP.out hc)
        clear hc hs
        go_wp2
        (refine wp_region_gw (by kernel_rfl) (by kernel_rfl) ?_; (repeat (go_big_quiet_step (((go_at_call 82; exact calls_gw (compare_b _ _ _ _ _)))))); refine wpQuiet_nil ?_; intro _ hw'; obtain ⟨⟨dq, osq⟩, hw''⟩ := hw'; subst hw'')
        go_wp2
        go_roundw
        case rel => exact ⟨i, (i + j) / 2, rfl, by rw [HJ.out], HK.out, hbw.trans ((below_gw _ _ _).mono (by omega))⟩
        case measure => simp [intOf]; omega
    · have hij' : i = j := by omega
      subst hij'
      have hmem := bsInv_end hs HI.out
      have hbz : Below w.heap.size w wr := (below_alloc w (bx x y)).trans (hbw.mono (by omega))
      by_cases hin : i < o.length
      · obtain ⟨b, off, ⟨pn, pi⟩, rfl, hb, hp, g1, g2⟩ := hRw.at2 (k := i) hin
        simp only at g1 g2
        have q2 : ∀ d os, (gw wr d os).cell? ⟨b, off + i * 2, none⟩ = some (.int .i64 pn) := fun d os => cell_gw (by simp; omega) g1 d os
        have q3 : ∀ d os, (gw wr d os).cell? ⟨b, off + i * 2 + 1, none⟩ = some (.int .u64 pi) := fun d os => cell_gw (by simp; omega) g2 d os
        have H := hide (show decide ((x, y) ∈ o) = (cmpP (pn, pi) (x, y) == 0) by
          rw [Bool.eq_iff_iff, decide_eq_true_iff, ← hmem, beq_iff_eq, cmpP_zero]
          constructor
          · rintro ⟨z, hz, rfl⟩; rw [hp] at hz; injection hz
          · intro h; exact ⟨_, hp, h⟩)
        have j0 : (0 : Int) ≤ (i : Int) := by omega
        have j1 : (i : Int) < (o.length : Int) := by omega
        have t1 : decide (i < o.length) = true := by simp [hin]
        clear hmem hp g1 g2 hRw hR hs
        go_wp2
        (refine wp_region_gw (by kernel_rfl) (by kernel_rfl) ?_; (repeat (go_big_quiet_step (((go_at_call 82; exact calls_gw (compare_b _ _ _ _ _)))))); refine wpQuiet_nil ?_; intro _ hw'; obtain ⟨⟨dq, osq⟩, hw''⟩ := hw'; subst hw'')
        go_wp2
        go_ret2
        exact ⟨i, by rw [H.out]; rfl, hbz.trans ((below_gw _ _ _).mono (by omega))⟩
      · have H := hide (show decide ((x, y) ∈ o) = false by
          rw [decide_eq_false_iff_not, ← hmem]
          rintro ⟨z, hz, _⟩
          exact hin (List.getElem?_eq_some_iff.1 hz).1)
        have t1 : decide (i < o.length) = false := by simp; omega
        clear hmem hRw hR hs
        go_wp2
        (refine wp_region_gw (by kernel_rfl) (by kernel_rfl) ?_; (repeat (go_big_quiet_step (((go_at_call 82; exact calls_gw (compare_b _ _ _ _ _)))))); refine wpQuiet_nil ?_; intro _ hw'; obtain ⟨⟨dq, osq⟩, hw''⟩ := hw'; subst hw'')
        go_wp2
        go_ret2
        exact ⟨i, by rw [H.out]; rfl, hbz.trans ((below_gw _ _ _).mono (by omega))⟩

/-- those of a that are in b, or are not, in their order -/
def chosenL (a b : List Pr) (f : Bool) : List Pr := (sortedL a).filter fun p => decide (p ∈ b) == f
theorem chosen_step {o b : List Pr} {f : Bool} {k : Nat} {p : Pr} (h : o[k]? = some p) : (o.take (k + 1)).filter (fun p => decide (p ∈ b) == f) = (o.take k).filter (fun p => decide (p ∈ b) == f) ++ (if (decide (p ∈ b) == f) = true then [p] else []) := by
  rw [take_succ_of h, List.filter_append]
  by_cases hc : (decide (p ∈ b) == f) = true <;> simp [hc]

set_option maxHeartbeats 2000000 in
theorem chosen_any (A A' : Option Addr) (c c' : Nat) (a b : List Pr) (f : Bool) (w : World) (hR : Reads w w.heap.size 2 A a.length (pcs a)) (hR' : Reads w w.heap.size 2 A' b.length (pcs b)) (hn : a.length ≤ 1000000) (hm : b.length ≤ 1000000) :
    Calls Tryz.prog 103 #[.slice A a.length c, .slice A' b.length c', .bool f] w fun e w' => ∃ v, e = .returned v ∧ OwnP w' w.heap.size v (chosenL a b f) ∧ Below w.heap.size w w' := by
  go_enter Tryz.func103, Tryz.ntmps103
  go_wp2_with fail
  refine (sorted_any A' c' b w hR' hm).mono ?_
  rintro e w1 ⟨B1, rfl, hB, hb1⟩
  go_wp2_with fail
  refine (sorted_any A c a w1 ((hR.below hb1).more hb1.size) hn).mono ?_
  rintro e w2 ⟨A1, rfl, hA, hb2⟩
  have hal := sortedL_len a
  have hbl := sortedL_len b
  have hB2 : Reads w2 w2.heap.size 2 B1 (sortedL b).length (pcs (sortedL b)) := (hB.below hb2).more hb2.size
  have hbw2 := below_step hb1 hb2
  clear hR hR' hB hb1 hb2
  go_wp2
  go_loopw [8, 18] (fun v i wr => ∃ (k : Nat) (L : List Pr), k ≤ (sortedL a).length ∧ i = .int .i64 k ∧ L = (((sortedL a).take k).filter fun p => decide (p ∈ b) == f) ∧ OwnP wr w2.heap.size v L ∧ Below w2.heap.size w2 wr) (fun _ i _ => (sortedL a).length - (intOf i).toNat)
  case atStart => exact ⟨0, [], Nat.zero_le _, rfl, by simp, World.ownsRow_nil _ _ _ _, Below.refl _ _⟩
  case round =>
    obtain ⟨k, L, hk, rfl, hL, hown, hbw⟩ := hrel
    have HL := hide hL
    have HO := hide hown
    have HA := hide hA
    have HB := hide hB2
    by_cases hlt : k < (sortedL a).length
    · obtain ⟨b1, off, ⟨pn, pi⟩, rfl, hb, hp, g1, g2⟩ := (hA.below hbw).at2 hlt
      have hfl : L.length ≤ 1000000 - 1 := by
        rw [hL]
        have h1 := List.length_filter_le (fun p => decide (p ∈ b) == f) ((sortedL a).take k)
        rw [List.length_take] at h1; omega
      have hst := chosen_step (b := b) (f := f) hp
      rw [← hL] at hst
      have hmem : decide ((pn, pi) ∈ sortedL b) = decide ((pn, pi) ∈ b) := by rw [decide_eq_decide, mem_sortedL]
      have HS := hide hst
      have HM := hide hmem
      have hsz := hbw.size
      have hsz2 := hbw2.size
      clear hown hA hB2 hp hst hmem hL
      simp only at g1 g2
      go_wp2_with fail
      refine (search_any B1 _ (sortedL b) pn pi _ (sortedL_ss b) (((HB.out.below hbw).alloc (by omega) _).more (by simp; omega)) (by omega)).mono ?_
      rintro e w3 ⟨i, rfl, hb3⟩
      rw [HM.out]
      have c0 : w3.cell? ⟨wr.heap.size, 0, none⟩ = some (.int .i64 pn) := (hb3.cell (p := ⟨wr.heap.size, 0, none⟩) (by simp)).trans (by simp)
      have c1 : w3.cell? ⟨wr.heap.size, 1, none⟩ = some (.int .u64 pi) := (hb3.cell (p := ⟨wr.heap.size, 1, none⟩) (by simp)).trans (by simp)
      have hsz3 := hb3.size
      simp at hsz3
      have HO3 := hide (own_below (HO.out.alloc (bx pn pi)) hb3 (Nat.le_refl _))
      have hb3' : Below w2.heap.size w2 w3 := (hbw.alloc hsz _).trans (hb3.mono (by simp; omega))
      generalize hg : decide ((pn, pi) ∈ b) = d at *
      cases hq : (d == f)
      · have HS2 := hide (show ((sortedL a).take (k + 1)).filter (fun p => decide (p ∈ b) == f) = L by
          rw [HS.out]; simp [hq])
        clear hg
        go_wp2
        go_roundw
        case rel => exact ⟨k + 1, L, by omega, by go_num, HS2.out.symm, HO3.out, hb3'⟩
        case measure => simp [intOf]; omega
      · have HS2 := hide (show ((sortedL a).take (k + 1)).filter (fun p => decide (p ∈ b) == f) = L ++ [(pn, pi)] by
          rw [HS.out]; simp [hq])
        clear hg
        go_wp2_with (at_builtin; go_must (refine wpList_append_any _ Tryz.okP (by rfl) (.tmp 31) (.tmp 33) (by rfl) w2.heap.size _ _ (pcs L) (by rfl) (HO3.out.alloc _) (w3.heap.size + 1) (some ⟨w3.heap.size, 0, none⟩) 1 1 (pcs [(pn, pi)]) (by rfl) (reads_one w3 pn pi) (pc_one _) (by unfold maxLen; omega) (by omega) (by simp; omega) ?_); intro v1 w4 hown1 hg1 hnil1 hat1)
        go_roundw
        case rel =>
          refine ⟨k + 1, L ++ [(pn, pi)], by omega, by go_num, HS2.out.symm, ?_, ?_⟩
          · rw [OwnP, List.length_append, pcs_app]; exact hown1
          · exact (hb3'.alloc (by omega) _).grown hg1 (by simp; omega) (fun g hg => (HO3.out.lt g hg).1)
        case measure => simp [intOf]; omega
    · have hk' : k = (sortedL a).length := by omega
      subst hk'
      rw [List.take_length] at hL
      subst hL
      go_wp2
      go_ret
      exact ⟨_, rfl, own_base hown hbw2.size, below_step hbw2 hbw⟩

end Go.Proofs.YtkglclekieckoaaGreat

namespace Go.Proofs.YtkglclekieckoaaGreat
set_option linter.unusedSimpArgs false
set_option linter.unusedVariables false
set_option linter.unusedSectionVars false
open Go.RowKit Go.Sort Go.Lib

set_option maxHeartbeats 400000 in
theorem minus_any (A A' : Option Addr) (c c' : Nat) (a b : List Pr) (w : World) (hR : Reads w w.heap.size 2 A a.length (pcs a)) (hR' : Reads w w.heap.size 2 A' b.length (pcs b)) (hn : a.length ≤ 1000000) (hm : b.length ≤ 1000000) :
    Calls Tryz.prog 75 #[.slice A a.length c, .slice A' b.length c'] w fun e w' => ∃ v, e = .returned v ∧ OwnP w' w.heap.size v (chosenL a b false) ∧ Below w.heap.size w w' := by
  go_enter Tryz.func75, Tryz.ntmps75
  go_wp2_with fail
  refine (chosen_any A A' c c' a b false w hR hR' hn hm).mono ?_
  rintro e w1 ⟨v, rfl, hown, hb1⟩
  go_wp2
  go_ret
  exact ⟨_, rfl, hown, hb1⟩

set_option maxHeartbeats 400000 in
theorem equal_any (A A' : Option Addr) (c c' : Nat) (l m : List Pr) (w : World) (hR : Reads w w.heap.size 2 A l.length (pcs l)) (hR' : Reads w w.heap.size 2 A' m.length (pcs m)) (hn : l.length ≤ 1000000) (hm : m.length ≤ 1000000) :
    Calls Tryz.prog 44 #[.slice A l.length c, .slice A' m.length c'] w fun e w' => e = .returned (.bool (decide (l = m))) ∧ Below w.heap.size w w' := by
  by_cases hlen : l.length = m.length
  · have hb : (((l.length : Nat) : Int) != ((m.length : Nat) : Int)) = false := by simp [hlen]
    have HL := hide hlen
    clear hlen
    go_enter Tryz.func44, Tryz.ntmps44
    go_wp2
    go_loopw [13] (fun i wr => ∃ k q : Nat, k ≤ l.length ∧ i = .int .i64 k ∧ wr = w.drewN q ∧ l.take k = m.take k) (fun i _ => l.length - (intOf i).toNat)
    case atStart => exact ⟨0, 0, Nat.zero_le _, rfl, rfl, by simp⟩
    case round =>
      obtain ⟨k, q, hk, rfl, rfl, hnot⟩ := hrel
      have HN := hide hnot
      clear hnot
      by_cases hlt : k < l.length
      · obtain ⟨b, off, ⟨pn, pi⟩, rfl, hb1, hp, g1, g2⟩ := hR.at2 hlt
        have hlt' : k < m.length := by rw [← HL.out]; exact hlt
        obtain ⟨b', off', ⟨pn', pi'⟩, rfl, hb2, hp', g1', g2'⟩ := hR'.at2 hlt'
        have HP := hide hp
        have HP' := hide hp'
        clear hp hR hp' hR'
        simp only at g1 g2 g1' g2'
        have i0 : (0 : Int) ≤ (k : Int) := by omega
        have i1 : (k : Int) < (l.length : Int) := by omega
        have i2 : (k : Int) < (m.length : Int) := by omega
        cases he : eqP pn pi pn' pi'
        · have H := hide (show ¬ l = m by
            intro h; subst h
            have := HP.out.symm.trans HP'.out
            injection this with this
            rw [Prod.mk.injEq] at this
            simp [eqP, this.1, this.2] at he)
          go_wp2
          go_quiet (fail)
          go_wp2
          go_ret
          exact ⟨ret_b (by simp [H.out]), (by repeat (first | exact Below.refl _ _ | assumption | refine below_drewN ?_ _ | refine Below.drew ?_ | refine Below.alloc ?_ (by simp <;> omega) _))⟩
        · have H := hide (show l.take (k + 1) = m.take (k + 1) by
            rw [take_succ_of HP.out, take_succ_of HP'.out, HN.out]
            rw [eqP_iff] at he; rw [he])
          go_wp2
          go_quiet (fail)
          go_wp2
          go_roundw
          case rel => exact ⟨k + 1, _, by omega, by go_num, rfl, H.out⟩
          case measure => simp [intOf]; omega
      · have H := hide (show l = m by
          have := HN.out; have h2 := HL.out
          rwa [List.take_of_length_le (by omega), List.take_of_length_le (by omega)] at this)
        go_wp2
        go_ret
        exact ⟨ret_b (by simp [H.out]), (by repeat (first | exact Below.refl _ _ | assumption | refine below_drewN ?_ _ | refine Below.drew ?_ | refine Below.alloc ?_ (by simp <;> omega) _))⟩
  · have hb : (((l.length : Nat) : Int) != ((m.length : Nat) : Int)) = true := by simp; omega
    have H := hide (show ¬ l = m by intro h; exact hlen (by rw [h]))
    clear hlen
    go_enter Tryz.func44, Tryz.ntmps44
    go_wp2
    go_ret
    exact ⟨ret_b (by simp [H.out]), (by repeat (first | exact Below.refl _ _ | assumption | refine below_drewN ?_ _ | refine Below.drew ?_ | refine Below.alloc ?_ (by simp <;> omega) _))⟩

/-! ### the reference's Sorted: one by one, each put where it belongs -/
theorem sortedL_old {l : List Pr} {k : Nat} {p : Pr} (h : l[k]? = some p) (hin : p ∈ sortedL (l.take k)) : sortedL (l.take (k + 1)) = sortedL (l.take k) := by
  refine sortedL_congr fun x => ?_
  rw [take_succ_of h, List.mem_append, List.mem_singleton]
  rw [mem_sortedL] at hin
  constructor
  · rintro (h | rfl)
    · exact h
    · exact hin
  · exact .inl
theorem sortedL_new {l : List Pr} {k at_ : Nat} {p : Pr} (h : l[k]? = some p) (hlow : ∀ j x, j < at_ → (sortedL (l.take k))[j]? = some x → ltP x p) (hhigh : ∀ x, (sortedL (l.take k))[at_]? = some x → ¬ ltP x p) (hnin : p ∉ sortedL (l.take k)) (hat : at_ ≤ (sortedL (l.take k)).length) :
    sortedL (l.take (k + 1)) = (sortedL (l.take k)).take at_ ++ [p] ++ (sortedL (l.take k)).drop at_ := by
  have hss := sortedL_ss (l.take k)
  generalize hL : sortedL (l.take k) = L at *
  refine sortedL_eq ?_ fun x => ?_
  · have hp1 : (L.take at_ ++ L.drop at_).Pairwise ltP := by rw [List.take_append_drop]; exact hss
    rw [List.pairwise_append] at hp1
    have hlt : ∀ x ∈ L.take at_, ltP x p := by
      intro x hx
      obtain ⟨j, hj⟩ := List.mem_iff_getElem?.1 hx
      rw [List.getElem?_take] at hj
      split at hj
      · rename_i hj'; exact hlow j x hj' hj
      · cases hj
    have hgt : ∀ y ∈ L.drop at_, ltP p y := by
      intro y hy
      obtain ⟨j, hj⟩ := List.mem_iff_getElem?.1 hy
      rw [List.getElem?_drop] at hj
      have hylt := (List.getElem?_eq_some_iff.1 hj).1
      have h0 : L[at_]? = some (L[at_]'(by omega)) := List.getElem?_eq_getElem _
      have h1 := hhigh _ h0
      have hmem : L[at_]'(by omega) ∈ L := List.getElem_mem _
      have h2 : ltP p (L[at_]'(by omega)) := by
        rcases ltP_tri (L[at_]'(by omega)) p with a | a | a
        · exact absurd a h1
        · rw [a] at hmem; exact absurd hmem hnin
        · exact a
      by_cases e : j = 0
      · subst e; rw [Nat.add_zero, h0] at hj; injection hj with hj; rw [← hj]; exact h2
      · exact ltP_trans h2 (ss_get hss (by omega) h0 hj)
    unfold SS
    rw [List.append_assoc, List.pairwise_append]
    refine ⟨hp1.1, ?_, ?_⟩
    · rw [List.singleton_append, List.pairwise_cons]; exact ⟨hgt, hp1.2.1⟩
    · intro x hx y hy
      rw [List.singleton_append, List.mem_cons] at hy
      rcases hy with rfl | hy
      · exact hlt x hx
      · exact hp1.2.2 x hx y hy
  · have hx : x ∈ L ↔ x ∈ L.take at_ ∨ x ∈ L.drop at_ := by rw [← List.mem_append, List.take_append_drop]
    rw [take_succ_of h]
    simp only [List.mem_append, List.mem_singleton]
    rw [← mem_sortedL (l := l.take k) (x := x), hL, hx]
    constructor
    · rintro ((h | h) | h)
      · exact .inl (.inl h)
      · exact .inr h
      · exact .inl (.inr h)
    · rintro ((h | h) | h)
      · exact .inl (.inl h)
      · exact .inr h
      · exact .inl (.inr h)

theorem befB_lt (x p : Pr) : befB x.1 x.2 p.1 p.2 = decide (ltP x p) := by
  rw [befB_cmp, decide_eq_decide, ltP_cmp]
theorem before_b (a b c d : Int) (w : World) : Calls Tryz.prog 94 #[.agg #[.int .i64 a, .int .u64 b], .agg #[.int .i64 c, .int .u64 d]] w fun e w' => e = .returned (.bool (befB a b c d)) ∧ Below w.heap.size w w' :=
  (before_any a b c d w).mono fun _ _ ⟨h, h'⟩ => ⟨h, by subst h'; exact below_step (below_alloc _ _) (below_alloc _ _)⟩

set_option maxHeartbeats 4000000 in
theorem refSorted_any (A : Option Addr) (c : Nat) (l : List Pr) (w : World) (hR : Reads w w.heap.size 2 A l.length (pcs l)) (hn : l.length ≤ 1000000) :
    Calls Tryz.prog 60 #[.slice A l.length c] w fun e w' => ∃ v, e = .returned v ∧ OwnP w' w.heap.size v (sortedL l) ∧ Below w.heap.size w w' := by
  go_enter Tryz.func60, Tryz.ntmps60
  go_wp2
  go_loopw [3, 4] (fun v i wr => ∃ (k : Nat) (L : List Pr), k ≤ l.length ∧ i = .int .i64 k ∧ L = sortedL (l.take k) ∧ OwnP wr w.heap.size v L ∧ Below w.heap.size w wr) (fun _ i _ => l.length - (intOf i).toNat)
  case atStart => exact ⟨0, [], Nat.zero_le _, rfl, by rw [List.take_zero, sortedL_self (by unfold SS; simp)], World.ownsRow_nil _ _ _ _, Below.refl _ _⟩
  case round =>
    obtain ⟨k, L, hk, rfl, hL, hown, hbw⟩ := hrel
    obtain ⟨wo, rfl⟩ : ∃ wo : World, wo = wr := ⟨_, rfl⟩
    have HL := hide hL
    have HO := hide hown
    have hLl : L.length ≤ k := by
      rw [hL]; have := sortedL_len (l.take k); rw [List.length_take] at this; omega
    clear hL
    by_cases hlt : k < l.length
    · obtain ⟨b1, off, ⟨pn, pi⟩, rfl, hb, hp, g1, g2⟩ := (hR.below hbw).at2 hlt
      simp only at g1 g2
      obtain ⟨LA, LC, rfl, hlc, hlm⟩ := own_slice hown
      have hRL := Reads.of_own hown
      have HP := hide hp
      have HRL := hide hRL
      have HRA := hide hR
      have hlm' : LC ≤ 9223372036854775807 := by unfold maxLen at hlm; exact hlm
      clear hp hown hRL hlm hR
      go_wp2_with fail
      refine (refHas_any LA LC L pn pi wo HRL.out (by omega)).mono ?_
      rintro e w1 ⟨rfl, hb1⟩
      have c0 : w1.cell? ⟨b1, off + k * 2, none⟩ = some (.int .i64 pn) := (hb1.cell (p := ⟨b1, _, none⟩) (by have := hbw.size; simp; omega)).trans g1
      have c1 : w1.cell? ⟨b1, off + k * 2 + 1, none⟩ = some (.int .u64 pi) := (hb1.cell (p := ⟨b1, _, none⟩) (by have := hbw.size; simp; omega)).trans g2
      have HO1 := hide (own_below HO.out hb1 (Nat.le_refl _))
      have hbw1 := below_step hbw hb1
      have hs1 := hbw1.size
      cases hd : decide ((pn, pi) ∈ L)
      · have hni : (pn, pi) ∉ L := by simpa using hd
        have HNI := hide hni
        clear hni
        go_wp2
        go_loopw [5] (fun t w2 => ∃ a : Nat, a ≤ L.length ∧ t = .int .i64 a ∧ (∀ j x, j < a → L[j]? = some x → ltP x (pn, pi)) ∧ Below w1.heap.size w1 w2) (fun t _ => L.length - (intOf t).toNat)
        case atStart => exact ⟨0, Nat.zero_le _, rfl, fun j x hj => absurd hj (by omega), Below.refl _ _⟩
        case round =>
          obtain ⟨a, ha, rfl, hlow, hb2⟩ := hrel
          have hs2 := hb2.size
          have HLOW := hide hlow
          have hRw := (HRL.out.below hb1).below (hb2.mono hb1.size)
          have q0 : ∀ d os, (gw wr d os).cell? ⟨b1, off + k * 2, none⟩ = some (.int .i64 pn) := fun d os => cell_gw (by simp; omega) ((hb2.cell (p := ⟨b1, _, none⟩) (by simp; omega)).trans c0) d os
          have q1 : ∀ d os, (gw wr d os).cell? ⟨b1, off + k * 2 + 1, none⟩ = some (.int .u64 pi) := fun d os => cell_gw (by simp; omega) ((hb2.cell (p := ⟨b1, _, none⟩) (by simp; omega)).trans c1) d os
          have hwos := hbw.size
          have hb1s := hb1.size
          have j0 : (0 : Int) ≤ (a : Int) := by omega
          have j4 : (0 : Int) ≤ (k : Int) := by omega
          have j5 : (k : Int) < (l.length : Int) := by omega
          clear hlow
          by_cases hal : a < L.length
          · obtain ⟨b2, off2, ⟨xn, xi⟩, rfl, hbx, hx, e1, e2⟩ := hRw.at2 hal
            simp only at e1 e2
            have q2 : ∀ d os, (gw wr d os).cell? ⟨b2, off2 + a * 2, none⟩ = some (.int .i64 xn) := fun d os => cell_gw (by simp; omega) e1 d os
            have q3 : ∀ d os, (gw wr d os).cell? ⟨b2, off2 + a * 2 + 1, none⟩ = some (.int .u64 xi) := fun d os => cell_gw (by simp; omega) e2 d os
            have HX := hide hx
            have j1 : (a : Int) < (L.length : Int) := by omega
            have t1 : decide (a < L.length) = true := by simp [hal]
            clear hx e1 e2
            have hbf := befB_lt (xn, xi) (pn, pi)
            simp only at hbf
            by_cases hxp : ltP (xn, xi) (pn, pi)
            · have hbt : befB xn xi pn pi = true := by rw [hbf]; simp [hxp]
              have H := hide (show ∀ j x, j < a + 1 → L[j]? = some x → ltP x (pn, pi) by
                intro j x hj hjx
                by_cases e : j = a
                · subst e; rw [HX.out] at hjx; injection hjx with hjx; rw [← hjx]; exact hxp
                · exact HLOW.out j x (by omega) hjx)
              clear hbf hxp
              go_wp2
              (refine wp_region_gw (by kernel_rfl) (by kernel_rfl) ?_; (repeat (go_big_quiet_step (((go_at_call 94; exact calls_gw (before_b _ _ _ _ _)))))); refine wpQuiet_nil ?_; intro _ hw'; obtain ⟨⟨dq, osq⟩, hw''⟩ := hw'; subst hw'')
              go_wp2
              go_roundw
              case rel => exact ⟨a + 1, by omega, by go_num, H.out, hb2.trans ((below_gw _ _ _).mono hs2)⟩
              case measure => simp [intOf]; omega
            · have hbt : befB xn xi pn pi = false := by rw [hbf]; simp [hxp]
              have HHI := hide (show ∀ x, L[a]? = some x → ¬ ltP x (pn, pi) by
                intro x hjx; rw [HX.out] at hjx; injection hjx with hjx; rw [← hjx]; exact hxp)
              clear hbf hxp
              go_wp2
              (refine wp_region_gw (by kernel_rfl) (by kernel_rfl) ?_; (repeat (go_big_quiet_step (((go_at_call 94; exact calls_gw (before_b _ _ _ _ _)))))); refine wpQuiet_nil ?_; intro _ hw'; obtain ⟨⟨dq, osq⟩, hw''⟩ := hw'; subst hw'')
              generalize hW3 : gw wr dq osq = W3 at *
              have HO3 := hide (show OwnP W3 w.heap.size (.slice (some ⟨b2, off2, none⟩) L.length LC) L by rw [← hW3]; exact own_below HO1.out (below_step hb2 (below_gw _ _ _)) (Nat.le_refl _))
              have hb3 : Below w.heap.size w W3 := by rw [← hW3]; exact below_step hbw1 (below_step hb2 (below_gw _ _ _))
              have hb13 : Below w1.heap.size w1 W3 := by rw [← hW3]; exact below_step hb2 (below_gw _ _ _)
              have d0 : W3.cell? ⟨b1, off + k * 2, none⟩ = some (.int .i64 pn) := (hb13.cell (p := ⟨b1, _, none⟩) (by simp; omega)).trans c0
              have d1 : W3.cell? ⟨b1, off + k * 2 + 1, none⟩ = some (.int .u64 pi) := (hb13.cell (p := ⟨b1, _, none⟩) (by simp; omega)).trans c1
              have hs3 := hb3.size
              have RH := hide (show Reads W3 W3.heap.size 2 (some ⟨b2, off2, none⟩) a (pcs (L.take a)) by
                have := (Reads.of_own HO3.out).head ha; rw [pcs, flat_take pc_len] at this; exact this)
              have RT := hide (show Reads W3 W3.heap.size 2 (some ⟨b2, off2 + a * 2, none⟩) (L.length - a) (pcs (L.drop a)) by
                have := (Reads.of_own HO3.out).cut_some ha; rw [pcs, flat_drop pc_len] at this; exact this)
              have HN3 := hide (show L.take a ++ [(pn, pi)] ++ L.drop a = sortedL (l.take (k + 1)) by
                have := sortedL_new HP.out (at_ := a) (by rw [← HL.out]; exact HLOW.out) (by rw [← HL.out]; exact HHI.out) (by rw [← HL.out]; exact HNI.out) (by rw [← HL.out]; exact ha)
                rw [this, ← HL.out])
              have ta : (L.take a).length = a := by rw [List.length_take]; omega
              have td : (L.drop a).length = L.length - a := by rw [List.length_drop]
              have TA := hide ta
              have TD := hide td
              clear hW3 q0 q1 q2 q3 hRw ta td
              have m0 : a ≤ LC := by omega
              have m1 : ¬ LC = a := by omega
              go_wp2_with (first
                | (at_builtin; refine wpList_append_any _ Tryz.okP (by rfl) (.tmp 36) (.tmp 39) (by rfl) W3.heap.size (.slice (some ⟨W3.heap.size, 0, none⟩) 0 0) 0 [] (by rfl) (own_empty W3) W3.heap.size (some ⟨b2, off2, none⟩) a LC (pcs (L.take a)) (by rfl) (RH.out.alloc (Nat.le_refl _) _) (pc_one _) (by unfold maxLen; omega) (by omega) (by simp) ?_; intro v1 w4 hown1 hg1 hnil1 hat1; have hb34 : Below W3.heap.size W3 w4 := (below_alloc W3 _).grown hg1 (by simp) (by simp [Value.ownBlock]); have f0 := (hb34.cell (p := ⟨b1, off + k * 2, none⟩) (by simp; omega)).trans d0; have f1 := (hb34.cell (p := ⟨b1, off + k * 2 + 1, none⟩) (by simp; omega)).trans d1; have hs4 := hb34.size)
                | (at_builtin; refine wpList_append_any _ Tryz.okP (by rfl) (.tmp 41) (.tmp 46) (by rfl) W3.heap.size v1 (0 + a) ([] ++ pcs (L.take a)) (by rfl) (hown1.alloc _) (w4.heap.size + 1) (some ⟨w4.heap.size, 0, none⟩) 1 1 (pcs [(pn, pi)]) (by rfl) (reads_one w4 pn pi) (pc_one _) (by unfold maxLen; omega) (by omega) (by simp; omega) ?_; intro v2 w5 hown2 hg2 hnil2 hat2; have hb35 : Below W3.heap.size W3 w5 := (hb34.alloc hs4 _).grown hg2 (by simp; omega) (fun g hg => (hown1.lt g hg).1); have hs5 := hb35.size)
                | (at_builtin; refine wpList_append_any _ Tryz.okP (by rfl) (.tmp 48) (.tmp 51) (by rfl) W3.heap.size v2 (0 + a + 1) ([] ++ pcs (L.take a) ++ pcs [(pn, pi)]) (by rfl) hown2 W3.heap.size (some ⟨b2, off2 + a * 2, none⟩) (L.length - a) (LC - a) (pcs (L.drop a)) (by rfl) (RT.out.below hb35) (pc_one _) (by unfold maxLen; omega) (by omega) hs5 ?_; intro v3 w6 hown3 hg3 hnil3 hat3; have hb36 : Below W3.heap.size W3 w6 := hb35.grown hg3 hs5 (fun g hg => (hown2.lt g hg).1)))
              go_roundw
              case rel =>
                refine ⟨k + 1, L.take a ++ [(pn, pi)] ++ L.drop a, by omega, by go_num, HN3.out, ?_, hb3.trans (hb36.mono hs3)⟩
                have hlen : (L.take a ++ [(pn, pi)] ++ L.drop a).length = 0 + a + 1 + (L.length - a) := by rw [List.length_append, List.length_append, TA.out, TD.out]; simp
                rw [OwnP, hlen, pcs_app, pcs_app]
                exact own_base hown3 hs3
              case measure => simp [intOf]; omega
          · have HHI := hide (show ∀ x, L[a]? = some x → ¬ ltP x (pn, pi) by
              intro x hjx; exact absurd (List.getElem?_eq_some_iff.1 hjx).1 hal)
            have t1 : decide (a < L.length) = false := by simp; omega
            go_wp2
            (refine wp_region_gw (by kernel_rfl) (by kernel_rfl) ?_; (repeat (go_big_quiet_step (((go_at_call 94; exact calls_gw (before_b _ _ _ _ _)))))); refine wpQuiet_nil ?_; intro _ hw'; obtain ⟨⟨dq, osq⟩, hw''⟩ := hw'; subst hw'')
            generalize hW3 : gw wr dq osq = W3 at *
            have HO3 := hide (show OwnP W3 w.heap.size (.slice LA L.length LC) L by rw [← hW3]; exact own_below HO1.out (below_step hb2 (below_gw _ _ _)) (Nat.le_refl _))
            have hb3 : Below w.heap.size w W3 := by rw [← hW3]; exact below_step hbw1 (below_step hb2 (below_gw _ _ _))
            have hb13 : Below w1.heap.size w1 W3 := by rw [← hW3]; exact below_step hb2 (below_gw _ _ _)
            have d0 : W3.cell? ⟨b1, off + k * 2, none⟩ = some (.int .i64 pn) := (hb13.cell (p := ⟨b1, _, none⟩) (by simp; omega)).trans c0
            have d1 : W3.cell? ⟨b1, off + k * 2 + 1, none⟩ = some (.int .u64 pi) := (hb13.cell (p := ⟨b1, _, none⟩) (by simp; omega)).trans c1
            have hs3 := hb3.size
            have RH := hide (show Reads W3 W3.heap.size 2 LA a (pcs (L.take a)) by
              have := (Reads.of_own HO3.out).head ha; rw [pcs, flat_take pc_len] at this; exact this)
            have RT := hide (show Reads W3 W3.heap.size 2 (if LC = a then LA else LA.map (·.add (a * 2))) (L.length - a) (pcs (L.drop a)) by
              have := (Reads.of_own HO3.out).cut ha hlc; rw [pcs, flat_drop pc_len] at this; exact this)
            have HN3 := hide (show L.take a ++ [(pn, pi)] ++ L.drop a = sortedL (l.take (k + 1)) by
              have := sortedL_new HP.out (at_ := a) (by rw [← HL.out]; exact HLOW.out) (by rw [← HL.out]; exact HHI.out) (by rw [← HL.out]; exact HNI.out) (by rw [← HL.out]; exact ha)
              rw [this, ← HL.out])
            have ta : (L.take a).length = a := by rw [List.length_take]; omega
            have td : (L.drop a).length = L.length - a := by rw [List.length_drop]
            have TA := hide ta
            have TD := hide td
            clear hW3 q0 q1 hRw ta td
            have m0 : a ≤ LC := by omega
            go_wp2_with (first
              | (at_builtin; refine wpList_append_any _ Tryz.okP (by rfl) (.tmp 36) (.tmp 39) (by rfl) W3.heap.size (.slice (some ⟨W3.heap.size, 0, none⟩) 0 0) 0 [] (by rfl) (own_empty W3) W3.heap.size LA a LC (pcs (L.take a)) (by rfl) (RH.out.alloc (Nat.le_refl _) _) (pc_one _) (by unfold maxLen; omega) (by omega) (by simp) ?_; intro v1 w4 hown1 hg1 hnil1 hat1; have hb34 : Below W3.heap.size W3 w4 := (below_alloc W3 _).grown hg1 (by simp) (by simp [Value.ownBlock]); have f0 := (hb34.cell (p := ⟨b1, off + k * 2, none⟩) (by simp; omega)).trans d0; have f1 := (hb34.cell (p := ⟨b1, off + k * 2 + 1, none⟩) (by simp; omega)).trans d1; have hs4 := hb34.size)
              | (at_builtin; refine wpList_append_any _ Tryz.okP (by rfl) (.tmp 41) (.tmp 46) (by rfl) W3.heap.size v1 (0 + a) ([] ++ pcs (L.take a)) (by rfl) (hown1.alloc _) (w4.heap.size + 1) (some ⟨w4.heap.size, 0, none⟩) 1 1 (pcs [(pn, pi)]) (by rfl) (reads_one w4 pn pi) (pc_one _) (by unfold maxLen; omega) (by omega) (by simp; omega) ?_; intro v2 w5 hown2 hg2 hnil2 hat2; have hb35 : Below W3.heap.size W3 w5 := (hb34.alloc hs4 _).grown hg2 (by simp; omega) (fun g hg => (hown1.lt g hg).1); have hs5 := hb35.size)
              | (at_builtin; refine wpList_append_any _ Tryz.okP (by rfl) (.tmp 48) (.tmp 51) (by rfl) W3.heap.size v2 (0 + a + 1) ([] ++ pcs (L.take a) ++ pcs [(pn, pi)]) (by rfl) hown2 W3.heap.size (if LC = a then LA else LA.map (·.add (a * 2))) (L.length - a) (LC - a) (pcs (L.drop a)) (by rfl) (RT.out.below hb35) (pc_one _) (by unfold maxLen; omega) (by omega) hs5 ?_; intro v3 w6 hown3 hg3 hnil3 hat3; have hb36 : Below W3.heap.size W3 w6 := hb35.grown hg3 hs5 (fun g hg => (hown2.lt g hg).1)))
            go_roundw
            case rel =>
              refine ⟨k + 1, L.take a ++ [(pn, pi)] ++ L.drop a, by omega, by go_num, HN3.out, ?_, hb3.trans (hb36.mono hs3)⟩
              have hlen : (L.take a ++ [(pn, pi)] ++ L.drop a).length = 0 + a + 1 + (L.length - a) := by rw [List.length_append, List.length_append, TA.out, TD.out]; simp
              rw [OwnP, hlen, pcs_app, pcs_app]
              exact own_base hown3 hs3
            case measure => simp [intOf]; omega
      · have H := hide (show L = sortedL (l.take (k + 1)) by rw [sortedL_old HP.out (by rw [← HL.out]; simpa using hd), ← HL.out])
        go_wp2
        go_roundw
        case rel => exact ⟨k + 1, L, by omega, by go_num, H.out, HO1.out, hbw1⟩
        case measure => simp [intOf]; omega
    · have hk' : k = l.length := by omega
      subst hk'
      have hL := HL.out
      rw [List.take_length] at hL
      have HL2 := hide hL
      clear hL
      go_wp2
      go_ret
      rw [← HL2.out]
      exact ⟨_, rfl, HO.out, hbw⟩

end Go.Proofs.YtkglclekieckoaaGreat

namespace Go.Proofs.YtkglclekieckoaaGreat
set_option linter.unusedSimpArgs false
set_option linter.unusedVariables false
set_option linter.unusedSectionVars false
open Go.RowKit Go.Sort Go.Lib

/-- the slice at A reads as l -/
def Sl (w : World) (A : Option Addr) (l : List Pr) : Prop := Reads w w.heap.size 2 A l.length (pcs l)
theorem Sl.step {w w' : World} {A : Option Addr} {l : List Pr} (h : Sl w A l) (hb : Below w.heap.size w w') : Sl w' A l := (Reads.below h hb).more hb.size
/-- a list of lives is handed back; all that was there is kept -/
def RetS (w : World) (l : List Pr) (e : Ending) (w' : World) : Prop := ∃ A c, e = .returned (.slice A l.length c) ∧ Sl w' A l ∧ Below w.heap.size w w'
theorem retS_own {w w' : World} {base : Nat} {l : List Pr} {v : Value} (h : OwnP w' base v l) (hb : Below w.heap.size w w') : RetS w l (.returned v) w' := by
  obtain ⟨A, c, rfl, _, _⟩ := own_slice h
  exact ⟨A, c, rfl, Reads.of_own h, hb⟩

theorem sorted_s (A : Option Addr) (c : Nat) (l : List Pr) (w : World) (h : Sl w A l) (hn : l.length ≤ 1000000) : Calls Tryz.prog 41 #[.slice A l.length c] w (RetS w (sortedL l)) :=
  (sorted_any A c l w h hn).mono fun _ _ ⟨A', h1, h2, h3⟩ => ⟨A', _, h1, h2, h3⟩
theorem refSorted_s (A : Option Addr) (c : Nat) (l : List Pr) (w : World) (h : Sl w A l) (hn : l.length ≤ 1000000) : Calls Tryz.prog 60 #[.slice A l.length c] w (RetS w (sortedL l)) :=
  (refSorted_any A c l w h hn).mono fun _ _ ⟨_, h1, h2, h3⟩ => by rw [h1]; exact retS_own h2 h3
theorem minus_s (A A' : Option Addr) (c c' : Nat) (a b : List Pr) (w : World) (h : Sl w A a) (h' : Sl w A' b) (hn : a.length ≤ 1000000) (hm : b.length ≤ 1000000) : Calls Tryz.prog 75 #[.slice A a.length c, .slice A' b.length c'] w (RetS w (chosenL a b false)) :=
  (minus_any A A' c c' a b w h h' hn hm).mono fun _ _ ⟨_, h1, h2, h3⟩ => by rw [h1]; exact retS_own h2 h3
/-- a bool that is known is handed back -/
def RetB (w : World) (b : Bool) (e : Ending) (w' : World) : Prop := e = .returned (.bool b) ∧ Below w.heap.size w w'
theorem refEqual_t (A A' : Option Addr) (c c' : Nat) (a b : List Pr) (w : World) (h : Sl w A a) (h' : Sl w A' b) (hn : a.length ≤ 1000000) (he : a = b) : Calls Tryz.prog 49 #[.slice A a.length c, .slice A' b.length c'] w (RetB w true) :=
  (refEqual_any A A' c c' a b w h h' hn (by rw [← he]; exact hn)).mono fun _ _ ⟨h1, h2⟩ => ⟨by rw [h1]; simp [he], h2⟩

theorem refEqual_s (A A' : Option Addr) (c c' : Nat) (a b : List Pr) (w : World) (h : Sl w A a) (h' : Sl w A' b) (hn : a.length ≤ 1000000) (hm : b.length ≤ 1000000) : Calls Tryz.prog 49 #[.slice A a.length c, .slice A' b.length c'] w (RetB w (decide (a = b))) :=
  refEqual_any A A' c c' a b w h h' hn hm

theorem union2_s (A A' : Option Addr) (c c' : Nat) (a b : List Pr) (w : World) (h : Sl w A a) (h' : Sl w A' b) (hn : a.length + b.length ≤ 1000000) :
    Calls Tryz.prog 100 #[.slice (some ⟨w.heap.size, 0, none⟩) 2 2] (w.alloc (.cells #[.slice A a.length c, .slice A' b.length c'] 27)) (RetS w (sortedL (a ++ b))) := by
  have hx : Reads (w.alloc (.cells #[.slice A a.length c, .slice A' b.length c'] 27)) (w.alloc (.cells #[.slice A a.length c, .slice A' b.length c'] 27)).heap.size 1 (some ⟨w.heap.size, 0, none⟩) 2 (svs [⟨A, c, a⟩, ⟨A', c', b⟩]) :=
    Reads.of_own (World.ownsRow_lit (base := 0) (e := 27) (size := 1) w #[.slice A a.length c, .slice A' b.length c'] 2 (Nat.zero_le _) (by unfold maxLen; omega) rfl)
  have hok : ∀ x ∈ [(⟨A, c, a⟩ : Sv), ⟨A', c', b⟩], x.ok (w.alloc (.cells #[.slice A a.length c, .slice A' b.length c'] 27)) (w.alloc (.cells #[.slice A a.length c, .slice A' b.length c'] 27)).heap.size := by
    intro x hx
    simp at hx
    rcases hx with rfl | rfl
    · exact Sl.step h (below_alloc _ _)
    · exact Sl.step h' (below_alloc _ _)
  have hf : flatS [(⟨A, c, a⟩ : Sv), ⟨A', c', b⟩] = a ++ b := by simp [flatS]
  have := union_any (some ⟨w.heap.size, 0, none⟩) 2 [⟨A, c, a⟩, ⟨A', c', b⟩] _ hx hok (by simp) (by rw [hf, List.length_append]; exact hn)
  refine this.mono ?_
  rintro e w' ⟨A1, he, hr, hb⟩
  have hu : unionL [(⟨A, c, a⟩ : Sv), ⟨A', c', b⟩] = sortedL (a ++ b) := by rw [unionL, hf]
  rw [hu] at he hr
  exact ⟨A1, _, he, hr, below_step (below_alloc _ _) hb⟩

theorem kept_step {a b : List Pr} {f : Bool} {k : Nat} {p : Pr} (h : a[k]? = some p) : (a.take (k + 1)).filter (fun p => decide (p ∈ b) == f) = (a.take k).filter (fun p => decide (p ∈ b) == f) ++ (if (decide (p ∈ b) == f) = true then [p] else []) := chosen_step h
theorem kept_eq (a b : List Pr) (f : Bool) : sortedL (a.filter fun p => decide (p ∈ b) == f) = chosenL a b f := by
  refine sortedL_eq ?_ fun x => ?_
  · exact List.Pairwise.filter _ (sortedL_ss a)
  · simp only [chosenL, List.mem_filter, mem_sortedL]

set_option maxHeartbeats 2000000 in
theorem kept_s (A A' : Option Addr) (c c' : Nat) (a b : List Pr) (f : Bool) (w : World) (h : Sl w A a) (h' : Sl w A' b) (hn : a.length ≤ 1000000) (hm : b.length ≤ 1000000) :
    Calls Tryz.prog 58 #[.slice A a.length c, .slice A' b.length c', .bool f] w (RetS w (chosenL a b f)) := by
  go_enter Tryz.func58, Tryz.ntmps58
  go_wp2
  go_loopw [7, 8] (fun v i wr => ∃ (k : Nat) (L : List Pr), k ≤ a.length ∧ i = .int .i64 k ∧ L = ((a.take k).filter fun p => decide (p ∈ b) == f) ∧ OwnP wr w.heap.size v L ∧ Below w.heap.size w wr) (fun _ i _ => a.length - (intOf i).toNat)
  case atStart => exact ⟨0, [], Nat.zero_le _, rfl, by simp, World.ownsRow_nil _ _ _ _, Below.refl _ _⟩
  case round =>
    obtain ⟨k, L, hk, rfl, hL, hown, hbw⟩ := hrel
    have HL := hide hL
    have HO := hide hown
    have hfl : L.length ≤ k := by
      rw [hL]
      have h1 := List.length_filter_le (fun p => decide (p ∈ b) == f) (a.take k)
      rw [List.length_take] at h1; omega
    have hsz := hbw.size
    by_cases hlt : k < a.length
    · obtain ⟨b1, off, ⟨pn, pi⟩, rfl, hb, hp, g1, g2⟩ := (Reads.below h hbw).at2 hlt
      simp only at g1 g2
      have hst := kept_step (b := b) (f := f) hp
      rw [← hL] at hst
      have HS := hide hst
      have HH := hide h'
      clear hown hp hst hL h h'
      go_wp2_with fail
      refine (refHas_any A' c' b pn pi wr ((Reads.below HH.out hbw).more hsz) hm).mono ?_
      rintro e w1 ⟨rfl, hb1⟩
      have c0 : w1.cell? ⟨b1, off + k * 2, none⟩ = some (.int .i64 pn) := (hb1.cell (p := ⟨b1, _, none⟩) (by simp; omega)).trans g1
      have c1 : w1.cell? ⟨b1, off + k * 2 + 1, none⟩ = some (.int .u64 pi) := (hb1.cell (p := ⟨b1, _, none⟩) (by simp; omega)).trans g2
      have HO1 := hide (own_below HO.out hb1 (Nat.le_refl _))
      have hbw1 := below_step hbw hb1
      have hsz1 := hbw1.size
      generalize hg : decide ((pn, pi) ∈ b) = d at *
      cases hq : (d == f)
      · have HS2 := hide (show (a.take (k + 1)).filter (fun p => decide (p ∈ b) == f) = L by rw [HS.out]; simp [hq])
        clear hg
        go_wp2
        go_roundw
        case rel => exact ⟨k + 1, L, by omega, by go_num, HS2.out.symm, HO1.out, hbw1⟩
        case measure => simp [intOf]; omega
      · have HS2 := hide (show (a.take (k + 1)).filter (fun p => decide (p ∈ b) == f) = L ++ [(pn, pi)] by rw [HS.out]; simp [hq])
        clear hg
        go_wp2_with (at_builtin; refine wpList_append_any _ Tryz.okP (by rfl) (.tmp 23) (.tmp 28) (by rfl) w.heap.size _ _ (pcs L) (by rfl) (HO1.out.alloc _) (w1.heap.size + 1) (some ⟨w1.heap.size, 0, none⟩) 1 1 (pcs [(pn, pi)]) (by rfl) (reads_one w1 pn pi) (pc_one _) (by unfold maxLen; omega) (by omega) (by simp; omega) ?_; intro v1 w4 hown1 hg1 hnil1 hat1)
        go_roundw
        case rel =>
          refine ⟨k + 1, L ++ [(pn, pi)], by omega, by go_num, HS2.out.symm, ?_, ?_⟩
          · rw [OwnP, List.length_append, pcs_app]; exact hown1
          · exact (hbw1.alloc hsz1 _).grown hg1 (by simp; omega) (fun g hg => (HO1.out.lt g hg).1)
        case measure => simp [intOf]; omega
    · have hk' : k = a.length := by omega
      subst hk'
      rw [List.take_length] at hL
      subst hL
      obtain ⟨A1, c1, rfl, _, _⟩ := own_slice hown
      have hR := hide (Reads.of_own hown)
      clear hown h h'
      go_wp2_with fail
      refine (refSorted_s A1 c1 _ wr hR.out (by omega)).mono ?_
      rintro e w2 ⟨A2, c2, rfl, h2, hb2⟩
      rw [kept_eq] at h2
      rw [kept_eq]
      go_wp2
      go_ret
      exact ⟨A2, c2, rfl, h2, below_step hbw hb2⟩

end Go.Proofs.YtkglclekieckoaaGreat
