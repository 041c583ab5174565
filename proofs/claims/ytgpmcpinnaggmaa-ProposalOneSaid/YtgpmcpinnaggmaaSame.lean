/-
  Contracts: proc.Meet, Minus; slices.Equal at lives, proc.Same; the reference's Sorted, Both, Kept.
-/
import Derived.Test.YtgpmcpinnaggmaaMeet
namespace Go.Proofs.Ytgpmcpinnaggmaa
set_option linter.unusedSimpArgs false
set_option linter.unusedVariables false
set_option linter.unusedSectionVars false
open Go.RowKit Go.Sort Go.Lib

set_option maxHeartbeats 400000 in
theorem equal_any (A A' : Option Addr) (c c' : Nat) (l m : List Pr) (w : World) (hR : Reads w w.heap.size 2 A l.length (pcs l)) (hR' : Reads w w.heap.size 2 A' m.length (pcs m)) (hn : l.length ≤ 1000000) (hm : m.length ≤ 1000000) :
    Calls Try.prog 63 #[.slice A l.length c, .slice A' m.length c'] w fun e w' => e = .returned (.bool (decide (l = m))) ∧ Below w.heap.size w w' := by
  by_cases hlen : l.length = m.length
  · have hb : (((l.length : Nat) : Int) != ((m.length : Nat) : Int)) = false := by simp [hlen]
    have HL := hide hlen
    clear hlen
    go_enter Try.func63, Try.ntmps63
    go_wp2
    go_loopw [13] (fun i wr => ∃ k q : Nat, k ≤ l.length ∧ i = .int .i64 k ∧ wr = w.drewN q ∧ l.take k = m.take k) (fun i _ => l.length - (intOf i).toNat)
    case atStart => exact ⟨0, 0, Nat.zero_le _, rfl, rfl, by simp⟩
    case round =>
      obtain ⟨k, q, hk, rfl, rfl, hnot⟩ := hrel
      have HN := hide hnot
      clear hnot
      by_cases hlt : k < l.length
      · obtain ⟨b, off, ⟨pn, pi⟩, rfl, hb1, hp, g1, g2⟩ := hR.at2 hlt
        have hlt' : k < m.length := by rw [← HL.out]; exact hlt
        obtain ⟨b', off', ⟨pn', pi'⟩, rfl, hb2, hp', g1', g2'⟩ := hR'.at2 hlt'
        have HP := hide hp
        have HP' := hide hp'
        clear hp hR hp' hR'
        simp only at g1 g2 g1' g2'
        have i0 : (0 : Int) ≤ (k : Int) := by omega
        have i1 : (k : Int) < (l.length : Int) := by omega
        have i2 : (k : Int) < (m.length : Int) := by omega
        cases he : eqP pn pi pn' pi'
        · have H := hide (show ¬ l = m by
            intro h; subst h
            have := HP.out.symm.trans HP'.out
            injection this with this
            rw [Prod.mk.injEq] at this
            simp [eqP, this.1, this.2] at he)
          go_wp2
          go_quiet (fail)
          go_wp2
          go_ret
          exact ⟨ret_b (by simp [H.out]), (by repeat (first | exact Below.refl _ _ | assumption | refine below_drewN ?_ _ | refine Below.drew ?_ | refine Below.alloc ?_ (by simp <;> omega) _))⟩
        · have H := hide (show l.take (k + 1) = m.take (k + 1) by
            rw [take_succ_of HP.out, take_succ_of HP'.out, HN.out]
            rw [eqP_iff] at he; rw [he])
          go_wp2
          go_quiet (fail)
          go_wp2
          go_roundw
          case rel => exact ⟨k + 1, _, by omega, by go_num, rfl, H.out⟩
          case measure => simp [intOf]; omega
      · have H := hide (show l = m by
          have := HN.out; have h2 := HL.out
          rwa [List.take_of_length_le (by omega), List.take_of_length_le (by omega)] at this)
        go_wp2
        go_ret
        exact ⟨ret_b (by simp [H.out]), (by repeat (first | exact Below.refl _ _ | assumption | refine below_drewN ?_ _ | refine Below.drew ?_ | refine Below.alloc ?_ (by simp <;> omega) _))⟩
  · have hb : (((l.length : Nat) : Int) != ((m.length : Nat) : Int)) = true := by simp; omega
    have H := hide (show ¬ l = m by intro h; exact hlen (by rw [h]))
    clear hlen
    go_enter Try.func63, Try.ntmps63
    go_wp2
    go_ret
    exact ⟨ret_b (by simp [H.out]), (by repeat (first | exact Below.refl _ _ | assumption | refine below_drewN ?_ _ | refine Below.drew ?_ | refine Below.alloc ?_ (by simp <;> omega) _))⟩

/-! ### the reference's Sorted: one by one, each put where it belongs -/
theorem sortedL_old {l : List Pr} {k : Nat} {p : Pr} (h : l[k]? = some p) (hin : p ∈ sortedL (l.take k)) : sortedL (l.take (k + 1)) = sortedL (l.take k) := by
  refine sortedL_congr fun x => ?_
  rw [take_succ_of h, List.mem_append, List.mem_singleton]
  rw [mem_sortedL] at hin
  constructor
  · rintro (h | rfl)
    · exact h
    · exact hin
  · exact .inl
theorem sortedL_new {l : List Pr} {k at_ : Nat} {p : Pr} (h : l[k]? = some p) (hlow : ∀ j x, j < at_ → (sortedL (l.take k))[j]? = some x → ltP x p) (hhigh : ∀ x, (sortedL (l.take k))[at_]? = some x → ¬ ltP x p) (hnin : p ∉ sortedL (l.take k)) (hat : at_ ≤ (sortedL (l.take k)).length) :
    sortedL (l.take (k + 1)) = (sortedL (l.take k)).take at_ ++ [p] ++ (sortedL (l.take k)).drop at_ := by
  have hss := sortedL_ss (l.take k)
  generalize hL : sortedL (l.take k) = L at *
  refine sortedL_eq ?_ fun x => ?_
  · have hp1 : (L.take at_ ++ L.drop at_).Pairwise ltP := by rw [List.take_append_drop]; exact hss
    rw [List.pairwise_append] at hp1
    have hlt : ∀ x ∈ L.take at_, ltP x p := by
      intro x hx
      obtain ⟨j, hj⟩ := List.mem_iff_getElem?.1 hx
      rw [List.getElem?_take] at hj
      split at hj
      · rename_i hj'; exact hlow j x hj' hj
      · cases hj
    have hgt : ∀ y ∈ L.drop at_, ltP p y := by
      intro y hy
      obtain ⟨j, hj⟩ := List.mem_iff_getElem?.1 hy
      rw [List.getElem?_drop] at hj
      have hylt := (List.getElem?_eq_some_iff.1 hj).1
      have h0 : L[at_]? = some (L[at_]'(by omega)) := List.getElem?_eq_getElem _
      have h1 := hhigh _ h0
      have hmem : L[at_]'(by omega) ∈ L := List.getElem_mem _
      have h2 : ltP p (L[at_]'(by omega)) := by
        rcases ltP_tri (L[at_]'(by omega)) p with a | a | a
        · exact absurd a h1
        · rw [a] at hmem; exact absurd hmem hnin
        · exact a
      by_cases e : j = 0
      · subst e; rw [Nat.add_zero, h0] at hj; injection hj with hj; rw [← hj]; exact h2
      · exact ltP_trans h2 (ss_get hss (by omega) h0 hj)
    unfold SS
    rw [List.append_assoc, List.pairwise_append]
    refine ⟨hp1.1, ?_, ?_⟩
    · rw [List.singleton_append, List.pairwise_cons]; exact ⟨hgt, hp1.2.1⟩
    · intro x hx y hy
      rw [List.singleton_append, List.mem_cons] at hy
      rcases hy with rfl | hy
      · exact hlt x hx
      · exact hp1.2.2 x hx y hy
  · have hx : x ∈ L ↔ x ∈ L.take at_ ∨ x ∈ L.drop at_ := by rw [← List.mem_append, List.take_append_drop]
    rw [take_succ_of h]
    simp only [List.mem_append, List.mem_singleton]
    rw [← mem_sortedL (l := l.take k) (x := x), hL, hx]
    constructor
    · rintro ((h | h) | h)
      · exact .inl (.inl h)
      · exact .inr h
      · exact .inl (.inr h)
    · rintro ((h | h) | h)
      · exact .inl (.inl h)
      · exact .inr h
      · exact .inl (.inr h)

theorem befB_lt (x p : Pr) : befB x.1 x.2 p.1 p.2 = decide (ltP x p) := by
  rw [befB_cmp, decide_eq_decide, ltP_cmp]
theorem before_b (a b c d : Int) (w : World) : Calls Try.prog 110 #[.agg #[.int .i64 a, .int .u64 b], .agg #[.int .i64 c, .int .u64 d]] w fun e w' => e = .returned (.bool (befB a b c d)) ∧ Below w.heap.size w w' :=
  (before_any a b c d w).mono fun _ _ ⟨h, h'⟩ => ⟨h, by subst h'; exact below_step (below_alloc _ _) (below_alloc _ _)⟩

set_option maxHeartbeats 4000000 in
theorem refSorted_any (A : Option Addr) (c : Nat) (l : List Pr) (w : World) (hR : Reads w w.heap.size 2 A l.length (pcs l)) (hn : l.length ≤ 1000000) :
    Calls Try.prog 69 #[.slice A l.length c] w fun e w' => ∃ v, e = .returned v ∧ OwnP w' w.heap.size v (sortedL l) ∧ Below w.heap.size w w' := by
  go_enter Try.func69, Try.ntmps69
  go_wp2
  go_loopw [3, 4] (fun v i wr => ∃ (k : Nat) (L : List Pr), k ≤ l.length ∧ i = .int .i64 k ∧ L = sortedL (l.take k) ∧ OwnP wr w.heap.size v L ∧ Below w.heap.size w wr) (fun _ i _ => l.length - (intOf i).toNat)
  case atStart => exact ⟨0, [], Nat.zero_le _, rfl, by rw [List.take_zero, sortedL_self (by unfold SS; simp)], World.ownsRow_nil _ _ _ _, Below.refl _ _⟩
  case round =>
    obtain ⟨k, L, hk, rfl, hL, hown, hbw⟩ := hrel
    obtain ⟨wo, rfl⟩ : ∃ wo : World, wo = wr := ⟨_, rfl⟩
    have HL := hide hL
    have HO := hide hown
    have hLl : L.length ≤ k := by
      rw [hL]; have := sortedL_len (l.take k); rw [List.length_take] at this; omega
    clear hL
    by_cases hlt : k < l.length
    · obtain ⟨b1, off, ⟨pn, pi⟩, rfl, hb, hp, g1, g2⟩ := (hR.below hbw).at2 hlt
      simp only at g1 g2
      obtain ⟨LA, LC, rfl, hlc, hlm⟩ := own_slice hown
      have hRL := Reads.of_own hown
      have HP := hide hp
      have HRL := hide hRL
      have HRA := hide hR
      have hlm' : LC ≤ 9223372036854775807 := by unfold maxLen at hlm; exact hlm
      clear hp hown hRL hlm hR
      go_wp2_with fail
      refine (refHas_any LA LC L pn pi wo HRL.out (by omega)).mono ?_
      rintro e w1 ⟨rfl, hb1⟩
      have c0 : w1.cell? ⟨b1, off + k * 2, none⟩ = some (.int .i64 pn) := (hb1.cell (p := ⟨b1, _, none⟩) (by have := hbw.size; simp; omega)).trans g1
      have c1 : w1.cell? ⟨b1, off + k * 2 + 1, none⟩ = some (.int .u64 pi) := (hb1.cell (p := ⟨b1, _, none⟩) (by have := hbw.size; simp; omega)).trans g2
      have HO1 := hide (own_below HO.out hb1 (Nat.le_refl _))
      have hbw1 := below_step hbw hb1
      have hs1 := hbw1.size
      cases hd : decide ((pn, pi) ∈ L)
      · have hni : (pn, pi) ∉ L := by simpa using hd
        have HNI := hide hni
        clear hni
        go_wp2
        go_loopw [5] (fun t w2 => ∃ a : Nat, a ≤ L.length ∧ t = .int .i64 a ∧ (∀ j x, j < a → L[j]? = some x → ltP x (pn, pi)) ∧ Below w1.heap.size w1 w2) (fun t _ => L.length - (intOf t).toNat)
        case atStart => exact ⟨0, Nat.zero_le _, rfl, fun j x hj => absurd hj (by omega), Below.refl _ _⟩
        case round =>
          obtain ⟨a, ha, rfl, hlow, hb2⟩ := hrel
          have hs2 := hb2.size
          have HLOW := hide hlow
          have hRw := (HRL.out.below hb1).below (hb2.mono hb1.size)
          have q0 : ∀ d os, (gw wr d os).cell? ⟨b1, off + k * 2, none⟩ = some (.int .i64 pn) := fun d os => cell_gw (by simp; omega) ((hb2.cell (p := ⟨b1, _, none⟩) (by simp; omega)).trans c0) d os
          have q1 : ∀ d os, (gw wr d os).cell? ⟨b1, off + k * 2 + 1, none⟩ = some (.int .u64 pi) := fun d os => cell_gw (by simp; omega) ((hb2.cell (p := ⟨b1, _, none⟩) (by simp; omega)).trans c1) d os
          have hwos := hbw.size
          have hb1s := hb1.size
          have j0 : (0 : Int) ≤ (a : Int) := by omega
          have j4 : (0 : Int) ≤ (k : Int) := by omega
          have j5 : (k : Int) < (l.length : Int) := by omega
          clear hlow
          by_cases hal : a < L.length
          · obtain ⟨b2, off2, ⟨xn, xi⟩, rfl, hbx, hx, e1, e2⟩ := hRw.at2 hal
            simp only at e1 e2
            have q2 : ∀ d os, (gw wr d os).cell? ⟨b2, off2 + a * 2, none⟩ = some (.int .i64 xn) := fun d os => cell_gw (by simp; omega) e1 d os
            have q3 : ∀ d os, (gw wr d os).cell? ⟨b2, off2 + a * 2 + 1, none⟩ = some (.int .u64 xi) := fun d os => cell_gw (by simp; omega) e2 d os
            have HX := hide hx
            have j1 : (a : Int) < (L.length : Int) := by omega
            have t1 : decide (a < L.length) = true := by simp [hal]
            clear hx e1 e2
            have hbf := befB_lt (xn, xi) (pn, pi)
            simp only at hbf
            by_cases hxp : ltP (xn, xi) (pn, pi)
            · have hbt : befB xn xi pn pi = true := by rw [hbf]; simp [hxp]
              have H := hide (show ∀ j x, j < a + 1 → L[j]? = some x → ltP x (pn, pi) by
                intro j x hj hjx
                by_cases e : j = a
                · subst e; rw [HX.out] at hjx; injection hjx with hjx; rw [← hjx]; exact hxp
                · exact HLOW.out j x (by omega) hjx)
              clear hbf hxp
              go_wp2
              (refine wp_region_gw (by kernel_rfl) (by kernel_rfl) ?_; (repeat (go_big_quiet_step (((go_at_call 110; exact calls_gw (before_b _ _ _ _ _)))))); refine wpQuiet_nil ?_; intro _ hw'; obtain ⟨⟨dq, osq⟩, hw''⟩ := hw'; subst hw'')
              go_wp2
              go_roundw
              case rel => exact ⟨a + 1, by omega, by go_num, H.out, hb2.trans ((below_gw _ _ _).mono hs2)⟩
              case measure => simp [intOf]; omega
            · have hbt : befB xn xi pn pi = false := by rw [hbf]; simp [hxp]
              have HHI := hide (show ∀ x, L[a]? = some x → ¬ ltP x (pn, pi) by
                intro x hjx; rw [HX.out] at hjx; injection hjx with hjx; rw [← hjx]; exact hxp)
              clear hbf hxp
              go_wp2
              (refine wp_region_gw (by kernel_rfl) (by kernel_rfl) ?_; (repeat (go_big_quiet_step (((go_at_call 110; exact calls_gw (before_b _ _ _ _ _)))))); refine wpQuiet_nil ?_; intro _ hw'; obtain ⟨⟨dq, osq⟩, hw''⟩ := hw'; subst hw'')
              generalize hW3 : gw wr dq osq = W3 at *
              have HO3 := hide (show OwnP W3 w.heap.size (.slice (some ⟨b2, off2, none⟩) L.length LC) L by rw [← hW3]; exact own_below HO1.out (below_step hb2 (below_gw _ _ _)) (Nat.le_refl _))
              have hb3 : Below w.heap.size w W3 := by rw [← hW3]; exact below_step hbw1 (below_step hb2 (below_gw _ _ _))
              have hb13 : Below w1.heap.size w1 W3 := by rw [← hW3]; exact below_step hb2 (below_gw _ _ _)
              have d0 : W3.cell? ⟨b1, off + k * 2, none⟩ = some (.int .i64 pn) := (hb13.cell (p := ⟨b1, _, none⟩) (by simp; omega)).trans c0
              have d1 : W3.cell? ⟨b1, off + k * 2 + 1, none⟩ = some (.int .u64 pi) := (hb13.cell (p := ⟨b1, _, none⟩) (by simp; omega)).trans c1
              have hs3 := hb3.size
              have RH := hide (show Reads W3 W3.heap.size 2 (some ⟨b2, off2, none⟩) a (pcs (L.take a)) by
                have := (Reads.of_own HO3.out).head ha; rw [pcs, flat_take pc_len] at this; exact this)
              have RT := hide (show Reads W3 W3.heap.size 2 (some ⟨b2, off2 + a * 2, none⟩) (L.length - a) (pcs (L.drop a)) by
                have := (Reads.of_own HO3.out).cut_some ha; rw [pcs, flat_drop pc_len] at this; exact this)
              have HN3 := hide (show L.take a ++ [(pn, pi)] ++ L.drop a = sortedL (l.take (k + 1)) by
                have := sortedL_new HP.out (at_ := a) (by rw [← HL.out]; exact HLOW.out) (by rw [← HL.out]; exact HHI.out) (by rw [← HL.out]; exact HNI.out) (by rw [← HL.out]; exact ha)
                rw [this, ← HL.out])
              have ta : (L.take a).length = a := by rw [List.length_take]; omega
              have td : (L.drop a).length = L.length - a := by rw [List.length_drop]
              have TA := hide ta
              have TD := hide td
              clear hW3 q0 q1 q2 q3 hRw ta td
              have m0 : a ≤ LC := by omega
              have m1 : ¬ LC = a := by omega
              go_wp2_with (first
                | (at_builtin; refine wpList_append_any _ Try.okP (by rfl) (.tmp 36) (.tmp 39) (by rfl) W3.heap.size (.slice (some ⟨W3.heap.size, 0, none⟩) 0 0) 0 [] (by rfl) (own_empty W3) W3.heap.size (some ⟨b2, off2, none⟩) a LC (pcs (L.take a)) (by rfl) (RH.out.alloc (Nat.le_refl _) _) (pc_one _) (by unfold maxLen; omega) (by omega) (by simp) ?_; intro v1 w4 hown1 hg1 hnil1 hat1; have hb34 : Below W3.heap.size W3 w4 := (below_alloc W3 _).grown hg1 (by simp) (by simp [Value.ownBlock]); have f0 := (hb34.cell (p := ⟨b1, off + k * 2, none⟩) (by simp; omega)).trans d0; have f1 := (hb34.cell (p := ⟨b1, off + k * 2 + 1, none⟩) (by simp; omega)).trans d1; have hs4 := hb34.size)
                | (at_builtin; refine wpList_append_any _ Try.okP (by rfl) (.tmp 41) (.tmp 46) (by rfl) W3.heap.size v1 (0 + a) ([] ++ pcs (L.take a)) (by rfl) (hown1.alloc _) (w4.heap.size + 1) (some ⟨w4.heap.size, 0, none⟩) 1 1 (pcs [(pn, pi)]) (by rfl) (reads_one w4 pn pi) (pc_one _) (by unfold maxLen; omega) (by omega) (by simp; omega) ?_; intro v2 w5 hown2 hg2 hnil2 hat2; have hb35 : Below W3.heap.size W3 w5 := (hb34.alloc hs4 _).grown hg2 (by simp; omega) (fun g hg => (hown1.lt g hg).1); have hs5 := hb35.size)
                | (at_builtin; refine wpList_append_any _ Try.okP (by rfl) (.tmp 48) (.tmp 51) (by rfl) W3.heap.size v2 (0 + a + 1) ([] ++ pcs (L.take a) ++ pcs [(pn, pi)]) (by rfl) hown2 W3.heap.size (some ⟨b2, off2 + a * 2, none⟩) (L.length - a) (LC - a) (pcs (L.drop a)) (by rfl) (RT.out.below hb35) (pc_one _) (by unfold maxLen; omega) (by omega) hs5 ?_; intro v3 w6 hown3 hg3 hnil3 hat3; have hb36 : Below W3.heap.size W3 w6 := hb35.grown hg3 hs5 (fun g hg => (hown2.lt g hg).1)))
              go_roundw
              case rel =>
                refine ⟨k + 1, L.take a ++ [(pn, pi)] ++ L.drop a, by omega, by go_num, HN3.out, ?_, hb3.trans (hb36.mono hs3)⟩
                have hlen : (L.take a ++ [(pn, pi)] ++ L.drop a).length = 0 + a + 1 + (L.length - a) := by rw [List.length_append, List.length_append, TA.out, TD.out]; simp
                rw [OwnP, hlen, pcs_app, pcs_app]
                exact own_base hown3 hs3
              case measure => simp [intOf]; omega
          · have HHI := hide (show ∀ x, L[a]? = some x → ¬ ltP x (pn, pi) by
              intro x hjx; exact absurd (List.getElem?_eq_some_iff.1 hjx).1 hal)
            have t1 : decide (a < L.length) = false := by simp; omega
            go_wp2
            (refine wp_region_gw (by kernel_rfl) (by kernel_rfl) ?_; (repeat (go_big_quiet_step (((go_at_call 110; exact calls_gw (before_b _ _ _ _ _)))))); refine wpQuiet_nil ?_; intro _ hw'; obtain ⟨⟨dq, osq⟩, hw''⟩ := hw'; subst hw'')
            generalize hW3 : gw wr dq osq = W3 at *
            have HO3 := hide (show OwnP W3 w.heap.size (.slice LA L.length LC) L by rw [← hW3]; exact own_below HO1.out (below_step hb2 (below_gw _ _ _)) (Nat.le_refl _))
            have hb3 : Below w.heap.size w W3 := by rw [← hW3]; exact below_step hbw1 (below_step hb2 (below_gw _ _ _))
            have hb13 : Below w1.heap.size w1 W3 := by rw [← hW3]; exact below_step hb2 (below_gw _ _ _)
            have d0 : W3.cell? ⟨b1, off + k * 2, none⟩ = some (.int .i64 pn) := (hb13.cell (p := ⟨b1, _, none⟩) (by simp; omega)).trans c0
            have d1 : W3.cell? ⟨b1, off + k * 2 + 1, none⟩ = some (.int .u64 pi) := (hb13.cell (p := ⟨b1, _, none⟩) (by simp; omega)).trans c1
            have hs3 := hb3.size
            have RH := hide (show Reads W3 W3.heap.size 2 LA a (pcs (L.take a)) by
              have := (Reads.of_own HO3.out).head ha; rw [pcs, flat_take pc_len] at this; exact this)
            have RT := hide (show Reads W3 W3.heap.size 2 (if LC = a then LA else LA.map (·.add (a * 2))) (L.length - a) (pcs (L.drop a)) by
              have := (Reads.of_own HO3.out).cut ha hlc; rw [pcs, flat_drop pc_len] at this; exact this)
            have HN3 := hide (show L.take a ++ [(pn, pi)] ++ L.drop a = sortedL (l.take (k + 1)) by
              have := sortedL_new HP.out (at_ := a) (by rw [← HL.out]; exact HLOW.out) (by rw [← HL.out]; exact HHI.out) (by rw [← HL.out]; exact HNI.out) (by rw [← HL.out]; exact ha)
              rw [this, ← HL.out])
            have ta : (L.take a).length = a := by rw [List.length_take]; omega
            have td : (L.drop a).length = L.length - a := by rw [List.length_drop]
            have TA := hide ta
            have TD := hide td
            clear hW3 q0 q1 hRw ta td
            have m0 : a ≤ LC := by omega
            go_wp2_with (first
              | (at_builtin; refine wpList_append_any _ Try.okP (by rfl) (.tmp 36) (.tmp 39) (by rfl) W3.heap.size (.slice (some ⟨W3.heap.size, 0, none⟩) 0 0) 0 [] (by rfl) (own_empty W3) W3.heap.size LA a LC (pcs (L.take a)) (by rfl) (RH.out.alloc (Nat.le_refl _) _) (pc_one _) (by unfold maxLen; omega) (by omega) (by simp) ?_; intro v1 w4 hown1 hg1 hnil1 hat1; have hb34 : Below W3.heap.size W3 w4 := (below_alloc W3 _).grown hg1 (by simp) (by simp [Value.ownBlock]); have f0 := (hb34.cell (p := ⟨b1, off + k * 2, none⟩) (by simp; omega)).trans d0; have f1 := (hb34.cell (p := ⟨b1, off + k * 2 + 1, none⟩) (by simp; omega)).trans d1; have hs4 := hb34.size)
              | (at_builtin; refine wpList_append_any _ Try.okP (by rfl) (.tmp 41) (.tmp 46) (by rfl) W3.heap.size v1 (0 + a) ([] ++ pcs (L.take a)) (by rfl) (hown1.alloc _) (w4.heap.size + 1) (some ⟨w4.heap.size, 0, none⟩) 1 1 (pcs [(pn, pi)]) (by rfl) (reads_one w4 pn pi) (pc_one _) (by unfold maxLen; omega) (by omega) (by simp; omega) ?_; intro v2 w5 hown2 hg2 hnil2 hat2; have hb35 : Below W3.heap.size W3 w5 := (hb34.alloc hs4 _).grown hg2 (by simp; omega) (fun g hg => (hown1.lt g hg).1); have hs5 := hb35.size)
              | (at_builtin; refine wpList_append_any _ Try.okP (by rfl) (.tmp 48) (.tmp 51) (by rfl) W3.heap.size v2 (0 + a + 1) ([] ++ pcs (L.take a) ++ pcs [(pn, pi)]) (by rfl) hown2 W3.heap.size (if LC = a then LA else LA.map (·.add (a * 2))) (L.length - a) (LC - a) (pcs (L.drop a)) (by rfl) (RT.out.below hb35) (pc_one _) (by unfold maxLen; omega) (by omega) hs5 ?_; intro v3 w6 hown3 hg3 hnil3 hat3; have hb36 : Below W3.heap.size W3 w6 := hb35.grown hg3 hs5 (fun g hg => (hown2.lt g hg).1)))
            go_roundw
            case rel =>
              refine ⟨k + 1, L.take a ++ [(pn, pi)] ++ L.drop a, by omega, by go_num, HN3.out, ?_, hb3.trans (hb36.mono hs3)⟩
              have hlen : (L.take a ++ [(pn, pi)] ++ L.drop a).length = 0 + a + 1 + (L.length - a) := by rw [List.length_append, List.length_append, TA.out, TD.out]; simp
              rw [OwnP, hlen, pcs_app, pcs_app]
              exact own_base hown3 hs3
            case measure => simp [intOf]; omega
      · have H := hide (show L = sortedL (l.take (k + 1)) by rw [sortedL_old HP.out (by rw [← HL.out]; simpa using hd), ← HL.out])
        go_wp2
        go_roundw
        case rel => exact ⟨k + 1, L, by omega, by go_num, H.out, HO1.out, hbw1⟩
        case measure => simp [intOf]; omega
    · have hk' : k = l.length := by omega
      subst hk'
      have hL := HL.out
      rw [List.take_length] at hL
      have HL2 := hide hL
      clear hL
      go_wp2
      go_ret
      rw [← HL2.out]
      exact ⟨_, rfl, HO.out, hbw⟩

end Go.Proofs.Ytgpmcpinnaggmaa
