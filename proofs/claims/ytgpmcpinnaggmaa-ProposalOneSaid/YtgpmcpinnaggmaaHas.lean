/-
  Contracts: law03's ints; slices.Index and Contains at lives, proc.Has; the reference's Set.
-/
import Derived.Test.YtgpmcpinnaggmaaNodes
namespace Go.Proofs.Ytgpmcpinnaggmaa
set_option linter.unusedSimpArgs false
set_option linter.unusedVariables false
set_option linter.unusedSectionVars false
open Go.RowKit Go.Sort Go.Lib

/-- the first place of p in l, or -1 -/
def idxL (l : List Pr) (p : Pr) : Int := if p ∈ l then (l.idxOf p : Int) else -1
theorem idxOf_take {l : List Pr} {p : Pr} {k : Nat} (h : p ∉ l.take k) (hk : l[k]? = some p) : l.idxOf p = k := by
  have hl := (List.getElem?_eq_some_iff.1 hk).1
  have e : l = l.take k ++ (p :: l.drop (k + 1)) := by
    have h2 : l.drop k = p :: l.drop (k + 1) := by
      rw [List.drop_eq_getElem_cons hl]
      obtain ⟨_, h3⟩ := List.getElem?_eq_some_iff.1 hk
      rw [h3]
    rw [← h2, List.take_append_drop]
  rw [e, List.idxOf_append, if_neg h]
  rw [List.idxOf_cons_self, List.length_take]; omega

set_option maxHeartbeats 400000 in
theorem index_any (A : Option Addr) (c : Nat) (l : List Pr) (x y : Int) (w : World) (hR : Sl w A l) (hn : l.length ≤ 1000000) :
    Calls Try.prog 113 #[.slice A l.length c, .agg #[.int .i64 x, .int .u64 y]] w fun e w' => e = .returned (.int .i64 (idxL l (x, y))) ∧ Below w.heap.size w w' := by
  go_enter Try.func113, Try.ntmps113
  go_wp2
  go_loopw [8] (fun i wr => ∃ k q : Nat, k ≤ l.length ∧ i = .int .i64 k ∧ wr = (w.alloc (bx x y)).drewN q ∧ (x, y) ∉ l.take k) (fun i _ => l.length - (intOf i).toNat)
  case atStart => exact ⟨0, 0, Nat.zero_le _, rfl, rfl, by simp⟩
  case round =>
    obtain ⟨k, q, hk, rfl, rfl, hnot⟩ := hrel
    have HN := hide hnot
    clear hnot
    by_cases hlt : k < l.length
    · obtain ⟨b, off, ⟨pn, pi⟩, rfl, hb, hp, g1, g2⟩ := Reads.at2 hR hlt
      have HP := hide hp
      clear hp hR
      simp only at g1 g2
      have i0 : (0 : Int) ≤ (k : Int) := by omega
      have i1 : (k : Int) < (l.length : Int) := by omega
      cases he : eqP x y pn pi
      · have H := hide (show (x, y) ∉ l.take (k + 1) by
          rw [take_succ_of HP.out, List.mem_append, List.mem_singleton]
          rintro (h | h)
          · exact HN.out h
          · rw [Prod.mk.injEq] at h; simp [eqP, h.1, h.2] at he)
        go_wp2
        go_quiet (fail)
        go_wp2
        go_roundw
        case rel => exact ⟨k + 1, _, by omega, by go_num, rfl, H.out⟩
        case measure => simp [intOf]; omega
      · have H := hide (show idxL l (x, y) = k by
          rw [eqP_iff] at he
          have hp := HP.out
          rw [← he] at hp
          unfold idxL
          rw [if_pos (List.mem_of_getElem? hp), idxOf_take HN.out hp])
        go_wp2
        go_quiet (fail)
        go_wp2
        go_ret
        exact ⟨ret_i (by rw [H.out]), (by repeat (first | exact Below.refl _ _ | assumption | refine below_drewN ?_ _ | refine Below.drew ?_ | refine Below.alloc ?_ (by simp <;> omega) _))⟩
    · have H := hide (show idxL l (x, y) = -1 by
        unfold idxL
        have := HN.out; rw [List.take_of_length_le (by omega)] at this; rw [if_neg this])
      go_wp2
      go_ret
      exact ⟨ret_i (by rw [H.out]), (by repeat (first | exact Below.refl _ _ | assumption | refine below_drewN ?_ _ | refine Below.drew ?_ | refine Below.alloc ?_ (by simp <;> omega) _))⟩
theorem idxL_neg (l : List Pr) (p : Pr) : decide (0 ≤ idxL l p) = decide (p ∈ l) := by
  rw [decide_eq_decide]; unfold idxL
  split
  · rename_i h; simp [h]
  · rename_i h; simp [h]
set_option maxHeartbeats 400000 in
theorem contains_b (A : Option Addr) (c : Nat) (l : List Pr) (x y : Int) (w : World) (hR : Sl w A l) (hn : l.length ≤ 1000000) :
    Calls Try.prog 111 #[.slice A l.length c, .agg #[.int .i64 x, .int .u64 y]] w (RetB w (decide ((x, y) ∈ l))) := by
  have H := hide (idxL_neg l (x, y))
  go_enter Try.func111, Try.ntmps111
  go_wp2_with fail
  refine (index_any A c l x y _ (hR.step (below_alloc _ _)) hn).mono ?_
  rintro e w2 ⟨rfl, hb⟩
  go_wp2
  go_ret
  exact ⟨ret_b H.out, below_step (below_alloc _ _) hb⟩
set_option maxHeartbeats 400000 in
theorem has_b (A : Option Addr) (c : Nat) (l : List Pr) (x y : Int) (w : World) (hR : Sl w A l) (hn : l.length ≤ 1000000) :
    Calls Try.prog 72 #[.slice A l.length c, .agg #[.int .i64 x, .int .u64 y]] w (RetB w (decide ((x, y) ∈ l))) := by
  go_enter Try.func72, Try.ntmps72
  go_wp2_with fail
  refine (contains_b A c l x y _ (hR.step (below_alloc _ _)) hn).mono ?_
  rintro e w2 ⟨rfl, hb⟩
  go_wp2
  go_ret
  exact ⟨rfl, below_step (below_alloc _ _) hb⟩

set_option maxHeartbeats 1000000 in
theorem refSet_b (A : Option Addr) (c : Nat) (l : List Pr) (w : World) (hR : Sl w A l) (hn : l.length ≤ 1000000) (hwf : ∀ p ∈ l, 0 ≤ p.2) :
    Calls Try.prog 74 #[.slice A l.length c] w (RetB w (setB l)) := by
  go_enter Try.func74, Try.ntmps74
  go_wp2
  go_loopw [3] (fun i wr => ∃ k : Nat, k ≤ l.length ∧ i = .int .i64 k ∧ Below w.heap.size w wr ∧ (List.range k).all (okAt l) = true) (fun i _ => l.length - (intOf i).toNat)
  case atStart => exact ⟨0, Nat.zero_le _, rfl, Below.refl _ _, by simp⟩
  case round =>
    obtain ⟨k, hk, rfl, hbw, hall⟩ := hrel
    have HN := hide hall
    clear hall
    by_cases hlt : k < l.length
    · have hRw := Reads.below hR hbw
      have hsz := hbw.size
      obtain ⟨b, off, ⟨pn, pi⟩, rfl, hb, hp, g1, g2⟩ := hRw.at2 hlt
      have hpi := hwf _ (List.mem_of_getElem? hp)
      have HP := hide hp
      have HR := hide hRw
      clear hp hRw hR hwf
      simp only at g1 g2 hpi
      have i0 : (0 : Int) ≤ (k : Int) := by omega
      have i1 : (k : Int) < (l.length : Int) := by omega
      have q1 : ∀ d os, (gw wr d os).cell? ⟨b, off + k * 2, none⟩ = some (.int .i64 pn) := fun d os => cell_gw (by simp; omega) g1 d os
      have q2 : ∀ d os, (gw wr d os).cell? ⟨b, off + k * 2 + 1, none⟩ = some (.int .u64 pi) := fun d os => cell_gw (by simp; omega) g2 d os
      have hbg : ∀ d os, Below w.heap.size w (gw wr d os) := fun d os => below_step hbw (below_gw _ _ _)
      have HBG := hide hbg
      clear g1 g2 hbg
      cases hm : mayB pn pi
      · have H := hide (setB_false hlt (okAt_may HP.out hm))
        go_wp2
        (refine wp_region_gw (by kernel_rfl) (by kernel_rfl) ?_; (repeat (go_big_quiet_step ((go_at_call 98; exact calls_gw (refMay_b _ _ _ hpi))))); refine wpQuiet_nil ?_; intro _ hw'; obtain ⟨⟨dq, osq⟩, hw''⟩ := hw'; subst hw'')
        go_wp2
        go_ret
        exact ⟨ret_b H.out.symm, HBG.out _ _⟩
      · by_cases hk0 : k = 0
        · have H := hide (show (List.range (k + 1)).all (okAt l) = true by rw [all_succ, HN.out]; subst hk0; rw [okAt_zero HP.out hm]; rfl)
          have hk1 : decide (0 < k) = false := by simp; omega
          clear hk0
          go_wp2
          (refine wp_region_gw (by kernel_rfl) (by kernel_rfl) ?_; (repeat (go_big_quiet_step ((go_at_call 98; exact calls_gw (refMay_b _ _ _ hpi))))); refine wpQuiet_nil ?_; intro _ hw'; obtain ⟨⟨dq, osq⟩, hw''⟩ := hw'; subst hw'')
          go_wp2
          go_roundw
          case rel => exact ⟨k + 1, by omega, by go_num, HBG.out _ _, H.out⟩
          case measure => simp [intOf]; omega
        · obtain ⟨b', off', ⟨pn', pi'⟩, he, hb', hp', g1', g2'⟩ := HR.out.at2 (k := k - 1) (by omega)
          injection he with he
          injection he with he1 he2
          subst he1 he2
          have HP' := hide hp'
          clear hp'
          simp only at g1' g2'
          have q1' : ∀ d os, (gw wr d os).cell? ⟨b, off + (k - 1) * 2, none⟩ = some (.int .i64 pn') := fun d os => cell_gw (by simp; omega) g1' d os
          have q2' : ∀ d os, (gw wr d os).cell? ⟨b, off + (k - 1) * 2 + 1, none⟩ = some (.int .u64 pi') := fun d os => cell_gw (by simp; omega) g2' d os
          have j0 : (0 : Int) < (k : Int) := by omega
          have hk1 : decide (0 < k) = true := by simp; omega
          have j1 : (0 : Int) ≤ (k : Int) - 1 := by omega
          have j2 : (k : Int) - 1 < (l.length : Int) := by omega
          have j3 : ((k : Int) - 1).toNat = k - 1 := by omega
          have hbf := befB_cmp pn' pi' pn pi
          clear g1' g2'
          by_cases hc : cmpP (pn', pi') (pn, pi) < 0
          · have H := hide (show (List.range (k + 1)).all (okAt l) = true by rw [all_succ, HN.out, okAt_succ HP.out HP'.out hk0 hm]; simp [hc])
            have hcb : befB pn' pi' pn pi = true := by rw [hbf]; simp [hc]
            clear hbf hc
            go_wp2
            (refine wp_region_gw (by kernel_rfl) (by kernel_rfl) ?_; (repeat (go_big_quiet_step ((first | (go_at_call 98; exact calls_gw (refMay_b _ _ _ hpi)) | (go_at_call 110; exact calls_gw (before_b _ _ _ _ _)))))); refine wpQuiet_nil ?_; intro _ hw'; obtain ⟨⟨dq, osq⟩, hw''⟩ := hw'; subst hw'')
            go_wp2
            go_roundw
            case rel => exact ⟨k + 1, by omega, by go_num, HBG.out _ _, H.out⟩
            case measure => simp [intOf]; omega
          · have H := hide (setB_false hlt (show okAt l k = false by rw [okAt_succ HP.out HP'.out hk0 hm]; simp; omega))
            have hcb : befB pn' pi' pn pi = false := by rw [hbf]; simp; omega
            clear hbf hc
            go_wp2
            (refine wp_region_gw (by kernel_rfl) (by kernel_rfl) ?_; (repeat (go_big_quiet_step ((first | (go_at_call 98; exact calls_gw (refMay_b _ _ _ hpi)) | (go_at_call 110; exact calls_gw (before_b _ _ _ _ _)))))); refine wpQuiet_nil ?_; intro _ hw'; obtain ⟨⟨dq, osq⟩, hw''⟩ := hw'; subst hw'')
            go_wp2
            go_ret
            exact ⟨ret_b H.out.symm, HBG.out _ _⟩
    · have H := hide (show setB l = true by
        have : k = l.length := by omega
        subst this; exact HN.out)
      go_wp2
      go_ret
      exact ⟨ret_b H.out.symm, hbw⟩

end Go.Proofs.Ytgpmcpinnaggmaa
