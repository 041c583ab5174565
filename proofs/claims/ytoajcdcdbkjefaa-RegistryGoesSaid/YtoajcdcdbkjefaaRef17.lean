/-
  Contracts: the reference's May, Own, Lives, Raise of layer 17.
-/
import Derived.Test.YtoajcdcdbkjefaaLRaised
namespace Go.Proofs.Ytoajcdcdbkjefaa
set_option linter.unusedSimpArgs false
set_option linter.unusedVariables false
set_option linter.unusedSectionVars false
open Go.RowKit Go.Sort Go.Lib

set_option maxRecDepth 100000 in
set_option maxHeartbeats 4000000 in
theorem ref17May_b (A : Option Addr) (c : Nat) (l : List Cl) (w : World) (h : Cll w A l) (hn : l.length ≤ 1000000) (hw : ∀ x ∈ l, 0 ≤ x.i) :
    Calls Try.prog 21 #[.agg #[.slice A l.length c]] w (RetB w (mayR l)) := by
  have HW := hide hw
  clear hw
  by_cases h6 : l.length ≤ 6
  · have h6' : ¬ (6 : Int) < (l.length : Int) := by omega
    go_enter Try.func21, Try.ntmps21
    go_wp2
    go_loopw [3] (fun i wr => ∃ k : Nat, k ≤ l.length ∧ i = .int .i64 k ∧ Below (w.alloc (bxR A l.length c)).heap.size (w.alloc (bxR A l.length c)) wr ∧ (List.range k).all (okR l) = true) (fun i _ => l.length - (intOf i).toNat)
    case atStart => exact ⟨0, Nat.zero_le _, rfl, Below.refl _ _, by simp⟩
    case round =>
      obtain ⟨k, hk, rfl, hbw, hall⟩ := hrel
      have HN := hide hall
      clear hall
      obtain ⟨⟨d1, os1⟩, rfl⟩ := gw_of_below hbw
      clear hbw
      by_cases hlt : k < l.length
      · obtain ⟨b, off, x, rfl, hb, hp, hx⟩ := Reads.atC h hlt
        obtain ⟨g0, g1, g2, g3, g4, g5⟩ := hx
        have hxi := HW.out x (List.mem_of_getElem? hp)
        haveI : InW b w := ⟨hb⟩
        have HP := hide hp
        have i0 : (0 : Int) ≤ (k : Int) := by omega
        have i1 : (k : Int) < (l.length : Int) := by omega
        clear hp
        cases hm : mayB x.n x.i
        · have H := hide (mayR_false hlt (okR_may HP.out hm))
          clear h
          go_wp2
          (refine wp_region_gw (by kernel_rfl) (by kernel_rfl) ?_; (repeat (go_big_quiet_step ((go_at_call 40; exact calls_gw (refMay_b _ _ _ hxi))))); refine wpQuiet_nil ?_; intro _ hw'; obtain ⟨⟨dq, osq⟩, hw''⟩ := hw'; subst hw'')
          go_wp2
          go_ret
          exact ⟨ret_b H.out.symm, (by repeat (first | exact Below.refl _ _ | assumption | refine bel_al ?_ _ | refine bel_gw ?_ _ _ | refine bel_drew ?_ | refine bel_drewN ?_ _))⟩
        · by_cases hk0 : k = 0
          · have H := hide (show (List.range (k + 1)).all (okR l) = true by rw [all_succ, HN.out]; subst hk0; rw [okR_zero HP.out hm]; rfl)
            have hk1 : decide (0 < k) = false := by simp; omega
            clear hk0 h
            go_wp2
            (refine wp_region_gw (by kernel_rfl) (by kernel_rfl) ?_; (repeat (go_big_quiet_step ((go_at_call 40; exact calls_gw (refMay_b _ _ _ hxi))))); refine wpQuiet_nil ?_; intro _ hw'; obtain ⟨⟨dq, osq⟩, hw''⟩ := hw'; subst hw'')
            go_wp2
            go_roundw
            case rel => exact ⟨k + 1, by omega, by go_num, (by repeat (first | exact Below.refl _ _ | assumption | refine bel_al ?_ _ | refine bel_gw ?_ _ _ | refine bel_drew ?_ | refine bel_drewN ?_ _)), H.out⟩
            case measure => simp [intOf]; omega
          · obtain ⟨b', off', y, he, hb', hp', hy⟩ := Reads.atC h (k := k - 1) (by omega)
            injection he with he
            injection he with he1 he2
            subst he1 he2
            have HP' := hide hp'
            have y0 := hy.h0
            have j0 : (0 : Int) < (k : Int) := by omega
            have hk1 : decide (0 < k) = true := by simp; omega
            have j1 : (0 : Int) ≤ (k : Int) - 1 := by omega
            have j2 : (k : Int) - 1 < (l.length : Int) := by omega
            have j3 : ((k : Int) - 1).toNat = k - 1 := by omega
            clear hp' hy h
            by_cases hc : y.n < x.n
            · have H := hide (show (List.range (k + 1)).all (okR l) = true by rw [all_succ, HN.out, okR_succ HP.out HP'.out hk0 hm]; simp [hc])
              have hcb : decide (x.n ≤ y.n) = false := by simp; omega
              go_wp2
              (refine wp_region_gw (by kernel_rfl) (by kernel_rfl) ?_; (repeat (go_big_quiet_step ((go_at_call 40; exact calls_gw (refMay_b _ _ _ hxi))))); refine wpQuiet_nil ?_; intro _ hw'; obtain ⟨⟨dq, osq⟩, hw''⟩ := hw'; subst hw'')
              go_wp2
              go_roundw
              case rel => exact ⟨k + 1, by omega, by go_num, (by repeat (first | exact Below.refl _ _ | assumption | refine bel_al ?_ _ | refine bel_gw ?_ _ _ | refine bel_drew ?_ | refine bel_drewN ?_ _)), H.out⟩
              case measure => simp [intOf]; omega
            · have H := hide (mayR_false hlt (show okR l k = false by rw [okR_succ HP.out HP'.out hk0 hm]; simp; omega))
              have hcb : decide (x.n ≤ y.n) = true := by simp; omega
              go_wp2
              (refine wp_region_gw (by kernel_rfl) (by kernel_rfl) ?_; (repeat (go_big_quiet_step ((go_at_call 40; exact calls_gw (refMay_b _ _ _ hxi))))); refine wpQuiet_nil ?_; intro _ hw'; obtain ⟨⟨dq, osq⟩, hw''⟩ := hw'; subst hw'')
              go_wp2
              go_ret
              exact ⟨ret_b H.out.symm, (by repeat (first | exact Below.refl _ _ | assumption | refine bel_al ?_ _ | refine bel_gw ?_ _ _ | refine bel_drew ?_ | refine bel_drewN ?_ _))⟩
      · have H := hide (show mayR l = true by
          have hk' : k = l.length := by omega
          subst hk'
          unfold mayR
          rw [HN.out, Bool.true_and]; simpa using h6)
        go_wp2
        go_ret
        exact ⟨ret_b H.out.symm, (by repeat (first | exact Below.refl _ _ | assumption | refine bel_al ?_ _ | refine bel_gw ?_ _ _ | refine bel_drew ?_ | refine bel_drewN ?_ _))⟩
  · have h6' : (6 : Int) < (l.length : Int) := by omega
    have H := hide (show mayR l = false by unfold mayR; rw [Bool.and_eq_false_iff]; right; simpa using h6)
    go_enter Try.func21, Try.ntmps21
    go_wp2
    go_ret
    exact ⟨ret_b H.out.symm, (by repeat (first | exact Below.refl _ _ | assumption | refine bel_al ?_ _ | refine bel_gw ?_ _ _ | refine bel_drew ?_ | refine bel_drewN ?_ _))⟩

set_option maxHeartbeats 1000000 in
theorem ref17Own_s (A : Option Addr) (c : Nat) (l : List Cl) (w : World) (h : Cll w A l) (hn : l.length ≤ 1000000) (hw : ∀ x ∈ l, 0 ≤ x.i) :
    Calls Try.prog 25 #[.agg #[.slice A l.length c]] w (RetR w (takenR l)) := by
  have T := hide (fun W (hW : Cll W A l) => ref17May_b A c l W hW hn hw)
  clear hw
  go_enter Try.func25, Try.ntmps25
  go_wp2_with fail
  with_reducible refine (T.out _ (h.step (by repeat (first | exact Below.refl _ _ | assumption | refine bel_al ?_ _ | refine bel_gw ?_ _ _ | refine bel_drew ?_ | refine bel_drewN ?_ _)))).mono ?_
  rintro e w1 ⟨rfl, hb⟩
  obtain ⟨⟨d1, os1⟩, rfl⟩ := gw_of_below hb
  clear hb
  cases hm : mayR l
  · have HT := hide (show takenR l = [] by simp [takenR, hm])
    go_wp2
    refine bodyPost_ret (v := .agg #[.slice none 0 0]) (by simp [results, Try.results25, go_sem]) rfl ?_
    rw [HT.out]
    exact ⟨_, rfl, World.ownsRow_nil _ _ _ _, (by repeat (first | exact Below.refl _ _ | assumption | refine bel_al ?_ _ | refine bel_gw ?_ _ _ | refine bel_drew ?_ | refine bel_drewN ?_ _))⟩
  · have HT := hide (show takenR l = l by simp [takenR, hm])
    have hc : Cll (gw ((w.alloc (bxR A l.length c)).alloc (bxR none 0 0)) d1 os1) A l := h.step (by repeat (first | exact Below.refl _ _ | assumption | refine bel_al ?_ _ | refine bel_gw ?_ _ _ | refine bel_drew ?_ | refine bel_drewN ?_ _))
    clear h
    go_wp2_with (at_builtin; go_must (refine wpList_append_any _ Try.okC (by rfl) (.tmp 7) (.tmp 9) (by rfl) (gw ((w.alloc (bxR A l.length c)).alloc (bxR none 0 0)) d1 os1).heap.size (.slice (some ⟨(gw ((w.alloc (bxR A l.length c)).alloc (bxR none 0 0)) d1 os1).heap.size, 0, none⟩) 0 0) 0 [] (by rfl) (own_emptyC _) _ A l.length c (ccs l) (by rfl) (Reads.alloc hc (Nat.le_refl _) _) (cc_one l) (by unfold maxLen; omega) (by omega) (by simp) ?_); intro v1 w2 hown1 hg1 hnil1 hat1; have hb2 := (below_alloc (gw ((w.alloc (bxR A l.length c)).alloc (bxR none 0 0)) d1 os1) (.cells #[] 42)).grown hg1 (by simp) (by simp [Value.ownBlock]); rw [Nat.zero_add, List.nil_append] at hown1; obtain ⟨RA, RC, rfl, _, _⟩ := own_slice hown1; obtain ⟨⟨d2, os2⟩, rfl⟩ := gw_more hb2; clear hg1 hnil1 hat1 hb2)
    refine bodyPost_ret (v := .agg #[.slice RA l.length RC]) (by simp [results, Try.results25, go_sem]) rfl ?_
    rw [HT.out]
    refine ⟨_, rfl, ?_, (by repeat (first | exact Below.refl _ _ | assumption | refine bel_al ?_ _ | refine bel_gw ?_ _ _ | refine bel_drew ?_ | refine bel_drewN ?_ _))⟩
    exact own_base (own_swap (own_base hown1 (base' := w.heap.size + 1 + 1) (by (try simp [size_gwe]) <;> omega)) (by simp) (by simp)) (by omega)
end Go.Proofs.Ytoajcdcdbkjefaa
