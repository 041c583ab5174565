/-
  RegistryDrops answers true.
-/
import Derived.Test.YtoajcdcdbkjefaaLTells
import Derived.Test.YtoajcdcdbkjefaaWithout
namespace Go.Proofs.Ytoajcdcdbkjefaa
set_option linter.unusedSimpArgs false
set_option linter.unusedVariables false
set_option linter.unusedSectionVars false
open Go.RowKit Go.Sort Go.Lib

theorem goneR_len (st : Cl → Bool) (m : List Cl) : (goneR st m).length = m.length := by simp [goneR]
theorem livesL_len (m : List Cl) : (livesL m).length = m.length := by simp [livesL]
set_option maxRecDepth 100000 in
set_option maxHeartbeats 16000000 in
theorem registryDrops_true (A : Option Addr) (c : Nat) (l : List Cl) (a b now : Int) (w : World) (h : Cll w A l) (hn : l.length ≤ 9223372036854775807) (hwi : ∀ x ∈ l, 0 ≤ x.i) (hwh : ∀ x ∈ l, 0 ≤ x.heard ∧ x.heard ≤ 18446744073709551615) (hnow : 0 ≤ now ∧ now ≤ 18446744073709551615) :
    Calls Try.prog 4 #[.agg #[.slice A l.length c], .agg #[.int .i64 a, .int .u64 b], .int .u64 now] w (RetB w true) := by
  have HI := hide hwi
  have HH := hide hwh
  have HN := hide hnow
  clear hwi hwh hnow
  by_cases h3 : 300 < l.length
  · have hd : decide (300 < l.length) = true := by simp [h3]
    go_enter Try.func4, Try.ntmps4
    go_wp2_with fail
    with_reducible refine (heavy_b A c l _ hn).mono ?_
    rintro e w1 ⟨rfl, hb⟩
    obtain ⟨⟨d1, os1⟩, rfl⟩ := gw_of_below hb
    rw [hd]
    clear hb
    go_wp2_with fail
    with_reducible refine (awake_t _).mono ?_
    rintro e w2 ⟨rfl, hb⟩
    obtain ⟨⟨d2, os2⟩, rfl⟩ := gw_of_below hb
    go_wp2
    go_ret
    exact ⟨rfl, (by repeat (first | exact Below.refl _ _ | assumption | refine bel_al ?_ _ | refine bel_gw ?_ _ _ | refine bel_drew ?_ | refine bel_drewN ?_ _))⟩
  · have hd : decide (300 < l.length) = false := by simp [h3]
    have h3' : l.length ≤ 300 := by omega
    clear h3 hn
    have hml := takenR_len l
    obtain ⟨R0, hR0⟩ : ∃ R, R = goneR (fun x => eqP x.n x.i a b) (takenR l) := ⟨_, rfl⟩
    obtain ⟨P0, hP0⟩ : ∃ P, P = livesL ((takenR l).filter (goes (fun x => eqP x.n x.i a b))) := ⟨_, rfl⟩
    have hRl0 : R0.length ≤ 6 := by rw [hR0, goneR_len]; exact hml
    have hPl0 : P0.length ≤ 6 := by rw [hP0, livesL_len]; exact Nat.le_trans (List.length_filter_le _ _) hml
    obtain ⟨R1, hR1⟩ : ∃ R, R = goneR (fun x => x.n == a) (takenR l) := ⟨_, rfl⟩
    obtain ⟨P1, hP1⟩ : ∃ P, P = livesL ((takenR l).filter (goes (fun x => x.n == a))) := ⟨_, rfl⟩
    have hRl1 : R1.length ≤ 6 := by rw [hR1, goneR_len]; exact hml
    have hPl1 : P1.length ≤ 6 := by rw [hP1, livesL_len]; exact Nat.le_trans (List.length_filter_le _ _) hml
    obtain ⟨R2, hR2⟩ : ∃ R, R = goneR (silB now) (takenR l) := ⟨_, rfl⟩
    obtain ⟨P2, hP2⟩ : ∃ P, P = livesL ((takenR l).filter (goes (silB now))) := ⟨_, rfl⟩
    have hRl2 : R2.length ≤ 6 := by rw [hR2, goneR_len]; exact hml
    have hPl2 : P2.length ≤ 6 := by rw [hP2, livesL_len]; exact Nat.le_trans (List.length_filter_le _ _) hml
    have T0 := hide (show ∀ OA OC W, Cll W OA l → Calls Try.prog 13 #[.agg #[.slice OA l.length OC], .agg #[.int .i64 a, .int .u64 b]] W (RetD W R0 (decide (0 < P0.length))) from fun OA OC W hW => by rw [hR0, hP0, livesL_len]; exact leave_s OA OC l a b W hW (by omega))
    have T1 := hide (show ∀ OA OC W, Cll W OA l → Calls Try.prog 15 #[.agg #[.slice OA l.length OC], .int .i64 a] W (RetD W R1 (decide (0 < P1.length))) from fun OA OC W hW => by rw [hR1, hP1, livesL_len]; exact drop_s OA OC l a W hW (by omega))
    have T2 := hide (show ∀ OA OC W, Cll W OA l → Calls Try.prog 16 #[.agg #[.slice OA l.length OC], .int .u64 now] W (RetG W R2 P2) from fun OA OC W hW => by rw [hR2, hP2]; exact silent_s OA OC l now W hW (by omega) HN.out.1 HN.out.2)
    have U0 := hide (show ∀ W, Cll W A l → Calls Try.prog 14 #[.agg #[.slice A l.length c], .int .i64 0, .agg #[.int .i64 a, .int .u64 b], .int .u64 now] W (RetG W R0 P0) from fun W hW => by rw [hR0, hP0]; exact without_leave A c l a b now W hW (by omega) HI.out HH.out HN.out)
    have U1 := hide (show ∀ W, Cll W A l → Calls Try.prog 14 #[.agg #[.slice A l.length c], .int .i64 1, .agg #[.int .i64 a, .int .u64 b], .int .u64 now] W (RetG W R1 P1) from fun W hW => by rw [hR1, hP1]; exact without_drop A c l a b now W hW (by omega) HI.out HH.out HN.out)
    have U2 := hide (show ∀ W, Cll W A l → Calls Try.prog 14 #[.agg #[.slice A l.length c], .int .i64 2, .agg #[.int .i64 a, .int .u64 b], .int .u64 now] W (RetG W R2 P2) from fun W hW => by rw [hR2, hP2]; exact without_silent A c l a b now W hW (by omega) HI.out HH.out HN.out)
    clear hR0 hR1 hR2 hP0 hP1 hP2
    have b0 : (decide (0 < P0.length) != decide (0 < P0.length)) = false := by simp
    have b1 : (decide (0 < P1.length) != decide (0 < P1.length)) = false := by simp
    go_enter Try.func4, Try.ntmps4
    go_wp2_with fail
    with_reducible refine (heavy_b A c l _ (by omega)).mono ?_
    rintro e w1 ⟨rfl, hb⟩
    rw [hd]
    obtain ⟨⟨d1, os1⟩, rfl⟩ := gw_of_below hb
    clear hb hd
    have hc : Cll (gw ((w.alloc (bxR A l.length c)).alloc (bx a b)) d1 os1) A l := h.step (by repeat (first | exact Below.refl _ _ | assumption | refine bel_al ?_ _ | refine bel_gw ?_ _ _ | refine bel_drew ?_ | refine bel_drewN ?_ _))
    go_wp2_with (at_builtin; go_must (refine wpList_append_any _ Try.okC (by rfl) (.tmp 23) (.tmp 25) (by rfl) (gw ((w.alloc (bxR A l.length c)).alloc (bx a b)) d1 os1).heap.size (.slice (some ⟨(gw ((w.alloc (bxR A l.length c)).alloc (bx a b)) d1 os1).heap.size, 0, none⟩) 0 0) 0 [] (by rfl) (own_emptyC _) _ A l.length c (ccs l) (by rfl) (Reads.alloc hc (Nat.le_refl _) _) (cc_one l) (by unfold maxLen; omega) (by omega) (by simp) ?_); intro v1 w2 hown1 hg1 hnil1 hat1; have hb2 := (below_alloc (gw ((w.alloc (bxR A l.length c)).alloc (bx a b)) d1 os1) (.cells #[] 42)).grown hg1 (by simp) (by simp [Value.ownBlock]); rw [Nat.zero_add, List.nil_append] at hown1; obtain ⟨OA, OC, rfl, _, _⟩ := own_slice hown1; have so : Cll w2 OA l := Reads.of_own (by simpa using hown1); obtain ⟨⟨d2, os2⟩, rfl⟩ := gw_more hb2; clear hg1 hnil1 hat1 hb2 hown1)
    with_reducible refine (T0.out OA OC _ (so.step (by repeat (first | exact Below.refl _ _ | assumption | refine bel_al ?_ _ | refine bel_gw ?_ _ _ | refine bel_drew ?_ | refine bel_drewN ?_ _)))).mono ?_
    rintro e w3 ⟨v, rfl, hown, hb⟩
    obtain ⟨xaA, xaC, rfl, _, _⟩ := own_slice hown
    have xas : Cll w3 xaA R0 := Reads.of_own hown
    obtain ⟨⟨d3, os3⟩, rfl⟩ := gw_of_below hb
    clear hb hown
    go_wp2_with fail
    with_reducible refine (U0.out _ (h.step (by repeat (first | exact Below.refl _ _ | assumption | refine bel_al ?_ _ | refine bel_gw ?_ _ _ | refine bel_drew ?_ | refine bel_drewN ?_ _)))).mono ?_
    rintro e w4 ⟨v, xbPA, xbPC, rfl, hown, hpr, hb⟩
    have xbp : Sll w4 xbPA P0 := Reads.of_own hpr
    clear hpr
    obtain ⟨xbA, xbC, rfl, _, _⟩ := own_slice hown
    have xbs : Cll w4 xbA R0 := Reads.of_own hown
    obtain ⟨⟨d4, os4⟩, rfl⟩ := gw_of_below hb
    clear hb hown
    go_wp2_with fail
    with_reducible refine (T1.out OA OC _ (so.step (by repeat (first | exact Below.refl _ _ | assumption | refine bel_al ?_ _ | refine bel_gw ?_ _ _ | refine bel_drew ?_ | refine bel_drewN ?_ _)))).mono ?_
    rintro e w5 ⟨v, rfl, hown, hb⟩
    obtain ⟨xcA, xcC, rfl, _, _⟩ := own_slice hown
    have xcs : Cll w5 xcA R1 := Reads.of_own hown
    obtain ⟨⟨d5, os5⟩, rfl⟩ := gw_of_below hb
    clear hb hown
    go_wp2_with fail
    with_reducible refine (U1.out _ (h.step (by repeat (first | exact Below.refl _ _ | assumption | refine bel_al ?_ _ | refine bel_gw ?_ _ _ | refine bel_drew ?_ | refine bel_drewN ?_ _)))).mono ?_
    rintro e w6 ⟨v, xdPA, xdPC, rfl, hown, hpr, hb⟩
    have xdp : Sll w6 xdPA P1 := Reads.of_own hpr
    clear hpr
    obtain ⟨xdA, xdC, rfl, _, _⟩ := own_slice hown
    have xds : Cll w6 xdA R1 := Reads.of_own hown
    obtain ⟨⟨d6, os6⟩, rfl⟩ := gw_of_below hb
    clear hb hown
    go_wp2_with fail
    with_reducible refine (T2.out OA OC _ (so.step (by repeat (first | exact Below.refl _ _ | assumption | refine bel_al ?_ _ | refine bel_gw ?_ _ _ | refine bel_drew ?_ | refine bel_drewN ?_ _)))).mono ?_
    rintro e w7 ⟨v, xePA, xePC, rfl, hown, hpr, hb⟩
    have xep : Sll w7 xePA P2 := Reads.of_own hpr
    clear hpr
    obtain ⟨xeA, xeC, rfl, _, _⟩ := own_slice hown
    have xes : Cll w7 xeA R2 := Reads.of_own hown
    obtain ⟨⟨d7, os7⟩, rfl⟩ := gw_of_below hb
    clear hb hown
    go_wp2_with fail
    with_reducible refine (U2.out _ (h.step (by repeat (first | exact Below.refl _ _ | assumption | refine bel_al ?_ _ | refine bel_gw ?_ _ _ | refine bel_drew ?_ | refine bel_drewN ?_ _)))).mono ?_
    rintro e w8 ⟨v, xfPA, xfPC, rfl, hown, hpr, hb⟩
    have xfp : Sll w8 xfPA P2 := Reads.of_own hpr
    clear hpr
    obtain ⟨xfA, xfC, rfl, _, _⟩ := own_slice hown
    have xfs : Cll w8 xfA R2 := Reads.of_own hown
    obtain ⟨⟨d8, os8⟩, rfl⟩ := gw_of_below hb
    clear hb hown
    go_wp2_with fail
    with_reducible refine (refSame_t _ _ _ _ R0 _ (xas.step (by repeat (first | exact Below.refl _ _ | assumption | refine bel_al ?_ _ | refine bel_gw ?_ _ _ | refine bel_drew ?_ | refine bel_drewN ?_ _))) (xbs.step (by repeat (first | exact Below.refl _ _ | assumption | refine bel_al ?_ _ | refine bel_gw ?_ _ _ | refine bel_drew ?_ | refine bel_drewN ?_ _))) (by omega)).mono ?_
    rintro e w9 ⟨rfl, hb⟩
    obtain ⟨⟨d9, os9⟩, rfl⟩ := gw_of_below hb
    clear hb
    go_wp2_with fail
    with_reducible refine (refSame_t _ _ _ _ R1 _ (xcs.step (by repeat (first | exact Below.refl _ _ | assumption | refine bel_al ?_ _ | refine bel_gw ?_ _ _ | refine bel_drew ?_ | refine bel_drewN ?_ _))) (xds.step (by repeat (first | exact Below.refl _ _ | assumption | refine bel_al ?_ _ | refine bel_gw ?_ _ _ | refine bel_drew ?_ | refine bel_drewN ?_ _))) (by omega)).mono ?_
    rintro e w10 ⟨rfl, hb⟩
    obtain ⟨⟨d10, os10⟩, rfl⟩ := gw_of_below hb
    clear hb
    go_wp2_with fail
    with_reducible refine (refSame_t _ _ _ _ R2 _ (xes.step (by repeat (first | exact Below.refl _ _ | assumption | refine bel_al ?_ _ | refine bel_gw ?_ _ _ | refine bel_drew ?_ | refine bel_drewN ?_ _))) (xfs.step (by repeat (first | exact Below.refl _ _ | assumption | refine bel_al ?_ _ | refine bel_gw ?_ _ _ | refine bel_drew ?_ | refine bel_drewN ?_ _))) (by omega)).mono ?_
    rintro e w11 ⟨rfl, hb⟩
    obtain ⟨⟨d11, os11⟩, rfl⟩ := gw_of_below hb
    clear hb
    go_wp2_with fail
    with_reducible refine (refEqual_t _ _ _ _ P2 _ (xep.step (by repeat (first | exact Below.refl _ _ | assumption | refine bel_al ?_ _ | refine bel_gw ?_ _ _ | refine bel_drew ?_ | refine bel_drewN ?_ _))) (xfp.step (by repeat (first | exact Below.refl _ _ | assumption | refine bel_al ?_ _ | refine bel_gw ?_ _ _ | refine bel_drew ?_ | refine bel_drewN ?_ _))) (by omega)).mono ?_
    rintro e w12 ⟨rfl, hb⟩
    obtain ⟨⟨d12, os12⟩, rfl⟩ := gw_of_below hb
    clear hb
    go_wp2_with fail
    with_reducible refine (refSame_t _ _ _ _ l _ (so.step (by repeat (first | exact Below.refl _ _ | assumption | refine bel_al ?_ _ | refine bel_gw ?_ _ _ | refine bel_drew ?_ | refine bel_drewN ?_ _))) (h.step (by repeat (first | exact Below.refl _ _ | assumption | refine bel_al ?_ _ | refine bel_gw ?_ _ _ | refine bel_drew ?_ | refine bel_drewN ?_ _))) (by omega)).mono ?_
    rintro e w13 ⟨rfl, hb⟩
    obtain ⟨⟨d13, os13⟩, rfl⟩ := gw_of_below hb
    clear hb
    go_wp2_with fail
    with_reducible refine (awake_t _).mono ?_
    rintro e w14 ⟨rfl, hb⟩
    obtain ⟨⟨d14, os14⟩, rfl⟩ := gw_of_below hb
    clear hb
    go_wp2
    go_ret
    exact ⟨rfl, (by repeat (first | exact Below.refl _ _ | assumption | refine bel_al ?_ _ | refine bel_gw ?_ _ _ | refine bel_drew ?_ | refine bel_drewN ?_ _))⟩
end Go.Proofs.Ytoajcdcdbkjefaa
