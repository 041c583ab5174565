/-
  Layer 8: the law's awake; the law NoticeMay: true for every input.
-/
import Derived.Test.YtgbappmidllnmaaNotP
import Derived.Test.YtgbappmidllnmaaAwake4
namespace Go.Proofs.Ytgbappmidllnmaa
set_option linter.unusedSimpArgs false
set_option linter.unusedVariables false
set_option linter.unusedSectionVars false
open Go.RowKit

abbrev ntA : Nt := ⟨1, 5, 2, 300, 7, none, 0, [], vw0⟩
theorem ntA_may : ntA.mayB = true := by decide
theorem ntA_enc : ntA.enc = [1, 5, 2, 172, 2, 7, 0] := by decide
theorem ntA_F : NtF ntA := ⟨⟨by decide, by decide⟩, ⟨by decide, by decide⟩, ⟨by decide, by decide⟩, by simp, ⟨⟨by decide, by decide⟩, ⟨by decide, by decide⟩, by simp, by simp⟩⟩
theorem ntA_ok (w : World) : ntA.Ok w := ⟨Reads.none_, by simp, vw0_ok w⟩
theorem bOKs : bOK [1, 5, 2, 172, 2, 7, 0] := by intro b hb; simp at hb; omega
set_option maxRecDepth 100000 in
set_option maxHeartbeats 2000000 in
theorem awake8_t (w : World) : Calls Try.prog 45 #[] w (RetB w true) := by
  have T1 : Hid (∀ W, Calls Try.prog 52 #[NtV 1 5 2 300 7 none 0 0 0 0 0 none 0 0 none 0 0] W (RetE W [1, 5, 2, 172, 2, 7, 0])) := hide (fun W => by
    have := encode_s ntA W (ntA_ok W) ntA_F (by simp) ntA_may
    rw [ntA_enc] at this; exact this)
  have T2 : Hid (∀ A c W, Reads W W.heap.size 1 A 7 (bcs [1, 5, 2, 172, 2, 7, 0]) → Calls Try.prog 50 #[.slice A 7 c] W (RetN W ntA.bare 0)) := hide (fun A c W h => by
    have := decode_s A c [1, 5, 2, 172, 2, 7, 0] W h (by simp) bOKs
    rw [← ntA_enc, decN_back ntA ntA_may ntA_F] at this; exact this)
  have T3 : Hid (∀ W SA sc MA mc UA uc, Nt.Ok W (ntA.bare.at SA sc MA mc UA uc) → Calls Try.prog 48 #[NtV 1 5 2 300 7 SA 0 sc 0 0 0 MA 0 mc UA 0 uc, NtV 1 5 2 300 7 none 0 0 0 0 0 none 0 0 none 0 0] W (RetBb W true)) := hide (fun W SA sc MA mc UA uc h => by
    have := nsame_s (ntA.bare.at SA sc MA mc UA uc) ntA W h (ntA_ok W)
    rw [bare_eqB] at this; exact this)
  have T4 : Hid (∀ W, Calls Try.prog 46 #[NtV 1 5 2 300 7 none 0 0 0 0 0 none 0 0 none 0 0] W (RetBb W true)) := hide (fun W => by
    have := nmay_s ntA W (ntA_ok W)
    rw [ntA_may] at this; exact this)
  have p0 := boxTop w (csN 1 5 2 300 7 none 0 0 0 0 0 none 0 0 none 0 0) 66
  have hB := below_alloc w (bxN 1 5 2 300 7 none 0 0 0 0 0 none 0 0 none 0 0)
  go_enter Try.func45, Try.ntmps45
  go_wp2_with fail
  with_reducible refine (T1.out _).mono ?_
  rintro e w1 ⟨v1, rfl, ho1, hb1⟩
  obtain ⟨A1, c1, rfl, _, _⟩ := own_slice ho1
  replace p0 := p0.step hb1
  replace hB := below_step hB hb1
  have T5 := hide (T2.out A1 c1 w1 (Reads.of_own ho1))
  have HO1 := hide ho1
  simp only [List.length_cons, List.length_nil]
  clear ho1 hb1 T1 T2
  go_wp2_with fail
  with_reducible refine T5.out.mono ?_
  rintro e w2 ⟨SA, sc, MA, mc, UA, uc, rfl, ok2, hb2⟩
  simp only [Nt.v, Nt.at, Nt.bare, List.length_nil]
  replace p0 := p0.step hb2
  replace hB := below_step hB hb2
  have HO2 := hide (own_below HO1.out hb2 (Nat.le_refl _))
  have hbA := below_alloc w2 (bxN 1 5 2 300 7 SA 0 sc 0 0 0 MA 0 mc UA 0 uc)
  replace p0 := p0.step hbA
  replace hB := below_step hB hbA
  have HO3 := hide (own_below HO2.out hbA (Nat.le_refl _))
  have hcv := conv_reads (c := c1) (Reads.of_own HO3.out)
  rw [show strOfNums [1, 5, 2, 172, 2, 7, 0] = ⟨#[1, 5, 2, 172, 2, 7, 0]⟩ from rfl] at hcv
  simp only [List.length_cons, List.length_nil] at hcv
  have T6 := hide (T3.out _ SA sc MA mc UA uc (ok2.step hbA))
  haveI := p0
  clear HO1 HO2 HO3 hb2 hbA ok2 T5
  go_wp2_with fail
  with_reducible refine T6.out.mono ?_
  rintro e w3 ⟨rfl, hb3⟩
  replace p0 := p0.step hb3
  replace hB := below_step hB hb3
  haveI := p0
  clear hb3 T6 hcv
  go_wp2_with fail
  with_reducible refine (T4.out _).mono ?_
  rintro e w4 ⟨rfl, hb4⟩
  replace hB := below_step hB hb4
  clear hb4
  go_wp2
  go_ret
  exact ⟨rfl, hB⟩

set_option maxRecDepth 100000 in
set_option maxHeartbeats 4000000 in
theorem noticeMay_main (x y : Nt) (w : World) (okx : x.Ok w) (oky : y.Ok w) (hx : x.Wf) (hhx : hvN x = false) (hhy : hvN y = false) :
    Calls Try.prog 9 #[x.v, y.v] w (RetB w true) := by
  have TA := hide (fun W => awake8_t W)
  have TH := hide (fun W => heavy8_s x W)
  have TH' := hide (fun W => heavy8_s y W)
  rw [hhx] at TH
  rw [hhy] at TH'
  have T1 := hide (fun W (h : x.Ok W) => nmay_s x W h)
  have T2 := hide (fun W (h : x.Ok W) => refNMay_s x W h hx.p.2.2.1 (fun p hp => (hx.st p hp).2.2.1) hx.vw.p.2.2.1 (fun p hp => (hx.vw.ms p hp).2.2.1))
  have T3 := hide (fun W (h : x.Ok W) (h' : y.Ok W) => nsame_s x y W h h')
  have T4 := hide (fun W (h : x.Ok W) (h' : y.Ok W) => refNSame_s x y W h h')
  generalize x.mayB = b1 at T1 T2
  generalize Nt.eqB x y = b2 at T3 T4
  have e1 : (b1 == b1) = true := by simp
  have e2 : (b2 == b2) = true := by simp
  have HX := hide okx
  have HY := hide oky
  obtain ⟨k, n, i, rd, cd, SA, sc, st, ⟨r, vn, vi, MA, mc, ms, UA, uc, us⟩⟩ := x
  obtain ⟨k', n', i', rd', cd', SA', sc', st', ⟨r', vn', vi', MA', mc', ms', UA', uc', us'⟩⟩ := y
  unfold Nt.v at TH TH' T1 T2 T3 T4 ⊢
  simp only at TH TH' T1 T2 T3 T4 ⊢
  clear okx oky hx hhx hhy
  go_enter Try.func9, Try.ntmps9
  go_wp2_with fail
  (with_reducible refine (TH.out _).mono ?_)
  rintro e w1 ⟨rfl, hb⟩
  obtain ⟨⟨d1, os1⟩, rfl⟩ := gw_of_below hb
  clear hb
  go_wp2_with fail
  (with_reducible refine (TH'.out _).mono ?_)
  rintro e w1 ⟨rfl, hb⟩
  obtain ⟨⟨d2, os2⟩, rfl⟩ := gw_of_below hb
  clear hb
  go_wp2_with fail
  (refine wp_region_gw (by kernel_rfl) (by kernel_rfl) ?_; (repeat (go_big_quiet_step ((first | (go_at_call 46; with_reducible exact calls_gw (T1.out _ (HX.out.step (by repeat (first | exact Below.refl _ _ | assumption | refine bel_al ?_ _ | refine bel_gw ?_ _ _ | refine bel_drew ?_ | refine bel_drewN ?_ _))))) | (go_at_call 47; with_reducible exact calls_gw (T2.out _ (HX.out.step (by repeat (first | exact Below.refl _ _ | assumption | refine bel_al ?_ _ | refine bel_gw ?_ _ _ | refine bel_drew ?_ | refine bel_drewN ?_ _))))) | (go_at_call 48; with_reducible exact calls_gw (T3.out _ (HX.out.step (by repeat (first | exact Below.refl _ _ | assumption | refine bel_al ?_ _ | refine bel_gw ?_ _ _ | refine bel_drew ?_ | refine bel_drewN ?_ _))) (HY.out.step (by repeat (first | exact Below.refl _ _ | assumption | refine bel_al ?_ _ | refine bel_gw ?_ _ _ | refine bel_drew ?_ | refine bel_drewN ?_ _))))) | (go_at_call 49; with_reducible exact calls_gw (T4.out _ (HX.out.step (by repeat (first | exact Below.refl _ _ | assumption | refine bel_al ?_ _ | refine bel_gw ?_ _ _ | refine bel_drew ?_ | refine bel_drewN ?_ _))) (HY.out.step (by repeat (first | exact Below.refl _ _ | assumption | refine bel_al ?_ _ | refine bel_gw ?_ _ _ | refine bel_drew ?_ | refine bel_drewN ?_ _))))) | (go_at_call 45; with_reducible exact calls_gw (TA.out _)))))); refine wpQuiet_nil ?_; intro _ hw'; obtain ⟨⟨dq, osq⟩, hw''⟩ := hw'; subst hw'')
  go_wp2
  go_ret
  exact ⟨rfl, (by repeat (first | exact Below.refl _ _ | assumption | refine bel_al ?_ _ | refine bel_gw ?_ _ _ | refine bel_drew ?_ | refine bel_drewN ?_ _))⟩
set_option maxRecDepth 100000 in
set_option maxHeartbeats 4000000 in
theorem noticeMay_true (x y : Nt) (w : World) (hs : Sl w x.SA x.st) (hm : Sl w x.vw.MA x.vw.ms) (hu : Ul w x.vw.UA x.vw.us) (hx : x.Wf) (hs' : Sl w y.SA y.st) (hm' : Sl w y.vw.MA y.vw.ms) (hu' : Ul w y.vw.UA y.vw.us) (_ : y.Wf) :
    Calls Try.prog 9 #[x.v, y.v] w (RetB w true) := by
  have TA := hide (fun W => awake8_t W)
  have TH := hide (fun W => heavy8_s x W)
  have TH' := hide (fun W => heavy8_s y W)
  cases hh : hvN x
  · cases hh' : hvN y
    · exact noticeMay_main x y w (Nt.ok_of hs hm hu hh) (Nt.ok_of hs' hm' hu' hh') hx hh hh'
    · rw [hh] at TH
      rw [hh'] at TH'
      obtain ⟨k, n, i, rd, cd, SA, sc, st, ⟨r, vn, vi, MA, mc, ms, UA, uc, us⟩⟩ := x
      obtain ⟨k', n', i', rd', cd', SA', sc', st', ⟨r', vn', vi', MA', mc', ms', UA', uc', us'⟩⟩ := y
      unfold Nt.v at TH TH' ⊢
      simp only at TH TH' ⊢
      clear hs hm hu hx hs' hm' hu' hh hh'
      go_enter Try.func9, Try.ntmps9
      go_wp2_with fail
      (with_reducible refine (TH.out _).mono ?_)
      rintro e w1 ⟨rfl, hb⟩
      obtain ⟨⟨d1, os1⟩, rfl⟩ := gw_of_below hb
      clear hb
      go_wp2_with fail
      (with_reducible refine (TH'.out _).mono ?_)
      rintro e w1 ⟨rfl, hb⟩
      obtain ⟨⟨d2, os2⟩, rfl⟩ := gw_of_below hb
      clear hb
      go_wp2_with fail
      (with_reducible refine (TA.out _).mono ?_)
      rintro e w3 ⟨rfl, hb⟩
      obtain ⟨⟨d3, os3⟩, rfl⟩ := gw_of_below hb
      clear hb
      go_wp2
      go_ret
      exact ⟨rfl, (by repeat (first | exact Below.refl _ _ | assumption | refine bel_al ?_ _ | refine bel_gw ?_ _ _ | refine bel_drew ?_ | refine bel_drewN ?_ _))⟩
  · rw [hh] at TH
    obtain ⟨k, n, i, rd, cd, SA, sc, st, ⟨r, vn, vi, MA, mc, ms, UA, uc, us⟩⟩ := x
    obtain ⟨k', n', i', rd', cd', SA', sc', st', ⟨r', vn', vi', MA', mc', ms', UA', uc', us'⟩⟩ := y
    unfold Nt.v at TH TH' ⊢
    simp only at TH TH' ⊢
    clear hs hm hu hx hs' hm' hu' hh
    go_enter Try.func9, Try.ntmps9
    go_wp2_with fail
    (with_reducible refine (TH.out _).mono ?_)
    rintro e w1 ⟨rfl, hb⟩
    obtain ⟨⟨d1, os1⟩, rfl⟩ := gw_of_below hb
    clear hb
    go_wp2_with fail
    (with_reducible refine (TA.out _).mono ?_)
    rintro e w3 ⟨rfl, hb⟩
    obtain ⟨⟨d3, os3⟩, rfl⟩ := gw_of_below hb
    clear hb
    go_wp2
    go_ret
    exact ⟨rfl, (by repeat (first | exact Below.refl _ _ | assumption | refine bel_al ?_ _ | refine bel_gw ?_ _ _ | refine bel_drew ?_ | refine bel_drewN ?_ _))⟩
end Go.Proofs.Ytgbappmidllnmaa
