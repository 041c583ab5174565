/-
  Layer 4: the law ViewCompares: true for every input.
-/
import Derived.Test.YtgbappmidllnmaaRef4
namespace Go.Proofs.Ytgbappmidllnmaa
set_option linter.unusedSimpArgs false
set_option linter.unusedVariables false
set_option linter.unusedSectionVars false
open Go.RowKit

theorem box55 {w : World} {n m : Nat} {a b c d e a' b' c' d' e' : Value} {t t' : TypeId} (h : BoxAt w n #[a, b, c, d, e] t) (h' : BoxAt w m #[a', b', c', d', e'] t') : w.cell? ⟨n, 0, none⟩ = some a ∧ w.cell? ⟨n, 1, none⟩ = some b ∧ w.cell? ⟨n, 2, none⟩ = some c ∧ w.cell? ⟨n, 3, none⟩ = some d ∧ w.cell? ⟨n, 4, none⟩ = some e ∧ w.cell? ⟨m, 0, none⟩ = some a' ∧ w.cell? ⟨m, 1, none⟩ = some b' ∧ w.cell? ⟨m, 2, none⟩ = some c' ∧ w.cell? ⟨m, 3, none⟩ = some d' ∧ w.cell? ⟨m, 4, none⟩ = some e' := by
  obtain ⟨h1, h2, h3, h4, h5⟩ := box5 h
  exact ⟨h1, h2, h3, h4, h5, box5 h'⟩
set_option maxRecDepth 100000 in
set_option maxHeartbeats 4000000 in
theorem viewCompares_true (x y : Vw) (w : World) (hm : Sl w x.MA x.ms) (hu : Ul w x.UA x.us) (_ : x.Wf) (km : Sl w y.MA y.ms) (ku : Ul w y.UA y.us) (_ : y.Wf) :
    Calls Try.prog 13 #[x.v, y.v] w (RetB w true) := by
  have TA := hide (fun W => awake4_t W)
  have TH := hide (fun W => heavy4_s x W)
  have TK := hide (fun W => heavy4_s y W)
  cases hh : hvV x
  · have okx := Vw.ok_of hm hu hh
    rw [hh] at TH
    clear hm hu hh
    cases hk : hvV y
    · have oky := Vw.ok_of km ku hk
      rw [hk] at TK
      clear km ku hk
      have hC : (chosenL x.ms y.ms true).length ≤ 1000000 := by
        unfold chosenL
        exact Nat.le_trans (List.length_filter_le _ _) (Nat.le_trans (compact_len _) (by rw [sortL_len]; exact okx.ml))
      have T1 := hide (fun W => vcompare_s x.r x.n x.i y.r y.n y.i W)
      have T2 := hide (fun W => refVCompare_s x.r x.n x.i y.r y.n y.i W)
      have T3 := hide (fun W (h : x.Ok W) (h' : y.Ok W) => vsame_s x y W h h')
      have T4 := hide (fun W (h : x.Ok W) (h' : y.Ok W) => refVSame_s x y W h h')
      have T5 := hide (fun W (h : x.Ok W) (h' : y.Ok W) => vcommon_s x y W h h')
      have T6 := hide (fun W (h : x.Ok W) (h' : y.Ok W) => refCommon_s x y W h h')
      generalize cmpV x.r x.n x.i y.r y.n y.i = cv at T1 T2
      generalize Vw.eqB x y = ev at T3 T4
      generalize chosenL x.ms y.ms true = C at T5 T6 hC
      have T7 := hide (fun A A' c c' W (h : Sl W A C) (h' : Sl W A' C) => refEqual_t A A' c c' C C W h h' hC rfl)
      have e1 : (cv == cv) = true := by simp
      have e2 : (ev == ev) = true := by simp
      obtain ⟨r, n, i, MA, mc, ms, UA, uc, us⟩ := x
      obtain ⟨r', n', i', MA', mc', ms', UA', uc', us'⟩ := y
      unfold Vw.v at TH TK T3 T4 T5 T6 ⊢
      simp only at TH TK T1 T2 T3 T4 T5 T6 ⊢
      clear hC
      go_enter Try.func13, Try.ntmps13
      go_wp2_with fail
      (with_reducible refine (TH.out _).mono ?_)
      rintro e w3 ⟨rfl, hb⟩
      obtain ⟨⟨d1, os1⟩, rfl⟩ := gw_of_below hb
      clear hb
      go_wp2_with fail
      (with_reducible refine (TK.out _).mono ?_)
      rintro e w3 ⟨rfl, hb⟩
      obtain ⟨⟨d2, os2⟩, rfl⟩ := gw_of_below hb
      clear hb
      go_wp2_with fail
      have p0 : BoxAt (gw (gw ((w.alloc (bxV r n i MA ms.length mc UA us.length uc)).alloc (bxV r' n' i' MA' ms'.length mc' UA' us'.length uc')) d1 os1) d2 os2).drew w.heap.size #[.int .u64 r, .int .i64 n, .int .u64 i, .slice MA ms.length mc, .slice UA us.length uc] 30 :=
        ((((boxTop w _ _).alloc' _).step (below_gw _ _ _)).step (below_gw _ _ _)).step (Below.refl _ _).drew
      have p1 : BoxAt (gw (gw ((w.alloc (bxV r n i MA ms.length mc UA us.length uc)).alloc (bxV r' n' i' MA' ms'.length mc' UA' us'.length uc')) d1 os1) d2 os2).drew (w.heap.size + 1) #[.int .u64 r', .int .i64 n', .int .u64 i', .slice MA' ms'.length mc', .slice UA' us'.length uc'] 30 := by
        have := boxTop (w.alloc (bxV r n i MA ms.length mc UA us.length uc)) #[.int .u64 r', .int .i64 n', .int .u64 i', .slice MA' ms'.length mc', .slice UA' us'.length uc'] 30
        rw [World.size_alloc] at this
        exact ((this.step (below_gw _ _ _)).step (below_gw _ _ _)).step (Below.refl _ _).drew
      have sx := okx.step (show Below w.heap.size w (gw (gw ((w.alloc (bxV r n i MA ms.length mc UA us.length uc)).alloc (bxV r' n' i' MA' ms'.length mc' UA' us'.length uc')) d1 os1) d2 os2).drew from (by repeat (first | exact Below.refl _ _ | assumption | refine bel_al ?_ _ | refine bel_gw ?_ _ _ | refine bel_drew ?_ | refine bel_drewN ?_ _)))
      have sy := oky.step (show Below w.heap.size w (gw (gw ((w.alloc (bxV r n i MA ms.length mc UA us.length uc)).alloc (bxV r' n' i' MA' ms'.length mc' UA' us'.length uc')) d1 os1) d2 os2).drew from (by repeat (first | exact Below.refl _ _ | assumption | refine bel_al ?_ _ | refine bel_gw ?_ _ _ | refine bel_drew ?_ | refine bel_drewN ?_ _)))
      have hB : Below w.heap.size w (gw (gw ((w.alloc (bxV r n i MA ms.length mc UA us.length uc)).alloc (bxV r' n' i' MA' ms'.length mc' UA' us'.length uc')) d1 os1) d2 os2).drew := (by repeat (first | exact Below.refl _ _ | assumption | refine bel_al ?_ _ | refine bel_gw ?_ _ _ | refine bel_drew ?_ | refine bel_drewN ?_ _))
      clear okx oky
      go_region_held3 (fun w' => w'.cell? ⟨w.heap.size, 0, none⟩ = some (.int .u64 r) ∧ w'.cell? ⟨w.heap.size, 1, none⟩ = some (.int .i64 n) ∧ w'.cell? ⟨w.heap.size, 2, none⟩ = some (.int .u64 i) ∧ w'.cell? ⟨w.heap.size, 3, none⟩ = some (.slice MA ms.length mc) ∧ w'.cell? ⟨w.heap.size, 4, none⟩ = some (.slice UA us.length uc) ∧ w'.cell? ⟨w.heap.size + 1, 0, none⟩ = some (.int .u64 r') ∧ w'.cell? ⟨w.heap.size + 1, 1, none⟩ = some (.int .i64 n') ∧ w'.cell? ⟨w.heap.size + 1, 2, none⟩ = some (.int .u64 i') ∧ w'.cell? ⟨w.heap.size + 1, 3, none⟩ = some (.slice MA' ms'.length mc') ∧ w'.cell? ⟨w.heap.size + 1, 4, none⟩ = some (.slice UA' us'.length uc')) (exact box55 p0 p1)
        (first
          | (go_at_call 28; (with_reducible refine (T1.out _).mono ?_); rintro e w2 ⟨rfl, hb⟩; replace p0 := p0.step hb; replace p1 := p1.step hb; replace sx := sx.step hb; replace sy := sy.step hb; replace hB := below_step hB hb; clear hb)
          | (go_at_call 53; (with_reducible refine (T2.out _).mono ?_); rintro e w3 ⟨rfl, hb⟩; replace p0 := p0.step hb; replace p1 := p1.step hb; replace sx := sx.step hb; replace sy := sy.step hb; replace hB := below_step hB hb; clear hb)
          | (go_at_call 54; (with_reducible refine (T3.out _ sx sy).mono ?_); rintro e w4 ⟨rfl, hb⟩; replace p0 := p0.step hb; replace p1 := p1.step hb; replace sx := sx.step hb; replace sy := sy.step hb; replace hB := below_step hB hb; clear hb)
          | (go_at_call 21; (with_reducible refine (T4.out _ sx sy).mono ?_); rintro e w5 ⟨rfl, hb⟩; replace p0 := p0.step hb; replace p1 := p1.step hb; replace sx := sx.step hb; replace sy := sy.step hb; replace hB := below_step hB hb; clear hb)
          | (go_at_call 55; (with_reducible refine (T5.out _ sx sy).mono ?_); rintro e w6 ⟨A1, c1, rfl, s1, hb⟩; replace p0 := p0.step hb; replace p1 := p1.step hb; replace sx := sx.step hb; replace sy := sy.step hb; replace hB := below_step hB hb; clear hb)
          | (go_at_call 56; (with_reducible refine (T6.out _ sx sy).mono ?_); rintro e w7 ⟨A2, c2, rfl, s2, hb⟩; replace p0 := p0.step hb; replace p1 := p1.step hb; replace sx := sx.step hb; replace sy := sy.step hb; replace s1 := s1.step hb; replace hB := below_step hB hb; clear hb)
          | (go_at_call 39; (with_reducible refine (T7.out _ _ _ _ _ s1 s2).mono ?_); rintro e w8 ⟨rfl, hb⟩; replace p0 := p0.step hb; replace p1 := p1.step hb; replace sx := sx.step hb; replace sy := sy.step hb; replace s1 := s1.step hb; replace s2 := s2.step hb; replace hB := below_step hB hb; clear hb)
          | (go_at_call 15; (with_reducible refine (TA.out _).mono ?_); rintro e w9 ⟨rfl, hb⟩; replace p0 := p0.step hb; replace p1 := p1.step hb; replace sx := sx.step hb; replace sy := sy.step hb; replace s1 := s1.step hb; replace s2 := s2.step hb; replace hB := below_step hB hb; clear hb)
          )
      go_wp2
      go_ret
      exact ⟨rfl, hB⟩
    · rw [hk] at TK
      obtain ⟨r, n, i, MA, mc, ms, UA, uc, us⟩ := x
      obtain ⟨r', n', i', MA', mc', ms', UA', uc', us'⟩ := y
      clear km ku hk okx
      unfold Vw.v at TH TK ⊢
      simp only at TH TK ⊢
      go_enter Try.func13, Try.ntmps13
      go_wp2_with fail
      (with_reducible refine (TH.out _).mono ?_)
      rintro e w3 ⟨rfl, hb⟩
      obtain ⟨⟨d1, os1⟩, rfl⟩ := gw_of_below hb
      clear hb
      go_wp2_with fail
      (with_reducible refine (TK.out _).mono ?_)
      rintro e w3 ⟨rfl, hb⟩
      obtain ⟨⟨d2, os2⟩, rfl⟩ := gw_of_below hb
      clear hb
      go_wp2_with fail
      (with_reducible refine (TA.out _).mono ?_)
      rintro e w3 ⟨rfl, hb⟩
      obtain ⟨⟨d3, os3⟩, rfl⟩ := gw_of_below hb
      clear hb
      go_wp2
      go_ret
      exact ⟨rfl, (by repeat (first | exact Below.refl _ _ | assumption | refine bel_al ?_ _ | refine bel_gw ?_ _ _ | refine bel_drew ?_ | refine bel_drewN ?_ _))⟩
  · rw [hh] at TH
    obtain ⟨r, n, i, MA, mc, ms, UA, uc, us⟩ := x
    obtain ⟨r', n', i', MA', mc', ms', UA', uc', us'⟩ := y
    clear hm hu hh km ku
    unfold Vw.v at TH ⊢
    simp only at TH ⊢
    go_enter Try.func13, Try.ntmps13
    go_wp2_with fail
    (with_reducible refine (TH.out _).mono ?_)
    rintro e w3 ⟨rfl, hb⟩
    obtain ⟨⟨d1, os1⟩, rfl⟩ := gw_of_below hb
    clear hb
    go_wp2_with fail
    (with_reducible refine (TA.out _).mono ?_)
    rintro e w3 ⟨rfl, hb⟩
    obtain ⟨⟨d3, os3⟩, rfl⟩ := gw_of_below hb
    clear hb
    go_wp2
    go_ret
    exact ⟨rfl, (by repeat (first | exact Below.refl _ _ | assumption | refine bel_al ?_ _ | refine bel_gw ?_ _ _ | refine bel_drew ?_ | refine bel_drewN ?_ _))⟩
end Go.Proofs.Ytgbappmidllnmaa
