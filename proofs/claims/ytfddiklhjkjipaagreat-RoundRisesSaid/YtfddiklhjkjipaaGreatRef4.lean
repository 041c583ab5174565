/-
  Contracts: the reference of layer 4: Compare, Same, Common, MayId, First; view.Common.
-/
import Derived.Test.YtfddiklhjkjipaaGreatLView2
import Derived.Test.YtfddiklhjkjipaaGreatLives
namespace Go.Proofs.YtfddiklhjkjipaaGreat
set_option linter.unusedSimpArgs false
set_option linter.unusedVariables false
set_option linter.unusedSectionVars false
open Go.RowKit

set_option maxRecDepth 100000 in
set_option maxHeartbeats 1000000 in
theorem refVSame_s (x y : Vw) (w : World) (h : x.Ok w) (h' : y.Ok w) :
    Calls Tryz.prog 67 #[x.v, y.v] w fun e w' => e = .returned (.bool (Vw.eqB x y)) ∧ Below w.heap.size w w' := by
  obtain ⟨r, n, i, MA, mc, ms, UA, uc, us⟩ := x
  obtain ⟨r', n', i', MA', mc', ms', UA', uc', us'⟩ := y
  obtain ⟨h1, h2, h3, h4⟩ := h
  obtain ⟨k1, k2, k3, k4⟩ := h'
  simp only at h1 h2 h3 h4 k1 k2 k3 k4
  have TM := hide (fun W (hW : Sl W MA ms) (hW' : Sl W MA' ms') => refEqual_s MA MA' mc mc' ms ms' W hW hW' h3 k3)
  have H1 := hide h1
  have H2 := hide h2
  have K1 := hide k1
  have K2 := hide k2
  clear h1 h2 k1 k2
  unfold Vw.v Vw.eqB
  simp only
  cases e1 : eqI r n i r' n' i'
  · have E := hide (show decide (r = r' ∧ n = n' ∧ i = i' ∧ ms = ms' ∧ us = us') = false by
      unfold eqI at e1; simp at e1 ⊢; intro a b c; exact absurd c (e1 a b))
    go_enter Tryz.func67, Tryz.ntmps67
    go_wp2
    go_ret
    exact ⟨ret_b E.out.symm, (by repeat (first | exact Below.refl _ _ | assumption | refine bel_al ?_ _ | refine bel_gw ?_ _ _ | refine bel_drew ?_ | refine bel_drewN ?_ _))⟩
  · have e1' : r = r' ∧ n = n' ∧ i = i' := by unfold eqI at e1; simpa using e1
    have E0 := hide (show decide (r = r' ∧ n = n' ∧ i = i' ∧ ms = ms' ∧ us = us') = (decide (ms = ms') && decide (us = us')) by
      simp [e1'])
    clear e1'
    rw [E0.out]
    generalize decide (ms = ms') = bm at TM ⊢
    clear E0
    cases bm
    · rw [Bool.false_and]
      go_enter Tryz.func67, Tryz.ntmps67
      go_wp2_with fail
      (with_reducible refine (TM.out _ (H1.out.step (by repeat (first | exact Below.refl _ _ | assumption | refine bel_al ?_ _ | refine bel_gw ?_ _ _ | refine bel_drew ?_ | refine bel_drewN ?_ _))) (K1.out.step (by repeat (first | exact Below.refl _ _ | assumption | refine bel_al ?_ _ | refine bel_gw ?_ _ _ | refine bel_drew ?_ | refine bel_drewN ?_ _)))).mono ?_)
      rintro e w1 ⟨rfl, hb⟩
      obtain ⟨⟨d1, os1⟩, rfl⟩ := gw_of_below hb
      clear hb
      go_wp2
      go_ret
      exact ⟨rfl, (by repeat (first | exact Below.refl _ _ | assumption | refine bel_al ?_ _ | refine bel_gw ?_ _ _ | refine bel_drew ?_ | refine bel_drewN ?_ _))⟩
    · rw [Bool.true_and]
      by_cases hlen : us.length = us'.length
      · have hb : (((us.length : Nat) : Int) != ((us'.length : Nat) : Int)) = false := by simp [hlen]
        have HL := hide hlen
        clear hlen
        go_enter Tryz.func67, Tryz.ntmps67
        go_wp2_with fail
        (with_reducible refine (TM.out _ (H1.out.step (by repeat (first | exact Below.refl _ _ | assumption | refine bel_al ?_ _ | refine bel_gw ?_ _ _ | refine bel_drew ?_ | refine bel_drewN ?_ _))) (K1.out.step (by repeat (first | exact Below.refl _ _ | assumption | refine bel_al ?_ _ | refine bel_gw ?_ _ _ | refine bel_drew ?_ | refine bel_drewN ?_ _)))).mono ?_)
        rintro e w1 ⟨rfl, hb⟩
        obtain ⟨⟨d1, os1⟩, rfl⟩ := gw_of_below hb
        clear hb
        go_wp2
        generalize hW : gw ((w.alloc (bxV r n i MA ms.length mc UA us.length uc)).alloc (bxV r' n' i' MA' ms'.length mc' UA' us'.length uc')) d1 os1 = W1
        have b0 : BoxAt W1 w.heap.size #[.int .u64 r, .int .i64 n, .int .u64 i, .slice MA ms.length mc, .slice UA us.length uc] 36 := by
          rw [← hW]; exact ((boxTop w _ _).alloc' _).step (below_gw _ _ _)
        have b1 : BoxAt W1 (w.heap.size + 1) #[.int .u64 r', .int .i64 n', .int .u64 i', .slice MA' ms'.length mc', .slice UA' us'.length uc'] 36 := by
          rw [← hW]
          have := boxTop (w.alloc (bxV r n i MA ms.length mc UA us.length uc)) #[.int .u64 r', .int .i64 n', .int .u64 i', .slice MA' ms'.length mc', .slice UA' us'.length uc'] 36
          rw [World.size_alloc] at this
          exact this.step (below_gw _ _ _)
        have HU := hide (show Ul W1 UA us by rw [← hW]; exact H2.out.step (by repeat (first | exact Below.refl _ _ | assumption | refine bel_al ?_ _ | refine bel_gw ?_ _ _ | refine bel_drew ?_ | refine bel_drewN ?_ _)))
        have HU' := hide (show Ul W1 UA' us' by rw [← hW]; exact K2.out.step (by repeat (first | exact Below.refl _ _ | assumption | refine bel_al ?_ _ | refine bel_gw ?_ _ _ | refine bel_drew ?_ | refine bel_drewN ?_ _)))
        have HBW := hide (show Below w.heap.size w W1 by rw [← hW]; exact (by repeat (first | exact Below.refl _ _ | assumption | refine bel_al ?_ _ | refine bel_gw ?_ _ _ | refine bel_drew ?_ | refine bel_drewN ?_ _)))
        clear hW
        go_loopw [5] (fun i' wr => ∃ k q : Nat, k ≤ us.length ∧ i' = .int .i64 k ∧ wr = W1.drewN q ∧ us.take k = us'.take k) (fun i _ => us.length - (intOf i).toNat)
        case atStart => exact ⟨0, 0, Nat.zero_le _, rfl, rfl, by simp⟩
        case round =>
          obtain ⟨k, q, hk, rfl, rfl, hnot⟩ := hrel
          have HN := hide hnot
          haveI := b0
          haveI := b1
          clear hnot
          by_cases hlt : k < us.length
          · obtain ⟨b, off, x, rfl, hb1, hp, g1⟩ := HU.out.atU hlt
            have hlt' : k < us'.length := by rw [← HL.out]; exact hlt
            obtain ⟨b', off', y, rfl, hb2, hp', g1'⟩ := HU'.out.atU hlt'
            have HP := hide hp
            have HP' := hide hp'
            clear hp hp'
            have i0 : (0 : Int) ≤ (k : Int) := by omega
            have i1 : (k : Int) < (us.length : Int) := by omega
            have i2 : (k : Int) < (us'.length : Int) := by omega
            by_cases he : x = y
            · have H := hide (show us.take (k + 1) = us'.take (k + 1) by
                rw [take_succ_of HP.out, take_succ_of HP'.out, HN.out, he])
              have hxy : (x != y) = false := by simp [he]
              clear he
              go_wp2
              go_quiet (fail)
              go_wp2
              go_roundw
              case rel => exact ⟨k + 1, _, by omega, by go_num, rfl, H.out⟩
              case measure => simp [intOf]; omega
            · have H := hide (show ¬ us = us' by
                intro h
                have h2 := HP.out; rw [h, HP'.out] at h2
                injection h2 with h2
                exact he h2.symm)
              have hxy : (x != y) = true := by simp [he]
              clear he
              go_wp2
              go_quiet (fail)
              go_wp2
              go_ret
              exact ⟨ret_b (by simp [H.out]), below_drewN (below_drewN HBW.out _) _⟩
          · have H := hide (show us = us' by
              have := HN.out; have h2 := HL.out
              rwa [List.take_of_length_le (by omega), List.take_of_length_le (by omega)] at this)
            go_wp2
            go_ret
            exact ⟨ret_b (by simp [H.out]), below_drewN HBW.out _⟩
      · have hb : (((us.length : Nat) : Int) != ((us'.length : Nat) : Int)) = true := by simp; omega
        have H := hide (show ¬ us = us' by intro h; exact hlen (by rw [h]))
        clear hlen
        go_enter Tryz.func67, Tryz.ntmps67
        go_wp2_with fail
        (with_reducible refine (TM.out _ (H1.out.step (by repeat (first | exact Below.refl _ _ | assumption | refine bel_al ?_ _ | refine bel_gw ?_ _ _ | refine bel_drew ?_ | refine bel_drewN ?_ _))) (K1.out.step (by repeat (first | exact Below.refl _ _ | assumption | refine bel_al ?_ _ | refine bel_gw ?_ _ _ | refine bel_drew ?_ | refine bel_drewN ?_ _)))).mono ?_)
        rintro e w1 ⟨rfl, hb⟩
        obtain ⟨⟨d1, os1⟩, rfl⟩ := gw_of_below hb
        clear hb
        go_wp2
        go_ret
        exact ⟨ret_b (by simp [H.out]), (by repeat (first | exact Below.refl _ _ | assumption | refine bel_al ?_ _ | refine bel_gw ?_ _ _ | refine bel_drew ?_ | refine bel_drewN ?_ _))⟩
end Go.Proofs.YtfddiklhjkjipaaGreat

namespace Go.Proofs.YtfddiklhjkjipaaGreat
set_option linter.unusedSimpArgs false
set_option linter.unusedVariables false
set_option linter.unusedSectionVars false
open Go.RowKit

set_option maxHeartbeats 400000 in
theorem refMayId_s (r n i : Int) (w : World) (h0 : 0 ≤ i) : Calls Tryz.prog 225 #[.agg #[.int .u64 r, .int .i64 n, .int .u64 i]] w fun e w' => e = .returned (.bool (mayIdB r n i)) ∧ Below w.heap.size w w' := by
  have key : (mayB n i = false ∧ mayIdB r n i = false) ∨ (mayB n i = true ∧ (r == 0) = true ∧ mayIdB r n i = true) ∨ (mayB n i = true ∧ (r == 0) = false ∧ decide (n ≤ 4) = mayIdB r n i) := by
    unfold mayIdB
    by_cases hr : r = 0 <;> cases mayB n i <;> simp [hr]
  rcases key with ⟨h1, h2⟩ | ⟨h1, h2, h3⟩ | ⟨h1, h2, h3⟩
  · have H := hide h2
    clear h2
    go_enter Tryz.func225, Tryz.ntmps225
    go_wp2_with (go_at_call 139; refine (refMay_any _ _ _ h0).mono ?_; rintro e w' ⟨rfl, rfl⟩)
    go_ret
    exact ⟨ret_b H.out.symm, (by repeat (first | exact Below.refl _ _ | assumption | refine bel_al ?_ _ | refine bel_gw ?_ _ _ | refine bel_drew ?_ | refine bel_drewN ?_ _))⟩
  · have H := hide h3
    clear h3
    go_enter Tryz.func225, Tryz.ntmps225
    go_wp2_with (go_at_call 139; refine (refMay_any _ _ _ h0).mono ?_; rintro e w' ⟨rfl, rfl⟩)
    go_ret
    exact ⟨ret_b H.out.symm, (by repeat (first | exact Below.refl _ _ | assumption | refine bel_al ?_ _ | refine bel_gw ?_ _ _ | refine bel_drew ?_ | refine bel_drewN ?_ _))⟩
  · have H := hide h3
    clear h3
    go_enter Tryz.func225, Tryz.ntmps225
    go_wp2_with (go_at_call 139; refine (refMay_any _ _ _ h0).mono ?_; rintro e w' ⟨rfl, rfl⟩)
    go_ret
    exact ⟨ret_b H.out, (by repeat (first | exact Below.refl _ _ | assumption | refine bel_al ?_ _ | refine bel_gw ?_ _ _ | refine bel_drew ?_ | refine bel_drewN ?_ _))⟩
set_option maxHeartbeats 400000 in
theorem refFirst_s (n i : Int) (w : World) : Calls Tryz.prog 226 #[.agg #[.int .i64 n, .int .u64 i]] w (RetV w 0 n i [(n, i)] [0]) := by
  go_enter Tryz.func226, Tryz.ntmps226
  go_wp2
  refine bodyPost_ret (v := Vw.v ⟨0, n, i, some ⟨w.heap.size + 1 + 1, 0, none⟩, 1, [(n, i)], some ⟨w.heap.size + 1 + 1 + 1, 0, none⟩, 1, [0]⟩) (by simp [results, Tryz.results226, go_sem, Vw.v]) rfl ?_
  refine ⟨_, _, _, _, rfl, ⟨?_, ?_, by simp, by simp⟩, (by repeat (first | exact Below.refl _ _ | assumption | refine bel_al ?_ _ | refine bel_gw ?_ _ _ | refine bel_drew ?_ | refine bel_drewN ?_ _))⟩
  · exact ((reads_one_at _ n i _ (by simp)).alloc (by simp) _).more (by simp)
  · exact (reads_oneU_at _ 0 _ (by simp)).more (by simp)

theorem refFirst_u (n i : Int) (w : World) : Calls Tryz.prog 226 #[.agg #[.int .i64 n, .int .u64 i]] w fun e w' => ∃ MA mc UA uc, e = .returned (.agg #[.int .u64 0, .int .i64 n, .int .u64 i, .slice MA 1 mc, .slice UA 1 uc]) ∧ Vw.Ok w' ⟨0, n, i, MA, mc, [(n, i)], UA, uc, [0]⟩ ∧ Below w.heap.size w w' := refFirst_s n i w
/-! ### may a view be? -/
set_option maxRecDepth 100000 in
set_option maxHeartbeats 2000000 in
theorem refVMay_s (x : Vw) (w : World) (h : x.Ok w) (hi : 0 ≤ x.i) (hms : ∀ p ∈ x.ms, 0 ≤ p.2) : Calls Tryz.prog 173 #[x.v] w fun e w' => e = .returned (.bool x.mayB) ∧ Below w.heap.size w w' := by
  have HOK := hide h
  obtain ⟨r, n, i, MA, mc, ms, UA, uc, us⟩ := x
  obtain ⟨h1, h2, h3, h4⟩ := h
  simp only at h1 h2 h3 h4 hi hms
  have T1 := hide (fun W => refMayId_s r n i W hi)
  unfold Vw.mayB
  simp only
  by_cases hr : r = 0
  · subst hr
    rw [if_pos rfl, show mayIdB 0 n i = mayB n i by simp [mayIdB]]
    unfold Vw.v
    simp only
    have HS : Hid (∀ (W : World) (y : Vw), Vw.Ok W ⟨0, n, i, MA, mc, ms, UA, uc, us⟩ → y.Ok W → Calls Tryz.prog 67 #[.agg #[.int .u64 0, .int .i64 n, .int .u64 i, .slice MA ms.length mc, .slice UA us.length uc], y.v] W fun e w' => e = .returned (.bool (Vw.eqB ⟨0, n, i, MA, mc, ms, UA, uc, us⟩ y)) ∧ Below W.heap.size W w') := fun W y hW hW' => refVSame_s ⟨0, n, i, MA, mc, ms, UA, uc, us⟩ y W hW hW'
    have HE := hide (fun MA1 mc1 UA1 uc1 => show Vw.eqB ⟨0, n, i, MA, mc, ms, UA, uc, us⟩ ⟨0, n, i, MA1, mc1, [(n, i)], UA1, uc1, [0]⟩ = Vw.eqB ⟨0, n, i, MA, mc, ms, UA, uc, us⟩ ⟨0, n, i, none, 0, [(n, i)], none, 0, [0]⟩ from rfl)
    have h00 : ((0 : Int) == 0) = true := rfl
    have TM := hide (fun W => refMay_b n i W hi)
    generalize mayB n i = bm at TM ⊢
    have p0 := boxTop w #[.int .u64 0, .int .i64 n, .int .u64 i, .slice MA ms.length mc, .slice UA us.length uc] 36
    have sv := HOK.out.step (below_alloc w (bxV 0 n i MA ms.length mc UA us.length uc))
    have hB := below_alloc w (bxV 0 n i MA ms.length mc UA us.length uc)
    clear h1 h2 HOK T1
    cases bm
    · rw [Bool.false_and]
      clear p0 sv hB
      go_enter Tryz.func173, Tryz.ntmps173
      go_wp2_with fail
      (refine wp_region_gw (by kernel_rfl) (by kernel_rfl) ?_; (repeat (go_big_quiet_step ((go_at_call 139; with_reducible exact calls_gw (TM.out _))))); refine wpQuiet_nil ?_; intro _ hw'; obtain ⟨⟨dq, osq⟩, hw''⟩ := hw'; subst hw'')
      go_wp2
      go_ret
      exact ⟨rfl, (by repeat (first | exact Below.refl _ _ | assumption | refine bel_al ?_ _ | refine bel_gw ?_ _ _ | refine bel_drew ?_ | refine bel_drewN ?_ _))⟩
    · rw [Bool.true_and]
      go_enter Tryz.func173, Tryz.ntmps173
      go_wp2_with fail
      replace p0 : BoxAt (w.alloc (bxV 0 n i MA ms.length mc UA us.length uc)).drew w.heap.size _ _ := ⟨p0.eq⟩
      replace hB := hB.drew
      replace sv : Vw.Ok (w.alloc (bxV 0 n i MA ms.length mc UA us.length uc)).drew ⟨0, n, i, MA, mc, ms, UA, uc, us⟩ := sv.step (Below.refl _ _).drew
      go_region_held3 (fun w' => w'.cell? ⟨w.heap.size, 0, none⟩ = some (.int .u64 0) ∧ w'.cell? ⟨w.heap.size, 1, none⟩ = some (.int .i64 n) ∧ w'.cell? ⟨w.heap.size, 2, none⟩ = some (.int .u64 i) ∧ w'.cell? ⟨w.heap.size, 3, none⟩ = some (.slice MA ms.length mc) ∧ w'.cell? ⟨w.heap.size, 4, none⟩ = some (.slice UA us.length uc)) (exact box5 p0)
        (first
          | (go_at_call 139; (with_reducible refine (TM.out _).mono ?_); rintro e w1 ⟨rfl, hb⟩; replace p0 := p0.step hb; replace sv := sv.step hb; replace hB := below_step hB hb; clear hb)
          | (go_at_call 226; (with_reducible refine (refFirst_s n i _).mono ?_); rintro e w2 ⟨MA1, mc1, UA1, uc1, rfl, ok1, hb⟩; replace p0 := p0.step hb; replace sv := sv.step hb; replace hB := below_step hB hb; clear hb)
          | (go_at_call 67; (with_reducible refine (HS.out _ _ sv ok1).mono ?_); rintro e w3 ⟨rfl, hb⟩; replace p0 := p0.step hb; replace sv := sv.step hb; replace ok1 := ok1.step hb; replace hB := below_step hB hb; clear hb)
          )
      go_wp2
      go_ret
      exact ⟨ret_b (by rw [HE.out]), hB⟩
  · rw [if_neg hr]
    have hr0 : (r == 0) = false := by simp [hr]
    unfold Vw.v mayAB
    simp only
    have T3 := hide (fun W (hW : Sl W MA ms) => refSet_b MA mc ms W hW h3 hms)
    have T4 := hide (fun W (hW : Sl W MA ms) => lives_s MA mc ms W hW h3)
    rw [lives_nodes]
    have H1 := hide h1
    have H2 := hide h2
    clear h1 h2 HOK hr
    have e1 : decide (1 ≤ (ms.length : Int)) = !decide ((ms.length : Int) < 1) := by rw [← decide_not, decide_eq_decide]; omega
    have e2 : decide ((ms.length : Int) ≤ 6) = !decide (6 < (ms.length : Int)) := by rw [← decide_not, decide_eq_decide]; omega
    have e5 : ((us.length : Int) == (ms.length : Int)) = !((us.length : Int) != (ms.length : Int)) := by rw [bne, Bool.not_not]
    rw [e1, e2, e5]
    clear e1 e2 e5
    generalize mayIdB r n i = b0 at T1 ⊢
    generalize setB ms = b3 at T3 ⊢
    generalize livesB ms = b4 at T4 ⊢
    generalize f1 : decide ((ms.length : Int) < 1) = b1
    generalize f2 : decide (6 < (ms.length : Int)) = b2
    generalize f5 : ((us.length : Int) != (ms.length : Int)) = b5
    have key : b0 = false ∨ (b0 = true ∧ b1 = true) ∨ (b0 = true ∧ b1 = false ∧ b2 = true) ∨ (b0 = true ∧ b1 = false ∧ b2 = false ∧ b5 = true) ∨ (b0 = true ∧ b1 = false ∧ b2 = false ∧ b5 = false ∧ b3 = false) ∨ (b0 = true ∧ b1 = false ∧ b2 = false ∧ b5 = false ∧ b3 = true ∧ b4 = false) ∨ (b0 = true ∧ b1 = false ∧ b2 = false ∧ b5 = false ∧ b3 = true ∧ b4 = true) := by
      cases b0 <;> cases b1 <;> cases b2 <;> cases b3 <;> cases b4 <;> cases b5 <;> simp
    rcases key with rfl | ⟨rfl, rfl⟩ | ⟨rfl, rfl, rfl⟩ | ⟨rfl, rfl, rfl, rfl⟩ | ⟨rfl, rfl, rfl, rfl, rfl⟩ | ⟨rfl, rfl, rfl, rfl, rfl, rfl⟩ | ⟨rfl, rfl, rfl, rfl, rfl, rfl⟩
    iterate 6
      · go_enter Tryz.func173, Tryz.ntmps173
        go_wp2_with (first
          | (go_at_call 225; (with_reducible refine (T1.out _).mono ?_); rintro e w1 ⟨rfl, hb⟩; obtain ⟨⟨d1, os1⟩, rfl⟩ := gw_of_below hb; clear hb)
          | (go_at_call 70; (with_reducible refine (T3.out _ (H1.out.step (by repeat (first | exact Below.refl _ _ | assumption | refine bel_al ?_ _ | refine bel_gw ?_ _ _ | refine bel_drew ?_ | refine bel_drewN ?_ _)))).mono ?_); rintro e w2 ⟨rfl, hb⟩; obtain ⟨⟨d2, os2⟩, rfl⟩ := gw_of_below hb; clear hb)
          | (go_at_call 71; (with_reducible refine (T4.out _ (H1.out.step (by repeat (first | exact Below.refl _ _ | assumption | refine bel_al ?_ _ | refine bel_gw ?_ _ _ | refine bel_drew ?_ | refine bel_drewN ?_ _)))).mono ?_); rintro e w3 ⟨rfl, hb⟩; obtain ⟨⟨d3, os3⟩, rfl⟩ := gw_of_below hb; clear hb))
        go_ret
        exact ⟨ret_b (by simp), (by repeat (first | exact Below.refl _ _ | assumption | refine bel_al ?_ _ | refine bel_gw ?_ _ _ | refine bel_drew ?_ | refine bel_drewN ?_ _))⟩
    · simp only [Bool.not_false, Bool.true_and]
      go_enter Tryz.func173, Tryz.ntmps173
      go_wp2_with (first
        | (go_at_call 225; (with_reducible refine (T1.out _).mono ?_); rintro e w1 ⟨rfl, hb⟩; obtain ⟨⟨d1, os1⟩, rfl⟩ := gw_of_below hb; clear hb)
        | (go_at_call 70; (with_reducible refine (T3.out _ (H1.out.step (by repeat (first | exact Below.refl _ _ | assumption | refine bel_al ?_ _ | refine bel_gw ?_ _ _ | refine bel_drew ?_ | refine bel_drewN ?_ _)))).mono ?_); rintro e w2 ⟨rfl, hb⟩; obtain ⟨⟨d2, os2⟩, rfl⟩ := gw_of_below hb; clear hb)
        | (go_at_call 71; (with_reducible refine (T4.out _ (H1.out.step (by repeat (first | exact Below.refl _ _ | assumption | refine bel_al ?_ _ | refine bel_gw ?_ _ _ | refine bel_drew ?_ | refine bel_drewN ?_ _)))).mono ?_); rintro e w3 ⟨rfl, hb⟩; obtain ⟨⟨d3, os3⟩, rfl⟩ := gw_of_below hb; clear hb))
      go_loop [3] (fun j => ∃ k : Nat, k ≤ us.length ∧ j = .int .i64 k ∧ (0 : Int) ∉ us.take k) (fun j => us.length - (intOf j).toNat)
      case atStart => exact ⟨0, Nat.zero_le _, rfl, by simp⟩
      case round =>
        obtain ⟨k, hk, rfl, hnot⟩ := hrel
        have HN := hide hnot
        clear hnot
        by_cases hlt : k < us.length
        · obtain ⟨b, off, y, rfl, hb, hy, g1⟩ := H2.out.atU hlt
          haveI : InW b w := ⟨hb⟩
          by_cases hy0 : y = 0
          · have hyb : (y == 0) = true := by simp [hy0]
            have H := hide (show decide ((0 : Int) ∈ us) = true from decide_eq_true (hy0 ▸ List.mem_of_getElem? hy))
            clear hy hy0
            go_wp2
            go_ret
            exact ⟨ret_b (by rw [H.out]; rfl), (by repeat (first | exact Below.refl _ _ | assumption | refine bel_al ?_ _ | refine bel_gw ?_ _ _ | refine bel_drew ?_ | refine bel_drewN ?_ _))⟩
          · have hyb : (y == 0) = false := by simp [hy0]
            have H := hide (show (0 : Int) ∉ us.take (k + 1) by
              rw [take_succ_of hy, List.mem_append, List.mem_singleton]
              rintro (h | h)
              · exact HN.out h
              · exact hy0 h.symm)
            clear hy hy0
            go_wp2
            go_round
            case rel => exact ⟨k + 1, by omega, by go_num, H.out⟩
            case measure => simp [intOf]; omega
        · obtain rfl : k = us.length := by omega
          have H := hide (show decide ((0 : Int) ∈ us) = false by have := HN.out; rw [List.take_length] at this; exact decide_eq_false this)
          go_wp2
          go_ret
          exact ⟨ret_b (by rw [H.out]; rfl), (by repeat (first | exact Below.refl _ _ | assumption | refine bel_al ?_ _ | refine bel_gw ?_ _ _ | refine bel_drew ?_ | refine bel_drewN ?_ _))⟩
end Go.Proofs.YtfddiklhjkjipaaGreat
