/-
  Layer 9: the law ProposalTurns: true for every input.
-/
import Derived.Test.YtgpmcpinnaggmaaPpL
namespace Go.Proofs.Ytgpmcpinnaggmaa
set_option linter.unusedSimpArgs false
set_option linter.unusedVariables false
set_option linter.unusedSectionVars false
open Go.RowKit

/-- while the list is turned -/
structure RT (w : World) (v : Value) (T : List Pp) (W : World) : Prop where
  oa : W.ownsRow w.heap.size 51 6 v T.length (pps T)
  hB : Below w.heap.size w W
theorem RT.app {w W W' : World} {v v' : Value} {T : List Pp} {x : Pp} (h : RT w v T W) (ho : W'.ownsRow w.heap.size 51 6 v' (T.length + 1) (pps T ++ pps [x])) (hg : W.grownBy W' v.ownBlock) : RT w v' (T ++ [x]) W' := by
  refine ⟨?_, h.hB.grown hg h.hB.size (fun k hk => (h.oa.lt k hk).1)⟩
  rw [List.length_append, pps_app]; exact ho
theorem RT.al {w W : World} {v : Value} {T : List Pp} (h : RT w v T W) (o : Obj) : RT w v T (W.alloc o) := ⟨own_below h.oa (below_alloc W o) (Nat.le_refl _), below_step h.hB (below_alloc W o)⟩
theorem turns_long {l : List Pp} (hh : hvPL l = false) : l.length ≤ 20 := (hvPL_few hh).1
set_option maxRecDepth 100000 in
set_option maxHeartbeats 4000000 in
theorem turnsF (A : Option Addr) (c : Nat) (l : List Pp) (fr : Int) (w : World) (hpl : Pl w A l) (hh : hvPL l = false) (h0 : 0 < l.length) (hw : ∀ x ∈ l, x.In w ∧ x.Wf) (hf0 : -9223372036854775808 ≤ fr) (hf1 : fr ≤ 9223372036854775807) (TH : Hid (Calls Try.prog 19 #[.slice A l.length c] w fun e w' => e = .returned (.bool false) ∧ w = w')) : Calls Try.prog 9 #[.slice A l.length c, .int .i64 fr] w (RetB w true) := by
  have TA := hide (fun W => awake9_t W)
  have hl20 := turns_long hh
  have HP := hide hpl
  have hwf : ∀ x ∈ l, ∀ p ∈ x.cs, wfP p := fun x hx => (hw x hx).2.cs
  have h00 : ((l.length : Int) == 0) = false := by rw [beq_eq_false_iff_ne]; omega
  obtain ⟨k, hk, hkl⟩ : ∃ k : Nat, max fr 0 % (l.length : Int) = (k : Int) ∧ k < l.length := by
    have h0 : 0 ≤ max fr 0 % (l.length : Int) := Int.emod_nonneg _ (by omega)
    have h1 : max fr 0 % (l.length : Int) < (l.length : Int) := Int.emod_lt_of_pos _ (by omega)
    exact ⟨(max fr 0 % (l.length : Int)).toNat, by omega, by omega⟩
  have hTp := turn_perm l k
  have hTg := hide (fun j => turn_get l k j hkl)
  have hTl : (l.drop k ++ l.take k).length = l.length := hTp.length_eq.symm
  have T1 := hide (fun W (h : Pl W A l) => pview_s A c l W h (by omega) hwf)
  have T2 : Hid (∀ B d W, Pl W B (l.drop k ++ l.take k) → Calls Try.prog 21 #[.slice B (l.drop k ++ l.take k).length d] W (RetVw W (viewP l))) := hide (fun B d W h => by
    have := pview_s B d (l.drop k ++ l.take k) W h (by omega) (fun x hx => hwf x (hTp.mem_iff.2 hx))
    rw [← viewP_perm hTp] at this; exact this)
  have T3 := hide (fun W (h : Pl W A l) => agree_s A c l W h (by omega))
  have HM : Hid (∀ x ∈ l.drop k ++ l.take k, x ∈ l) := hide (fun x hx => hTp.mem_iff.2 hx)
  have HTL := hide hTl
  generalize l.drop k ++ l.take k = T at T2 hTg HM HTL
  clear hTp hTl hwf hw hh hpl
  generalize hv : viewP l = o at T1 T2
  have HV := hide hv
  clear hv
  go_enter Try.func9, Try.ntmps9
  go_wp2_with fail
  (with_reducible refine TH.out.mono ?_)
  rintro e w0 ⟨rfl, rfl⟩
  clear TH
  go_wp2
  rw [hk]
  clear hk
  go_loopw [6, 7] (fun v i wr => ∃ T0 : List Pp, T0.length ≤ l.length ∧ i = .int .i64 T0.length ∧ RT w v T0 wr ∧ T0 = T.take T0.length) (fun _ i _ => l.length - (intOf i).toNat)
  case atStart => exact ⟨[], Nat.zero_le _, rfl, ⟨World.ownsRow_nil _ _ _ _, Below.refl _ _⟩, rfl⟩
  case round =>
    obtain ⟨T0, hj, rfl, V, hT0⟩ := hrel
    obtain ⟨wo, rfl⟩ : ∃ wo, wo = wr := ⟨wr, rfl⟩
    obtain ⟨FA, fc, rfl, _, _⟩ := own_slice V.oa
    have HT0 := hide hT0
    clear hT0
    by_cases hlt : T0.length < l.length
    · obtain ⟨q, hqn⟩ : ∃ q, q = (T0.length + k) % l.length := ⟨_, rfl⟩
      have hql : q < l.length := by rw [hqn]; exact Nat.mod_lt _ h0
      have hq0 : ((T0.length : Int) + (k : Int)).tmod (l.length : Int) = (q : Int) := by rw [hqn, Int.tmod_eq_emod_of_nonneg (by omega), Int.natCast_emod, Int.natCast_add]
      have hq1 : (wrap64 ((T0.length : Int) + (k : Int))).tmod (l.length : Int) = (q : Int) := by
        rw [show wrap64 ((T0.length : Int) + (k : Int)) = (T0.length : Int) + (k : Int) by unfold wrap64; omega]; exact hq0
      have hTg' := hTg.out T0.length hlt
      rw [← hqn] at hTg'
      obtain ⟨b, off, y, rfl, hb, hp, g1, g2, g3, g4, g5, g6⟩ := (HP.out.r.below V.hB).at6 hql
      rw [hp] at hTg'
      have HTG := hide hTg'
      have HVo := hide V
      have hszw := V.hB.size
      haveI : InW b wo := ⟨by omega⟩
      have i1 : (T0.length : Int) < (l.length : Int) := by omega
      have i2 : (q : Int) < (l.length : Int) := by omega
      have i3 : (0 : Int) ≤ (q : Int) := by omega
      clear hTg' hp hqn V
      obtain ⟨n, i, rd, SA, sc, ss, CA, cc, cs, UA, uc, us⟩ := y
      simp only at g1 g2 g3 g4 g5 g6
      go_wp2_with (at_builtin; go_must (refine wpList_append_any _ Try.okPp (by rfl) (.tmp 36) (.tmp 46) (by rfl) w.heap.size (.slice FA T0.length fc) T0.length (pps T0) (by rfl) (HVo.out.al _).oa _ (some ⟨wo.heap.size, 0, none⟩) 1 1 (pps [(⟨n, i, rd, SA, sc, ss, CA, cc, cs, UA, uc, us⟩ : Pp)]) (by rfl) (reads_pp1 wo ⟨n, i, rd, SA, sc, ss, CA, cc, cs, UA, uc, us⟩ _ rfl) (pps_one _) (by unfold maxLen; omega) (by omega) (by simp; omega) ?_); intro v5 w5 ho5 hg5 hn5 ha5; go_must (have HV5 := hide ((HVo.out.al _).app (x := ⟨n, i, rd, SA, sc, ss, CA, cc, cs, UA, uc, us⟩) ho5 hg5)); obtain ⟨A5, c5, e5, _, _⟩ := own_slice ho5; subst e5; clear ho5 hg5 hn5 ha5)
      clear HVo g1 g2 g3 g4 g5 g6 hq0 hq1
      go_wp2
      go_roundw
      case rel => exact ⟨T0 ++ [⟨n, i, rd, SA, sc, ss, CA, cc, cs, UA, uc, us⟩], by simp; omega, by rw [List.length_append, List.length_singleton]; go_num, HV5.out, by have h := take_succ_of HTG.out; rw [← HT0.out] at h; rw [List.length_append, List.length_singleton]; exact h.symm⟩
      case measure => simp [intOf]; omega
    · have hTn : T0.length = l.length := by omega
      have hTT : T0 = T := by rw [HT0.out, hTn, ← HTL.out, List.take_length]
      subst hTT
      have HT : Hid (Pl wo FA T0) := hide ⟨Reads.of_own V.oa, fun x hx => (HP.out.ok x (HM.out x hx)).step V.hB⟩
      have HBt := hide V.hB
      rw [hTn] at T2 ⊢
      clear hTn HT0 HTL HM hTg V hlt hj hkl
      rcases o with _ | ⟨⟨r, vn, vi⟩, ms, us⟩
      · clear HV
        have T5 : Hid (∀ W, Calls Try.prog 31 #[.agg #[.int .u64 0, .int .i64 0, .int .u64 0, .slice none 0 0, .slice none 0 0], .agg #[.int .u64 0, .int .i64 0, .int .u64 0, .slice none 0 0, .slice none 0 0]] W (RetB W true)) := hide (fun W => by
          have := vsame_s ⟨0, 0, 0, none, 0, [], none, 0, []⟩ ⟨0, 0, 0, none, 0, [], none, 0, []⟩ W ⟨Reads.none_, Reads.none_, by simp, by simp⟩ ⟨Reads.none_, Reads.none_, by simp, by simp⟩
          rw [show Vw.eqB ⟨0, 0, 0, none, 0, [], none, 0, []⟩ ⟨0, 0, 0, none, 0, [], none, 0, []⟩ = true by simp [Vw.eqB]] at this
          exact this)
        go_wp2_with fail
        (with_reducible refine (T1.out _ (HP.out.step HBt.out)).mono ?_)
        rintro e w1 ⟨rfl, hb⟩
        have hB1 := below_step (below_step HBt.out hb) (below_alloc w1 (bxV 0 0 0 none 0 0 none 0 0))
        have p1 := boxTop w1 #[.int .u64 0, .int .i64 0, .int .u64 0, .slice none 0 0, .slice none 0 0] 32
        have T2' := hide (T2.out FA fc _ ((HT.out.step hb).step (below_alloc w1 (bxV 0 0 0 none 0 0 none 0 0))))
        clear hb T1 T2 HT HBt
        go_wp2_with fail
        (with_reducible refine T2'.out.mono ?_)
        rintro e w2 ⟨rfl, hb⟩
        have hbA := below_alloc w2 (bxV 0 0 0 none 0 0 none 0 0)
        have HB2 := hide (below_step (below_step hB1 hb) hbA)
        have q1 := (p1.step hb).alloc' (bxV 0 0 0 none 0 0 none 0 0)
        have q2 := boxTop w2 #[.int .u64 0, .int .i64 0, .int .u64 0, .slice none 0 0, .slice none 0 0] 32
        have hz := hb.size
        have hn1 : w1.heap.size < w2.heap.size := by simp at hz; omega
        clear hb hbA hB1 p1 T2' hz
        go_wp2_with fail
        generalize w2.alloc (bxV 0 0 0 none 0 0 none 0 0) = w3 at q1 q2 HB2 ⊢
        haveI := q1
        haveI := q2
        (with_reducible refine (T5.out _).mono ?_)
        rintro e w4 ⟨rfl, hb⟩
        have HB4 := hide (below_step HB2.out hb)
        clear hb HB2 q1 q2 T5 T3
        go_wp2
        go_loopw [12, 13] (fun v i wr => v = .int .i64 0 ∧ i = .int .i64 0 ∧ wr = w4) (fun _ i _ => 0)
        case atStart => exact ⟨rfl, rfl, rfl⟩
        case round =>
          obtain ⟨rfl, rfl, rfl⟩ := hrel
          have i2 : (0 : Int) < (l.length : Int) := by omega
          go_wp2_with fail
          (with_reducible refine (TA.out _).mono ?_)
          rintro e w7 ⟨rfl, hb⟩
          have HB7 := hide (below_step HB4.out hb)
          clear hb HB4
          go_wp2
          go_ret
          exact ⟨rfl, HB7.out⟩
      · have HAT := hide (fun p u => viewP_at (p := p) (u := u) HV.out)
        have T5 : Hid (∀ MA mc UA uc MA' mc' UA' uc' W, Vw.Ok W ⟨r, vn, vi, MA, mc, ms, UA, uc, us⟩ → Vw.Ok W ⟨r, vn, vi, MA', mc', ms, UA', uc', us⟩ → Calls Try.prog 31 #[.agg #[.int .u64 r, .int .i64 vn, .int .u64 vi, .slice MA ms.length mc, .slice UA us.length uc], .agg #[.int .u64 r, .int .i64 vn, .int .u64 vi, .slice MA' ms.length mc', .slice UA' us.length uc']] W (RetB W true)) := hide (fun MA mc UA uc MA' mc' UA' uc' W h h' => by
          have := vsame_s _ _ W h h'
          rw [show Vw.eqB ⟨r, vn, vi, MA, mc, ms, UA, uc, us⟩ ⟨r, vn, vi, MA', mc', ms, UA', uc', us⟩ = true by simp [Vw.eqB]] at this
          exact this)
        have T6 : Hid (∀ MA mc UA uc W, Vw.Ok W ⟨r, vn, vi, MA, mc, ms, UA, uc, us⟩ → Calls Try.prog 32 #[.agg #[.int .u64 r, .int .i64 vn, .int .u64 vi, .slice MA ms.length mc, .slice UA us.length uc]] W (RetB W true)) := hide (fun MA mc UA uc W h => by
          have := vmay_s _ W h
          rw [viewP_may HV.out MA UA mc uc] at this
          exact this)
        have T7 : Hid (∀ MA mc UA uc W pn pi u, Vw.Ok W ⟨r, vn, vi, MA, mc, ms, UA, uc, us⟩ → ((pn, pi), u) ∈ prs l → Calls Try.prog 33 #[.agg #[.int .u64 r, .int .i64 vn, .int .u64 vi, .slice MA ms.length mc, .slice UA us.length uc], .agg #[.int .i64 pn, .int .u64 pi]] W fun e w' => e = .returned (.tuple #[.int .u64 u, .bool true]) ∧ Below W.heap.size W w') := hide (fun MA mc UA uc W pn pi u h hm => by
          have := start_s _ pn pi W h
          rw [viewP_at HV.out hm] at this
          exact this)
        have hag := (viewP_some HV.out).1
        have hc6 := (viewP_some HV.out).2.2.1
        have hmc := (viewP_ms HV.out).2.1
        have HUS := hide (agree_us hag)
        rw [hag] at T3
        have HC6 := hide (fun k => Nat.le_trans (clsP_le l k) hc6)
        have HMC := hide hmc
        clear hag hc6 hmc HAT HV
        go_wp2_with fail
        (with_reducible refine (T1.out _ (HP.out.step HBt.out)).mono ?_)
        rintro e w1 ⟨MA, mc, UA, uc, rfl, ok1, hb⟩
        simp only at ok1 ⊢
        have hB1 := below_step (below_step HBt.out hb) (below_alloc w1 (bxV r vn vi MA ms.length mc UA us.length uc))
        have p1 := boxTop w1 #[.int .u64 r, .int .i64 vn, .int .u64 vi, .slice MA ms.length mc, .slice UA us.length uc] 32
        have ok1' := ok1.step (below_alloc w1 (bxV r vn vi MA ms.length mc UA us.length uc))
        have T2' := hide (T2.out FA fc _ ((HT.out.step hb).step (below_alloc w1 (bxV r vn vi MA ms.length mc UA us.length uc))))
        clear hb T1 T2 HT HBt ok1
        go_wp2_with fail
        (with_reducible refine T2'.out.mono ?_)
        rintro e w2 ⟨MA', mc', UA', uc', rfl, ok2, hb⟩
        simp only at ok2 ⊢
        have hbA := below_alloc w2 (bxV r vn vi MA' ms.length mc' UA' us.length uc')
        have HB2 := hide (below_step (below_step hB1 hb) hbA)
        have OK1 := hide ((ok1'.step hb).step hbA)
        have OK2 := hide (ok2.step hbA)
        have q1 := (p1.step hb).alloc' (bxV r vn vi MA' ms.length mc' UA' us.length uc')
        have q2 := boxTop w2 #[.int .u64 r, .int .i64 vn, .int .u64 vi, .slice MA' ms.length mc', .slice UA' us.length uc'] 32
        have hz := hb.size
        have hn1 : w1.heap.size < w2.heap.size := by simp at hz; omega
        clear hb hbA hB1 p1 T2' hz ok1' ok2
        go_wp2_with fail
        generalize w2.alloc (bxV r vn vi MA' ms.length mc' UA' us.length uc') = w3 at q1 q2 HB2 OK1 OK2 ⊢
        haveI := q1
        haveI := q2
        (with_reducible refine (T5.out _ _ _ _ _ _ _ _ _ OK1.out OK2.out).mono ?_)
        rintro e w4 ⟨rfl, hb⟩
        replace q1 := q1.step hb
        have HB4 := hide (below_step HB2.out hb)
        have OK4 := hide (OK1.out.step hb)
        clear hb HB2 q2 T5 OK1 OK2
        haveI := q1
        go_wp2_with fail
        (with_reducible refine (T6.out _ _ _ _ _ OK4.out).mono ?_)
        rintro e w5 ⟨rfl, hb⟩
        replace q1 := q1.step hb
        have HB5 := hide (below_step HB4.out hb)
        have OK5 := hide (OK4.out.step hb)
        clear hb HB4 T6 OK4
        haveI := q1
        go_wp2_with fail
        (with_reducible refine (T3.out _ (HP.out.step HB5.out)).mono ?_)
        rintro e w6 ⟨rfl, hb⟩
        replace q1 := q1.step hb
        have HB6 := hide (below_step HB5.out hb)
        have OK6 := hide (OK5.out.step hb)
        have Q1 := hide q1
        clear hb HB5 T3 OK5 q1
        go_wp2
        go_loopw [12, 13] (fun v i wr => ∃ m N : Nat, m ≤ l.length ∧ v = .int .i64 N ∧ i = .int .i64 m ∧ N = (clsP (l.take m)).length ∧ Below w6.heap.size w6 wr) (fun _ i _ => l.length - (intOf i).toNat)
        case atStart => exact ⟨0, 0, Nat.zero_le _, rfl, rfl, rfl, Below.refl _ _⟩
        case round =>
          obtain ⟨m, N, hm, rfl, rfl, hN, hBr⟩ := hrel
          obtain ⟨wp, rfl⟩ : ∃ wp, wp = wr := ⟨wr, rfl⟩
          have hN6 : N ≤ 6 := by rw [hN]; exact HC6.out m
          have HN := hide hN
          clear hN
          have HBr := hide (below_step HB6.out hBr)
          have q6 := Q1.out.step hBr
          by_cases hlt : m < l.length
          · obtain ⟨b, off, y, hA, hb, hp, g1, g2, g3, g4, g5, g6⟩ := (HP.out.step HBr.out).r.at6 hlt
            subst hA
            have hyl : y ∈ l := List.mem_of_getElem? hp
            have hyu := HUS.out y hyl
            have hct := (clsP_take hp).1
            have hcs6 : y.cs.length ≤ 6 := by
              have h1 := HC6.out (m + 1)
              rw [hct, List.length_append] at h1; omega
            have HPK := hide hp
            have HCT := hide hct
            haveI : InW b wp := ⟨hb⟩
            have i2 : (m : Int) < (l.length : Int) := by omega
            obtain ⟨n, i, rd, SA, sc, ss, CA, cc, cs, UA', uc', us'⟩ := y
            have HYU := hide hyu
            simp only at g5 g6 hcs6 HYU HCT
            clear g1 g2 g3 g4 hp hyl hct hyu g6 q6
            go_wp2
            go_loopw [14] (fun j wr => ∃ d : Nat, d ≤ cs.length ∧ j = .int .i64 d ∧ Below wp.heap.size wp wr) (fun j _ => cs.length - (intOf j).toNat)
            case atStart => exact ⟨0, Nat.zero_le _, rfl, Below.refl _ _⟩
            case round =>
              obtain ⟨d, hd, rfl, hBq⟩ := hrel
              have HBq := hide (below_step HBr.out hBq)
              obtain ⟨_, _, y2, hA, hb2, hp2, _, _, _, _, f5, f6⟩ := (HP.out.step HBq.out).r.at6 hlt
              rw [HPK.out] at hp2
              injection hp2 with hp2
              subst hp2
              injection hA with hA
              injection hA with hA1 hA2
              subst hA1 hA2
              have okc := (HP.out.step HBq.out).ok _ (List.mem_of_getElem? HPK.out)
              simp only at f5 f6
              haveI : InW b wr := ⟨hb2⟩
              have hB6 := below_step hBr hBq
              have OKr := hide (OK6.out.step hB6)
              haveI q7 := Q1.out.step hB6
              haveI : InW w1.heap.size wr := ⟨q7.lt⟩
              by_cases hlt2 : d < cs.length
              · have hltu : d < us'.length := by rw [HYU.out]; exact hlt2
                obtain ⟨b', off', ⟨pn, pi⟩, rfl, hb', hp', j1, j2⟩ := okc.c.at2 hlt2
                obtain ⟨b'', off'', u, rfl, hb'', hq', j3⟩ := okc.u.atU hltu
                simp only at j1 j2
                haveI : InW b' wr := ⟨hb'⟩
                haveI : InW b'' wr := ⟨hb''⟩
                have T8 := hide (fun W h => T7.out MA mc UA uc W pn pi u h (prs_mem (List.mem_of_getElem? HPK.out) hp' hq'))
                have i3 : (d : Int) < (cs.length : Int) := by omega
                have i4 : (d : Int) < (us'.length : Int) := by omega
                have e1 : (u != u) = false := by simp
                have HBQ := hide hBq
                clear okc hp' hq' hB6 hBq hBr
                go_wp2_with fail
                (refine wp_region_gw (by kernel_rfl) (by kernel_rfl) ?_; (repeat (go_big_quiet_step ((go_at_call 33; with_reducible exact calls_gw (T8.out _ (OKr.out.step (by repeat (first | exact Below.refl _ _ | assumption | refine bel_al ?_ _ | refine bel_gw ?_ _ _ | refine bel_drew ?_ | refine bel_drewN ?_ _)))))))); refine wpQuiet_nil ?_; intro _ hw'; obtain ⟨⟨dq, osq⟩, hw''⟩ := hw'; subst hw'')
                go_wp2
                go_roundw
                case rel => exact ⟨d + 1, by omega, by go_num, below_step HBQ.out (by repeat (first | exact Below.refl _ _ | assumption | refine bel_al ?_ _ | refine bel_gw ?_ _ _ | refine bel_drew ?_ | refine bel_drewN ?_ _))⟩
                case measure => simp [intOf]; omega
              · obtain rfl : d = cs.length := by omega
                clear okc hB6
                go_wp2
                go_roundw
                case rel => exact ⟨m + 1, N + cs.length, by omega, by go_num, by go_num, by rw [HCT.out, List.length_append, HN.out], below_step hBr hBq⟩
                case measure => simp [intOf]; omega
          · obtain rfl : m = l.length := by omega
            have hNm : ((N : Int) == (ms.length : Int)) = true := by
              have := HN.out
              rw [List.take_length, ← HMC.out] at this
              rw [this]; simp
            haveI := q6
            go_wp2_with fail
            (with_reducible refine (TA.out _).mono ?_)
            rintro e w7 ⟨rfl, hb⟩
            have HB7 := hide (below_step HBr.out hb)
            clear hb
            go_wp2
            go_ret
            exact ⟨rfl, HB7.out⟩
set_option maxRecDepth 100000 in
set_option maxHeartbeats 4000000 in
theorem proposalTurns_true (A : Option Addr) (c : Nat) (l : List Pp) (fr : Int) (w : World) (h : Reads w w.heap.size 6 A l.length (pps l)) (hn : l.length ≤ 9223372036854775807) (hw : ∀ x ∈ l, x.In w ∧ x.Wf) (hf : -9223372036854775808 ≤ fr ∧ fr ≤ 9223372036854775807) : Calls Try.prog 9 #[.slice A l.length c, .int .i64 fr] w (RetB w true) := by
  have TA := hide (fun W => awake9_t W)
  have TH := hide (heavy9_s A c l w h hn)
  cases hh : hvPL l
  · rw [hh] at TH
    by_cases h0 : 0 < l.length
    · exact turnsF A c l fr w (pl_of h hw hh) hh h0 hw hf.1 hf.2 TH
    · have h00 : ((l.length : Int) == 0) = true := by rw [beq_iff_eq]; omega
      clear h hw hh hn h0
      go_enter Try.func9, Try.ntmps9
      go_wp2_with fail
      (with_reducible refine TH.out.mono ?_)
      rintro e w0 ⟨rfl, rfl⟩
      go_wp2_with fail
      (with_reducible refine (TA.out _).mono ?_)
      rintro e w3 ⟨rfl, hb⟩
      go_wp2
      go_ret
      exact ⟨rfl, hb⟩
  · rw [hh] at TH
    clear h hw hh hn
    go_enter Try.func9, Try.ntmps9
    go_wp2_with fail
    (with_reducible refine TH.out.mono ?_)
    rintro e w0 ⟨rfl, rfl⟩
    go_wp2_with fail
    (with_reducible refine (TA.out _).mono ?_)
    rintro e w3 ⟨rfl, hb⟩
    go_wp2
    go_ret
    exact ⟨rfl, hb⟩
end Go.Proofs.Ytgpmcpinnaggmaa
