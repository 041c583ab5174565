/-
  Layer 14: the law FanNone: true for every input.
-/
import Derived.Test.YthkkadbgggaenaaFan25
namespace Go.Proofs.Ythkkadbgggaenaa
set_option linter.unusedSimpArgs false
set_option linter.unusedVariables false
set_option linter.unusedSectionVars false
open Go.RowKit Go.Maps

theorem fan_one {W : World} {m : Nat} {A : Option Addr} {c : Nat} {k : Int} {l : List Hd} (h : BoxAt W m #[.int .i64 k, .slice A l.length c] 36) (hr : Reads W W.heap.size 4 A l.length (hcs l)) : FanR W (some ⟨m, 0, none⟩) [(k, l)] := by
  refine ⟨[(k, .slice A l.length c)], rfl, reads_boxF h rfl, fun j x f hx hf => ?_⟩
  match j, hx, hf with
  | 0, hx, hf =>
    simp at hx hf
    subst hx hf
    exact ⟨A, c, rfl, hr⟩
  | j + 1, hx, _ => simp at hx
set_option maxRecDepth 100000 in
set_option maxHeartbeats 8000000 in
theorem fanNoneY (A : Option Addr) (c : Nat) (hs : List Hd) (YA : Option Addr) (yc : Nat) (ws : List Wy) (w : World) (h : Reads w w.heap.size 4 A hs.length (hcs hs)) (h' : Reads w w.heap.size 3 YA ws.length (wcs ws)) (hl : hs.length ≤ 300) (hwl : ws.length ≤ 300) (hwf : ∀ y ∈ ws, wfI y.h) :
    Calls Try.prog 5 #[.slice A hs.length c, .slice YA ws.length yc] w (RetB w true) := by
  have TA := hide (fun d W (h' : Reads W W.heap.size 3 YA ws.length (wcs ws)) => ask_s YA yc ws d W h' (by omega))
  have TW := hide (fun W => awake14_t W)
  have hmm := @run_makeMap Try.prog
  have HWF := hide hwf
  have HY := hide h'
  have l1 : decide ((300 : Int) < (hs.length : Int)) = false := decide_eq_false (by omega)
  have l2 : decide ((300 : Int) < (ws.length : Int)) = false := decide_eq_false (by omega)
  have l3 : decide (300 < hs.length) = false := decide_eq_false (by omega)
  have l4 : decide (300 < ws.length) = false := decide_eq_false (by omega)
  haveI : Src w A hs.length 4 (hcs hs) := ⟨h⟩
  haveI : Src w YA ws.length 3 (wcs ws) := ⟨h'⟩
  obtain ⟨hop, hhop⟩ : ∃ f, f = askL ws := ⟨_, rfl⟩
  have HWI := hide (show ∀ d, wfI (hop d).1 from fun d => by rw [hhop]; exact ask_wf hwf d)
  have TNC := hide (fun (B : Nat) d W (h : NoneI w.heap.size B YA yc ws W) => ncall_s w.heap.size B YA yc ws d W h (by omega))
  rw [← hhop] at TA TNC
  have HHOP := hide hhop
  clear h h' hwf hhop
  go_enter Try.func5, Try.ntmps5
  go_wp2_with fail
  go_loopw [5, 7] (fun v j wr => ∃ (m n : Nat) (f : Value → Option Value), m ≤ hs.length ∧ j = .int .i64 m ∧ n ≤ m ∧ wr.ownsRow (w.heap.size + 1 + 1) 29 4 v (havL hop (hs.take m)).length (hcs (havL hop (hs.take m))) ∧ MapF wr 3 (w.heap.size + 1) n f ∧ StepF hop (hs.take m) f ∧ BoxAt wr w.heap.size #[.slice YA ws.length yc] 23 ∧ Below w.heap.size w wr) (fun _ j _ => hs.length - (intOf j).toNat)
  case atStart =>
    refine ⟨0, 0, fun _ => none, Nat.zero_le _, rfl, Nat.le_refl _, World.ownsRow_nil _ _ _ _, ?_, StepF.nil hop, inferInstance, blw⟩
    have := mapF_made (w.alloc (.cells #[.slice YA ws.length yc] 23)) 3
    simpa using this
  case round =>
    obtain ⟨m, n, f, hm, rfl, hn, ho, hmp, hst, hbx, hB⟩ := hrel
    haveI := hbx
    haveI : Stp w wr := ⟨hB⟩
    have HO := hide ho
    have HM := hide hmp
    have HST := hide hst
    have HBX := hide hbx
    have zr : w.heap.size + 1 < wr.heap.size := hmp.lt
    obtain ⟨A5, c5, rfl, _, _⟩ := own_slice ho
    haveI : LtN w.heap.size wr.heap.size := ⟨by omega⟩
    clear ho hmp hst hbx hB
    by_cases hlt : m < hs.length
    · obtain ⟨b, off, p, rfl, hb, hp, g1, g2, g3, g4⟩ := (show Reads wr wr.heap.size 4 A hs.length (hcs hs) from src).at4 hlt
      have HTK := hide (show hs.take (m + 1) = hs.take m ++ [p] from take_succ_of hp)
      haveI : InW b wr := ⟨hb⟩
      have i0 : (0 : Int) ≤ (m : Int) := by omega
      have i1 : (m : Int) < (hs.length : Int) := by omega
      have T := hide (TA.out p.d)
      obtain ⟨⟨hk, ok⟩, hr⟩ : ∃ r, hop p.d = r := ⟨_, rfl⟩
      rw [hr] at T
      unfold RetAsk at T
      simp only at T
      have HR := hide hr
      have hll : (havL hop (hs.take m)).length ≤ m := by have := havL_len hop (hs.take m); rw [List.length_take] at this; omega
      have hw : wfI hk := by have := HWI.out p.d; rw [hr] at this; exact this
      clear hp hr
      cases ok
      · have HN := hide (show wr.ownsRow (w.heap.size + 1 + 1) 29 4 (.slice A5 (havL hop (hs.take m)).length c5) (havL hop (hs.take (m + 1))).length (hcs (havL hop (hs.take (m + 1)))) by
          rw [HTK.out, havL_snoc, if_neg (by rw [HR.out]; simp)]; exact HO.out)
        have HS := hide (show StepF hop (hs.take (m + 1)) f by rw [HTK.out]; exact HST.out.skip (by rw [HR.out]))
        generalize havL hop (hs.take m) = hv at HO HN hll
        go_wp2_with fail
        (refine wp_region_gw (by kernel_rfl) (by kernel_rfl) ?_; (repeat (go_big_quiet_step ((first | (go_at_call 14; with_reducible exact calls_gw (T.out _ src)) | fail)))); refine wpQuiet_nil ?_; intro _ hw'; obtain ⟨⟨dq, osq⟩, hw''⟩ := hw'; subst hw'')
        go_wp2
        go_roundw
        case rel => exact ⟨m + 1, n, f, by omega, by go_num, by omega, own_tc HN.out, HM.out.step blw, HS.out, inferInstance, blw⟩
        case measure => simp [intOf]; omega
      · have HN := hide (show havL hop (hs.take (m + 1)) = havL hop (hs.take m) ++ [p] by rw [HTK.out, havL_snoc, if_pos (by rw [HR.out])])
        have HS := hide (show StepF hop (hs.take (m + 1)) (putF f (.int .i64 hk) (.int .i64 (((partL hop (hs.take m) hk).length : Nat) + 1))) by
          rw [HTK.out]
          have := HST.out.add (x := p) (by rw [HR.out])
          rw [HR.out] at this
          exact this)
        have HV := hide (HST.out.getD hk)
        have hpl : (partL hop (hs.take m) hk).length ≤ m := by
          have := List.length_filter_le (fun x : Hd => (hop x.d).2 && decide ((hop x.d).1 = hk)) (hs.take m)
          rw [List.length_take] at this
          unfold partL; omega
        generalize (partL hop (hs.take m) hk).length = q at HS HV hpl
        generalize havL hop (hs.take m) = hv at HO HN hll
        go_wp2_with fail
        (refine wp_region_gw (by kernel_rfl) (by kernel_rfl) ?_; (repeat (go_big_quiet_step ((first | (go_at_call 14; with_reducible exact calls_gw (T.out _ src)) | fail)))); refine wpQuiet_nil ?_; intro _ hw'; obtain ⟨⟨dq, osq⟩, hw''⟩ := hw'; subst hw'')
        haveI : CellAt wr b (off + m * 4) _ := ⟨hb, g1⟩
        haveI : CellAt wr b (off + m * 4 + 1) _ := ⟨hb, g2⟩
        haveI : CellAt wr b (off + m * 4 + 2) _ := ⟨hb, g3⟩
        haveI : CellAt wr b (off + m * 4 + 3) _ := ⟨hb, g4⟩
        have hsq : Below wr.heap.size wr (gw wr dq osq) := below_gw _ _ _
        generalize gw wr dq osq = wq at hsq ⊢
        haveI : Stp wr wq := ⟨hsq⟩
        have zq := hsq.size
        have HMG := hide (HM.out.step (w' := wq) hsq)
        clear hsq
        go_wp2_with (first
          | (at_builtin; refine wpList_append_w Try.okHd rfl (.tmp 42) (.tmp 47) rfl (w.heap.size + 1 + 1) (.slice A5 hv.length c5) hv.length (hcs hv) 1 (hcs [p]) ?_ ?_ ?_ ?_ ?_ ?_ ?_ ?_; go_must ((focus (first | rfl | (simp [Act.eval, Act.put]; done))); (focus (exact own_tc HO.out)); (focus (refine ⟨_, _, rfl, ?_⟩; exact reads_h1x _ _ p)); (focus (exact hc_one _)); (focus (unfold maxLen; omega)); (focus omega); (focus (first | omega | (simp; done) | (simp; omega) | exact BoxAt.lt (n := w.heap.size) inferInstance)); intro v7 w7 ho7 hg7; have hm7 := hide ((HMG.out.step (w' := wq.alloc (.cells #[.int .i64 p.d, .int .u64 p.c, .int .u64 p.s, .int .u64 p.i] 29)) (below_alloc _ _)).kept hg7 (fun e => by have := (HO.out.lt _ e.symm).1; omega)); haveI : StpB (w.heap.size + 1 + 1) _ w7 := ⟨grown_belowT hg7 (by simp; omega) (fun q hq => (HO.out.lt q hq).1)⟩; have O7 := hide ho7; have hz7 : w.heap.size + 1 < w7.heap.size := hm7.out.lt; clear ho7 hg7))
          | (at_lookup; go_must (refine wpList_look_f (by rfl) (.tmp 49) (.tmp 50) (by rfl) Try.lawI Try.underlying43 (by rfl) (by rfl) hm7.out (zeroI _) (keyI hw) ?_; rw [HV.out]))
          | (at_mapUpdate; go_must (refine wpList_store_f (by rfl) (.tmp 49) (.tmp 50) (.tmp 52) (by rfl) Try.lawI Try.underlying43 (by rfl) (by rfl) (by rfl) hm7.out (by unfold maxLen; omega) (keyI hw) ?_); intro w8 hm8 hg8))
        have hb8 : Below w.heap.size w w8 := (blw : Below w.heap.size w w7).grown hg8 (by omega) (fun q hq => by have e : w.heap.size + 1 = q := Option.some.inj hq; omega)
        have hx8 : BoxAt w8 w.heap.size #[.slice YA ws.length yc] 23 := by
          have h7 : BoxAt w7 w.heap.size #[.slice YA ws.length yc] 23 := inferInstance
          exact ⟨(hg8.block _ h7.lt (fun e => by injection e with e; omega)).trans h7.eq⟩
        have ho8 := own_grown O7.out hg8 (by omega)
        go_wp2
        go_roundw
        case rel => exact ⟨m + 1, n + 1, _, by omega, by go_num, by omega, by rw [HN.out, List.length_append, hcs_app]; exact ho8, hm8, HS.out, hx8, hb8⟩
        case measure => simp [intOf]; omega
    · obtain rfl : m = hs.length := by omega
      rw [List.take_length] at HO HST
      have HFL : Hid ((splitL hop hs).length ≤ 300 ∧ ∀ f ∈ splitL hop hs, f.2.length ≤ 300) := hide ⟨by rw [splitL, List.length_map]; exact Nat.le_trans (keysL_len _ _) hl, fun f hf => by
        obtain ⟨k, _, rfl⟩ := List.mem_map.1 hf
        exact Nat.le_trans (List.length_filter_le _ _) hl⟩
      have HKL := hide (show (keysL hop hs).length = (splitL hop hs).length by rw [splitL, List.length_map])
      have HK := hide (keysL_spec hop hs)
      have HPL := hide (show ∀ f ∈ splitL hop hs, f.2 = partL hop hs f.1 from fun f hf => by
        obtain ⟨k, _, rfl⟩ := List.mem_map.1 hf; rfl)
      have HPW := hide (show (splitL hop hs).Pairwise (fun x y => x.1 < y.1) by
        unfold splitL; rw [List.pairwise_map]; exact HK.out.1)
      have HFIB := hide (fib_split hop hs)
      have hll : (havL hop hs).length ≤ 300 := Nat.le_trans (havL_len _ _) hl
      go_wp2_with fail
      refine (split_s 22 #[.pointer (some ⟨w.heap.size, 0, none⟩)] [] hs hop (fun k W => NoneI w.heap.size wr.heap.size YA yc ws W) A c wr src (by omega) (fun x _ => HWI.out x.d) (by intro i hi; simp at hi) (fun k X W hX he hsz => ⟨⟨(he _ (by omega)).trans hX.1.eq⟩, hX.2.1.same he, Nat.le_trans hX.2.2 hsz⟩) (fun k x W hk hI _ => (TNC.out _ x.d W hI).mono (by
        rintro e W' ⟨rfl, hb⟩
        haveI : Stp W W' := ⟨hb⟩
        haveI := hI.1
        exact ⟨rfl, ⟨inferInstance, hI.2.1.below (hb.mono hI.2.2), by have := hb.size; have := hI.2.2; omega⟩, Gro.of hb⟩)) ⟨HBX.out, src, Nat.le_refl _⟩ (enters_of Try.func22 (by kernel_rfl) rfl)).mono ?_
      rintro e w2 ⟨v2, rfl, hF, hI, hG⟩
      have hb2 : Below wr.heap.size wr w2 := hG.below (Nat.le_refl _) (by intro i hi; simp at hi)
      haveI : Stp wr w2 := ⟨hb2⟩
      have hm2 : MapF w2 3 (w.heap.size + 1) n f := HM.out.step hb2
      have hlen : ∀ ty, (Builtin.len_ #[43] ty #[.map (some (w.heap.size + 1))]).run Try.prog w2 = .ok (.int .i64 ((splitL hop hs).length : Nat)) w2 := fun ty => by
        have := mapF_size hm2 Try.underlying43 (keysL hop hs) (HK.out.1.imp (fun h => by omega)) (fun x hx => by
          obtain ⟨y, _, _, e⟩ := (HK.out.2 x).1 hx
          have := HWI.out y.d
          rw [e] at this; exact this) HST.out.keys ty
        rw [HKL.out] at this; exact this
      have HLOOK : Hid (∀ W k, Below w2.heap.size w2 W → (Instr.lookup 43 (.map (some (w.heap.size + 1))) (.int .i64 k) false).run Try.prog W = .ok (.int .i64 ((partL hop hs k).length : Nat)) W ∨ ¬ wfI k) := hide (fun W k hW => by
        by_cases hk : wfI k
        · left
          have := (hm2.step hW).look Try.lawI Try.underlying43 (zeroI W) (keyI hk)
          rw [HST.out.getD] at this
          exact this
        · exact Or.inr hk)
      have HW2 := hide (show ∀ f ∈ splitL hop hs, wfI f.1 from fun f hf => by
        obtain ⟨k, hk, rfl⟩ := List.mem_map.1 hf
        obtain ⟨y, _, _, e⟩ := (HK.out.2 k).1 hk
        have := HWI.out y.d
        rw [e] at this; exact this)
      generalize splitL hop hs = F at HFL HKL HPL HPW HFIB hF hlen HW2
      obtain ⟨A2, c2, rfl, hFR⟩ : ∃ A2 c2, v2 = .slice A2 F.length c2 ∧ FanR w2 A2 F := by
        obtain ⟨X, k1, k2, k3⟩ := hF
        obtain ⟨A', c', e, _, _⟩ := own_slice k2
        subst e
        exact ⟨A', c', rfl, FanO.read ⟨X, k1, k2, k3⟩⟩
      have HFR := hide hFR
      have HI := hide hI
      have hfl := HFL.out.1
      haveI : Src w2 YA ws.length 3 (wcs ws) := ⟨hI.2.1.more hI.2.2⟩
      have HO2 := hide (own_tc HO.out : w2.ownsRow (w.heap.size + 1 + 1) 29 4 (.slice A5 (havL hop hs).length c5) (havL hop hs).length (hcs (havL hop hs)))
      have HB2 := hide (show Below w.heap.size w w2 from blw)
      clear hF hI hG hFR hm2 hb2 HM HBX HO
      haveI := HI.out.1
      go_wp2_with fail
      clear hlen
      go_loopw [11] (fun j wq => ∃ m : Nat, m ≤ F.length ∧ j = .int .i64 m ∧ Below w2.heap.size w2 wq) (fun j _ => F.length - (intOf j).toNat)
      case atStart => exact ⟨0, Nat.zero_le _, rfl, blw⟩
      case round =>
        obtain ⟨m, hm, rfl, hB⟩ := hrel
        haveI : Stp w2 wr := ⟨hB⟩
        clear hB
        by_cases hlt : m < F.length
        · obtain ⟨b, off, p, A6, c6, he, hb, hp, g1, g2, hr⟩ := (HFR.out.tc (W := wr)).at hlt
          subst he
          have HP := hide hp
          have hpm := List.mem_of_getElem? hp
          have HPp := hide (HPL.out p hpm)
          have hp3 := HFL.out.2 p hpm
          have hwk := HW2.out p hpm
          haveI : InW b wr := ⟨hb⟩
          obtain ⟨wo, rfl⟩ : ∃ wo, wo = wr := ⟨wr, rfl⟩
          haveI : CellAt wo b (off + m * 2) _ := ⟨hb, g1⟩
          haveI : CellAt wo b (off + m * 2 + 1) _ := ⟨hb, g2⟩
          haveI : Src wo A6 p.2.length 4 (hcs p.2) := ⟨hr⟩
          have hlk : ∀ d, (Instr.lookup 43 (.map (some (w.heap.size + 1))) (.int .i64 p.1) false).run Try.prog (wo.drewN d) = .ok (.int .i64 (p.2.length : Nat)) (wo.drewN d) := fun d => by
            have := (HLOOK.out (wo.drewN d) p.1 blw).resolve_right (fun h => h hwk)
            rw [← HPp.out] at this; exact this
          have hlk0 : (Instr.lookup 43 (.map (some (w.heap.size + 1))) (.int .i64 p.1) false).run Try.prog wo = .ok (.int .i64 (p.2.length : Nat)) wo := by
            have := (HLOOK.out wo p.1 blw).resolve_right (fun h => h hwk)
            rw [← HPp.out] at this; exact this
          have HHP := hide (show ∀ x ∈ p.2, hop x.d = (p.1, true) from fun x hx => by
            rw [HPp.out] at hx
            have h2 := (List.mem_filter.1 hx).2
            simp at h2
            exact Prod.ext h2.2 h2.1)
          have i0 : (0 : Int) ≤ (m : Int) := by omega
          have i1 : (m : Int) < (F.length : Int) := by omega
          have HM2 := hide hm
          clear hp hr hpm hwk
          by_cases hm0 : m = 0
          · have d1 : decide (0 < m) = false := decide_eq_false (by omega)
            have d2 : decide ((0 : Int) < (m : Int)) = false := decide_eq_false (by omega)
            clear hm0
            go_wp2_with fail
            go_quiet (fail)
            go_wp2_with fail
            go_loopw [12] (fun j wq => ∃ k : Nat, k ≤ p.2.length ∧ j = .int .i64 k ∧ Below wo.heap.size wo wq) (fun j _ => p.2.length - (intOf j).toNat)
            case atStart => exact ⟨0, Nat.zero_le _, rfl, blw⟩
            case round =>
              obtain ⟨k, hk, rfl, hB⟩ := hrel
              haveI : Stp wo wr := ⟨hB⟩
              clear hB
              by_cases hkl : k < p.2.length
              · obtain ⟨b7, off7, hd, rfl, hb7, hh, e1, e2, e3, e4⟩ := (show Reads wr wr.heap.size 4 A6 p.2.length (hcs p.2) from src).at4 hkl
                haveI : InW b7 wr := ⟨hb7⟩
                have T := hide (TA.out hd.d)
                rw [HHP.out hd (List.mem_of_getElem? hh)] at T
                unfold RetAsk at T
                simp only at T
                have i2 : (0 : Int) ≤ (k : Int) := by omega
                have i3 : (k : Int) < (p.2.length : Int) := by omega
                clear hh
                go_wp2_with fail
                (refine wp_region_gw (by kernel_rfl) (by kernel_rfl) ?_; (repeat (go_big_quiet_step ((first | (go_at_call 14; with_reducible exact calls_gw (T.out _ src)) | fail)))); refine wpQuiet_nil ?_; intro _ hw'; obtain ⟨⟨dq, osq⟩, hw''⟩ := hw'; subst hw'')
                go_wp2
                go_roundw
                case rel => exact ⟨k + 1, by omega, by go_num, blw⟩
                case measure => simp [intOf]; omega
              · obtain rfl : k = p.2.length := by omega
                go_wp2
                go_roundw
                case rel => exact ⟨m + 1, by omega, by go_num, blw⟩
                case measure => simp [intOf]; omega
          · obtain ⟨b', off', p', A7, c7, he, hb', hp', k1, k2, _⟩ := (HFR.out.tc (W := wo)).at (k := m - 1) (by omega)
            injection he with he
            injection he with he1 he2
            subst he1 he2
            have hlt2 : p'.1 < p.1 := by
              obtain ⟨q1, rfl⟩ := List.getElem?_eq_some_iff.1 hp'
              obtain ⟨q2, e2⟩ := List.getElem?_eq_some_iff.1 HP.out
              rw [← e2]
              exact List.pairwise_iff_getElem.1 HPW.out (m - 1) m q1 q2 (by omega)
            haveI : CellAt wo b (off + (m - 1) * 2) _ := ⟨hb', k1⟩
            have d1 : decide (0 < m) = true := decide_eq_true (by omega)
            have d2 : decide ((0 : Int) < (m : Int)) = true := decide_eq_true (by omega)
            have d3 : decide (p.1 ≤ p'.1) = false := decide_eq_false (by omega)
            have j0 : (0 : Int) ≤ (m : Int) - 1 := by omega
            have j1 : (m : Int) - 1 < (F.length : Int) := by omega
            have j2 : ((m : Int) - 1).toNat = m - 1 := by omega
            have j3 : (1 : Int) ≤ (m : Int) := by omega
            clear hm0 hp' hlt2
            go_wp2_with fail
            go_quiet (fail)
            go_wp2_with fail
            go_loopw [12] (fun j wq => ∃ k : Nat, k ≤ p.2.length ∧ j = .int .i64 k ∧ Below wo.heap.size wo wq) (fun j _ => p.2.length - (intOf j).toNat)
            case atStart => exact ⟨0, Nat.zero_le _, rfl, blw⟩
            case round =>
              obtain ⟨k, hk, rfl, hB⟩ := hrel
              haveI : Stp wo wr := ⟨hB⟩
              clear hB
              by_cases hkl : k < p.2.length
              · obtain ⟨b7, off7, hd, rfl, hb7, hh, e1, e2, e3, e4⟩ := (show Reads wr wr.heap.size 4 A6 p.2.length (hcs p.2) from src).at4 hkl
                haveI : InW b7 wr := ⟨hb7⟩
                have T := hide (TA.out hd.d)
                rw [HHP.out hd (List.mem_of_getElem? hh)] at T
                unfold RetAsk at T
                simp only at T
                have i2 : (0 : Int) ≤ (k : Int) := by omega
                have i3 : (k : Int) < (p.2.length : Int) := by omega
                clear hh
                go_wp2_with fail
                (refine wp_region_gw (by kernel_rfl) (by kernel_rfl) ?_; (repeat (go_big_quiet_step ((first | (go_at_call 14; with_reducible exact calls_gw (T.out _ src)) | fail)))); refine wpQuiet_nil ?_; intro _ hw'; obtain ⟨⟨dq, osq⟩, hw''⟩ := hw'; subst hw'')
                go_wp2
                go_roundw
                case rel => exact ⟨k + 1, by omega, by go_num, blw⟩
                case measure => simp [intOf]; omega
              · obtain rfl : k = p.2.length := by omega
                go_wp2
                go_roundw
                case rel => exact ⟨m + 1, by omega, by go_num, blw⟩
                case measure => simp [intOf]; omega
        · obtain rfl : m = F.length := by omega
          have hah : (allH F).length ≤ 300 := by rw [HFIB.out.len]; exact hll
          have TB := hide (fun W (h : FanR W A2 F) => bareAll_s A2 c2 F W h (by omega) (by omega))
          have e1 : allH [((0 : Int), havL hop hs)] = havL hop hs := by simp [allH]
          have TB2 := hide (fun A' c' W (h : FanR W A' [((0 : Int), havL hop hs)]) => (by
            have := bareAll_s A' c' [((0 : Int), havL hop hs)] W h (by simp) (by rw [e1]; omega)
            rw [e1] at this
            exact this : Calls Try.prog 20 #[.slice A' 1 c'] W (RetBare W (havL hop hs))))
          have TS : Hid (∀ (R S : List Hd) A' c' A2 c2 W, Srt R → Srt S → Fib (allH F) R → Fib (havL hop hs) S → Reads W W.heap.size 4 A' R.length (hcs R) → Reads W W.heap.size 4 A2 S.length (hcs S) → Calls Try.prog 17 #[.slice A' R.length c', .slice A2 S.length c2] W (RetB W true)) := hide (fun R S A' c' A2 c2 W h1 h2 h3 h4 h5 h6 => by
            have e := srt_uniq h1 h2 ((h3.symm.trans HFIB.out).trans h4)
            have k1 := h3.len
            have k2 := h4.len
            have := sameH_s A' c' R A2 c2 S W h5 h6 (by omega) (by omega)
            rw [decide_eq_true e] at this
            exact this)
          have HRl := hide (show ∀ R, Fib (allH F) R ∨ Fib (havL hop hs) R → R.length ≤ 300 from fun R hR => by
            rcases hR with h | h
            · rw [← h.len]; exact hah
            · rw [← h.len]; exact hll)
          clear hah e1
          generalize havL hop hs = hv at *
          go_wp2_with fail
          (with_reducible refine (TB.out _ HFR.out.tc).mono ?_)
          rintro e w3 ⟨R, A3, c3, hs3, hf3, rfl, hr3, hb3⟩
          haveI : Stp _ w3 := ⟨hb3⟩
          have HS3 := hide (And.intro hs3 hf3)
          have hRl := HRl.out R (Or.inl hf3)
          haveI : Src w3 A3 R.length 4 (hcs R) := ⟨bareRd hr3⟩
          clear hs3 hf3 hb3 hr3
          go_wp2_with fail
          (with_reducible refine (TB2.out _ _ _ (fan_one (inferInstance) (Reads.of_own (own_tc HO2.out)))).mono ?_)
          rintro e w4 ⟨S, A4, c4, hs4, hf4, rfl, hr4, hb4⟩
          haveI : Stp _ w4 := ⟨hb4⟩
          have HS4 := hide (And.intro hs4 hf4)
          have hSl := HRl.out S (Or.inr hf4)
          haveI : Src w4 A4 S.length 4 (hcs S) := ⟨bareRd hr4⟩
          clear hs4 hf4 hb4 hr4
          go_wp2_with fail
          (with_reducible refine (TS.out R S _ _ _ _ _ HS3.out.1 HS4.out.1 HS3.out.2 HS4.out.2 src src).mono ?_)
          rintro e w5 ⟨rfl, hb5⟩
          haveI : Stp _ w5 := ⟨hb5⟩
          clear hb5
          go_wp2_with fail
          (with_reducible refine (TW.out _).mono ?_)
          rintro e w7 ⟨rfl, hb7⟩
          haveI : Stp _ w7 := ⟨hb7⟩
          clear hb7
          go_wp2
          go_ret
          exact ⟨rfl, blw⟩
end Go.Proofs.Ythkkadbgggaenaa
