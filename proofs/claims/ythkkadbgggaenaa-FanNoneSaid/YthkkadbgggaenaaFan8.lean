/-
  Layer 14: contract of the reference: Split (the walk).
-/
import Derived.Test.YthkkadbgggaenaaFan7
namespace Go.Proofs.Ythkkadbgggaenaa
set_option linter.unusedSimpArgs false
set_option linter.unusedVariables false
set_option linter.unusedSectionVars false
open Go.RowKit Go.Maps

def lenV : Value → Nat
  | .slice _ n _ => n
  | _ => 0
set_option maxRecDepth 100000 in
set_option maxHeartbeats 8000000 in
theorem rsplit_s (A : Option Addr) (c : Nat) (hs : List Hd) (YA : Option Addr) (yc : Nat) (ws : List Wy) (w : World) (h : Reads w w.heap.size 4 A hs.length (hcs hs)) (h' : Reads w w.heap.size 3 YA ws.length (wcs ws)) (hl : hs.length ≤ 100000) (hwl : ws.length ≤ 1000000) :
    Calls Try.prog 16 #[.slice A hs.length c, .slice YA ws.length yc] w (fun e W' => ∃ v, e = .returned v ∧ FanO W' w.heap.size v (splitL (askL ws) hs) ∧ Below w.heap.size w W') := by
  have TA := hide (fun d W (h : Reads W W.heap.size 3 YA ws.length (wcs ws)) => ask_s YA yc ws d W h hwl)
  have hun : ∀ b, (some undef = some (Value.bool b)) = False := fun b => by simp [undef]
  haveI : Src w A hs.length 4 (hcs hs) := ⟨h⟩
  haveI : Src w YA ws.length 3 (wcs ws) := ⟨h'⟩
  obtain ⟨hop, hhop⟩ : ∃ f, f = askL ws := ⟨_, rfl⟩
  rw [← hhop] at TA ⊢
  have hkl := keysL_len hop hs
  have HFL : Hid (∀ m, ((splitL hop hs).take m).length = min m (keysL hop hs).length) := hide (fun m => by simp [splitL])
  have HGET : Hid (∀ m k, (keysL hop hs)[m]? = some k → (splitL hop hs).take (m + 1) = (splitL hop hs).take m ++ [(k, partL hop hs k)]) := hide (fun m k hk => take_succ_of (by rw [splitL, List.getElem?_map, hk]; rfl))
  clear h h' hhop
  go_enter Try.func16, Try.ntmps16
  go_wp2_with fail
  go_loopw [5] (fun v wr => ∃ (m : Nat) (X : List (Int × Value)), m ≤ (keysL hop hs).length ∧ lenV v = m ∧ FanX wr w.heap.size v ((splitL hop hs).take m) X ∧ Below w.heap.size w wr) (fun v _ => (keysL hop hs).length - lenV v)
  case atStart => exact ⟨0, [], Nat.zero_le _, rfl, ⟨by simp, World.ownsRow_nil _ _ _ _, fun j x f hx _ => by simp at hx⟩, Below.refl _ _⟩
  case round =>
    obtain ⟨m, X, hm, hlv, hFX, hB⟩ := hrel
    obtain ⟨wO, rfl⟩ : ∃ W, W = wr := ⟨_, rfl⟩
    have hml : ((splitL hop hs).take m).length = m := by rw [HFL.out]; omega
    obtain ⟨A5, c5, rfl, hc5, _⟩ := own_slice hFX.o
    rw [hml] at hlv ⊢
    haveI : Blw w wO := ⟨hB⟩
    have HFX := hide hFX
    have HBO := hide hB
    clear hFX hB hlv
    go_wp2_with fail
    go_loopw [6, 7, 8] (fun l6 l7 l8 wr => ∃ (i : Nat) (L : Int) (fd : Bool), i ≤ hs.length ∧ l8 = .int .i64 i ∧ l6 = .int .i64 L ∧ l7 = .bool fd ∧ StL hop (keysL hop hs) m (hs.take i) L fd ∧ Below wO.heap.size wO wr) (fun _ _ l8 _ => hs.length - (intOf l8).toNat)
    case atStart => exact ⟨0, 0, false, Nat.zero_le _, rfl, rfl, rfl, .inl ⟨rfl, by simp⟩, Below.refl _ _⟩
    case round =>
      obtain ⟨i, L, fd, hi, rfl, rfl, rfl, hst, hB⟩ := hrel
      haveI : Blw wO wr := ⟨hB⟩
      haveI : Blw w wr := ⟨below_step HBO.out hB⟩
      have HST := hide hst
      have HBP := hide hB
      clear hst hB
      by_cases hlt : i < hs.length
      · obtain ⟨b, off, p, rfl, hb, hp, g1, g2, g3, g4⟩ := (show Reads wr wr.heap.size 4 A hs.length (hcs hs) from src).at4 hlt
        have HP := hide hp
        haveI : InW b wr := ⟨hb⟩
        have i0 : (0 : Int) ≤ (i : Int) := by omega
        have i1 : (i : Int) < (hs.length : Int) := by omega
        have T := hide (TA.out p.d)
        obtain ⟨⟨hk, ok⟩, hr⟩ : ∃ r, hop p.d = r := ⟨_, rfl⟩
        rw [hr] at T
        unfold RetAsk at T
        simp only at T
        clear hp
        cases ok
        · skip
          have hS0 : StL hop (keysL hop hs) m (hs.take (i + 1)) L fd := by
            rw [take_succ_of HP.out]
            exact HST.out.skip (fun h => by have := h.1; rw [hr] at this; cases this)
          have HS := hide hS0
          clear hS0
          go_wp2_with fail
          (with_reducible refine (T.out _ src).mono ?_)
          rintro e w5 ⟨rfl, hb5⟩
          haveI : Stp _ w5 := ⟨hb5⟩
          clear hb5
          go_wp2
          go_roundw
          case rel => exact ⟨i + 1, _, _, by omega, by go_num, rfl, rfl, HS.out, blw⟩
          case measure => simp [intOf]; omega
        · by_cases hm0 : m = 0
          · have q0 : ((m : Int) == 0) = true := by rw [beq_iff_eq]; omega
            have q0' : (m == 0) = true := by rw [beq_iff_eq]; exact hm0
            have HM0 := hide hm0
            clear hm0
            cases fd
            · skip
              have hS0 : StL hop (keysL hop hs) m (hs.take (i + 1)) hk true := by
                rw [take_succ_of HP.out]
                have h := HST.out.take (x := p) ⟨by rw [hr], by rw [hr]; exact .inl HM0.out⟩ (fun h => by cases h)
                rw [hr] at h
                exact h
              have HS := hide hS0
              clear hS0
              go_wp2_with fail
              (with_reducible refine (T.out _ src).mono ?_)
              rintro e w5 ⟨rfl, hb5⟩
              haveI : Stp _ w5 := ⟨hb5⟩
              clear hb5
              go_wp2
              go_roundw
              case rel => exact ⟨i + 1, _, _, by omega, by go_num, rfl, rfl, HS.out, blw⟩
              case measure => simp [intOf]; omega
            · cases q2 : decide (hk < L)
              · skip
                have hS0 : StL hop (keysL hop hs) m (hs.take (i + 1)) L true := by
                  rw [take_succ_of HP.out]
                  exact HST.out.skip (fun _ => ⟨rfl, by rw [hr]; have := of_decide_eq_false q2; simp only; omega⟩)
                have HS := hide hS0
                clear hS0
                go_wp2_with fail
                (with_reducible refine (T.out _ src).mono ?_)
                rintro e w5 ⟨rfl, hb5⟩
                haveI : Stp _ w5 := ⟨hb5⟩
                clear hb5
                go_wp2
                go_roundw
                case rel => exact ⟨i + 1, _, _, by omega, by go_num, rfl, rfl, HS.out, blw⟩
                case measure => simp [intOf]; omega
              · skip
                have hS0 : StL hop (keysL hop hs) m (hs.take (i + 1)) hk true := by
                  rw [take_succ_of HP.out]
                  have h := HST.out.take (x := p) ⟨by rw [hr], by rw [hr]; exact .inl HM0.out⟩ (fun _ => by rw [hr]; exact of_decide_eq_true q2)
                  rw [hr] at h
                  exact h
                have HS := hide hS0
                clear hS0
                go_wp2_with fail
                (with_reducible refine (T.out _ src).mono ?_)
                rintro e w5 ⟨rfl, hb5⟩
                haveI : Stp _ w5 := ⟨hb5⟩
                clear hb5
                go_wp2
                go_roundw
                case rel => exact ⟨i + 1, _, _, by omega, by go_num, rfl, rfl, HS.out, blw⟩
                case measure => simp [intOf]; omega
          · have q0 : ((m : Int) == 0) = false := by rw [beq_eq_false_iff_ne]; omega
            have q0' : (m == 0) = false := by rw [beq_eq_false_iff_ne]; exact hm0
            obtain ⟨b5, off5, z, A7, c7, rfl, hb5, hz, e1, e2, _⟩ := ((HFX.out.O.read).tc (W := wr)).at (k := m - 1) (by rw [hml]; omega)
            haveI : InW b5 wr := ⟨hb5⟩
            have HZ : Hid ((keysL hop hs)[m - 1]? = some z.1) := hide (by
              rw [List.getElem?_take_of_lt (by omega), splitL, List.getElem?_map] at hz
              cases hq : (keysL hop hs)[m - 1]? with
              | none => rw [hq] at hz; cases hz
              | some k => rw [hq] at hz; simp at hz; subst hz; rfl)
            have j1 : (0 : Int) ≤ (m : Int) - 1 := by omega
            have j2 : (m : Int) - 1 < (m : Int) := by omega
            have j3 : ((m : Int) - 1).toNat = m - 1 := by omega
            clear hz e2
            generalize z.1 = zh at e1 HZ
            haveI : CellAt wr b5 (off5 + (m - 1) * 2) _ := ⟨hb5, e1⟩
            cases q1 : decide (zh < hk)
            · skip
              have hS0 : StL hop (keysL hop hs) m (hs.take (i + 1)) L fd := by
                rw [take_succ_of HP.out]
                refine HST.out.skip (fun h => ?_)
                exfalso
                rcases h.2 with h | ⟨y, hy, hlt⟩
                · omega
                · rw [HZ.out] at hy
                  injection hy with hy
                  subst hy
                  rw [hr] at hlt
                  exact absurd hlt (of_decide_eq_false q1)
              have HS := hide hS0
              clear hS0
              go_wp2_with fail
              (with_reducible refine (T.out _ src).mono ?_)
              rintro e w5 ⟨rfl, hb5⟩
              haveI : Stp _ w5 := ⟨hb5⟩
              clear hb5
              go_wp2
              go_roundw
              case rel => exact ⟨i + 1, _, _, by omega, by go_num, rfl, rfl, HS.out, blw⟩
              case measure => simp [intOf]; omega
            · skip
              cases fd
              · skip
                have hS0 : StL hop (keysL hop hs) m (hs.take (i + 1)) hk true := by
                  rw [take_succ_of HP.out]
                  have h := HST.out.take (x := p) ⟨by rw [hr], by rw [hr]; exact .inr ⟨zh, HZ.out, of_decide_eq_true q1⟩⟩ (fun h => by cases h)
                  rw [hr] at h
                  exact h
                have HS := hide hS0
                clear hS0
                go_wp2_with fail
                (with_reducible refine (T.out _ src).mono ?_)
                rintro e w5 ⟨rfl, hb5⟩
                haveI : Stp _ w5 := ⟨hb5⟩
                clear hb5
                go_wp2
                go_roundw
                case rel => exact ⟨i + 1, _, _, by omega, by go_num, rfl, rfl, HS.out, blw⟩
                case measure => simp [intOf]; omega
              · cases q2 : decide (hk < L)
                · skip
                  have hS0 : StL hop (keysL hop hs) m (hs.take (i + 1)) L true := by
                    rw [take_succ_of HP.out]
                    exact HST.out.skip (fun _ => ⟨rfl, by rw [hr]; have := of_decide_eq_false q2; simp only; omega⟩)
                  have HS := hide hS0
                  clear hS0
                  go_wp2_with fail
                  (with_reducible refine (T.out _ src).mono ?_)
                  rintro e w5 ⟨rfl, hb5⟩
                  haveI : Stp _ w5 := ⟨hb5⟩
                  clear hb5
                  go_wp2
                  go_roundw
                  case rel => exact ⟨i + 1, _, _, by omega, by go_num, rfl, rfl, HS.out, blw⟩
                  case measure => simp [intOf]; omega
                · skip
                  have hS0 : StL hop (keysL hop hs) m (hs.take (i + 1)) hk true := by
                    rw [take_succ_of HP.out]
                    have h := HST.out.take (x := p) ⟨by rw [hr], by rw [hr]; exact .inr ⟨zh, HZ.out, of_decide_eq_true q1⟩⟩ (fun _ => by rw [hr]; exact of_decide_eq_true q2)
                    rw [hr] at h
                    exact h
                  have HS := hide hS0
                  clear hS0
                  go_wp2_with fail
                  (with_reducible refine (T.out _ src).mono ?_)
                  rintro e w5 ⟨rfl, hb5⟩
                  haveI : Stp _ w5 := ⟨hb5⟩
                  clear hb5
                  go_wp2
                  go_roundw
                  case rel => exact ⟨i + 1, _, _, by omega, by go_num, rfl, rfl, HS.out, blw⟩
                  case measure => simp [intOf]; omega
      · obtain rfl : i = hs.length := by omega
        have HS2 := hide (show StL hop (keysL hop hs) m hs L fd by have := HST.out; rwa [List.take_length] at this)
        cases fd
        · have HM := hide (next_none hm HS2.out)
          go_wp2
          go_ret
          refine ⟨_, rfl, ?_, blw⟩
          have := (HFX.out.below HBP.out).O
          rw [hml, List.take_of_length_le (by rw [splitL, List.length_map]; exact Nat.le_of_eq HM.out.symm)] at this
          exact this
        · have HNX := hide (next_some HS2.out)
          have HFY := hide (HFX.out.below HBP.out)
          have HBw := hide (show Below w.heap.size w wr from blw)
          have zP := HBw.out.size
          obtain ⟨wP, rfl⟩ : ∃ W, W = wr := ⟨_, rfl⟩
          haveI : LeN w.heap.size wP.heap.size := ⟨zP⟩
          clear HST HBP HS2
          go_wp2_with fail
          go_loopw [12] (fun j wr => ∃ (i : Nat) (A6 : Option Addr) (c6 : Nat), i ≤ hs.length ∧ j = .int .i64 i ∧ BoxAt wr wP.heap.size #[.int .i64 L, .slice A6 (partL hop (hs.take i) L).length c6] 36 ∧ wr.ownsRow (wP.heap.size + 1) 29 4 (.slice A6 (partL hop (hs.take i) L).length c6) (partL hop (hs.take i) L).length (hcs (partL hop (hs.take i) L)) ∧ Below wP.heap.size wP wr) (fun j _ => hs.length - (intOf j).toNat)
          case atStart => exact ⟨0, none, 0, Nat.zero_le _, rfl, inferInstance, World.ownsRow_nil _ _ _ _, blw⟩
          case round =>
            obtain ⟨i, A6, c6, hi, rfl, hbx, ho, hB⟩ := hrel
            haveI := hbx
            haveI : Blw wP wr := ⟨hB⟩
            haveI : Blw w wr := ⟨below_step HBw.out hB⟩
            have HO := hide ho
            have HBr := hide hB
            have zr := BoxAt.lt hbx
            have hpl : (partL hop (hs.take i) L).length ≤ hs.length := Nat.le_trans (List.length_filter_le _ _) (by rw [List.length_take]; omega)
            have HBX := hide hbx
            clear ho hB hbx
            by_cases hlt : i < hs.length
            · obtain ⟨b, off, p, rfl, hb, hp, g1, g2, g3, g4⟩ := (show Reads wr wr.heap.size 4 A hs.length (hcs hs) from src).at4 hlt
              have HP := hide hp
              haveI : InW b wr := ⟨hb⟩
              haveI : CellAt wr b (off + i * 4) _ := ⟨hb, g1⟩
              haveI : CellAt wr b (off + i * 4 + 1) _ := ⟨hb, g2⟩
              haveI : CellAt wr b (off + i * 4 + 2) _ := ⟨hb, g3⟩
              haveI : CellAt wr b (off + i * 4 + 3) _ := ⟨hb, g4⟩
              have i0 : (0 : Int) ≤ (i : Int) := by omega
              have i1 : (i : Int) < (hs.length : Int) := by omega
              have T := hide (TA.out p.d)
              obtain ⟨⟨hk, ok⟩, hr⟩ : ∃ r, hop p.d = r := ⟨_, rfl⟩
              rw [hr] at T
              unfold RetAsk at T
              simp only at T
              have HPS := hide (partL_snoc hop (hs.take i) p L)
              rw [hr, ← take_succ_of HP.out] at HPS
              clear hp
              cases hq : (ok && (hk == L))
              · have HPE := hide (show partL hop (hs.take (i + 1)) L = partL hop (hs.take i) L by
                  rw [HPS.out, if_neg (by simp at hq ⊢; exact hq)])
                cases ok
                · go_wp2_with fail
                  (with_reducible refine (T.out _ src).mono ?_)
                  rintro e w5 ⟨rfl, hb5⟩
                  haveI : Stp _ w5 := ⟨hb5⟩
                  clear hb5
                  go_wp2
                  go_roundw
                  case rel => exact ⟨i + 1, A6, c6, by omega, by go_num, by rw [HPE.out]; infer_instance, by rw [HPE.out]; exact own_tc HO.out, blw⟩
                  case measure => simp [intOf]; omega
                · have q3 : (hk == L) = false := by simpa using hq
                  go_wp2_with fail
                  (with_reducible refine (T.out _ src).mono ?_)
                  rintro e w5 ⟨rfl, hb5⟩
                  haveI : Stp _ w5 := ⟨hb5⟩
                  clear hb5
                  go_wp2
                  go_roundw
                  case rel => exact ⟨i + 1, A6, c6, by omega, by go_num, by rw [HPE.out]; infer_instance, by rw [HPE.out]; exact own_tc HO.out, blw⟩
                  case measure => simp [intOf]; omega
              · have HPE := hide (show partL hop (hs.take (i + 1)) L = partL hop (hs.take i) L ++ [p] by
                  rw [HPS.out, if_pos (by simp at hq ⊢; exact hq)])
                have q1 : ok = true := by simp at hq; exact hq.1
                have q3 : (hk == L) = true := by simp at hq; simp [hq.2]
                subst q1
                go_wp2_with fail
                (with_reducible refine (T.out _ src).mono ?_)
                rintro e w5 ⟨rfl, hb5⟩
                haveI : Stp _ w5 := ⟨hb5⟩
                have z5 := hb5.size
                clear hb5
                go_wp2_with fail
                go_region_law ((refine step_append_w Try.okHd rfl (.tmp 86) (.tmp 91) rfl (wP.heap.size + 1) (.slice A6 (partL hop (hs.take i) L).length c6) (partL hop (hs.take i) L).length (hcs (partL hop (hs.take i) L)) 1 (hcs [p]) ?_ ?_ ?_ ?_ ?_ ?_ ?_ ?_; go_must ((focus (first | rfl | (simp [Act.eval, Act.put]; done))); (focus (exact own_tc HO.out)); (focus (refine ⟨_, _, by first | rfl | (simp [Act.eval, Act.put]; done), ?_⟩; exact reads_h1x _ _ p)); (focus (exact hc_one _)); (focus (unfold maxLen; omega)); (focus omega); (focus (first | omega | (simp; done) | (simp; omega) | exact BoxAt.lt (n := w.heap.size) inferInstance)); intro v7 w7 ho7 hg7; haveI : StpB (wP.heap.size + 1) _ w7 := ⟨grown_belowT hg7 (by simp; omega) (fun q hq => (HO.out.lt q hq).1)⟩; have O7 := hide ho7; obtain ⟨A7, c7, rfl, _, _⟩ := own_slice ho7)))
                all_goals
                  go_wp2
                  go_roundw
                  case rel => exact ⟨i + 1, A7, c7, by omega, by go_num, by rw [HPE.out, List.length_append, List.length_singleton]; infer_instance, by rw [HPE.out, List.length_append, List.length_singleton, hcs_app]; exact own_kp O7.out, blw⟩
                  case measure => simp [intOf]; omega
            · obtain rfl : i = hs.length := by omega
              have HPE := hide (show partL hop (hs.take hs.length) L = partL hop hs L by rw [List.take_length])
              rw [HPE.out] at HO hpl HBX
              have hmk : m < (keysL hop hs).length := (List.getElem?_eq_some_iff.1 HNX.out).1
              have HFZ : Hid (FanX wP w.heap.size (.slice A5 m c5) ((splitL hop hs).take m) X) := hide (by have := HFY.out; rw [hml] at this; exact this)
              have HOO : Hid (wP.ownsRow w.heap.size 36 2 (.slice A5 m c5) m (fvs X)) := hide (by have := HFZ.out.o; rw [hml] at this; exact this)
              have HTK := hide (HGET.out m L HNX.out)
              generalize partL hop hs L = pl at HO HTK hpl HBX
              haveI := HBX.out
              clear HPE HFX HFY
              go_wp2_with (at_builtin; go_must (refine wpList_append_w Try.okFn (by rfl) (.tmp 94) (.tmp 96) (by rfl) w.heap.size (.slice A5 m c5) m (fvs X) 1 (fvs [(L, .slice A6 pl.length c6)]) (by rfl) (own_tc HOO.out) ⟨_, _, by rfl, reads_f1x _ _ _ _⟩ (fv_one _ _ _ _) (by unfold maxLen; omega) (by omega) (by simp; omega) ?_); intro v10 w10 ho10 hg10; go_must (have HF10 := hide ((HFZ.out.below (W' := wr.alloc (.cells #[.int .i64 L, .slice A6 pl.length c6] 36)) blw).app (own_tc HO.out) (by omega) (by rw [hml]; exact ho10) hg10); haveI : StpB w.heap.size _ w10 := ⟨grown_belowT hg10 (by simp; omega) (fun q hq => (HOO.out.lt q hq).1)⟩; obtain ⟨A10, c10, rfl, _, _⟩ := own_slice ho10; clear ho10 hg10))
              go_wp2
              go_roundw
              case rel => exact ⟨m + 1, _, by omega, rfl, by rw [HTK.out]; exact HF10.out, blw⟩
              case measure => simp [lenV]; omega
end Go.Proofs.Ythkkadbgggaenaa
