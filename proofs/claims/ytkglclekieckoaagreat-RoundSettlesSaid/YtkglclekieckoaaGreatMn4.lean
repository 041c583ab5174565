/-
  RoundOne: contract: many.turned: whatever comes of a turn is as it may be.
-/
import Derived.Test.YtkglclekieckoaaGreatMn4v
namespace Go.Proofs.YtkglclekieckoaaGreat
set_option linter.unusedSimpArgs false
set_option linter.unusedVariables false
set_option linter.unusedSectionVars false
open Go.RowKit

set_option maxRecDepth 100000 in
set_option maxHeartbeats 16000000 in
set_option synthInstance.maxSize 1000 in
theorem turned18_s (n : Nat) (C : List Nat) (aa : Nat → Ag) (inc cc : Nat → Int) (SA : Option Addr) (sc : Nat) (S : List Pp) (VA : Option Addr) (vc : Nat) (V : List Vw) (who : Nat) (a : Ag) (t : Tu) (w : World)
    (h : MW w C n aa inc cc SA sc S VA vc V) (hw : who < 4) (ha : @Ag.Ok (avo C) w a) (ht : @Tu.Ok (avo C) w t) (Sb : List Pp)
    (hT : TOk Sb (ofN cc) who (aa who).br a.br t.br) (hS : S.length ≤ 1000) (hV : V.length ≤ 1000)
    (hU : t.md = true → ∀ v ∈ V, v.r = t.vw.r → v.n = t.vw.n → v.i = t.vw.i → v.ms = t.vw.ms ∧ v.us = t.vw.us) :
    Calls Tryz.prog 22 #[.pointer (some ⟨n, 0, none⟩), .int .i64 who, a.v, t.v] w (RetTd w C n (updN aa who a) inc (cidsN cc t.ts) (if t.sd = true then S ++ [t.pp] else S) (if t.md = true then V ++ [t.vw] else V)) := by
  obtain ⟨tA, tc, ts, sd, pp, md, vw⟩ := t
  haveI hbn := h.bx
  have hn := h.bx.lt
  haveI : LtN n w.heap.size := ⟨hn⟩
  have HW := hide h
  have HA := hide ha
  have HT := hide ht
  have HX := hide hT
  have HU := hide hU
  have i0 : (0 : Int) ≤ (who : Int) := by omega
  have i1 : (who : Int) < 4 := by omega
  have HRD := hide (show (aa who).rd ≤ a.rd from hT.rd)
  generalize hSF : (if (⟨tA, tc, ts, sd, pp, md, vw⟩ : Tu).sd = true then S ++ [(⟨tA, tc, ts, sd, pp, md, vw⟩ : Tu).pp] else S) = SF
  have HSF := hide (show (if sd = true then S ++ [pp] else S) = SF from hSF)
  generalize hVF : (if (⟨tA, tc, ts, sd, pp, md, vw⟩ : Tu).md = true then V ++ [(⟨tA, tc, ts, sd, pp, md, vw⟩ : Tu).vw] else V) = VF
  have HVF := hide (show (if md = true then V ++ [vw] else V) = VF from hVF)
  generalize hCF : cidsN cc (⟨tA, tc, ts, sd, pp, md, vw⟩ : Tu).ts = CF
  have HCF := hide (show cidsN cc ts = CF from hCF)
  have hne : ts.length ≤ 1000 := by obtain ⟨o, _⟩ := ht; obtain ⟨_, tl, _, _⟩ := o; exact tl
  clear h ha ht hT hU hSF hVF hCF
  go_enter Tryz.func22, Tryz.ntmps22
  go_upto_region 2 with fail
  go_cut [27] (fun s27 wx => BoxAt wx w.heap.size a.cs 38 ∧ BoxAt wx (w.heap.size + 1) (⟨tA, tc, ts, sd, pp, md, vw⟩ : Tu).cs 43 ∧ BoxAt wx (w.heap.size + 1 + 1) (aa who).cs 38 ∧ BoxAt wx n (mcs (updN aa who a) inc cc (.slice SA S.length sc) (.slice VA V.length vc)) 77 ∧ Tr [n] [n] w wx)
  case first =>
    go_region
    all_goals
      go_wp2_with fail
      go_meet
      case rel =>
        rw [mcs_put aa inc cc _ _ who a hw]
        exact ⟨inferInstance, inferInstance, inferInstance, inferInstance, Trc.h⟩
  case rest =>
    obtain ⟨k6, k7, k9, kn, hG⟩ := hcut
    haveI := k6
    haveI := k7
    haveI := k9
    haveI := kn
    have z6 := k9.lt
    have HG := hide hG
    have hr : decide (a.rd < (aa who).rd) = false := decide_eq_false (by have := HRD.out; omega)
    clear hG
    go_wp2_with fail
    go_loopg [10] ts.length (fun gk i wx => ∃ j : Nat, i = .int .i64 j ∧ Hid (j + gk = ts.length) ∧ BoxAt wx w.heap.size a.cs 38 ∧ BoxAt wx (w.heap.size + 1) (⟨tA, tc, ts, sd, pp, md, vw⟩ : Tu).cs 43 ∧ BoxAt wx (w.heap.size + 1 + 1) (aa who).cs 38 ∧ BoxAt wx n (mcs (updN aa who a) inc (cidsN cc (ts.take j)) (.slice SA S.length sc) (.slice VA V.length vc)) 77 ∧ Tr [n] [n] w wx)
    case atStart => exact ⟨0, rfl, hide (by omega), inferInstance, inferInstance, inferInstance, by rw [List.take_zero]; exact kn, HG.out⟩
    case round =>
      obtain ⟨j, rfl, HM, b6, b7, b9, bn, hG⟩ := hrel
      haveI := b6
      haveI := b7
      haveI := b9
      haveI := bn
      have z9 := b9.lt
      have HGR := hide hG
      clear hG
      by_cases hlt : j < ts.length
      · have HTR := hide (show Tr C C w wr from .of (HGR.out.g.mono' (fun i hi => by rw [List.mem_singleton.1 hi]; exact HW.out.nC)))
        obtain ⟨b, off, e, hA, hb, hem, g0, g1, g2, g3, g4, g5, g6, g7, g8, g9, ga, gb, gc⟩ := Reads.atT (by obtain ⟨_, g⟩ := HT.out; exact (g.tr HTR.out).1) hlt
        have hbC : b ∉ C := by obtain ⟨_, g⟩ := HT.out; exact g.2 (by show 0 < ts.length; omega) _ hA
        subst hA
        haveI : InW b wr := ⟨hb⟩
        have i2 : (0 : Int) ≤ (j : Int) := by omega
        have i3 : (j : Int) < (ts.length : Int) := by omega
        obtain ⟨q1, q2, hk⟩ := HX.out.at hem
        have HEM := hide hem
        clear hem hbC
        rcases hk with ⟨k1, k2, k3⟩ | ⟨k1, k2, k3, k4⟩
        · have d1 : (e.nt.k == 4) = true := beq_iff_eq.2 k1
          have d2 : decide (e.nt.cd ≤ cidsN cc (ts.take j) e.n.toNat) = false := decide_eq_false (by omega)
          have d3 : decide (e.n < 5) = false := decide_eq_false (by omega)
          have d4 : decide (10 < e.n) = false := decide_eq_false (by omega)
          have d5 : e.n.toNat < 11 := by omega
          have d6 : (0 : Int) ≤ e.n := by omega
          have d7 : e.n < 11 := by omega
          have HK1 := hide k1
          have HK3 := hide k3
          clear k1 k2 k3
          have TH := hide (fun W (hb : Below wr.heap.size wr W) => (by
            obtain ⟨o, _⟩ := HT.out
            obtain ⟨o1, _, _, _⟩ := o
            have o2 := o1 e (List.mem_of_getElem? HEM.out)
            obtain ⟨o3, o4, _⟩ := o2
            have h1 := refHas_any e.nt.SA e.nt.sc e.nt.st e.n e.i W (((o3.tr HTR.out).1.below hb).more hb.size) o4
            rw [decide_eq_true HK3.out] at h1
            exact h1 : Calls Tryz.prog 56 #[.slice e.nt.SA e.nt.st.length e.nt.sc, .agg #[.int .i64 e.n, .int .u64 e.i]] W (RetB W true)))
          go_upto_region 13 with fail
          go_cut [79] (fun s79 wx => s79 = .bool false ∧ Below wr.heap.size wr wx ∧ BoxAt wx (wr.heap.size + 1) #[.int .i64 e.n, .int .u64 e.i] 25 ∧ ∃ c0, BoxAt wx wr.heap.size #[c0, .int .i64 e.nt.n, .int .u64 e.nt.i, .int .u64 e.nt.rd, .int .u64 e.nt.cd, .slice e.nt.SA e.nt.st.length e.nt.sc, .int .u64 e.nt.vw.r, .int .i64 e.nt.vw.n, .int .u64 e.nt.vw.i, .slice e.nt.vw.MA e.nt.vw.ms.length e.nt.vw.mc, .slice e.nt.vw.UA e.nt.vw.us.length e.nt.vw.uc] 115)
          case first =>
            skip
            go_region_held3 (fun w' => w'.cell? ⟨wr.heap.size, 4, none⟩ = some (.int .u64 e.nt.cd) ∧ w'.cell? ⟨wr.heap.size, 5, none⟩ = some (.slice e.nt.SA e.nt.st.length e.nt.sc) ∧ w'.cell? ⟨wr.heap.size + 1, 0, none⟩ = some (.int .i64 e.n) ∧ w'.cell? ⟨wr.heap.size + 1, 1, none⟩ = some (.int .u64 e.i) ∧ w'.cell? ⟨n, 60 + e.n.toNat, none⟩ = some (.int .u64 (cidsN cc (ts.take j) e.n.toNat))) ((refine ⟨?_, ?_, ?_, ?_, ?_⟩ <;> (rw [cell?_box]; (first | rfl | exact mcs_cid _ _ _ _ _ _ d5))))
              (first
                | (go_at_call 56; (with_reducible refine (TH.out _ ?_).mono ?_); (focus (exact blw)); rintro e' w11 ⟨rfl, hb11⟩; haveI : Stp _ w11 := ⟨hb11⟩; clear hb11)
                | fail)
            all_goals
              go_wp2_with fail
              go_meet
              case rel => exact ⟨rfl, blw, inferInstance, _, inferInstance⟩
          case rest =>
            obtain ⟨rfl, hB1, k12, c0, k11⟩ := hcut
            haveI : Stp wr wc := ⟨hB1⟩
            haveI := k12
            haveI := k11
            haveI : Trc [n] w wr := ⟨HGR.out⟩
            have HST := hide (show cidsN cc (ts.take (j + 1)) = updN (cidsN cc (ts.take j)) e.n.toNat e.nt.cd from by
              rw [take_succ_of HEM.out, cidsN_app]
              show (if e.nt.k = 4 then _ else _) = _
              rw [if_pos HK1.out])
            go_upto_region 15 with fail
            go_cut [87] (fun s87 wx => BoxAt wx w.heap.size a.cs 38 ∧ BoxAt wx (w.heap.size + 1) (⟨some ⟨b, off, none⟩, tc, ts, sd, pp, md, vw⟩ : Tu).cs 43 ∧ BoxAt wx (w.heap.size + 1 + 1) (aa who).cs 38 ∧ BoxAt wx n (mcs (updN aa who a) inc (cidsN cc (ts.take (j + 1))) (.slice SA S.length sc) (.slice VA V.length vc)) 77 ∧ Tr [n] [n] w wx)
            case first =>
              go_region
              all_goals
                go_wp2_with fail
                go_meet
                case rel => exact ⟨inferInstance, inferInstance, inferInstance, by rw [HST.out]; exact BoxAt.of_cs inferInstance (mcs_setCid _ _ _ _ _ _ _ d5), Trc.h⟩
            case rest =>
              obtain ⟨m6, m7, m9, mn, hG2⟩ := hcut
              have HG2 := hide hG2
              clear hG2
              go_wp2_with fail
              go_roundg (gk - 1)
              case rel => exact ⟨j + 1, by go_num, hide (by have := HM.out; omega), m6, m7, m9, mn, HG2.out⟩
              case measure => have := HM.out; omega
        · have d1 : (e.nt.k == 4) = false := by rw [k1]; rfl
          have d3 : decide (e.n < 5) = false := decide_eq_false (by omega)
          have d4 : decide (10 < e.n) = false := decide_eq_false (by omega)
          have d5 : e.n.toNat < 11 := by omega
          have d6 : (0 : Int) ≤ e.n := by omega
          have d7 : e.n < 11 := by omega
          have HK1 := hide k1
          have HK3 := hide k3
          have TS := hide (fun W (hb : Below wr.heap.size wr W) => (by
            obtain ⟨o, _⟩ := HT.out
            obtain ⟨o1, _, _, _⟩ := o
            obtain ⟨_, _, o5⟩ := o1 e (List.mem_of_getElem? HEM.out)
            obtain ⟨u1, u2, u3, u4⟩ := o5
            have h1 := start_s e.nt.vw e.n e.i W ⟨((u1.tr HTR.out).1.below hb).more hb.size, ((u3.tr HTR.out).1.below hb).more hb.size, u2, u4⟩
            rw [k2] at h1
            exact h1 : Calls Tryz.prog 57 #[.agg #[.int .u64 e.nt.vw.r, .int .i64 e.nt.vw.n, .int .u64 e.nt.vw.i, .slice e.nt.vw.MA e.nt.vw.ms.length e.nt.vw.mc, .slice e.nt.vw.UA e.nt.vw.us.length e.nt.vw.uc], .agg #[.int .i64 e.n, .int .u64 e.i]] W (fun e' w' => e' = .returned (.tuple #[.int .u64 (cidsN cc (ts.take j) e.n.toNat), .bool true]) ∧ Below W.heap.size W w')))
          have TK := hide (fun W (hb : Below wr.heap.size wr W) => (by
            obtain ⟨o, _⟩ := HT.out
            obtain ⟨o1, _, _, _⟩ := o
            obtain ⟨_, _, o5⟩ := o1 e (List.mem_of_getElem? HEM.out)
            obtain ⟨u1, u2, u3, u4⟩ := o5
            obtain ⟨o6, _⟩ := HA.out
            obtain ⟨_, _, _, _, t1, t2, _, _, _⟩ := o6
            have h1 := kept_s e.nt.vw.MA a.TA e.nt.vw.mc a.tc e.nt.vw.ms a.td false W (((u1.tr HTR.out).1.below hb).more hb.size) (((t1.tr HTR.out).1.below hb).more hb.size) u2 t2
            have h2 : chosenL e.nt.vw.ms a.td false = [] := by
              unfold chosenL
              rw [List.filter_eq_nil_iff]
              intro x hx
              rw [decide_eq_true (HK3.out x (mem_sortedL.1 hx))]
              simp
            rw [h2] at h1
            exact h1 : Calls Tryz.prog 58 #[.slice e.nt.vw.MA e.nt.vw.ms.length e.nt.vw.mc, .slice a.TA a.td.length a.tc, .bool false] W (RetS W [])))
          have HK4 := hide k4
          clear k1 k2 k3 k4
          go_wp2_with fail
          (with_reducible refine (TS.out _ ?_).mono ?_)
          · exact blw
          rintro e' w11 ⟨rfl, hb11⟩
          haveI : Stp _ w11 := ⟨hb11⟩
          clear hb11
          go_upto_region 17 with fail
          go_cut [126] (fun s126 wx => s126 = .bool false ∧ Below wr.heap.size wr wx)
          case first =>
            skip
            have k4 : (e.nt.vw.r == a.rd) = true := beq_iff_eq.2 HK4.out
            go_region_held3 (fun w' => w'.cell? ⟨wr.heap.size, 6, none⟩ = some (.int .u64 e.nt.vw.r) ∧ w'.cell? ⟨wr.heap.size, 9, none⟩ = some (.slice e.nt.vw.MA e.nt.vw.ms.length e.nt.vw.mc) ∧ w'.cell? ⟨wr.heap.size + 1, 0, none⟩ = some (.int .i64 e.n) ∧ w'.cell? ⟨w.heap.size, 2, none⟩ = some (.int .u64 a.rd) ∧ w'.cell? ⟨w.heap.size, 5, none⟩ = some (.slice a.TA a.td.length a.tc) ∧ w'.cell? ⟨n, 60 + e.n.toNat, none⟩ = some (.int .u64 (cidsN cc (ts.take j) e.n.toNat))) ((refine ⟨?_, ?_, ?_, ?_, ?_, ?_⟩ <;> (rw [cell?_box]; (first | rfl | exact mcs_cid _ _ _ _ _ _ d5))))
              (first
                | (go_at_call 58; (with_reducible refine (TK.out _ ?_).mono ?_); (focus (exact blw)); rintro e' w12 ⟨A12, c12, rfl, -, hb12⟩; haveI : Stp _ w12 := ⟨hb12⟩; clear hb12)
                | fail)
            all_goals
              go_wp2_with fail
              go_meet
              case rel => exact ⟨by rw [HK4.out]; simp, blw⟩
          case rest =>
            obtain ⟨rfl, hB1⟩ := hcut
            haveI : Stp wr wc := ⟨hB1⟩
            haveI : Trc [n] w wr := ⟨HGR.out⟩
            have HST := hide (show cidsN cc (ts.take (j + 1)) = cidsN cc (ts.take j) from by
              rw [take_succ_of HEM.out, cidsN_app]
              show (if e.nt.k = 4 then _ else _) = _
              rw [if_neg (by rw [HK1.out]; decide)])
            go_wp2_with fail
            go_roundg (gk - 1)
            case rel => exact ⟨j + 1, by go_num, hide (by have := HM.out; omega), inferInstance, inferInstance, inferInstance, by rw [HST.out]; exact inferInstance, Trc.h⟩
            case measure => have := HM.out; omega
      · have hj : j = ts.length := by have := HM.out; omega
        subst hj
        have HTR := hide (show Tr C C w wr from .of (HGR.out.g.mono' (fun i hi => by rw [List.mem_singleton.1 hi]; exact HW.out.nC)))
        have HM1 := hide (show MW wr C n (updN aa who a) inc CF SA sc S VA vc V from HW.out.box HGR.out.g (by rw [List.take_length] at bn; rw [← HCF.out]; exact bn) (fun k hk => by
          by_cases e : k = who
          · subst e; rw [updN_at]; exact HA.out.over HTR.out
          · rw [updN_ne _ _ e]; exact (HW.out.ag k hk).over HTR.out))
        have HPP := hide (show @PpO (avo C) wr [] pp from by
          obtain ⟨o, _⟩ := HT.out
          obtain ⟨_, _, o3, _⟩ := o
          exact o3.over HTR.out)
        have HVW := hide (show @VwO (avo C) wr [] vw from by
          obtain ⟨o, _⟩ := HT.out
          obtain ⟨_, _, _, o4⟩ := o
          exact o4.over HTR.out)
        have hC : ∀ i ∈ C, i < w.heap.size := HW.out.lt
        have HC7 := hide (show w.heap.size + 1 ∉ C from fun hm => by have := hC _ hm; omega)
        have HC9 := hide (show w.heap.size + 1 + 1 ∉ C from fun hm => by have := hC _ hm; omega)
        clear bn hC
        haveI : BoxAt wr n (mcs (updN aa who a) inc CF (.slice SA S.length sc) (.slice VA V.length vc)) 77 := HM1.out.bx
        have HMAY := hide (show md = true → vw.mayB = true from fun e => HX.out.vmay e)
        have HOLD := hide (show md = true → (aa who).vw.r < vw.r from fun e => by obtain ⟨_, _, _, _, _, h5, _⟩ := HX.out.md e; exact h5)
        clear HW HT HX HA HGR HM
        repeat (first | (exact turned_tail n C (updN aa who a) (aa who) inc CF SA sc S VA vc V tA tc ts sd pp md vw SF VF w wr HM1.out HPP.out HVW.out b7 b9 HTR.out HC7.out HC9.out HMAY.out HOLD.out HSF.out HVF.out HU.out hS hV _ rfl rfl rfl rfl) | go_values | go_skip | go_guarded | go_step | go_upon | go_back)
end Go.Proofs.YtkglclekieckoaaGreat
