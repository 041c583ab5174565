/-
  Layer 9's reference: contract: Decode.
-/
import Derived.Test.YtdmjopokclljlaaGreatTcI
import Derived.Test.YtdmjopokclljlaaGreatPpP
import Derived.Test.YtdmjopokclljlaaGreatPp
namespace Go.Proofs.YtdmjopokclljlaaGreat
set_option linter.unusedSimpArgs false
set_option linter.unusedVariables false
set_option linter.unusedSectionVars false
open Go.RowKit

abbrev zsP : Array Value := #[.int .i64 0, .int .u64 0, .int .u64 0, .slice none 0 0, .slice none 0 0, .slice none 0 0]
/-- while the numbers are read -/
structure D9 (w : World) (nb M : Nat) (x : Pp) (s : RS) (W : World) : Prop where
  k0 : BoxAt W w.heap.size zsP 43
  kn : BoxAt W nb x.cls 43
  rd : RI W (w.heap.size + 1) (w.heap.size + 1 + 1) s
  os : Own2 W (nb + 1) M 24 2 (.slice x.SA x.ss.length x.sc) x.ss.length (pcs x.ss)
  oc : Own2 W (nb + 1) M 24 2 (.slice x.CA x.cs.length x.cc) x.cs.length (pcs x.cs)
  ou : W.ownsRow M 22 1 (.slice x.UA x.us.length x.uc) x.us.length (ucs x.us)
  hB : Below w.heap.size w W
  hM : M ≤ W.heap.size
set_option maxRecDepth 100000 in
set_option maxHeartbeats 4000000 in
theorem rpdec (A : Option Addr) (c : Nat) (bs : List Int) (w : World) (hr : Reads w w.heap.size 1 A bs.length (bcs bs)) (hn : bs.length ≤ 1000000) (hok : bOK bs) (hcp : bs.length ≤ c) (hcm : c ≤ 9223372036854775807) (kk : Int) (s s1 s2 s3 s4 s5 : RS) (pn pi rd : Int) (l1 l2 : List Pr) (us : List Int)
    (hu : rU8 (bs, false) = (kk, s)) (e1 : rGet s = ((pn, pi), s1)) (e2 : rUint s1 = (rd, s2)) (e3 : rGetSet 4 s2 = (l1, s3)) (e4 : rGetSet 6 s3 = (l2, s4)) (e5 : rUints l2.length s4 [] = (us, s5)) (m1 : l1.length ≤ 4) (m2 : l2.length ≤ 6) (hnn : Pp.Nn ⟨pn, pi, rd, none, 0, l1, none, 0, l2, none, 0, us⟩) (hrd : 0 ≤ rd) :
    Calls Tryz.prog 20 #[.slice A bs.length c] w (RetDecP w (if kk ≠ 6 then none else finP ⟨pn, pi, rd, none, 0, l1, none, 0, l2, none, 0, us⟩ s5)) := by
  have hR0 : RI ((w.alloc (.cells zsP 43)).alloc (.cells #[.slice A bs.length c, .bool false] 88)) (w.heap.size + 1) (w.heap.size + 1 + 1) (bs, false) := by
    have pg := boxTop (w.alloc (.cells zsP 43)) #[.slice A bs.length c, .bool false] 88
    rw [World.size_alloc] at pg
    have hB0 : Below w.heap.size w ((w.alloc (.cells zsP 43)).alloc (.cells #[.slice A bs.length c, .bool false] 88)) := blw
    refine ⟨bs, A, c, ⟨pg.eq, fun hl => ?_, hcp, hcm, hok, by omega, by simp⟩, fun _ => rfl, hn⟩
    obtain ⟨b, off, e, h1, h2⟩ := hr.2 hl
    exact ⟨b, off, e, by omega, by omega, fun j u hu => (hB0.cell (p := ⟨b, off + j, none⟩) h1).trans (h2 j u hu)⟩
  have T0 := hide (u8I_s _ _ _ _ hR0)
  rw [hu] at T0
  simp only at T0
  have TP := hide (fun W (h : RI W (w.heap.size + 1) (w.heap.size + 1 + 1) s) => procI_s _ _ s W h)
  rw [e1] at TP
  have TU := hide (fun W (h : RI W (w.heap.size + 1) (w.heap.size + 1 + 1) s1) => uintI_s _ _ s1 W h)
  rw [e2] at TU
  have TS : Hid (∀ W, RI W (w.heap.size + 1) (w.heap.size + 1 + 1) s2 → Calls Tryz.prog 57 #[.pointer (some ⟨w.heap.size + 1, 0, none⟩), .int .i64 4] W (RetJP (w.heap.size + 1) (w.heap.size + 1 + 1) W (rGetSet 4 s2).1 (rGetSet 4 s2).2)) := hide (fun W h => procsI_s _ _ 4 s2 W h (by omega))
  rw [e3] at TS
  have TC : Hid (∀ W, RI W (w.heap.size + 1) (w.heap.size + 1 + 1) s3 → Calls Tryz.prog 57 #[.pointer (some ⟨w.heap.size + 1, 0, none⟩), .int .i64 6] W (RetJP (w.heap.size + 1) (w.heap.size + 1 + 1) W (rGetSet 6 s3).1 (rGetSet 6 s3).2)) := hide (fun W h => procsI_s _ _ 6 s3 W h (by omega))
  rw [e4] at TC
  simp only at TP TU TS TC
  have HE5 := hide e5
  generalize hres : (if kk ≠ 6 then none else finP ⟨pn, pi, rd, none, 0, l1, none, 0, l2, none, 0, us⟩ s5) = res
  have HRES := hide hres
  have HNN := hide hnn
  have HRD := hide hrd
  clear hres hr hu hR0 e1 e2 e3 e4 e5 hok hcp hcm hn hnn hrd
  go_enter Tryz.func20, Tryz.ntmps20
  go_wp2_with fail
  with_reducible refine T0.out.mono ?_
  rintro e w1 ⟨rfl, hR1, hG1⟩
  haveI : StpG _ _ w1 := ⟨hG1⟩
  haveI : Rdg w1 (w.heap.size + 1) (w.heap.size + 1 + 1) s := ⟨hR1⟩
  haveI : LeN (w.heap.size + 1 + 1) w1.heap.size := ⟨hR1.le⟩
  haveI : LtN (w.heap.size + 1) w1.heap.size := ⟨hR1.le⟩
  haveI : LtN w.heap.size w1.heap.size := ⟨by have := hR1.le; omega⟩
  haveI : LeN w.heap.size w1.heap.size := ⟨by have := hR1.le; omega⟩
  clear hR1 hG1 T0
  go_wp2_with fail
  with_reducible refine (TP.out _ Rdg.h).mono ?_
  rintro e w2 ⟨rfl, hR2, hG2⟩
  haveI : StpG _ _ w2 := ⟨hG2⟩
  haveI : Rdg w2 (w.heap.size + 1) (w.heap.size + 1 + 1) s1 := ⟨hR2⟩
  clear hR2 hG2 TP
  go_wp2_with fail
  with_reducible refine (TU.out _ Rdg.h).mono ?_
  rintro e w3 ⟨rfl, hR3, hG3⟩
  haveI : StpG _ _ w3 := ⟨hG3⟩
  haveI : Rdg w3 (w.heap.size + 1) (w.heap.size + 1 + 1) s2 := ⟨hR3⟩
  clear hR3 hG3 TU
  go_wp2_with fail
  with_reducible refine (TS.out _ Rdg.h).mono ?_
  rintro e w4 ⟨v4, rfl, ho4, hR4, hG4⟩
  haveI : StpG _ _ w4 := ⟨hG4⟩
  haveI : Rdg w4 (w.heap.size + 1) (w.heap.size + 1 + 1) s3 := ⟨hR4⟩
  obtain ⟨A4, c4, rfl, _, _⟩ := own_slice ho4
  have HO4 := hide (own_base ho4 (BoxAt.lt (n := w1.heap.size) inferInstance))
  clear hR4 hG4 TS ho4
  go_wp2_with fail
  with_reducible refine (TC.out _ Rdg.h).mono ?_
  rintro e w5 ⟨v5, rfl, ho5, hR5, hG5⟩
  haveI : StpG _ _ w5 := ⟨hG5⟩
  haveI : Rdg w5 (w.heap.size + 1) (w.heap.size + 1 + 1) s4 := ⟨hR5⟩
  obtain ⟨A5, c5, rfl, _, _⟩ := own_slice ho5
  have HO5 := hide (own_base ho5 (BoxAt.lt (n := w1.heap.size) inferInstance))
  have hM0 : w1.heap.size + 1 ≤ w5.heap.size := BoxAt.lt (n := w1.heap.size) inferInstance
  haveI : LtN w1.heap.size w5.heap.size := ⟨hM0⟩
  have hle1 : w.heap.size + 1 + 1 ≤ w1.heap.size := LeN.h
  haveI : LtN (w.heap.size + 1) w5.heap.size := ⟨by omega⟩
  haveI : LtN w.heap.size w5.heap.size := ⟨by omega⟩
  haveI : LeN w.heap.size w5.heap.size := ⟨by omega⟩
  haveI : LeN (w.heap.size + 1 + 1) w5.heap.size := ⟨by omega⟩
  clear hR5 hG5 TC ho5
  have D0 : D9 w w1.heap.size w5.heap.size ⟨pn, pi, rd, A4, c4, l1, A5, c5, l2, none, 0, []⟩ s4 (w5.setCell ⟨w1.heap.size, 4, none⟩ (.slice A5 l2.length c5)) := by
    exact ⟨inferInstance, (inferInstance : BoxAt _ w1.heap.size _ _), Rdg.h, Own2.of (own_kp HO4.out) (by simp [World.setCell]), Own2.of (own_kp HO5.out) (by simp [World.setCell]), World.ownsRow_nil _ _ _ _, blw, by simp [World.setCell]⟩
  have HD := hide D0
  clear D0 HO4 HO5
  go_wp2
  go_loopw [7] (fun j wr => ∃ (m : Nat) (UA : Option Addr) (uc : Nat) (L : List Int) (sk : RS), m ≤ l2.length ∧ j = .int .i64 m ∧ L.length = m ∧ rUints l2.length s4 [] = rUints (l2.length - m) sk L ∧ D9 w w1.heap.size w5.heap.size ⟨pn, pi, rd, A4, c4, l1, A5, c5, l2, UA, uc, L⟩ sk wr) (fun j _ => l2.length - (intOf j).toNat)
  case atStart => exact ⟨0, none, 0, [], s4, Nat.zero_le _, rfl, rfl, by rw [Nat.sub_zero], HD.out⟩
  case round =>
    obtain ⟨m, UA, uc, L, sk, hm, rfl, hLm, hrun, V⟩ := hrel
    have HRUN := hide hrun
    have HL := hide hLm
    haveI := V.k0
    haveI : BoxAt wr w1.heap.size #[.int .i64 pn, .int .u64 pi, .int .u64 rd, .slice A4 l1.length c4, .slice A5 l2.length c5, .slice UA L.length uc] 43 := V.kn
    haveI : Rdg wr (w.heap.size + 1) (w.heap.size + 1 + 1) sk := ⟨V.rd⟩
    haveI : Blw w wr := ⟨V.hB⟩
    haveI : Kp2 (w1.heap.size + 1) w5.heap.size wr wr := Kp2.rf V.hM
    have HOU := hide V.ou
    have HOS := hide V.os
    have HOC := hide V.oc
    have hMr := V.hM
    have hll : L.length ≤ 6 := by omega
    clear hrun hLm HD V
    by_cases hlt : m < l2.length
    · have T7 := hide (fun W (hW : RI W (w.heap.size + 1) (w.heap.size + 1 + 1) sk) => uintI_s _ _ sk W hW)
      have hstep : Hid (rUints (l2.length - m) sk L = rUints (l2.length - (m + 1)) (rUint sk).2 (L ++ [(rUint sk).1])) := by
        rw [show l2.length - m = (l2.length - (m + 1)) + 1 by omega, rUints]; exact hide rfl
      generalize rUint sk = r4 at T7 hstep
      obtain ⟨x, s6⟩ := r4
      simp only at T7 hstep
      go_wp2_with fail
      with_reducible refine (T7.out _ Rdg.h).mono ?_
      rintro e w3 ⟨rfl, hR3, hG3⟩
      haveI : StpG _ _ w3 := ⟨hG3⟩
      haveI : Rdg w3 (w.heap.size + 1) (w.heap.size + 1 + 1) s6 := ⟨hR3⟩
      have hz3 := hG3.size
      have HO3 : Hid (w3.ownsRow w5.heap.size 22 1 (.slice UA L.length uc) L.length (ucs L)) := hide (own_kp HOU.out)
      clear hR3 hG3 T7
      go_wp2_with (at_builtin; refine wpList_append_w Tryz.okU rfl (.tmp 30) (.tmp 32) rfl w5.heap.size (.slice UA L.length uc) L.length (ucs L) 1 (ucs [x]) ?_ ?_ ?_ ?_ ?_ ?_ ?_ ?_; go_must ((focus (first | rfl | (simp [Act.eval, Act.put]; done))); (focus (exact own_kp HO3.out)); (focus (refine ⟨_, _, rfl, ?_⟩; exact reads_u1x _ _ _)); (focus (exact uc_one _)); (focus (unfold maxLen; omega)); (focus omega); (focus (first | exact BoxAt.lt (n := w.heap.size) inferInstance | omega | (simp; done) | (simp; omega))); intro v7 w7 ho7 hg7; haveI : StpB w5.heap.size _ w7 := ⟨grown_belowB hg7 (by simp; omega) (fun k hk => (HO3.out.lt k hk).1)⟩; have O7 := hide ho7; have hz7 := hg7.size; simp at hz7; obtain ⟨A7, c7, rfl, _, _⟩ := own_slice ho7; clear ho7 hg7))
      go_wp2
      go_roundw
      case rel =>
        have O8 : (w7.setCell ⟨w1.heap.size, 5, none⟩ (.slice A7 (L.length + 1) c7)).ownsRow w5.heap.size 22 1 (.slice A7 (L.length + 1) c7) (L.length + 1) (ucs L ++ ucs [x]) := own_kp O7.out
        have D8 : D9 w w1.heap.size w5.heap.size ⟨pn, pi, rd, A4, c4, l1, A5, c5, l2, A7, c7, L ++ [x]⟩ s6 (w7.setCell ⟨w1.heap.size, 5, none⟩ (.slice A7 (L.length + 1) c7)) := by
          refine ⟨inferInstance, ?_, Rdg.h, HOS.out.tc, HOC.out.tc, ?_, blw, by simp [World.setCell]; omega⟩
          · have k9 : BoxAt (w7.setCell ⟨w1.heap.size, 5, none⟩ (.slice A7 (L.length + 1) c7)) w1.heap.size _ _ := inferInstance
            refine ⟨k9.eq.trans ?_⟩
            simp [Pp.cls]
          · simp only [List.length_append, List.length_singleton]; rw [ucs_app]; exact O8
        exact ⟨m + 1, A7, c7, L ++ [x], s6, by omega, by go_num, by have := HL.out; simp; omega, HRUN.out.trans hstep.out, D8⟩
      case measure => simp [intOf]; omega
    · obtain rfl : m = l2.length := by omega
      have hus : (L, sk) = (us, s5) := by
        have := HRUN.out
        rw [HE5.out, Nat.sub_self, rUints] at this
        exact this.symm
      injection hus with hus1 hus2
      subst hus1 hus2
      obtain ⟨bs4, bad4⟩ := sk
      have T6 := hide (fun W (h : Pp.Ok W ⟨pn, pi, rd, A4, c4, l1, A5, c5, l2, UA, uc, L⟩) => refPMay_s ⟨pn, pi, rd, A4, c4, l1, A5, c5, l2, UA, uc, L⟩ W h HNN.out HRD.out)
      have HM : Hid (Pp.mayB ⟨pn, pi, rd, A4, c4, l1, A5, c5, l2, UA, uc, L⟩ = Pp.mayB ⟨pn, pi, rd, none, 0, l1, none, 0, l2, none, 0, L⟩) := hide rfl
      unfold Pp.v at T6
      simp only at T6
      have hok6 : Pp.Ok wr ⟨pn, pi, rd, A4, c4, l1, A5, c5, l2, UA, uc, L⟩ := ⟨Reads.of_own HOS.out.h, by show l1.length ≤ 1000000; omega, Reads.of_own HOC.out.h, by show l2.length ≤ 1000000; omega, Reads.of_own HOU.out, by show L.length ≤ 1000000; omega⟩
      have HOK := hide hok6
      clear hok6
      by_cases hk : kk = 6
      · subst hk
        have HR2 : Hid (res = finP ⟨pn, pi, rd, none, 0, l1, none, 0, l2, none, 0, L⟩ (bs4, bad4)) := hide (by rw [← HRES.out, if_neg (by simp)])
        cases bad4 with
        | true =>
          have HF : Hid (finP ⟨pn, pi, rd, none, 0, l1, none, 0, l2, none, 0, L⟩ (bs4, true) = none) := hide (if_pos (.inl rfl))
          obtain ⟨vB, kB⟩ := RI.box (Rdg.h (W := wr) (g := w.heap.size + 1) (s := (bs4, true)))
          haveI := kB
          go_wp2
          refine bodyPost_ret (v := .tuple #[.agg zsP, .int .i64 3]) (by simp [results, Tryz.results20, go_sem]) rfl ?_
          rw [HR2.out, HF.out]
          exact RetDecP.no blw
        | false =>
          obtain ⟨AB, cB, kB⟩ := RI.boxN (Rdg.h (W := wr) (g := w.heap.size + 1) (s := (bs4, false)))
          haveI := kB
          have hbl := RI.len (Rdg.h (W := wr) (g := w.heap.size + 1) (s := (bs4, false))) rfl
          simp only at hbl
          by_cases hb0 : 0 < bs4.length
          · have HF : Hid (finP ⟨pn, pi, rd, none, 0, l1, none, 0, l2, none, 0, L⟩ (bs4, false) = none) := hide (if_pos (.inr hb0))
            have hd : decide ((0 : Int) < (bs4.length : Int)) = true := decide_eq_true (by omega)
            have hd2 : decide (0 < bs4.length) = true := decide_eq_true hb0
            go_wp2
            refine bodyPost_ret (v := .tuple #[.agg zsP, .int .i64 3]) (by simp [results, Tryz.results20, go_sem]) rfl ?_
            rw [HR2.out, HF.out]
            exact RetDecP.no blw
          · have hd : decide ((0 : Int) < (bs4.length : Int)) = false := decide_eq_false (by omega)
            have hd2 : decide (0 < bs4.length) = false := decide_eq_false hb0
            cases hm6 : Pp.mayB ⟨pn, pi, rd, A4, c4, l1, A5, c5, l2, UA, uc, L⟩ with
            | false =>
              have HF : Hid (finP ⟨pn, pi, rd, none, 0, l1, none, 0, l2, none, 0, L⟩ (bs4, false) = none) := hide ((if_neg (fun h => h.elim (fun e => by cases e) (fun e => hb0 e))).trans (if_pos (HM.out.symm.trans hm6)))
              rw [hm6] at T6
              clear hm6
              go_wp2_with fail
              (with_reducible refine (T6.out _ HOK.out).mono ?_)
              rintro e w7 ⟨rfl, hb7⟩
              haveI : Stp _ w7 := ⟨hb7⟩
              clear hb7
              go_wp2
              refine bodyPost_ret (v := .tuple #[.agg zsP, .int .i64 3]) (by simp [results, Tryz.results20, go_sem]) rfl ?_
              rw [HR2.out, HF.out]
              exact RetDecP.no blw
            | true =>
              have HF : Hid (finP ⟨pn, pi, rd, none, 0, l1, none, 0, l2, none, 0, L⟩ (bs4, false) = some ⟨pn, pi, rd, none, 0, l1, none, 0, l2, none, 0, L⟩) := hide ((if_neg (fun h => h.elim (fun e => by cases e) (fun e => hb0 e))).trans (if_neg (by rw [← HM.out, hm6]; simp)))
              rw [hm6] at T6
              clear hm6
              go_wp2_with fail
              (with_reducible refine (T6.out _ HOK.out).mono ?_)
              rintro e w7 ⟨rfl, hb7⟩
              haveI : Stp _ w7 := ⟨hb7⟩
              clear hb7
              go_wp2
              refine bodyPost_ret (v := .tuple #[PpV pn pi rd A4 l1.length c4 A5 l2.length c5 UA L.length uc, .int .i64 0]) (by simp [results, Tryz.results20, go_sem]) rfl ?_
              rw [HR2.out, HF.out]
              exact ⟨A4, c4, A5, c5, UA, uc, rfl, ⟨Reads.of_own HOS.out.tc.h, HOK.out.sl, Reads.of_own HOC.out.tc.h, HOK.out.cl, Reads.of_own (own_kp HOU.out), HOK.out.ul⟩, blw⟩
      · have HR2 : Hid (res = none) := hide (by rw [← HRES.out, if_pos hk])
        have hk6 : (kk != 6) = true := by simpa using hk
        have HF : Hid ((none : Option Pp) = none) := hide rfl
        clear hk
        go_wp2
        refine bodyPost_ret (v := .tuple #[.agg zsP, .int .i64 3]) (by simp [results, Tryz.results20, go_sem]) rfl ?_
        rw [HR2.out]
        exact RetDecP.no blw
theorem rpdecode_s (A : Option Addr) (c : Nat) (bs : List Int) (w : World) (hr : Reads w w.heap.size 1 A bs.length (bcs bs)) (hn : bs.length ≤ 1000000) (hok : bOK bs) (hcp : bs.length ≤ c) (hcm : c ≤ 9223372036854775807) :
    Calls Tryz.prog 20 #[.slice A bs.length c] w (RetDecP w (decP bs)) := by
  unfold decP rPp
  generalize hu : rU8 (bs, false) = a
  obtain ⟨k, s⟩ := a
  simp only
  have m1 := rGetSet_most 4 (rUint (rGet s).2).2
  have m2 := rGetSet_most 6 (rGetSet 4 (rUint (rGet s).2).2).2
  exact rpdec A c bs w hr hn hok hcp hcm k s _ _ _ _ _ _ _ _ _ _ _ hu rfl rfl rfl rfl rfl m1 m2 ⟨rGetSet_nonneg 4 _, rGetSet_nonneg 6 _⟩ (rUint_nonneg _)
end Go.Proofs.YtdmjopokclljlaaGreat
