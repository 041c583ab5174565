/-
  The reference of layer 6: contract: Read.
-/
import Derived.Test.YtggmninbpnolgaaGreatRd6
namespace Go.Proofs.YtggmninbpnolgaaGreat
set_option linter.unusedSimpArgs false
set_option linter.unusedVariables false
set_option linter.unusedSectionVars false
open Go.RowKit

/-- while heads are read -/
structure D6 (w : World) (g nb M : Nat) (k n i hp : Int) (L : List Hd) (HA : Option Addr) (hcp : Nat) (s : RS) (W : World) : Prop where
  k0 : BoxAt W w.heap.size #[.int .i64 0, .int .i64 0, .int .u64 0, .int .i64 0, .slice none 0 0, .slice none 0 0, .int .i64 0, .int .u64 0, .int .u64 0, .slice none 0 0] 31
  kn : BoxAt W nb (csK k n i hp HA L.length hcp none 0 0 0 0 0 none 0 0) 31
  rd : RI W g (g + 1) s
  oh : W.ownsRow M 46 4 (.slice HA L.length hcp) L.length (hcs L)
  hB : Below w.heap.size w W
  hM : M ≤ W.heap.size
set_option maxRecDepth 100000 in
set_option maxHeartbeats 4000000 in
theorem rread2 (A : Option Addr) (c : Nat) (bs : List Int) (w : World) (hr : Reads w w.heap.size 1 A bs.length (bcs bs)) (hn : bs.length ≤ 900000) (hok : bOK bs) (s s1 s2 s3 s4 s5 : RS) (pn pi hp : Int) (cnt : Nat) (L0 : List Hd) (tx : List Int) (hu : rU8 (bs, false) = (2, s)) (e1 : rGet s = ((pn, pi), s1)) (e2 : rU8 s1 = (hp, s2)) (e3 : rU8 s2 = ((cnt : Int), s3)) (hcnt : cnt ≤ 255) (e4 : rHq false cnt s3 [] = (L0, s4)) (e5 : rTxI 320 s4 = (tx, s5)) (htx : tx.length ≤ 320) (hLl : L0.length ≤ 255) (hF : s5.2 = false → PkF ⟨2, pn, pi, hp, L0, tx, 0, 0, 0, []⟩) :
    Calls Tryz.prog 13 #[.slice A bs.length c] w (RetKd w (finR ⟨2, pn, pi, hp, L0, tx, 0, 0, 0, []⟩ s5 bs)) := by
  have HFX := hide hF
  obtain ⟨sx, hsx⟩ : ∃ sx, sx = s5 := ⟨_, rfl⟩
  rw [← hsx] at HFX e5 ⊢
  clear hF
  have TP := hide (fun (g : Nat) W (h : RI W g (g + 1) s) => procI_s _ _ s W h)
  rw [e1] at TP
  have TH := hide (fun (g : Nat) W (h : RI W g (g + 1) s1) => u8I_s _ _ s1 W h)
  rw [e2] at TH
  have TN := hide (fun (g : Nat) W (h : RI W g (g + 1) s2) => u8I_s _ _ s2 W h)
  rw [e3] at TN
  simp only at TP TH TN
  have HE4 := hide e4
  have TX : Hid (∀ (g : Nat) W, RI W g (g + 1) s4 → Calls Tryz.prog 38 #[.pointer (some ⟨g, 0, none⟩), .int .i64 320] W (RetJB g (g + 1) W (rTxI 320 s4).1 (rTxI 320 s4).2)) := hide (fun g W h => textI_s _ _ 320 s4 W h (by omega))
  rw [e5] at TX
  simp only at TX
  have HE5 := hide e5
  clear e5
  clear e1 e2 e3 e4 hsx
  haveI : Src w A bs.length 1 (bcs bs) := ⟨hr⟩
  have hun : ∀ b, (some undef = some (Value.bool b)) = False := fun b => by simp [undef]
  have HOKB := hide hok
  clear hr
  go_enter Tryz.func13, Tryz.ntmps13
  go_wp2_with (at_builtin; refine wpList_append_w Tryz.okB rfl (.tmp 9) (.tmp 10) rfl (w.heap.size + 1) (.slice (some ⟨w.heap.size + 1, 0, none⟩) 0 0) 0 [] bs.length (bcs bs) ?_ ?_ ?_ ?_ ?_ ?_ ?_ ?_; go_must ((focus (first | rfl | (simp [Act.eval, Act.put]; done))); (focus (exact own_emI _ (w.heap.size + 1) (by simp))); (focus (refine ⟨_, _, rfl, ?_⟩; exact src)); (focus (exact bcs_one _)); (focus (unfold maxLen; omega)); (focus omega); (focus (first | omega | (simp; done) | (simp; omega) | exact BoxAt.lt (n := w.heap.size) inferInstance)); intro v1 w1 ho1 hg1; rw [Nat.zero_add, List.nil_append] at ho1; haveI : StpB (w.heap.size + 1) _ w1 := ⟨grown_belowT hg1 (by simp) (fun k hk => by have e : w.heap.size + 1 = k := Option.some.inj hk; omega)⟩; obtain ⟨A1, c1, rfl, hca, hcb⟩ := own_slice ho1; have O1 := hide ho1; clear ho1 hg1))
  have z1 : w.heap.size < w1.heap.size := BoxAt.lt (n := w.heap.size) inferInstance
  haveI : LtN w.heap.size w1.heap.size := ⟨z1⟩
  haveI : LeN w.heap.size w1.heap.size := ⟨by omega⟩
  have hR0 : RI (w1.alloc (.cells #[.slice A1 bs.length c1, .bool false] 73)) w1.heap.size (w1.heap.size + 1) (bs, false) := by
    have pg := boxTop w1 #[.slice A1 bs.length c1, .bool false] 73
    refine ⟨bs, A1, c1, ⟨pg.eq, fun hl => ?_, hca, by unfold maxLen at hcb; omega, HOKB.out, by omega, by simp⟩, fun _ => rfl, by omega⟩
    obtain ⟨b, off, e, h1, h2⟩ := (Reads.of_own O1.out).2 hl
    exact ⟨b, off, e, by omega, by omega, fun j u hu => ((below_alloc w1 _).cell (p := ⟨b, off + j, none⟩) h1).trans (h2 j u hu)⟩
  have T0 := hide (u8I_s _ _ _ _ hR0)
  rw [hu] at T0
  simp only at T0
  clear hR0 O1 hca hcb
  (with_reducible refine T0.out.mono ?_)
  rintro e w2 ⟨rfl, hR2, hG2⟩
  haveI : StpG _ _ w2 := ⟨hG2⟩
  haveI : Rdg w2 w1.heap.size (w1.heap.size + 1) s := ⟨hR2⟩
  have hz2 := hR2.le
  haveI : LeN (w1.heap.size + 1) w2.heap.size := ⟨hz2⟩
  haveI : LtN w1.heap.size w2.heap.size := ⟨hz2⟩
  haveI : LtN w.heap.size w2.heap.size := ⟨by omega⟩
  haveI : LeN w.heap.size w2.heap.size := ⟨by omega⟩
  clear hR2 hG2 T0
  go_wp2_with fail
  (with_reducible refine (TP.out _ _ Rdg.h).mono ?_)
  rintro e w3 ⟨rfl, hR, hG⟩
  haveI : StpG _ _ w3 := ⟨hG⟩
  haveI : Rdg w3 w1.heap.size (w1.heap.size + 1) s1 := ⟨hR⟩
  clear hR hG TP
  go_wp2_with fail
  (with_reducible refine (TH.out _ _ Rdg.h).mono ?_)
  rintro e w4 ⟨rfl, hR, hG⟩
  haveI : StpG _ _ w4 := ⟨hG⟩
  haveI : Rdg w4 w1.heap.size (w1.heap.size + 1) s2 := ⟨hR⟩
  clear hR hG TH
  go_wp2_with fail
  (with_reducible refine (TN.out _ _ Rdg.h).mono ?_)
  rintro e w5 ⟨rfl, hR, hG⟩
  haveI : StpG _ _ w5 := ⟨hG⟩
  haveI : Rdg w5 w1.heap.size (w1.heap.size + 1) s3 := ⟨hR⟩
  clear hR hG TN
  have z5 : w2.heap.size < w5.heap.size := BoxAt.lt (n := w2.heap.size) inferInstance
  haveI : LtN w2.heap.size w5.heap.size := ⟨z5⟩
  haveI : LtN w1.heap.size w5.heap.size := ⟨by omega⟩
  haveI : LeN (w1.heap.size + 1) w5.heap.size := ⟨by omega⟩
  haveI : LtN w.heap.size w5.heap.size := ⟨by omega⟩
  haveI : LeN w.heap.size w5.heap.size := ⟨by omega⟩
  have D0 : D6 w w1.heap.size w2.heap.size w5.heap.size 2 pn pi hp [] none 0 s3 w5 := ⟨inferInstance, (inferInstance : BoxAt _ w2.heap.size _ _), Rdg.h, World.ownsRow_nil _ _ _ _, blw, Nat.le_refl _⟩
  have HD := hide D0
  clear D0
  go_wp2
  go_loopw [7] (fun j wr => ∃ (m : Nat) (HA : Option Addr) (hcp : Nat) (L : List Hd) (sk : RS), m ≤ cnt ∧ j = .int .i64 m ∧ L.length = m ∧ rHq false cnt s3 [] = rHq false (cnt - m) sk L ∧ D6 w w1.heap.size w2.heap.size w5.heap.size 2 pn pi hp L HA hcp sk wr) (fun j _ => cnt - (intOf j).toNat)
  case atStart => exact ⟨0, none, 0, [], s3, Nat.zero_le _, rfl, rfl, by rw [Nat.sub_zero], HD.out⟩
  case round =>
    obtain ⟨m, HA, hcp, L, ⟨lk, bk⟩, hm, rfl, hLm, hrun, V⟩ := hrel
    have HRUN := hide hrun
    have HL := hide hLm
    haveI := V.k0
    haveI : BoxAt wr w2.heap.size (csK 2 pn pi hp HA L.length hcp none 0 0 0 0 0 none 0 0) 31 := V.kn
    haveI : Rdg wr w1.heap.size (w1.heap.size + 1) (lk, bk) := ⟨V.rd⟩
    haveI : Blw w wr := ⟨V.hB⟩
    have HOL := hide V.oh
    have hMr := V.hM
    have hll : L.length ≤ 255 := by omega
    obtain ⟨vB, kB⟩ := RI.box V.rd
    simp only at kB
    haveI := kB
    clear hrun hLm HD V
    by_cases hlt : m < cnt
    · have i1 : (m : Int) < (cnt : Int) := by omega
      cases bk
      · have T6 := hide (fun W (hW : RI W w1.heap.size (w1.heap.size + 1) (lk, false)) => u8I_s w1.heap.size _ (lk, false) W hW)
        have hst : Hid (rHq false (cnt - m) (lk, false) L = rHq false (cnt - (m + 1)) (rHd false (lk, false)).2 (L ++ [(rHd false (lk, false)).1])) := hide (by rw [show cnt - m = (cnt - (m + 1)) + 1 by omega, rHq, if_neg (by simp)])
        unfold rHd at hst
        simp only [Bool.false_eq_true, if_false, if_true] at hst
        generalize rU8 (lk, false) = r6 at T6 hst
        obtain ⟨x6, s6⟩ := r6
        simp only at T6 hst
        have T7 := hide (fun W (hW : RI W w1.heap.size (w1.heap.size + 1) s6) => uintI_s w1.heap.size _ s6 W hW)
        generalize rUint s6 = r7 at T7 hst
        obtain ⟨x7, s17⟩ := r7
        simp only at T7 hst
        have T8 := hide (fun W (hW : RI W w1.heap.size (w1.heap.size + 1) s17) => uintI_s w1.heap.size _ s17 W hW)
        generalize rUint s17 = r8 at T8 hst
        obtain ⟨x8, s18⟩ := r8
        simp only at T8 hst
        go_wp2_with fail
        (with_reducible refine (T6.out _ Rdg.h).mono ?_)
        rintro e w6 ⟨rfl, hR, hG⟩
        haveI : StpG _ _ w6 := ⟨hG⟩
        haveI : Rdg w6 w1.heap.size (w1.heap.size + 1) s6 := ⟨hR⟩
        have z6 : wr.heap.size ≤ w6.heap.size := hG.size
        haveI : LeN wr.heap.size w6.heap.size := ⟨z6⟩
        haveI : LtN w2.heap.size w6.heap.size := ⟨by omega⟩
        haveI : LtN w1.heap.size w6.heap.size := ⟨by omega⟩
        haveI : LeN (w1.heap.size + 1) w6.heap.size := ⟨by omega⟩
        haveI : LtN w.heap.size w6.heap.size := ⟨by omega⟩
        haveI : LeN w.heap.size w6.heap.size := ⟨by omega⟩
        clear hR hG T6
        go_wp2_with fail
        (with_reducible refine (T7.out _ Rdg.h).mono ?_)
        rintro e w7 ⟨rfl, hR, hG⟩
        haveI : StpG _ _ w7 := ⟨hG⟩
        haveI : Rdg w7 w1.heap.size (w1.heap.size + 1) s17 := ⟨hR⟩
        clear hR hG T7
        go_wp2_with fail
        (with_reducible refine (T8.out _ Rdg.h).mono ?_)
        rintro e w8 ⟨rfl, hR, hG⟩
        haveI : StpG _ _ w8 := ⟨hG⟩
        haveI : Rdg w8 w1.heap.size (w1.heap.size + 1) s18 := ⟨hR⟩
        clear hR hG T8
        have z9 : w6.heap.size < w8.heap.size := BoxAt.lt (n := w6.heap.size) inferInstance
        go_wp2_with (at_builtin; refine wpList_append_w Tryz.okHd rfl (.tmp 68) (.tmp 70) rfl w5.heap.size (.slice HA L.length hcp) L.length (hcs L) 1 (hcs [⟨x6, x7, x8, 0⟩]) ?_ ?_ ?_ ?_ ?_ ?_ ?_ ?_; go_must ((focus (first | rfl | (simp [Act.eval, Act.put]; done))); (focus (exact own_kp HOL.out)); (focus (refine ⟨_, _, rfl, ?_⟩; exact reads_h1x _ _ ⟨x6, x7, x8, 0⟩)); (focus (exact hc_one _)); (focus (unfold maxLen; omega)); (focus omega); (focus (first | omega | (simp; done) | (simp; omega) | exact BoxAt.lt (n := w.heap.size) inferInstance)); intro v10 w10 ho10 hg10; haveI : StpB w5.heap.size _ w10 := ⟨grown_belowT hg10 (by simp [World.setCell]; omega) (fun q hq => (HOL.out.lt q hq).1)⟩; have O10 := hide ho10; have z10 := hg10.size; simp [World.setCell] at z10; obtain ⟨A10, c10, rfl, _, _⟩ := own_slice ho10; clear ho10 hg10))
        go_wp2
        go_roundw
        case rel =>
          have O11 : (w10.setCell ⟨w2.heap.size, 4, none⟩ (.slice A10 (L.length + 1) c10)).ownsRow w5.heap.size 46 4 (.slice A10 (L.length + 1) c10) (L.length + 1) (hcs L ++ hcs [⟨x6, x7, x8, 0⟩]) := own_kp O10.out
          have D8 : D6 w w1.heap.size w2.heap.size w5.heap.size 2 pn pi hp (L ++ [⟨x6, x7, x8, 0⟩]) A10 c10 s18 (w10.setCell ⟨w2.heap.size, 4, none⟩ (.slice A10 (L.length + 1) c10)) := by
            refine ⟨inferInstance, ?_, Rdg.h, ?_, blw, by simp [World.setCell]; omega⟩
            · have k9 : BoxAt (w10.setCell ⟨w2.heap.size, 4, none⟩ (.slice A10 (L.length + 1) c10)) w2.heap.size _ _ := inferInstance
              refine ⟨k9.eq.trans ?_⟩
              simp
            · simp only [List.length_append, List.length_singleton]; rw [hcs_app]; exact O11
          exact ⟨m + 1, A10, c10, L ++ [⟨x6, x7, x8, 0⟩], s18, by omega, by go_num, by have := HL.out; simp; omega, HRUN.out.trans hst.out, D8⟩
        case measure => simp [intOf]; omega
      · have hfin : (L, ((lk, true) : RS)) = (L0, s4) := by
          have := HRUN.out
          rw [HE4.out, show cnt - m = (cnt - (m + 1)) + 1 by omega, rHq, if_pos rfl] at this
          exact this.symm
        injection hfin with hf1 hf2
        subst hf1
        have hbx : sx.2 = true := by
          have := HE5.out
          rw [← hf2] at this
          unfold rTxI at this
          rw [rUint_bad] at this
          simp at this
          rw [← this.2]
        subst hf2
        have HF : Hid (finR ⟨2, pn, pi, hp, L, tx, 0, 0, 0, []⟩ sx bs = none) := hide (if_pos hbx)
        go_wp2_with fail
        (with_reducible refine (TX.out _ _ Rdg.h).mono ?_)
        rintro e w7 ⟨v7, rfl, ho7, hR, hG⟩
        haveI : StpG _ _ w7 := ⟨hG⟩
        haveI : Rdg w7 w1.heap.size (w1.heap.size + 1) sx := ⟨hR⟩
        obtain ⟨A7, c7, rfl, _, _⟩ := own_slice ho7
        have HOT : Hid (w7.ownsRow w5.heap.size 5 1 (.slice A7 tx.length c7) tx.length (bcs tx)) := hide (own_base ho7 hMr)
        clear hR hG TX ho7
        obtain ⟨lx, bad⟩ := sx
        simp only at hbx
        subst hbx
        obtain ⟨vB', kB'⟩ := RI.box (Rdg.h (W := w7) (g := w1.heap.size) (s := (lx, true)))
        simp only at kB'
        clear kB
        haveI := kB'
        go_wp2_with fail
        (refine wp_region_gw (by kernel_rfl) (by kernel_rfl) ?_; (repeat (go_big_quiet_step ((fail)))); refine wpQuiet_nil ?_; intro _ hw'; obtain ⟨⟨dq, osq⟩, hw''⟩ := hw'; subst hw'')
        go_wp2
        refine bodyPost_ret (v := .tuple #[.agg #[.int .i64 0, .int .i64 0, .int .u64 0, .int .i64 0, .slice none 0 0, .slice none 0 0, .int .i64 0, .int .u64 0, .int .u64 0, .slice none 0 0], .bool false]) (by simp [results, Tryz.results13, go_sem]) rfl ?_
        rw [HF.out]
        exact RetKd.no blw
    · obtain rfl : m = cnt := by omega
      have hfin : (L, ((lk, bk) : RS)) = (L0, s4) := by
        have := HRUN.out
        rw [HE4.out, Nat.sub_self, rHq] at this
        exact this.symm
      injection hfin with hf1 hf2
      subst hf1
      clear kB
      subst hf2
      obtain ⟨vB2, kB2⟩ := RI.box (Rdg.h (W := wr) (g := w1.heap.size) (s := (lk, bk)))
      simp only at kB2
      haveI := kB2
      go_wp2_with fail
      (with_reducible refine (TX.out _ _ Rdg.h).mono ?_)
      rintro e w7 ⟨v7, rfl, ho7, hR, hG⟩
      haveI : StpG _ _ w7 := ⟨hG⟩
      haveI : Rdg w7 w1.heap.size (w1.heap.size + 1) sx := ⟨hR⟩
      obtain ⟨A7, c7, rfl, _, _⟩ := own_slice ho7
      have HOT : Hid (w7.ownsRow w5.heap.size 5 1 (.slice A7 tx.length c7) tx.length (bcs tx)) := hide (own_base ho7 hMr)
      clear hR hG TX ho7
      clear kB2
      obtain ⟨lx, bad⟩ := sx
      obtain ⟨vB, kB⟩ := RI.box (Rdg.h (W := w7) (g := w1.heap.size) (s := (lx, bad)))
      simp only at kB
      haveI := kB
      cases bad
      · have FX := HFX.out rfl
        have TM := hide (fun W HA hcp BA bcp PA pcp (h : PkIn W ⟨2, pn, pi, hp, L, tx, 0, 0, 0, []⟩ HA BA PA) => rmay_s ⟨2, pn, pi, hp, L, tx, 0, 0, 0, []⟩ HA hcp BA bcp PA pcp W h FX (by simp <;> omega))
        cases hm : Pk.mayB ⟨2, pn, pi, hp, L, tx, 0, 0, 0, []⟩
        · have HF : Hid (finR ⟨2, pn, pi, hp, L, tx, 0, 0, 0, []⟩ (lx, false) bs = none) := hide ((if_neg (by simp)).trans (if_pos hm))
          rw [hm] at TM
          simp only [Pk.at, List.length_nil] at TM
          clear hm FX
          go_wp2_with fail
          (refine wp_region_gw (by kernel_rfl) (by kernel_rfl) ?_; (repeat (go_big_quiet_step ((first | (go_at_call 9; with_reducible exact calls_gw (TM.out _ HA hcp A7 c7 none 0 (PkIn.snd (own_kp HOL.out) (Reads.of_own (own_kp HOT.out)) hLl (by omega)))) | fail)))); refine wpQuiet_nil ?_; intro _ hw'; obtain ⟨⟨dq, osq⟩, hw''⟩ := hw'; subst hw'')
          all_goals
            go_wp2
            refine bodyPost_ret (v := .tuple #[.agg #[.int .i64 0, .int .i64 0, .int .u64 0, .int .i64 0, .slice none 0 0, .slice none 0 0, .int .i64 0, .int .u64 0, .int .u64 0, .slice none 0 0], .bool false]) (by simp [results, Tryz.results13, go_sem]) rfl ?_
            rw [HF.out]
            exact RetKd.no blw
        · have TB := hide (fun W HA hcp BA bcp PA pcp (h : PkIn W ⟨2, pn, pi, hp, L, tx, 0, 0, 0, []⟩ HA BA PA) => refKBytes_s ⟨2, pn, pi, hp, L, tx, 0, 0, 0, []⟩ HA hcp BA bcp PA pcp W h FX hm)
          rw [hm] at TM
          have hfin : finR ⟨2, pn, pi, hp, L, tx, 0, 0, 0, []⟩ (lx, false) bs = if Pk.enc ⟨2, pn, pi, hp, L, tx, 0, 0, 0, []⟩ = bs then some ⟨2, pn, pi, hp, L, tx, 0, 0, 0, []⟩ else none := (if_neg (by simp)).trans (if_neg (by rw [hm]; simp))
          have hbk := Pk.enc_bOK FX hm
          obtain ⟨en, hen⟩ : ∃ en, en = Pk.enc ⟨2, pn, pi, hp, L, tx, 0, 0, 0, []⟩ := ⟨_, rfl⟩
          rw [← hen] at TB hfin hbk
          simp only [Pk.at, List.length_nil] at TM TB
          clear hm FX hen
          by_cases he : en = bs
          · have HF := hide (hfin.trans (if_pos he))
            subst he
            clear hfin
            go_wp2_with fail
            go_region_held (fun w' => w'.cell? ⟨w1.heap.size, 1, none⟩ = some (.bool false) ∧ w'.cell? ⟨w2.heap.size, 0, none⟩ = some (.int .i64 2) ∧ w'.cell? ⟨w2.heap.size, 1, none⟩ = some (.int .i64 pn) ∧ w'.cell? ⟨w2.heap.size, 2, none⟩ = some (.int .u64 pi) ∧ w'.cell? ⟨w2.heap.size, 3, none⟩ = some (.int .i64 hp) ∧ w'.cell? ⟨w2.heap.size, 4, none⟩ = some (.slice HA L.length hcp) ∧ w'.cell? ⟨w2.heap.size, 5, none⟩ = some (.slice A7 tx.length c7) ∧ w'.cell? ⟨w2.heap.size, 6, none⟩ = some (.int .i64 0) ∧ w'.cell? ⟨w2.heap.size, 7, none⟩ = some (.int .u64 0) ∧ w'.cell? ⟨w2.heap.size, 8, none⟩ = some (.int .u64 0) ∧ w'.cell? ⟨w2.heap.size, 9, none⟩ = some (.slice none 0 0)) ((refine ⟨?_, ?_, ?_, ?_, ?_, ?_, ?_, ?_, ?_, ?_, ?_⟩ <;> (rw [cell?_box]; rfl)))
              (first
                | (go_at_call 9; (with_reducible refine (TM.out _ HA hcp A7 c7 none 0 (PkIn.snd (own_kp HOL.out) (Reads.of_own (own_kp HOT.out)) hLl (by omega))).mono ?_); rintro e w17 ⟨rfl, hb17⟩; haveI : Stp _ w17 := ⟨hb17⟩)
                | (go_at_call 10; (with_reducible refine (TB.out _ HA hcp A7 c7 none 0 (PkIn.snd (own_kp HOL.out) (Reads.of_own (own_kp HOT.out)) hLl (by omega))).mono ?_); rintro e w18 ⟨v18, rfl, ho18, hb18⟩; haveI : Stp _ w18 := ⟨hb18⟩; obtain ⟨A18, c18, rfl, _, _⟩ := own_slice ho18; haveI : RdY w18 A18 en.length en := ⟨Reads.of_own ho18⟩)
                | fail)
            all_goals
              go_wp2
              refine bodyPost_ret (v := .tuple #[.agg #[.int .i64 2, .int .i64 pn, .int .u64 pi, .int .i64 hp, .slice HA L.length hcp, .slice A7 tx.length c7, .int .i64 0, .int .u64 0, .int .u64 0, .slice none 0 0], .bool true]) (by simp [results, Tryz.results13, go_sem]) rfl ?_
              rw [HF.out]
              exact ⟨HA, hcp, A7, c7, none, 0, rfl, (PkIn.snd (own_kp HOL.out) (Reads.of_own (own_kp HOT.out)) hLl (by omega)), blw⟩
          · have HF := hide (hfin.trans (if_neg he))
            have hne : ((strOfNums en).toList == (strOfNums bs).toList) = false := by rw [str_eq hbk HOKB.out, decide_eq_false he]
            clear hfin he
            go_wp2_with fail
            go_region_held (fun w' => w'.cell? ⟨w1.heap.size, 1, none⟩ = some (.bool false) ∧ w'.cell? ⟨w2.heap.size, 0, none⟩ = some (.int .i64 2) ∧ w'.cell? ⟨w2.heap.size, 1, none⟩ = some (.int .i64 pn) ∧ w'.cell? ⟨w2.heap.size, 2, none⟩ = some (.int .u64 pi) ∧ w'.cell? ⟨w2.heap.size, 3, none⟩ = some (.int .i64 hp) ∧ w'.cell? ⟨w2.heap.size, 4, none⟩ = some (.slice HA L.length hcp) ∧ w'.cell? ⟨w2.heap.size, 5, none⟩ = some (.slice A7 tx.length c7) ∧ w'.cell? ⟨w2.heap.size, 6, none⟩ = some (.int .i64 0) ∧ w'.cell? ⟨w2.heap.size, 7, none⟩ = some (.int .u64 0) ∧ w'.cell? ⟨w2.heap.size, 8, none⟩ = some (.int .u64 0) ∧ w'.cell? ⟨w2.heap.size, 9, none⟩ = some (.slice none 0 0)) ((refine ⟨?_, ?_, ?_, ?_, ?_, ?_, ?_, ?_, ?_, ?_, ?_⟩ <;> (rw [cell?_box]; rfl)))
              (first
                | (go_at_call 9; (with_reducible refine (TM.out _ HA hcp A7 c7 none 0 (PkIn.snd (own_kp HOL.out) (Reads.of_own (own_kp HOT.out)) hLl (by omega))).mono ?_); rintro e w17 ⟨rfl, hb17⟩; haveI : Stp _ w17 := ⟨hb17⟩)
                | (go_at_call 10; (with_reducible refine (TB.out _ HA hcp A7 c7 none 0 (PkIn.snd (own_kp HOL.out) (Reads.of_own (own_kp HOT.out)) hLl (by omega))).mono ?_); rintro e w18 ⟨v18, rfl, ho18, hb18⟩; haveI : Stp _ w18 := ⟨hb18⟩; obtain ⟨A18, c18, rfl, _, _⟩ := own_slice ho18; haveI : RdY w18 A18 en.length en := ⟨Reads.of_own ho18⟩)
                | fail)
            all_goals
              go_wp2
              refine bodyPost_ret (v := .tuple #[.agg #[.int .i64 0, .int .i64 0, .int .u64 0, .int .i64 0, .slice none 0 0, .slice none 0 0, .int .i64 0, .int .u64 0, .int .u64 0, .slice none 0 0], .bool false]) (by simp [results, Tryz.results13, go_sem]) rfl ?_
              rw [HF.out]
              exact RetKd.no blw
      · have HF : Hid (finR ⟨2, pn, pi, hp, L, tx, 0, 0, 0, []⟩ (lx, true) bs = none) := hide (if_pos rfl)
        go_wp2_with fail
        (refine wp_region_gw (by kernel_rfl) (by kernel_rfl) ?_; (repeat (go_big_quiet_step ((fail)))); refine wpQuiet_nil ?_; intro _ hw'; obtain ⟨⟨dq, osq⟩, hw''⟩ := hw'; subst hw'')
        all_goals
          go_wp2
          refine bodyPost_ret (v := .tuple #[.agg #[.int .i64 0, .int .i64 0, .int .u64 0, .int .i64 0, .slice none 0 0, .slice none 0 0, .int .i64 0, .int .u64 0, .int .u64 0, .slice none 0 0], .bool false]) (by simp [results, Tryz.results13, go_sem]) rfl ?_
          rw [HF.out]
          exact RetKd.no blw
end Go.Proofs.YtggmninbpnolgaaGreat
