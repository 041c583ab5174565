/-
  Layer 9: the law ProposalBack: true for every input.
-/
import Derived.Test.YtgpmcpinnaggmaaLP0
namespace Go.Proofs.Ytgpmcpinnaggmaa
set_option linter.unusedSimpArgs false
set_option linter.unusedVariables false
set_option linter.unusedSectionVars false
open Go.RowKit

set_option maxRecDepth 100000 in
set_option maxHeartbeats 4000000 in
theorem pbackAN (x : Pp) (BA : Option Addr) (bc : Nat) (bs : List Int) (w : World) (okx : x.Ok w) (wx : x.Wf) (hh : hvP x = false) (sb : Reads w w.heap.size 1 BA bs.length (bcs bs)) (hok : bOK bs) (hbl : bs.length ≤ 5000) (hm : x.mayB = true) (hd : decP bs = none) :
    Calls Try.prog 10 #[x.v, .slice BA bs.length bc] w (RetB w true) := by
  have TA := hide (fun W => awake9_t W)
  have TE := hide (fun W (h : x.Ok W) => pencode_f x W h (PpF.of wx) hm)
  have hel := penc_len x hm
  have TD : Hid (∀ A c W, Reads W W.heap.size 1 A x.enc.length (bcs x.enc) → Calls Try.prog 34 #[.slice A x.enc.length c] W (RetPp W x.bare 0)) := hide (fun A c W h => by
    have := pdecode_s A c x.enc W h (by omega) (penc_ok x (PpF.of wx))
    rw [decP_back x hm (PpF.of wx)] at this; exact this)
  have TS : Hid (∀ W S3 s3 C3 c3 U3 u3, Pp.Ok W (x.bare.at S3 s3 C3 c3 U3 u3) → x.Ok W → Calls Try.prog 29 #[x.v, (x.bare.at S3 s3 C3 c3 U3 u3).v] W (RetBp W true)) := hide (fun W S3 s3 C3 c3 U3 u3 h h' => by
    have := refPSame_s x (x.bare.at S3 s3 C3 c3 U3 u3) W h' h
    rw [show Pp.eqB x (x.bare.at S3 s3 C3 c3 U3 u3) = true by simp [Pp.eqB, Pp.bare, Pp.at, eqP]] at this; exact this)
  generalize x.enc = en at TE TD hel
  obtain ⟨hel1, hel0⟩ := hel
  have hel2 : decide ((320 : Int) < (en.length : Int)) = false := decide_eq_false (by omega)
  have TD2 : Hid (∀ W, Reads W W.heap.size 1 BA bs.length (bcs bs) → Calls Try.prog 34 #[.slice BA bs.length bc] W (RetPp W pp0 3)) := hide (fun W h => by
    have := pdecode_s BA bc bs W h (by omega) hok
    rw [hd] at this; exact this)
  have TS2 : Hid (∀ W S3 s3 C3 c3 U3 u3, Pp.Ok W (pp0.at S3 s3 C3 c3 U3 u3) → Calls Try.prog 29 #[PpV 0 0 0 S3 0 s3 C3 0 c3 U3 0 u3, PpV 0 0 0 none 0 0 none 0 0 none 0 0] W (RetBp W true)) := hide (fun W S3 s3 C3 c3 U3 u3 h => by
    have := refPSame_s (pp0.at S3 s3 C3 c3 U3 u3) pp0 W h (pp0_ok W)
    rw [show Pp.eqB (pp0.at S3 s3 C3 c3 U3 u3) pp0 = true by simp [Pp.eqB, Pp.at, eqP]] at this; exact this)
  have hb5 : decide ((5000 : Int) < (bs.length : Int)) = false := decide_eq_false (by omega)
  have HX := hide okx
  have HSB := hide sb
  obtain ⟨n, i, rd, SA, sc, ss, CA, cc, cs, UA, uc, us⟩ := x
  have TH : Hid (Calls Try.prog 19 #[.slice (some ⟨w.heap.size + 1, 0, none⟩) 1 1] ((w.alloc (bxP n i rd SA ss.length sc CA cs.length cc UA us.length uc)).alloc (.cells #[.int .i64 n, .int .u64 i, .int .u64 rd, .slice SA ss.length sc, .slice CA cs.length cc, .slice UA us.length uc] 51)) fun e w' => e = .returned (.bool (hvP ⟨n, i, rd, SA, sc, ss, CA, cc, cs, UA, uc, us⟩)) ∧ ((w.alloc (bxP n i rd SA ss.length sc CA cs.length cc UA us.length uc)).alloc (.cells #[.int .i64 n, .int .u64 i, .int .u64 rd, .slice SA ss.length sc, .slice CA cs.length cc, .slice UA us.length uc] 51)) = w') := hide (heavy9_1 ⟨n, i, rd, SA, sc, ss, CA, cc, cs, UA, uc, us⟩ (w.alloc (bxP n i rd SA ss.length sc CA cs.length cc UA us.length uc)) (w.heap.size + 1) (by simp))
  rw [hh] at TH
  unfold Pp.v at *
  simp only [Pp.at, Pp.bare, List.length_nil] at *
  clear okx sb wx hh hm hd hok
  go_enter Try.func10, Try.ntmps10
  go_wp2_with fail
  (with_reducible refine TH.out.mono ?_)
  rintro e w1 ⟨rfl, rfl⟩
  clear TH
  have hB : Below w.heap.size w ((w.alloc (bxP n i rd SA ss.length sc CA cs.length cc UA us.length uc)).alloc (.cells #[.int .i64 n, .int .u64 i, .int .u64 rd, .slice SA ss.length sc, .slice CA cs.length cc, .slice UA us.length uc] 51)) := (by repeat (first | exact Below.refl _ _ | assumption | refine bel_al ?_ _ | refine bel_gw ?_ _ _ | refine bel_drew ?_ | refine bel_drewN ?_ _))
  have p0 := (boxTop w (csP n i rd SA ss.length sc CA cs.length cc UA us.length uc) 51).alloc' (.cells #[.int .i64 n, .int .u64 i, .int .u64 rd, .slice SA ss.length sc, .slice CA cs.length cc, .slice UA us.length uc] 51)
  generalize ((w.alloc (bxP n i rd SA ss.length sc CA cs.length cc UA us.length uc)).alloc (.cells #[.int .i64 n, .int .u64 i, .int .u64 rd, .slice SA ss.length sc, .slice CA cs.length cc, .slice UA us.length uc] 51)) = w1 at hB p0 ⊢
  haveI := p0
  go_wp2_with fail
  (with_reducible refine (TE.out _ (HX.out.step hB)).mono ?_)
  rintro e w2 ⟨v2, rfl, ho2, hb⟩
  obtain ⟨A2, c2, rfl, _, _⟩ := own_slice ho2
  replace p0 := p0.step hb
  replace hB := below_step hB hb
  have T2 := hide (TD.out A2 c2 w2 (Reads.of_own ho2))
  clear hb ho2 TE TD
  go_wp2_with fail
  (with_reducible refine T2.out.mono ?_)
  rintro e w3 ⟨S3, s3, C3, c3, U3, u3, rfl, ok3, hb⟩
  simp only [Pp.v, Pp.at, Pp.bare, List.length_nil] at ok3 ⊢
  replace p0 := p0.step hb
  replace hB := below_step hB hb
  have hbA := below_alloc w3 (bxP n i rd S3 ss.length s3 C3 cs.length c3 U3 us.length u3)
  replace p0 := p0.step hbA
  replace hB := below_step hB hbA
  haveI := p0
  have T3 := hide (TS.out _ S3 s3 C3 c3 U3 u3 (ok3.step hbA) (HX.out.step hB))
  clear hb hbA ok3 T2 TS
  go_wp2_with fail
  (with_reducible refine T3.out.mono ?_)
  rintro e w4 ⟨rfl, hb⟩
  replace hB := below_step hB hb
  clear hb T3 p0
  have hsr := (HSB.out.below hB).more hB.size
  have T5 := hide (TD2.out w4 hsr)
  clear TD2
  go_wp2_with fail
  (with_reducible refine T5.out.mono ?_)
  rintro e w5 ⟨S3, s3, C3, c3, U3, u3, rfl, ok5, hb⟩
  simp only [Pp.v, Pp.at, List.length_nil] at ok5 ⊢
  replace hB := below_step hB hb
  have hbA := below_alloc w5 (bxP 0 0 0 S3 0 s3 C3 0 c3 U3 0 u3)
  have T6 := hide (TS2.out _ S3 s3 C3 c3 U3 u3 (ok5.step hbA))
  replace hB := below_step hB hbA
  clear hb hbA ok5 T5 TS2 hsr
  go_wp2_with fail
  (with_reducible refine T6.out.mono ?_)
  rintro e w6 ⟨rfl, hb⟩
  replace hB := below_step hB hb
  clear hb T6
  go_wp2_with fail
  (with_reducible refine (TA.out _).mono ?_)
  rintro e w17 ⟨rfl, hb⟩
  replace hB := below_step hB hb
  clear hb
  go_wp2
  go_ret
  exact ⟨rfl, hB⟩
set_option maxRecDepth 100000 in
set_option maxHeartbeats 4000000 in
theorem pbackAS (x : Pp) (BA : Option Addr) (bc : Nat) (bs : List Int) (w : World) (okx : x.Ok w) (wx : x.Wf) (hh : hvP x = false) (sb : Reads w w.heap.size 1 BA bs.length (bcs bs)) (hok : bOK bs) (hbl : bs.length ≤ 5000) (hm : x.mayB = true) (y : Pp) (hd : decP bs = some y) :
    Calls Try.prog 10 #[x.v, .slice BA bs.length bc] w (RetB w true) := by
  have TA := hide (fun W => awake9_t W)
  have TE := hide (fun W (h : x.Ok W) => pencode_f x W h (PpF.of wx) hm)
  have hel := penc_len x hm
  have TD : Hid (∀ A c W, Reads W W.heap.size 1 A x.enc.length (bcs x.enc) → Calls Try.prog 34 #[.slice A x.enc.length c] W (RetPp W x.bare 0)) := hide (fun A c W h => by
    have := pdecode_s A c x.enc W h (by omega) (penc_ok x (PpF.of wx))
    rw [decP_back x hm (PpF.of wx)] at this; exact this)
  have TS : Hid (∀ W S3 s3 C3 c3 U3 u3, Pp.Ok W (x.bare.at S3 s3 C3 c3 U3 u3) → x.Ok W → Calls Try.prog 29 #[x.v, (x.bare.at S3 s3 C3 c3 U3 u3).v] W (RetBp W true)) := hide (fun W S3 s3 C3 c3 U3 u3 h h' => by
    have := refPSame_s x (x.bare.at S3 s3 C3 c3 U3 u3) W h' h
    rw [show Pp.eqB x (x.bare.at S3 s3 C3 c3 U3 u3) = true by simp [Pp.eqB, Pp.bare, Pp.at, eqP]] at this; exact this)
  generalize x.enc = en at TE TD hel
  obtain ⟨hel1, hel0⟩ := hel
  have hel2 : decide ((320 : Int) < (en.length : Int)) = false := decide_eq_false (by omega)
  obtain ⟨y1, y2, y3, y4⟩ := decP_inv hok hd
  have TD2 : Hid (∀ W, Reads W W.heap.size 1 BA bs.length (bcs bs) → Calls Try.prog 34 #[.slice BA bs.length bc] W (RetPp W y 0)) := hide (fun W h => by
    have := pdecode_s BA bc bs W h (by omega) hok
    rw [hd] at this; exact this)
  have TE2 : Hid (∀ W S3 s3 C3 c3 U3 u3, Pp.Ok W (y.at S3 s3 C3 c3 U3 u3) → Calls Try.prog 30 #[(y.at S3 s3 C3 c3 U3 u3).v] W (RetE W bs)) := hide (fun W S3 s3 C3 c3 U3 u3 h => by
    have := pencode_f (y.at S3 s3 C3 c3 U3 u3) W h ⟨y3.i, y3.rd, y3.ss, y3.cs, y3.us⟩ y1
    rw [show (y.at S3 s3 C3 c3 U3 u3).enc = bs from y2] at this; exact this)
  obtain ⟨yn, yi, yrd, ySA, ysc, yss, yCA, ycc, ycs, yUA, yuc, yus⟩ := y
  clear y1 y2 y3 y4
  have hb5 : decide ((5000 : Int) < (bs.length : Int)) = false := decide_eq_false (by omega)
  have HX := hide okx
  have HSB := hide sb
  obtain ⟨n, i, rd, SA, sc, ss, CA, cc, cs, UA, uc, us⟩ := x
  have TH : Hid (Calls Try.prog 19 #[.slice (some ⟨w.heap.size + 1, 0, none⟩) 1 1] ((w.alloc (bxP n i rd SA ss.length sc CA cs.length cc UA us.length uc)).alloc (.cells #[.int .i64 n, .int .u64 i, .int .u64 rd, .slice SA ss.length sc, .slice CA cs.length cc, .slice UA us.length uc] 51)) fun e w' => e = .returned (.bool (hvP ⟨n, i, rd, SA, sc, ss, CA, cc, cs, UA, uc, us⟩)) ∧ ((w.alloc (bxP n i rd SA ss.length sc CA cs.length cc UA us.length uc)).alloc (.cells #[.int .i64 n, .int .u64 i, .int .u64 rd, .slice SA ss.length sc, .slice CA cs.length cc, .slice UA us.length uc] 51)) = w') := hide (heavy9_1 ⟨n, i, rd, SA, sc, ss, CA, cc, cs, UA, uc, us⟩ (w.alloc (bxP n i rd SA ss.length sc CA cs.length cc UA us.length uc)) (w.heap.size + 1) (by simp))
  rw [hh] at TH
  unfold Pp.v at *
  simp only [Pp.at, Pp.bare, List.length_nil] at *
  clear okx sb wx hh hm hd hok
  go_enter Try.func10, Try.ntmps10
  go_wp2_with fail
  (with_reducible refine TH.out.mono ?_)
  rintro e w1 ⟨rfl, rfl⟩
  clear TH
  have hB : Below w.heap.size w ((w.alloc (bxP n i rd SA ss.length sc CA cs.length cc UA us.length uc)).alloc (.cells #[.int .i64 n, .int .u64 i, .int .u64 rd, .slice SA ss.length sc, .slice CA cs.length cc, .slice UA us.length uc] 51)) := (by repeat (first | exact Below.refl _ _ | assumption | refine bel_al ?_ _ | refine bel_gw ?_ _ _ | refine bel_drew ?_ | refine bel_drewN ?_ _))
  have p0 := (boxTop w (csP n i rd SA ss.length sc CA cs.length cc UA us.length uc) 51).alloc' (.cells #[.int .i64 n, .int .u64 i, .int .u64 rd, .slice SA ss.length sc, .slice CA cs.length cc, .slice UA us.length uc] 51)
  generalize ((w.alloc (bxP n i rd SA ss.length sc CA cs.length cc UA us.length uc)).alloc (.cells #[.int .i64 n, .int .u64 i, .int .u64 rd, .slice SA ss.length sc, .slice CA cs.length cc, .slice UA us.length uc] 51)) = w1 at hB p0 ⊢
  haveI := p0
  go_wp2_with fail
  (with_reducible refine (TE.out _ (HX.out.step hB)).mono ?_)
  rintro e w2 ⟨v2, rfl, ho2, hb⟩
  obtain ⟨A2, c2, rfl, _, _⟩ := own_slice ho2
  replace p0 := p0.step hb
  replace hB := below_step hB hb
  have T2 := hide (TD.out A2 c2 w2 (Reads.of_own ho2))
  clear hb ho2 TE TD
  go_wp2_with fail
  (with_reducible refine T2.out.mono ?_)
  rintro e w3 ⟨S3, s3, C3, c3, U3, u3, rfl, ok3, hb⟩
  simp only [Pp.v, Pp.at, Pp.bare, List.length_nil] at ok3 ⊢
  replace p0 := p0.step hb
  replace hB := below_step hB hb
  have hbA := below_alloc w3 (bxP n i rd S3 ss.length s3 C3 cs.length c3 U3 us.length u3)
  replace p0 := p0.step hbA
  replace hB := below_step hB hbA
  haveI := p0
  have T3 := hide (TS.out _ S3 s3 C3 c3 U3 u3 (ok3.step hbA) (HX.out.step hB))
  clear hb hbA ok3 T2 TS
  go_wp2_with fail
  (with_reducible refine T3.out.mono ?_)
  rintro e w4 ⟨rfl, hb⟩
  replace hB := below_step hB hb
  clear hb T3 p0
  have hsr := (HSB.out.below hB).more hB.size
  have T5 := hide (TD2.out w4 hsr)
  clear TD2
  go_wp2_with fail
  (with_reducible refine T5.out.mono ?_)
  rintro e w5 ⟨S3, s3, C3, c3, U3, u3, rfl, ok5, hb⟩
  simp only [Pp.v, Pp.at, List.length_nil] at ok5 ⊢
  replace hB := below_step hB hb
  have hbA := below_alloc w5 (bxP yn yi yrd S3 yss.length s3 C3 ycs.length c3 U3 yus.length u3)
  have T6 := hide (TE2.out _ S3 s3 C3 c3 U3 u3 (ok5.step hbA))
  replace hB := below_step hB hbA
  clear hb hbA ok5 T5 TE2 hsr
  go_wp2_with fail
  (with_reducible refine T6.out.mono ?_)
  rintro e w6 ⟨v6, rfl, ho6, hb⟩
  obtain ⟨A6, c6, rfl, _, _⟩ := own_slice ho6
  replace hB := below_step hB hb
  have hcv := conv_reads (c := c6) (Reads.of_own ho6)
  have hcv2 := conv_reads (c := bc) (HSB.out.below hB)
  clear hb T6 ho6
  go_wp2_with fail
  (with_reducible refine (TA.out _).mono ?_)
  rintro e w17 ⟨rfl, hb⟩
  replace hB := below_step hB hb
  clear hb
  go_wp2
  go_ret
  exact ⟨rfl, hB⟩
set_option maxRecDepth 100000 in
set_option maxHeartbeats 4000000 in
theorem pbackBN (x : Pp) (BA : Option Addr) (bc : Nat) (bs : List Int) (w : World) (okx : x.Ok w) (wx : x.Wf) (hh : hvP x = false) (sb : Reads w w.heap.size 1 BA bs.length (bcs bs)) (hok : bOK bs) (hbl : bs.length ≤ 5000) (hm : x.mayB = false) (hd : decP bs = none) :
    Calls Try.prog 10 #[x.v, .slice BA bs.length bc] w (RetB w true) := by
  have TA := hide (fun W => awake9_t W)
  have TE : Hid (∀ W, x.Ok W → Calls Try.prog 30 #[x.v] W fun e w' => e = .returned (.tuple #[.slice none 0 0, .int .i64 3]) ∧ Below W.heap.size W w') := hide (fun W h => pencode_no x W h hm)
  have TD2 : Hid (∀ W, Reads W W.heap.size 1 BA bs.length (bcs bs) → Calls Try.prog 34 #[.slice BA bs.length bc] W (RetPp W pp0 3)) := hide (fun W h => by
    have := pdecode_s BA bc bs W h (by omega) hok
    rw [hd] at this; exact this)
  have TS2 : Hid (∀ W S3 s3 C3 c3 U3 u3, Pp.Ok W (pp0.at S3 s3 C3 c3 U3 u3) → Calls Try.prog 29 #[PpV 0 0 0 S3 0 s3 C3 0 c3 U3 0 u3, PpV 0 0 0 none 0 0 none 0 0 none 0 0] W (RetBp W true)) := hide (fun W S3 s3 C3 c3 U3 u3 h => by
    have := refPSame_s (pp0.at S3 s3 C3 c3 U3 u3) pp0 W h (pp0_ok W)
    rw [show Pp.eqB (pp0.at S3 s3 C3 c3 U3 u3) pp0 = true by simp [Pp.eqB, Pp.at, eqP]] at this; exact this)
  have hb5 : decide ((5000 : Int) < (bs.length : Int)) = false := decide_eq_false (by omega)
  have HX := hide okx
  have HSB := hide sb
  obtain ⟨n, i, rd, SA, sc, ss, CA, cc, cs, UA, uc, us⟩ := x
  have TH : Hid (Calls Try.prog 19 #[.slice (some ⟨w.heap.size + 1, 0, none⟩) 1 1] ((w.alloc (bxP n i rd SA ss.length sc CA cs.length cc UA us.length uc)).alloc (.cells #[.int .i64 n, .int .u64 i, .int .u64 rd, .slice SA ss.length sc, .slice CA cs.length cc, .slice UA us.length uc] 51)) fun e w' => e = .returned (.bool (hvP ⟨n, i, rd, SA, sc, ss, CA, cc, cs, UA, uc, us⟩)) ∧ ((w.alloc (bxP n i rd SA ss.length sc CA cs.length cc UA us.length uc)).alloc (.cells #[.int .i64 n, .int .u64 i, .int .u64 rd, .slice SA ss.length sc, .slice CA cs.length cc, .slice UA us.length uc] 51)) = w') := hide (heavy9_1 ⟨n, i, rd, SA, sc, ss, CA, cc, cs, UA, uc, us⟩ (w.alloc (bxP n i rd SA ss.length sc CA cs.length cc UA us.length uc)) (w.heap.size + 1) (by simp))
  rw [hh] at TH
  unfold Pp.v at *
  simp only [Pp.at, Pp.bare, List.length_nil] at *
  clear okx sb wx hh hm hd hok
  go_enter Try.func10, Try.ntmps10
  go_wp2_with fail
  (with_reducible refine TH.out.mono ?_)
  rintro e w1 ⟨rfl, rfl⟩
  clear TH
  have hB : Below w.heap.size w ((w.alloc (bxP n i rd SA ss.length sc CA cs.length cc UA us.length uc)).alloc (.cells #[.int .i64 n, .int .u64 i, .int .u64 rd, .slice SA ss.length sc, .slice CA cs.length cc, .slice UA us.length uc] 51)) := (by repeat (first | exact Below.refl _ _ | assumption | refine bel_al ?_ _ | refine bel_gw ?_ _ _ | refine bel_drew ?_ | refine bel_drewN ?_ _))
  have p0 := (boxTop w (csP n i rd SA ss.length sc CA cs.length cc UA us.length uc) 51).alloc' (.cells #[.int .i64 n, .int .u64 i, .int .u64 rd, .slice SA ss.length sc, .slice CA cs.length cc, .slice UA us.length uc] 51)
  generalize ((w.alloc (bxP n i rd SA ss.length sc CA cs.length cc UA us.length uc)).alloc (.cells #[.int .i64 n, .int .u64 i, .int .u64 rd, .slice SA ss.length sc, .slice CA cs.length cc, .slice UA us.length uc] 51)) = w1 at hB p0 ⊢
  haveI := p0
  go_wp2_with fail
  (with_reducible refine (TE.out _ (HX.out.step hB)).mono ?_)
  rintro e w4 ⟨rfl, hb⟩
  replace p0 := p0.step hb
  replace hB := below_step hB hb
  clear hb TE p0
  have hsr := (HSB.out.below hB).more hB.size
  have T5 := hide (TD2.out w4 hsr)
  clear TD2
  go_wp2_with fail
  (with_reducible refine T5.out.mono ?_)
  rintro e w5 ⟨S3, s3, C3, c3, U3, u3, rfl, ok5, hb⟩
  simp only [Pp.v, Pp.at, List.length_nil] at ok5 ⊢
  replace hB := below_step hB hb
  have hbA := below_alloc w5 (bxP 0 0 0 S3 0 s3 C3 0 c3 U3 0 u3)
  have T6 := hide (TS2.out _ S3 s3 C3 c3 U3 u3 (ok5.step hbA))
  replace hB := below_step hB hbA
  clear hb hbA ok5 T5 TS2 hsr
  go_wp2_with fail
  (with_reducible refine T6.out.mono ?_)
  rintro e w6 ⟨rfl, hb⟩
  replace hB := below_step hB hb
  clear hb T6
  go_wp2_with fail
  (with_reducible refine (TA.out _).mono ?_)
  rintro e w17 ⟨rfl, hb⟩
  replace hB := below_step hB hb
  clear hb
  go_wp2
  go_ret
  exact ⟨rfl, hB⟩
set_option maxRecDepth 100000 in
set_option maxHeartbeats 4000000 in
theorem pbackBS (x : Pp) (BA : Option Addr) (bc : Nat) (bs : List Int) (w : World) (okx : x.Ok w) (wx : x.Wf) (hh : hvP x = false) (sb : Reads w w.heap.size 1 BA bs.length (bcs bs)) (hok : bOK bs) (hbl : bs.length ≤ 5000) (hm : x.mayB = false) (y : Pp) (hd : decP bs = some y) :
    Calls Try.prog 10 #[x.v, .slice BA bs.length bc] w (RetB w true) := by
  have TA := hide (fun W => awake9_t W)
  have TE : Hid (∀ W, x.Ok W → Calls Try.prog 30 #[x.v] W fun e w' => e = .returned (.tuple #[.slice none 0 0, .int .i64 3]) ∧ Below W.heap.size W w') := hide (fun W h => pencode_no x W h hm)
  obtain ⟨y1, y2, y3, y4⟩ := decP_inv hok hd
  have TD2 : Hid (∀ W, Reads W W.heap.size 1 BA bs.length (bcs bs) → Calls Try.prog 34 #[.slice BA bs.length bc] W (RetPp W y 0)) := hide (fun W h => by
    have := pdecode_s BA bc bs W h (by omega) hok
    rw [hd] at this; exact this)
  have TE2 : Hid (∀ W S3 s3 C3 c3 U3 u3, Pp.Ok W (y.at S3 s3 C3 c3 U3 u3) → Calls Try.prog 30 #[(y.at S3 s3 C3 c3 U3 u3).v] W (RetE W bs)) := hide (fun W S3 s3 C3 c3 U3 u3 h => by
    have := pencode_f (y.at S3 s3 C3 c3 U3 u3) W h ⟨y3.i, y3.rd, y3.ss, y3.cs, y3.us⟩ y1
    rw [show (y.at S3 s3 C3 c3 U3 u3).enc = bs from y2] at this; exact this)
  obtain ⟨yn, yi, yrd, ySA, ysc, yss, yCA, ycc, ycs, yUA, yuc, yus⟩ := y
  clear y1 y2 y3 y4
  have hb5 : decide ((5000 : Int) < (bs.length : Int)) = false := decide_eq_false (by omega)
  have HX := hide okx
  have HSB := hide sb
  obtain ⟨n, i, rd, SA, sc, ss, CA, cc, cs, UA, uc, us⟩ := x
  have TH : Hid (Calls Try.prog 19 #[.slice (some ⟨w.heap.size + 1, 0, none⟩) 1 1] ((w.alloc (bxP n i rd SA ss.length sc CA cs.length cc UA us.length uc)).alloc (.cells #[.int .i64 n, .int .u64 i, .int .u64 rd, .slice SA ss.length sc, .slice CA cs.length cc, .slice UA us.length uc] 51)) fun e w' => e = .returned (.bool (hvP ⟨n, i, rd, SA, sc, ss, CA, cc, cs, UA, uc, us⟩)) ∧ ((w.alloc (bxP n i rd SA ss.length sc CA cs.length cc UA us.length uc)).alloc (.cells #[.int .i64 n, .int .u64 i, .int .u64 rd, .slice SA ss.length sc, .slice CA cs.length cc, .slice UA us.length uc] 51)) = w') := hide (heavy9_1 ⟨n, i, rd, SA, sc, ss, CA, cc, cs, UA, uc, us⟩ (w.alloc (bxP n i rd SA ss.length sc CA cs.length cc UA us.length uc)) (w.heap.size + 1) (by simp))
  rw [hh] at TH
  unfold Pp.v at *
  simp only [Pp.at, Pp.bare, List.length_nil] at *
  clear okx sb wx hh hm hd hok
  go_enter Try.func10, Try.ntmps10
  go_wp2_with fail
  (with_reducible refine TH.out.mono ?_)
  rintro e w1 ⟨rfl, rfl⟩
  clear TH
  have hB : Below w.heap.size w ((w.alloc (bxP n i rd SA ss.length sc CA cs.length cc UA us.length uc)).alloc (.cells #[.int .i64 n, .int .u64 i, .int .u64 rd, .slice SA ss.length sc, .slice CA cs.length cc, .slice UA us.length uc] 51)) := (by repeat (first | exact Below.refl _ _ | assumption | refine bel_al ?_ _ | refine bel_gw ?_ _ _ | refine bel_drew ?_ | refine bel_drewN ?_ _))
  have p0 := (boxTop w (csP n i rd SA ss.length sc CA cs.length cc UA us.length uc) 51).alloc' (.cells #[.int .i64 n, .int .u64 i, .int .u64 rd, .slice SA ss.length sc, .slice CA cs.length cc, .slice UA us.length uc] 51)
  generalize ((w.alloc (bxP n i rd SA ss.length sc CA cs.length cc UA us.length uc)).alloc (.cells #[.int .i64 n, .int .u64 i, .int .u64 rd, .slice SA ss.length sc, .slice CA cs.length cc, .slice UA us.length uc] 51)) = w1 at hB p0 ⊢
  haveI := p0
  go_wp2_with fail
  (with_reducible refine (TE.out _ (HX.out.step hB)).mono ?_)
  rintro e w4 ⟨rfl, hb⟩
  replace p0 := p0.step hb
  replace hB := below_step hB hb
  clear hb TE p0
  have hsr := (HSB.out.below hB).more hB.size
  have T5 := hide (TD2.out w4 hsr)
  clear TD2
  go_wp2_with fail
  (with_reducible refine T5.out.mono ?_)
  rintro e w5 ⟨S3, s3, C3, c3, U3, u3, rfl, ok5, hb⟩
  simp only [Pp.v, Pp.at, List.length_nil] at ok5 ⊢
  replace hB := below_step hB hb
  have hbA := below_alloc w5 (bxP yn yi yrd S3 yss.length s3 C3 ycs.length c3 U3 yus.length u3)
  have T6 := hide (TE2.out _ S3 s3 C3 c3 U3 u3 (ok5.step hbA))
  replace hB := below_step hB hbA
  clear hb hbA ok5 T5 TE2 hsr
  go_wp2_with fail
  (with_reducible refine T6.out.mono ?_)
  rintro e w6 ⟨v6, rfl, ho6, hb⟩
  obtain ⟨A6, c6, rfl, _, _⟩ := own_slice ho6
  replace hB := below_step hB hb
  have hcv := conv_reads (c := c6) (Reads.of_own ho6)
  have hcv2 := conv_reads (c := bc) (HSB.out.below hB)
  clear hb T6 ho6
  go_wp2_with fail
  (with_reducible refine (TA.out _).mono ?_)
  rintro e w17 ⟨rfl, hb⟩
  replace hB := below_step hB hb
  clear hb
  go_wp2
  go_ret
  exact ⟨rfl, hB⟩
set_option maxRecDepth 100000 in
set_option maxHeartbeats 2000000 in
theorem proposalBack_true (x : Pp) (BA : Option Addr) (bc : Nat) (bs : List Int) (w : World) (hx : x.In w) (wx : x.Wf) (sb : Reads w w.heap.size 1 BA bs.length (bcs bs)) (hok : bOK bs) (hbm : bs.length ≤ 9223372036854775807) :
    Calls Try.prog 10 #[x.v, .slice BA bs.length bc] w (RetB w true) := by
  have TA := hide (fun W => awake9_t W)
  cases hh : hvP x
  · by_cases hbl : bs.length ≤ 5000
    · have okx := Pp.ok_of hx hh
      cases hmm : x.mayB
      · cases hd : decP bs with
        | none => exact pbackBN x BA bc bs w okx wx hh sb hok hbl hmm hd
        | some y => exact pbackBS x BA bc bs w okx wx hh sb hok hbl hmm y hd
      · cases hd : decP bs with
        | none => exact pbackAN x BA bc bs w okx wx hh sb hok hbl hmm hd
        | some y => exact pbackAS x BA bc bs w okx wx hh sb hok hbl hmm y hd
    · have hb5 : decide ((5000 : Int) < (bs.length : Int)) = true := decide_eq_true (by omega)
      clear hx wx sb hok hbl
      obtain ⟨n, i, rd, SA, sc, ss, CA, cc, cs, UA, uc, us⟩ := x
      have TH : Hid (Calls Try.prog 19 #[.slice (some ⟨w.heap.size + 1, 0, none⟩) 1 1] ((w.alloc (bxP n i rd SA ss.length sc CA cs.length cc UA us.length uc)).alloc (.cells #[.int .i64 n, .int .u64 i, .int .u64 rd, .slice SA ss.length sc, .slice CA cs.length cc, .slice UA us.length uc] 51)) fun e w' => e = .returned (.bool (hvP ⟨n, i, rd, SA, sc, ss, CA, cc, cs, UA, uc, us⟩)) ∧ ((w.alloc (bxP n i rd SA ss.length sc CA cs.length cc UA us.length uc)).alloc (.cells #[.int .i64 n, .int .u64 i, .int .u64 rd, .slice SA ss.length sc, .slice CA cs.length cc, .slice UA us.length uc] 51)) = w') := hide (heavy9_1 ⟨n, i, rd, SA, sc, ss, CA, cc, cs, UA, uc, us⟩ (w.alloc (bxP n i rd SA ss.length sc CA cs.length cc UA us.length uc)) (w.heap.size + 1) (by simp))
      rw [hh] at TH
      unfold Pp.v at *
      simp only at *
      clear hh
      go_enter Try.func10, Try.ntmps10
      go_wp2_with fail
      (with_reducible refine TH.out.mono ?_)
      rintro e w1 ⟨rfl, rfl⟩
      clear TH
      go_wp2_with fail
      (with_reducible refine (TA.out _).mono ?_)
      rintro e w3 ⟨rfl, hb⟩
      obtain ⟨⟨d3, os3⟩, rfl⟩ := gw_of_below hb
      clear hb
      go_wp2
      go_ret
      exact ⟨rfl, (by repeat (first | exact Below.refl _ _ | assumption | refine bel_al ?_ _ | refine bel_gw ?_ _ _ | refine bel_drew ?_ | refine bel_drewN ?_ _))⟩
  · clear hx wx sb hok
    obtain ⟨n, i, rd, SA, sc, ss, CA, cc, cs, UA, uc, us⟩ := x
    have TH : Hid (Calls Try.prog 19 #[.slice (some ⟨w.heap.size + 1, 0, none⟩) 1 1] ((w.alloc (bxP n i rd SA ss.length sc CA cs.length cc UA us.length uc)).alloc (.cells #[.int .i64 n, .int .u64 i, .int .u64 rd, .slice SA ss.length sc, .slice CA cs.length cc, .slice UA us.length uc] 51)) fun e w' => e = .returned (.bool (hvP ⟨n, i, rd, SA, sc, ss, CA, cc, cs, UA, uc, us⟩)) ∧ ((w.alloc (bxP n i rd SA ss.length sc CA cs.length cc UA us.length uc)).alloc (.cells #[.int .i64 n, .int .u64 i, .int .u64 rd, .slice SA ss.length sc, .slice CA cs.length cc, .slice UA us.length uc] 51)) = w') := hide (heavy9_1 ⟨n, i, rd, SA, sc, ss, CA, cc, cs, UA, uc, us⟩ (w.alloc (bxP n i rd SA ss.length sc CA cs.length cc UA us.length uc)) (w.heap.size + 1) (by simp))
    rw [hh] at TH
    unfold Pp.v at *
    simp only at *
    clear hh
    go_enter Try.func10, Try.ntmps10
    go_wp2_with fail
    (with_reducible refine TH.out.mono ?_)
    rintro e w1 ⟨rfl, rfl⟩
    clear TH
    go_wp2_with fail
    (with_reducible refine (TA.out _).mono ?_)
    rintro e w3 ⟨rfl, hb⟩
    obtain ⟨⟨d3, os3⟩, rfl⟩ := gw_of_below hb
    clear hb
    go_wp2
    go_ret
    exact ⟨rfl, (by repeat (first | exact Below.refl _ _ | assumption | refine bel_al ?_ _ | refine bel_gw ?_ _ _ | refine bel_drew ?_ | refine bel_drewN ?_ _))⟩
end Go.Proofs.Ytgpmcpinnaggmaa
