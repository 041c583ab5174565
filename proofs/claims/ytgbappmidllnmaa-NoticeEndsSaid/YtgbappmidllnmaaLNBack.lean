/-
  Layer 8: the law NoticeBack: true for every input.
-/
import Derived.Test.YtgbappmidllnmaaLNot
namespace Go.Proofs.Ytgbappmidllnmaa
set_option linter.unusedSimpArgs false
set_option linter.unusedVariables false
set_option linter.unusedSectionVars false
open Go.RowKit

theorem may_lens {x : Nt} (hm : x.mayB = true) : x.st.length ≤ 300 ∧ x.vw.ms.length ≤ 300 ∧ x.vw.us.length ≤ 300 := by
  rcases may_kinds hm with ⟨h1, h2, h3, h4, h5⟩ | ⟨h1, h2, h3, h4, h5, h6⟩ | ⟨h1, h2, h3, h4, h5, h6⟩ | ⟨h1, h2, h3, h4, h5, h6, h7⟩
  · obtain ⟨_, _, _, v4, v5⟩ := nil_facts h3
    rw [v4, v5]; simp; omega
  · obtain ⟨_, _, _, v4, v5⟩ := nil_facts h3
    rw [v4, v5, h6]; simp
  · obtain ⟨_, _, _, v4, v5⟩ := nil_facts h3
    rw [v4, v5]; simp; omega
  · have f := mayT_facts (x := ((x.vw.r, x.vw.n, x.vw.i), x.vw.ms, x.vw.us)) h7
    simp only at f
    rw [h6]; simp; omega
theorem NtF.of {x : Nt} (h : x.Wf) : NtF x := ⟨⟨h.p.2.2.1, h.p.2.2.2⟩, h.rd, h.cd, fun p hp => ⟨(h.st p hp).2.2.1, (h.st p hp).2.2.2⟩, ⟨h.vw.r, ⟨h.vw.p.2.2.1, h.vw.p.2.2.2⟩, fun p hp => ⟨(h.vw.ms p hp).2.2.1, (h.vw.ms p hp).2.2.2⟩, h.vw.us⟩⟩
theorem nt0_ok (w : World) : nt0.Ok w := ⟨Reads.none_, by simp, vw0_ok w⟩
theorem eqB_at (x : Nt) (SA : Option Addr) (sc : Nat) (MA : Option Addr) (mc : Nat) (UA : Option Addr) (uc : Nat) : Nt.eqB (x.at SA sc MA mc UA uc) x = true := by simp [Nt.eqB, Nt.at, eqP, Vw.eqB]
set_option maxRecDepth 100000 in
set_option maxHeartbeats 4000000 in
theorem noticeBackAN (x : Nt) (BA : Option Addr) (bc : Nat) (bs : List Int) (w : World) (okx : x.Ok w) (hx : x.Wf) (hh : hvN x = false) (sb : Reads w w.heap.size 1 BA bs.length (bcs bs)) (hok : bOK bs) (hbl : bs.length ≤ 5000) (hm : x.mayB = true) (hd : decN bs = none) :
    Calls Try.prog 11 #[x.v, .slice BA bs.length bc] w (RetB w true) := by
  have TA := hide (fun W => awake8_t W)
  have TH := hide (fun W => heavy8_s x W)
  rw [hh] at TH
  obtain ⟨l1, l2, l3⟩ : x.st.length ≤ 300 ∧ x.vw.ms.length ≤ 300 ∧ x.vw.us.length ≤ 300 := by unfold hvN at hh; simp at hh; omega
  have TE := hide (fun W (h : x.Ok W) => encode_s x W h (NtF.of hx) ⟨l1, l2, l3⟩ hm)
  have hel := enc_len x hm
  have TD : Hid (∀ A c W, Reads W W.heap.size 1 A x.enc.length (bcs x.enc) → Calls Try.prog 50 #[.slice A x.enc.length c] W (RetN W x.bare 0)) := hide (fun A c W h => by
    have := decode_s A c x.enc W h (by omega) (enc_ok x hm (NtF.of hx))
    rw [decN_back x hm (NtF.of hx)] at this; exact this)
  have TS : Hid (∀ W SA sc MA mc UA uc, Nt.Ok W (x.bare.at SA sc MA mc UA uc) → x.Ok W → Calls Try.prog 49 #[(x.bare.at SA sc MA mc UA uc).v, x.v] W (RetBb W true)) := hide (fun W SA sc MA mc UA uc h h' => by
    have := refNSame_s (x.bare.at SA sc MA mc UA uc) x W h h'
    rw [bare_eqB] at this; exact this)
  generalize x.enc = en at TE TD hel
  obtain ⟨hel1, hel0⟩ := hel
  have hel2 : decide ((320 : Int) < (en.length : Int)) = false := decide_eq_false (by omega)
  have TD2 : Hid (∀ W, Reads W W.heap.size 1 BA bs.length (bcs bs) → Calls Try.prog 50 #[.slice BA bs.length bc] W (RetN W nt0 3)) := hide (fun W h => by
    have := decode_s BA bc bs W h (by omega) hok
    rw [hd] at this; exact this)
  have TS2 : Hid (∀ W SA sc MA mc UA uc, Nt.Ok W (nt0.at SA sc MA mc UA uc) → Calls Try.prog 49 #[NtV 0 0 0 0 0 SA 0 sc 0 0 0 MA 0 mc UA 0 uc, NtV 0 0 0 0 0 none 0 0 0 0 0 none 0 0 none 0 0] W (RetBb W true)) := hide (fun W SA sc MA mc UA uc h => by
    have := refNSame_s (nt0.at SA sc MA mc UA uc) nt0 W h (nt0_ok W)
    rw [eqB_at] at this; exact this)
  have hb5 : decide ((5000 : Int) < (bs.length : Int)) = false := decide_eq_false (by omega)
  have HX := hide okx
  have HSB := hide sb
  obtain ⟨k, n, i, rd, cd, SA, sc, st, ⟨r, vn, vi, MA, mc, ms, UA, uc, us⟩⟩ := x
  unfold Nt.v at *
  simp only [Nt.at, Nt.bare, List.length_nil] at *
  have p0 := boxTop w (csN k n i rd cd SA st.length sc r vn vi MA ms.length mc UA us.length uc) 66
  clear okx sb hx hh hm hd hok l1 l2 l3
  go_enter Try.func11, Try.ntmps11
  go_wp2_with fail
  (with_reducible refine (TH.out _).mono ?_)
  rintro e w1 ⟨rfl, hb⟩
  replace p0 := p0.step hb
  have hB := below_step (below_alloc w (bxN k n i rd cd SA st.length sc r vn vi MA ms.length mc UA us.length uc)) hb
  haveI := p0
  clear hb TH
  go_wp2_with fail
  (with_reducible refine (TE.out _ (HX.out.step hB)).mono ?_)
  rintro e w2 ⟨v2, rfl, ho2, hb⟩
  obtain ⟨A2, c2, rfl, _, _⟩ := own_slice ho2
  replace p0 := p0.step hb
  replace hB := below_step hB hb
  have T2 := hide (TD.out A2 c2 w2 (Reads.of_own ho2))
  clear hb ho2 TE TD
  go_wp2_with fail
  (with_reducible refine T2.out.mono ?_)
  rintro e w3 ⟨S3, s3, M3, m3, U3, u3, rfl, ok3, hb⟩
  simp only [Nt.v, Nt.at, Nt.bare, List.length_nil] at ok3 ⊢
  replace p0 := p0.step hb
  replace hB := below_step hB hb
  have hbA := below_alloc w3 (bxN k n i rd cd S3 st.length s3 r vn vi M3 ms.length m3 U3 us.length u3)
  replace p0 := p0.step hbA
  replace hB := below_step hB hbA
  haveI := p0
  have T3 := hide (TS.out _ S3 s3 M3 m3 U3 u3 (ok3.step hbA) (HX.out.step hB))
  clear hb hbA ok3 T2 TS
  go_wp2_with fail
  (with_reducible refine T3.out.mono ?_)
  rintro e w4 ⟨rfl, hb⟩
  replace hB := below_step hB hb
  clear hb T3 p0
  have hsr := (HSB.out.below hB).more hB.size
  have T5 := hide (TD2.out w4 hsr)
  clear TD2
  go_wp2_with fail
  (with_reducible refine T5.out.mono ?_)
  rintro e w5 ⟨S3, s3, M3, m3, U3, u3, rfl, ok5, hb⟩
  simp only [Nt.v, Nt.at, List.length_nil] at ok5 ⊢
  replace hB := below_step hB hb
  have hbA := below_alloc w5 (bxN 0 0 0 0 0 S3 0 s3 0 0 0 M3 0 m3 U3 0 u3)
  have T6 := hide (TS2.out _ S3 s3 M3 m3 U3 u3 (ok5.step hbA))
  replace hB := below_step hB hbA
  clear hb hbA ok5 T5 TS2 hsr
  go_wp2_with fail
  (with_reducible refine T6.out.mono ?_)
  rintro e w6 ⟨rfl, hb⟩
  replace hB := below_step hB hb
  clear hb T6
  go_wp2_with fail
  (with_reducible refine (TA.out _).mono ?_)
  rintro e w7 ⟨rfl, hb⟩
  replace hB := below_step hB hb
  clear hb
  go_wp2
  go_ret
  exact ⟨rfl, hB⟩
set_option maxRecDepth 100000 in
set_option maxHeartbeats 4000000 in
theorem noticeBackAS (x : Nt) (BA : Option Addr) (bc : Nat) (bs : List Int) (w : World) (okx : x.Ok w) (hx : x.Wf) (hh : hvN x = false) (sb : Reads w w.heap.size 1 BA bs.length (bcs bs)) (hok : bOK bs) (hbl : bs.length ≤ 5000) (hm : x.mayB = true) (y : Nt) (hd : decN bs = some y) :
    Calls Try.prog 11 #[x.v, .slice BA bs.length bc] w (RetB w true) := by
  have TA := hide (fun W => awake8_t W)
  have TH := hide (fun W => heavy8_s x W)
  rw [hh] at TH
  obtain ⟨l1, l2, l3⟩ : x.st.length ≤ 300 ∧ x.vw.ms.length ≤ 300 ∧ x.vw.us.length ≤ 300 := by unfold hvN at hh; simp at hh; omega
  have TE := hide (fun W (h : x.Ok W) => encode_s x W h (NtF.of hx) ⟨l1, l2, l3⟩ hm)
  have hel := enc_len x hm
  have TD : Hid (∀ A c W, Reads W W.heap.size 1 A x.enc.length (bcs x.enc) → Calls Try.prog 50 #[.slice A x.enc.length c] W (RetN W x.bare 0)) := hide (fun A c W h => by
    have := decode_s A c x.enc W h (by omega) (enc_ok x hm (NtF.of hx))
    rw [decN_back x hm (NtF.of hx)] at this; exact this)
  have TS : Hid (∀ W SA sc MA mc UA uc, Nt.Ok W (x.bare.at SA sc MA mc UA uc) → x.Ok W → Calls Try.prog 49 #[(x.bare.at SA sc MA mc UA uc).v, x.v] W (RetBb W true)) := hide (fun W SA sc MA mc UA uc h h' => by
    have := refNSame_s (x.bare.at SA sc MA mc UA uc) x W h h'
    rw [bare_eqB] at this; exact this)
  generalize x.enc = en at TE TD hel
  obtain ⟨hel1, hel0⟩ := hel
  have hel2 : decide ((320 : Int) < (en.length : Int)) = false := decide_eq_false (by omega)
  obtain ⟨y1, y2, y3, y4⟩ := decN_inv hok hd
  have TD2 : Hid (∀ W, Reads W W.heap.size 1 BA bs.length (bcs bs) → Calls Try.prog 50 #[.slice BA bs.length bc] W (RetN W y 0)) := hide (fun W h => by
    have := decode_s BA bc bs W h (by omega) hok
    rw [hd] at this; exact this)
  have TE2 : Hid (∀ W SA sc MA mc UA uc, Nt.Ok W (y.at SA sc MA mc UA uc) → Calls Try.prog 52 #[(y.at SA sc MA mc UA uc).v] W (RetE W bs)) := hide (fun W SA sc MA mc UA uc h => by
    have := encode_s (y.at SA sc MA mc UA uc) W h ⟨y3.i, y3.rd, y3.cd, y3.st, y3.v⟩ (may_lens (x := y.at SA sc MA mc UA uc) y1) y1
    rw [show (y.at SA sc MA mc UA uc).enc = bs from y2] at this; exact this)
  obtain ⟨yk, yn, yi, yrd, ycd, ySA, ysc, yst, ⟨yr, yvn, yvi, yMA, ymc, yms, yUA, yuc, yus⟩⟩ := y
  clear y1 y2 y3 y4
  have hb5 : decide ((5000 : Int) < (bs.length : Int)) = false := decide_eq_false (by omega)
  have HX := hide okx
  have HSB := hide sb
  obtain ⟨k, n, i, rd, cd, SA, sc, st, ⟨r, vn, vi, MA, mc, ms, UA, uc, us⟩⟩ := x
  unfold Nt.v at *
  simp only [Nt.at, Nt.bare, List.length_nil] at *
  have p0 := boxTop w (csN k n i rd cd SA st.length sc r vn vi MA ms.length mc UA us.length uc) 66
  clear okx sb hx hh hm hd hok l1 l2 l3
  go_enter Try.func11, Try.ntmps11
  go_wp2_with fail
  (with_reducible refine (TH.out _).mono ?_)
  rintro e w1 ⟨rfl, hb⟩
  replace p0 := p0.step hb
  have hB := below_step (below_alloc w (bxN k n i rd cd SA st.length sc r vn vi MA ms.length mc UA us.length uc)) hb
  haveI := p0
  clear hb TH
  go_wp2_with fail
  (with_reducible refine (TE.out _ (HX.out.step hB)).mono ?_)
  rintro e w2 ⟨v2, rfl, ho2, hb⟩
  obtain ⟨A2, c2, rfl, _, _⟩ := own_slice ho2
  replace p0 := p0.step hb
  replace hB := below_step hB hb
  have T2 := hide (TD.out A2 c2 w2 (Reads.of_own ho2))
  clear hb ho2 TE TD
  go_wp2_with fail
  (with_reducible refine T2.out.mono ?_)
  rintro e w3 ⟨S3, s3, M3, m3, U3, u3, rfl, ok3, hb⟩
  simp only [Nt.v, Nt.at, Nt.bare, List.length_nil] at ok3 ⊢
  replace p0 := p0.step hb
  replace hB := below_step hB hb
  have hbA := below_alloc w3 (bxN k n i rd cd S3 st.length s3 r vn vi M3 ms.length m3 U3 us.length u3)
  replace p0 := p0.step hbA
  replace hB := below_step hB hbA
  haveI := p0
  have T3 := hide (TS.out _ S3 s3 M3 m3 U3 u3 (ok3.step hbA) (HX.out.step hB))
  clear hb hbA ok3 T2 TS
  go_wp2_with fail
  (with_reducible refine T3.out.mono ?_)
  rintro e w4 ⟨rfl, hb⟩
  replace hB := below_step hB hb
  clear hb T3 p0
  have hsr := (HSB.out.below hB).more hB.size
  have T5 := hide (TD2.out w4 hsr)
  clear TD2
  go_wp2_with fail
  (with_reducible refine T5.out.mono ?_)
  rintro e w5 ⟨S3, s3, M3, m3, U3, u3, rfl, ok5, hb⟩
  simp only [Nt.v, Nt.at, List.length_nil] at ok5 ⊢
  replace hB := below_step hB hb
  have hbA := below_alloc w5 (bxN yk yn yi yrd ycd S3 yst.length s3 yr yvn yvi M3 yms.length m3 U3 yus.length u3)
  have T6 := hide (TE2.out _ S3 s3 M3 m3 U3 u3 (ok5.step hbA))
  replace hB := below_step hB hbA
  clear hb hbA ok5 T5 TE2 hsr
  go_wp2_with fail
  (with_reducible refine T6.out.mono ?_)
  rintro e w6 ⟨v6, rfl, ho6, hb⟩
  obtain ⟨A6, c6, rfl, _, _⟩ := own_slice ho6
  replace hB := below_step hB hb
  have hcv := conv_reads (c := c6) (Reads.of_own ho6)
  have hcv2 := conv_reads (c := bc) (HSB.out.below hB)
  clear hb T6 ho6
  go_wp2_with fail
  (with_reducible refine (TA.out _).mono ?_)
  rintro e w7 ⟨rfl, hb⟩
  replace hB := below_step hB hb
  clear hb
  go_wp2
  go_ret
  exact ⟨rfl, hB⟩
set_option maxRecDepth 100000 in
set_option maxHeartbeats 4000000 in
theorem noticeBackBN (x : Nt) (BA : Option Addr) (bc : Nat) (bs : List Int) (w : World) (okx : x.Ok w) (hx : x.Wf) (hh : hvN x = false) (sb : Reads w w.heap.size 1 BA bs.length (bcs bs)) (hok : bOK bs) (hbl : bs.length ≤ 5000) (hm : x.mayB = false) (hd : decN bs = none) :
    Calls Try.prog 11 #[x.v, .slice BA bs.length bc] w (RetB w true) := by
  have TA := hide (fun W => awake8_t W)
  have TH := hide (fun W => heavy8_s x W)
  rw [hh] at TH
  obtain ⟨l1, l2, l3⟩ : x.st.length ≤ 300 ∧ x.vw.ms.length ≤ 300 ∧ x.vw.us.length ≤ 300 := by unfold hvN at hh; simp at hh; omega
  have TE : Hid (∀ W, x.Ok W → Calls Try.prog 52 #[x.v] W fun e w' => e = .returned (.tuple #[.slice none 0 0, .int .i64 3]) ∧ Below W.heap.size W w') := hide (fun W h => encode_no x.k x.n x.i x.rd x.cd x.SA x.sc x.st x.vw.r x.vw.n x.vw.i x.vw.MA x.vw.mc x.vw.ms x.vw.UA x.vw.uc x.vw.us W h hm)
  have TD2 : Hid (∀ W, Reads W W.heap.size 1 BA bs.length (bcs bs) → Calls Try.prog 50 #[.slice BA bs.length bc] W (RetN W nt0 3)) := hide (fun W h => by
    have := decode_s BA bc bs W h (by omega) hok
    rw [hd] at this; exact this)
  have TS2 : Hid (∀ W SA sc MA mc UA uc, Nt.Ok W (nt0.at SA sc MA mc UA uc) → Calls Try.prog 49 #[NtV 0 0 0 0 0 SA 0 sc 0 0 0 MA 0 mc UA 0 uc, NtV 0 0 0 0 0 none 0 0 0 0 0 none 0 0 none 0 0] W (RetBb W true)) := hide (fun W SA sc MA mc UA uc h => by
    have := refNSame_s (nt0.at SA sc MA mc UA uc) nt0 W h (nt0_ok W)
    rw [eqB_at] at this; exact this)
  have hb5 : decide ((5000 : Int) < (bs.length : Int)) = false := decide_eq_false (by omega)
  have HX := hide okx
  have HSB := hide sb
  obtain ⟨k, n, i, rd, cd, SA, sc, st, ⟨r, vn, vi, MA, mc, ms, UA, uc, us⟩⟩ := x
  unfold Nt.v at *
  simp only [Nt.at, Nt.bare, List.length_nil] at *
  have p0 := boxTop w (csN k n i rd cd SA st.length sc r vn vi MA ms.length mc UA us.length uc) 66
  clear okx sb hx hh hm hd hok l1 l2 l3
  go_enter Try.func11, Try.ntmps11
  go_wp2_with fail
  (with_reducible refine (TH.out _).mono ?_)
  rintro e w1 ⟨rfl, hb⟩
  replace p0 := p0.step hb
  have hB := below_step (below_alloc w (bxN k n i rd cd SA st.length sc r vn vi MA ms.length mc UA us.length uc)) hb
  haveI := p0
  clear hb TH
  go_wp2_with fail
  (with_reducible refine (TE.out _ (HX.out.step hB)).mono ?_)
  rintro e w4 ⟨rfl, hb⟩
  replace hB := below_step hB hb
  clear hb TE p0
  have hsr := (HSB.out.below hB).more hB.size
  have T5 := hide (TD2.out w4 hsr)
  clear TD2
  go_wp2_with fail
  (with_reducible refine T5.out.mono ?_)
  rintro e w5 ⟨S3, s3, M3, m3, U3, u3, rfl, ok5, hb⟩
  simp only [Nt.v, Nt.at, List.length_nil] at ok5 ⊢
  replace hB := below_step hB hb
  have hbA := below_alloc w5 (bxN 0 0 0 0 0 S3 0 s3 0 0 0 M3 0 m3 U3 0 u3)
  have T6 := hide (TS2.out _ S3 s3 M3 m3 U3 u3 (ok5.step hbA))
  replace hB := below_step hB hbA
  clear hb hbA ok5 T5 TS2 hsr
  go_wp2_with fail
  (with_reducible refine T6.out.mono ?_)
  rintro e w6 ⟨rfl, hb⟩
  replace hB := below_step hB hb
  clear hb T6
  go_wp2_with fail
  (with_reducible refine (TA.out _).mono ?_)
  rintro e w7 ⟨rfl, hb⟩
  replace hB := below_step hB hb
  clear hb
  go_wp2
  go_ret
  exact ⟨rfl, hB⟩
set_option maxRecDepth 100000 in
set_option maxHeartbeats 4000000 in
theorem noticeBackBS (x : Nt) (BA : Option Addr) (bc : Nat) (bs : List Int) (w : World) (okx : x.Ok w) (hx : x.Wf) (hh : hvN x = false) (sb : Reads w w.heap.size 1 BA bs.length (bcs bs)) (hok : bOK bs) (hbl : bs.length ≤ 5000) (hm : x.mayB = false) (y : Nt) (hd : decN bs = some y) :
    Calls Try.prog 11 #[x.v, .slice BA bs.length bc] w (RetB w true) := by
  have TA := hide (fun W => awake8_t W)
  have TH := hide (fun W => heavy8_s x W)
  rw [hh] at TH
  obtain ⟨l1, l2, l3⟩ : x.st.length ≤ 300 ∧ x.vw.ms.length ≤ 300 ∧ x.vw.us.length ≤ 300 := by unfold hvN at hh; simp at hh; omega
  have TE : Hid (∀ W, x.Ok W → Calls Try.prog 52 #[x.v] W fun e w' => e = .returned (.tuple #[.slice none 0 0, .int .i64 3]) ∧ Below W.heap.size W w') := hide (fun W h => encode_no x.k x.n x.i x.rd x.cd x.SA x.sc x.st x.vw.r x.vw.n x.vw.i x.vw.MA x.vw.mc x.vw.ms x.vw.UA x.vw.uc x.vw.us W h hm)
  obtain ⟨y1, y2, y3, y4⟩ := decN_inv hok hd
  have TD2 : Hid (∀ W, Reads W W.heap.size 1 BA bs.length (bcs bs) → Calls Try.prog 50 #[.slice BA bs.length bc] W (RetN W y 0)) := hide (fun W h => by
    have := decode_s BA bc bs W h (by omega) hok
    rw [hd] at this; exact this)
  have TE2 : Hid (∀ W SA sc MA mc UA uc, Nt.Ok W (y.at SA sc MA mc UA uc) → Calls Try.prog 52 #[(y.at SA sc MA mc UA uc).v] W (RetE W bs)) := hide (fun W SA sc MA mc UA uc h => by
    have := encode_s (y.at SA sc MA mc UA uc) W h ⟨y3.i, y3.rd, y3.cd, y3.st, y3.v⟩ (may_lens (x := y.at SA sc MA mc UA uc) y1) y1
    rw [show (y.at SA sc MA mc UA uc).enc = bs from y2] at this; exact this)
  obtain ⟨yk, yn, yi, yrd, ycd, ySA, ysc, yst, ⟨yr, yvn, yvi, yMA, ymc, yms, yUA, yuc, yus⟩⟩ := y
  clear y1 y2 y3 y4
  have hb5 : decide ((5000 : Int) < (bs.length : Int)) = false := decide_eq_false (by omega)
  have HX := hide okx
  have HSB := hide sb
  obtain ⟨k, n, i, rd, cd, SA, sc, st, ⟨r, vn, vi, MA, mc, ms, UA, uc, us⟩⟩ := x
  unfold Nt.v at *
  simp only [Nt.at, Nt.bare, List.length_nil] at *
  have p0 := boxTop w (csN k n i rd cd SA st.length sc r vn vi MA ms.length mc UA us.length uc) 66
  clear okx sb hx hh hm hd hok l1 l2 l3
  go_enter Try.func11, Try.ntmps11
  go_wp2_with fail
  (with_reducible refine (TH.out _).mono ?_)
  rintro e w1 ⟨rfl, hb⟩
  replace p0 := p0.step hb
  have hB := below_step (below_alloc w (bxN k n i rd cd SA st.length sc r vn vi MA ms.length mc UA us.length uc)) hb
  haveI := p0
  clear hb TH
  go_wp2_with fail
  (with_reducible refine (TE.out _ (HX.out.step hB)).mono ?_)
  rintro e w4 ⟨rfl, hb⟩
  replace hB := below_step hB hb
  clear hb TE p0
  have hsr := (HSB.out.below hB).more hB.size
  have T5 := hide (TD2.out w4 hsr)
  clear TD2
  go_wp2_with fail
  (with_reducible refine T5.out.mono ?_)
  rintro e w5 ⟨S3, s3, M3, m3, U3, u3, rfl, ok5, hb⟩
  simp only [Nt.v, Nt.at, List.length_nil] at ok5 ⊢
  replace hB := below_step hB hb
  have hbA := below_alloc w5 (bxN yk yn yi yrd ycd S3 yst.length s3 yr yvn yvi M3 yms.length m3 U3 yus.length u3)
  have T6 := hide (TE2.out _ S3 s3 M3 m3 U3 u3 (ok5.step hbA))
  replace hB := below_step hB hbA
  clear hb hbA ok5 T5 TE2 hsr
  go_wp2_with fail
  (with_reducible refine T6.out.mono ?_)
  rintro e w6 ⟨v6, rfl, ho6, hb⟩
  obtain ⟨A6, c6, rfl, _, _⟩ := own_slice ho6
  replace hB := below_step hB hb
  have hcv := conv_reads (c := c6) (Reads.of_own ho6)
  have hcv2 := conv_reads (c := bc) (HSB.out.below hB)
  clear hb T6 ho6
  go_wp2_with fail
  (with_reducible refine (TA.out _).mono ?_)
  rintro e w7 ⟨rfl, hb⟩
  replace hB := below_step hB hb
  clear hb
  go_wp2
  go_ret
  exact ⟨rfl, hB⟩
set_option maxRecDepth 100000 in
set_option maxHeartbeats 2000000 in
theorem noticeBack_true (x : Nt) (BA : Option Addr) (bc : Nat) (bs : List Int) (w : World) (hs : Sl w x.SA x.st) (hm : Sl w x.vw.MA x.vw.ms) (hu : Ul w x.vw.UA x.vw.us) (hx : x.Wf) (sb : Reads w w.heap.size 1 BA bs.length (bcs bs)) (hok : bOK bs) (hbm : bs.length ≤ 9223372036854775807) :
    Calls Try.prog 11 #[x.v, .slice BA bs.length bc] w (RetB w true) := by
  have TA := hide (fun W => awake8_t W)
  have TH := hide (fun W => heavy8_s x W)
  cases hh : hvN x
  · by_cases hbl : bs.length ≤ 5000
    · have okx := Nt.ok_of hs hm hu hh
      cases hmm : x.mayB
      · cases hd : decN bs with
        | none => exact noticeBackBN x BA bc bs w okx hx hh sb hok hbl hmm hd
        | some y => exact noticeBackBS x BA bc bs w okx hx hh sb hok hbl hmm y hd
      · cases hd : decN bs with
        | none => exact noticeBackAN x BA bc bs w okx hx hh sb hok hbl hmm hd
        | some y => exact noticeBackAS x BA bc bs w okx hx hh sb hok hbl hmm y hd
    · have hb5 : decide ((5000 : Int) < (bs.length : Int)) = true := decide_eq_true (by omega)
      rw [hh] at TH
      obtain ⟨k, n, i, rd, cd, SA, sc, st, ⟨r, vn, vi, MA, mc, ms, UA, uc, us⟩⟩ := x
      unfold Nt.v at TH ⊢
      simp only at TH ⊢
      clear hs hm hu hx sb hok hh hbl
      go_enter Try.func11, Try.ntmps11
      go_wp2_with fail
      (with_reducible refine (TH.out _).mono ?_)
      rintro e w1 ⟨rfl, hb⟩
      obtain ⟨⟨d1, os1⟩, rfl⟩ := gw_of_below hb
      clear hb
      go_wp2_with fail
      (with_reducible refine (TA.out _).mono ?_)
      rintro e w3 ⟨rfl, hb⟩
      obtain ⟨⟨d3, os3⟩, rfl⟩ := gw_of_below hb
      clear hb
      go_wp2
      go_ret
      exact ⟨rfl, (by repeat (first | exact Below.refl _ _ | assumption | refine bel_al ?_ _ | refine bel_gw ?_ _ _ | refine bel_drew ?_ | refine bel_drewN ?_ _))⟩
  · rw [hh] at TH
    obtain ⟨k, n, i, rd, cd, SA, sc, st, ⟨r, vn, vi, MA, mc, ms, UA, uc, us⟩⟩ := x
    unfold Nt.v at TH ⊢
    simp only at TH ⊢
    clear hs hm hu hx sb hok hh
    go_enter Try.func11, Try.ntmps11
    go_wp2_with fail
    (with_reducible refine (TH.out _).mono ?_)
    rintro e w1 ⟨rfl, hb⟩
    obtain ⟨⟨d1, os1⟩, rfl⟩ := gw_of_below hb
    clear hb
    go_wp2_with fail
    (with_reducible refine (TA.out _).mono ?_)
    rintro e w3 ⟨rfl, hb⟩
    obtain ⟨⟨d3, os3⟩, rfl⟩ := gw_of_below hb
    clear hb
    go_wp2
    go_ret
    exact ⟨rfl, (by repeat (first | exact Below.refl _ _ | assumption | refine bel_al ?_ _ | refine bel_gw ?_ _ _ | refine bel_drew ?_ | refine bel_drewN ?_ _))⟩
end Go.Proofs.Ytgbappmidllnmaa
