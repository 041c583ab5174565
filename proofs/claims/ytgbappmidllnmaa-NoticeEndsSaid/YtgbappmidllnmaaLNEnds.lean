/-
  Layer 8: the law NoticeEnds: true for every input.
-/
import Derived.Test.YtgbappmidllnmaaLNBack
namespace Go.Proofs.Ytgbappmidllnmaa
set_option linter.unusedSimpArgs false
set_option linter.unusedVariables false
set_option linter.unusedSectionVars false
open Go.RowKit

set_option maxRecDepth 100000 in
set_option maxHeartbeats 4000000 in
theorem noticeEndsB (x : Nt) (BA : Option Addr) (bc : Nat) (bs : List Int) (cut : Int) (w : World) (okx : x.Ok w) (hx : x.Wf) (hh : hvN x = false) (sb : Reads w w.heap.size 1 BA bs.length (bcs bs)) (hok : bOK bs) (hbl : bs.length ≤ 500) (hc0 : -9223372036854775808 ≤ cut) (hc1 : cut ≤ 9223372036854775807) (hm : x.mayB = false) :
    Calls Try.prog 12 #[x.v, .slice BA bs.length bc, .int .i64 cut] w (RetB w true) := by
  have TA := hide (fun W => awake8_t W)
  have TH := hide (fun W => heavy8_s x W)
  rw [hh] at TH
  obtain ⟨l1, l2, l3⟩ : x.st.length ≤ 300 ∧ x.vw.ms.length ≤ 300 ∧ x.vw.us.length ≤ 300 := by unfold hvN at hh; simp at hh; omega
  have TE : Hid (∀ W, x.Ok W → Calls Try.prog 52 #[x.v] W fun e w' => e = .returned (.tuple #[.slice none 0 0, .int .i64 3]) ∧ Below W.heap.size W w') := hide (fun W h => encode_no x.k x.n x.i x.rd x.cd x.SA x.sc x.st x.vw.r x.vw.n x.vw.i x.vw.MA x.vw.mc x.vw.ms x.vw.UA x.vw.uc x.vw.us W h hm)
  have hb5 : decide ((500 : Int) < (bs.length : Int)) = false := decide_eq_false (by omega)
  have HX := hide okx
  have HSB := hide sb
  obtain ⟨k, n, i, rd, cd, SA, sc, st, ⟨r, vn, vi, MA, mc, ms, UA, uc, us⟩⟩ := x
  unfold Nt.v at *
  simp only [Nt.at, Nt.bare, List.length_nil] at *
  have p0 := boxTop w (csN k n i rd cd SA st.length sc r vn vi MA ms.length mc UA us.length uc) 66
  clear okx sb hx hh hm hok l1 l2 l3
  go_enter Try.func12, Try.ntmps12
  go_wp2_with fail
  (with_reducible refine (TH.out _).mono ?_)
  rintro e w1 ⟨rfl, hb⟩
  replace p0 := p0.step hb
  have hB := below_step (below_alloc w (bxN k n i rd cd SA st.length sc r vn vi MA ms.length mc UA us.length uc)) hb
  haveI := p0
  clear hb TH
  go_wp2_with fail
  (with_reducible refine (TE.out _ (HX.out.step hB)).mono ?_)
  rintro e w4 ⟨rfl, hb⟩
  replace hB := below_step hB hb
  clear hb TE p0
  go_wp2_with fail
  (with_reducible refine (TA.out _).mono ?_)
  rintro e w17 ⟨rfl, hb⟩
  replace hB := below_step hB hb
  clear hb
  go_wp2
  go_ret
  exact ⟨rfl, hB⟩
set_option maxRecDepth 100000 in
set_option maxHeartbeats 4000000 in
theorem noticeEndsN (x : Nt) (BA : Option Addr) (bc : Nat) (bs : List Int) (cut : Int) (w : World) (okx : x.Ok w) (hx : x.Wf) (hh : hvN x = false) (sb : Reads w w.heap.size 1 BA bs.length (bcs bs)) (hok : bOK bs) (hbl : bs.length ≤ 500) (hc0 : -9223372036854775808 ≤ cut) (hc1 : cut ≤ 9223372036854775807) (hm : x.mayB = true) (hne : bs ≠ []) :
    Calls Try.prog 12 #[x.v, .slice BA bs.length bc, .int .i64 cut] w (RetB w true) := by
  have TA := hide (fun W => awake8_t W)
  have TH := hide (fun W => heavy8_s x W)
  rw [hh] at TH
  obtain ⟨l1, l2, l3⟩ : x.st.length ≤ 300 ∧ x.vw.ms.length ≤ 300 ∧ x.vw.us.length ≤ 300 := by unfold hvN at hh; simp at hh; omega
  have TE := hide (fun W (h : x.Ok W) => encode_s x W h (NtF.of hx) ⟨l1, l2, l3⟩ hm)
  have hel := enc_len x hm
  have HEO := hide (enc_ok x hm (NtF.of hx))
  have TD : Hid (∀ A c k W, k < x.enc.length → Reads W W.heap.size 1 A k (bcs (x.enc.take k)) → Calls Try.prog 50 #[.slice A k c] W (RetN W nt0 3)) := hide (fun A c k W hk h => by
    have hl : (x.enc.take k).length = k := by simp; omega
    have := decode_s A c (x.enc.take k) W (by rw [hl]; exact h) (by omega) (fun b hb => enc_ok x hm (NtF.of hx) b (List.mem_of_mem_take hb))
    rw [decN_cut x k hk hm (NtF.of hx), hl] at this; exact this)
  have TS2 : Hid (∀ W SA sc MA mc UA uc, Nt.Ok W (nt0.at SA sc MA mc UA uc) → Calls Try.prog 49 #[NtV 0 0 0 0 0 SA 0 sc 0 0 0 MA 0 mc UA 0 uc, NtV 0 0 0 0 0 none 0 0 0 0 0 none 0 0 none 0 0] W (RetBb W true)) := hide (fun W SA sc MA mc UA uc h => by
    have := refNSame_s (nt0.at SA sc MA mc UA uc) nt0 W h (nt0_ok W)
    rw [eqB_at] at this; exact this)
  have TD2 : Hid (∀ A c W, Reads W W.heap.size 1 A (x.enc ++ bs).length (bcs (x.enc ++ bs)) → Calls Try.prog 50 #[.slice A (x.enc ++ bs).length c] W (RetN W nt0 3)) := hide (fun A c W h => by
    have := decode_s A c (x.enc ++ bs) W h (by simp; omega) ((enc_ok x hm (NtF.of hx)).app hok)
    rw [decN_more x bs hm (NtF.of hx) hne] at this; exact this)
  have hbs0 : ((bs.length : Int) == 0) = false := by
    have := List.length_pos_iff.2 hne
    rw [beq_eq_false_iff_ne]; omega
  generalize x.enc = en at TE TD hel HEO TD2
  obtain ⟨hel1, hel0⟩ := hel
  have hlen0 : ((en.length : Int) == 0) = false := by rw [beq_eq_false_iff_ne]; omega
  have TR : Hid (bOK (en ++ bs)) := hide (HEO.out.app hok)
  have hb5 : decide ((500 : Int) < (bs.length : Int)) = false := decide_eq_false (by omega)
  have HX := hide okx
  have HSB := hide sb
  obtain ⟨k, n, i, rd, cd, SA, sc, st, ⟨r, vn, vi, MA, mc, ms, UA, uc, us⟩⟩ := x
  unfold Nt.v at *
  simp only [Nt.at, Nt.bare, List.length_nil] at *
  have p0 := boxTop w (csN k n i rd cd SA st.length sc r vn vi MA ms.length mc UA us.length uc) 66
  clear okx sb hx hh hm hok l1 l2 l3
  go_enter Try.func12, Try.ntmps12
  go_wp2_with fail
  (with_reducible refine (TH.out _).mono ?_)
  rintro e w1 ⟨rfl, hb⟩
  replace p0 := p0.step hb
  have hB := below_step (below_alloc w (bxN k n i rd cd SA st.length sc r vn vi MA ms.length mc UA us.length uc)) hb
  haveI := p0
  clear hb TH
  go_wp2_with fail
  (with_reducible refine (TE.out _ (HX.out.step hB)).mono ?_)
  rintro e w2 ⟨v2, rfl, ho2, hb⟩
  obtain ⟨g2, c2, rfl, hc2, hm2⟩ := own_some ho2 hel0
  replace p0 := p0.step hb
  replace hB := below_step hB hb
  obtain ⟨j, hj, hjl⟩ : ∃ j : Nat, max cut 0 % (en.length : Int) = (j : Int) ∧ j < en.length := by
    have h0 : 0 ≤ max cut 0 % (en.length : Int) := Int.emod_nonneg _ (by omega)
    have h1 : max cut 0 % (en.length : Int) < (en.length : Int) := Int.emod_lt_of_pos _ (by omega)
    exact ⟨(max cut 0 % (en.length : Int)).toNat, by omega, by omega⟩
  have hjc : j ≤ c2 := by omega
  have hrk : Reads w2 w2.heap.size 1 (some ⟨g2, 0, none⟩) j (bcs (en.take j)) := by
    have := (Reads.of_own ho2).head (m := j) (by omega)
    rwa [bcs_take] at this
  have T2 := hide (fun c => TD.out _ c _ _ hjl hrk)
  have HO2 := hide ho2
  clear hb ho2 TE TD hrk
  go_wp2_with fail
  (with_reducible refine (T2.out _).mono ?_)
  rintro e w3 ⟨S3, s3, M3, m3, U3, u3, rfl, ok3, hb⟩
  simp only [Nt.v, Nt.at, List.length_nil] at ok3 ⊢
  clear hj hjl hjc
  replace p0 := p0.step hb
  replace hB := below_step hB hb
  have hbA := below_alloc w3 (bxN 0 0 0 0 0 S3 0 s3 0 0 0 M3 0 m3 U3 0 u3)
  have HO3 := hide (own_below (own_below HO2.out hb (Nat.le_refl _)) hbA (Nat.le_refl _))
  replace p0 := p0.step hbA
  replace hB := below_step hB hbA
  have T3 := hide (TS2.out _ S3 s3 M3 m3 U3 u3 (ok3.step hbA))
  clear hb hbA ok3 T2 TS2 HO2
  go_wp2_with fail
  (with_reducible refine T3.out.mono ?_)
  rintro e w4 ⟨rfl, hb⟩
  replace p0 := p0.step hb
  replace hB := below_step hB hb
  have HO4 := hide (own_below HO3.out hb (Nat.le_refl _))
  have hB4 := hB.size
  clear hb T3 HO3
  go_wp2_with (first
    | (at_builtin; refine wpList_append_any _ Try.okB (by rfl) (.tmp 59) (.tmp 60) (by rfl) w4.heap.size (.slice (some ⟨w4.heap.size, 0, none⟩) 0 0) 0 [] (by rfl) (own_emptyBy w4) w4.heap.size (some ⟨g2, 0, none⟩) en.length c2 (bcs en) (by rfl) (Reads.below (Reads.of_own HO4.out) (below_alloc _ _)) (bcs_one _) (by unfold maxLen; omega) (by omega) (by simp) ?_; intro v8 w8 hown8 hg8 hnil8 hat8; go_must (obtain ⟨hb8, ho8⟩ := app_fresh (Below.refl _ _) hg8 hown8; have HO8 := hide ho8; have HB8 := hide hb8; have hs8 := hb8.size; clear hown8 hg8 hnil8 hat8 ho8 hb8))
    | (at_builtin; refine wpList_append_any _ Try.okB (by rfl) (.tmp 61) (.tmp 62) (by rfl) w4.heap.size v8 en.length (bcs en) (by rfl) HO8.out w.heap.size BA bs.length bc (bcs bs) (by rfl) (HSB.out.below (hB.trans (HB8.out.mono hB4))) (bcs_one _) (by unfold maxLen; omega) (by omega) (by omega) ?_; intro v9 w9 hown9 hg9 hnil9 hat9; go_must (have hb9 := HB8.out.grown hg9 hs8 (fun k hk => (HO8.out.lt k hk).1); obtain ⟨A9, c9, e9, _, _⟩ := own_slice hown9; subst e9; have hr9 : Reads w9 w9.heap.size 1 A9 (en ++ bs).length (bcs (en ++ bs)) := (by rw [bcs_app, List.length_append]; exact Reads.of_own hown9); have T9 := hide (TD2.out A9 c9 w9 hr9); rw [List.length_append] at T9; have HB9 := hide hb9; clear hown9 hg9 hnil9 hat9 hr9 hb9 HO8 HB8)))
  (with_reducible refine T9.out.mono ?_)
  rintro e w10 ⟨S4, s4, M4, m4, U4, u4, rfl, ok10, hb⟩
  simp only [Nt.v, Nt.at, Nt.bare, List.length_nil] at ok10 ⊢
  have hb410 := below_step HB9.out hb
  replace p0 := p0.step hb410
  replace hB := below_step hB hb410
  have hbA := below_alloc w10 (bxN 0 0 0 0 0 S4 0 s4 0 0 0 M4 0 m4 U4 0 u4)
  replace hB := below_step hB hbA
  clear hb hbA ok10 hb410 T9 HB9 hne
  go_wp2_with fail
  (with_reducible refine (TA.out _).mono ?_)
  rintro e w17 ⟨rfl, hb⟩
  replace hB := below_step hB hb
  clear hb
  go_wp2
  go_ret
  exact ⟨rfl, hB⟩
set_option maxRecDepth 100000 in
set_option maxHeartbeats 4000000 in
theorem noticeEndsS (x : Nt) (BA : Option Addr) (bc : Nat) (bs : List Int) (cut : Int) (w : World) (okx : x.Ok w) (hx : x.Wf) (hh : hvN x = false) (sb : Reads w w.heap.size 1 BA bs.length (bcs bs)) (hok : bOK bs) (hbl : bs.length ≤ 500) (hc0 : -9223372036854775808 ≤ cut) (hc1 : cut ≤ 9223372036854775807) (hm : x.mayB = true) (hne : bs = []) :
    Calls Try.prog 12 #[x.v, .slice BA bs.length bc, .int .i64 cut] w (RetB w true) := by
  have TA := hide (fun W => awake8_t W)
  have TH := hide (fun W => heavy8_s x W)
  rw [hh] at TH
  obtain ⟨l1, l2, l3⟩ : x.st.length ≤ 300 ∧ x.vw.ms.length ≤ 300 ∧ x.vw.us.length ≤ 300 := by unfold hvN at hh; simp at hh; omega
  have TE := hide (fun W (h : x.Ok W) => encode_s x W h (NtF.of hx) ⟨l1, l2, l3⟩ hm)
  have hel := enc_len x hm
  have HEO := hide (enc_ok x hm (NtF.of hx))
  have TD : Hid (∀ A c k W, k < x.enc.length → Reads W W.heap.size 1 A k (bcs (x.enc.take k)) → Calls Try.prog 50 #[.slice A k c] W (RetN W nt0 3)) := hide (fun A c k W hk h => by
    have hl : (x.enc.take k).length = k := by simp; omega
    have := decode_s A c (x.enc.take k) W (by rw [hl]; exact h) (by omega) (fun b hb => enc_ok x hm (NtF.of hx) b (List.mem_of_mem_take hb))
    rw [decN_cut x k hk hm (NtF.of hx), hl] at this; exact this)
  have TS2 : Hid (∀ W SA sc MA mc UA uc, Nt.Ok W (nt0.at SA sc MA mc UA uc) → Calls Try.prog 49 #[NtV 0 0 0 0 0 SA 0 sc 0 0 0 MA 0 mc UA 0 uc, NtV 0 0 0 0 0 none 0 0 0 0 0 none 0 0 none 0 0] W (RetBb W true)) := hide (fun W SA sc MA mc UA uc h => by
    have := refNSame_s (nt0.at SA sc MA mc UA uc) nt0 W h (nt0_ok W)
    rw [eqB_at] at this; exact this)
  have TD2 : Hid (∀ A c W, Reads W W.heap.size 1 A (x.enc ++ bs).length (bcs (x.enc ++ bs)) → Calls Try.prog 50 #[.slice A (x.enc ++ bs).length c] W (RetN W x.bare 0)) := hide (fun A c W h => by
    have := decode_s A c (x.enc ++ bs) W h (by simp; omega) ((enc_ok x hm (NtF.of hx)).app hok)
    rw [hne, List.append_nil, decN_back x hm (NtF.of hx)] at this
    rw [hne, List.append_nil]; exact this)
  have hbs0 : ((bs.length : Int) == 0) = true := by rw [hne]; rfl
  have TS : Hid (∀ W SA sc MA mc UA uc, Nt.Ok W (x.bare.at SA sc MA mc UA uc) → x.Ok W → Calls Try.prog 49 #[(x.bare.at SA sc MA mc UA uc).v, x.v] W (RetBb W true)) := hide (fun W SA sc MA mc UA uc h h' => by
    have := refNSame_s (x.bare.at SA sc MA mc UA uc) x W h h'
    rw [bare_eqB] at this; exact this)
  have HNE := hide hne
  clear hne
  generalize x.enc = en at TE TD hel HEO TD2
  obtain ⟨hel1, hel0⟩ := hel
  have hlen0 : ((en.length : Int) == 0) = false := by rw [beq_eq_false_iff_ne]; omega
  have TR : Hid (bOK (en ++ bs)) := hide (HEO.out.app hok)
  have hb5 : decide ((500 : Int) < (bs.length : Int)) = false := decide_eq_false (by omega)
  have HX := hide okx
  have HSB := hide sb
  obtain ⟨k, n, i, rd, cd, SA, sc, st, ⟨r, vn, vi, MA, mc, ms, UA, uc, us⟩⟩ := x
  unfold Nt.v at *
  simp only [Nt.at, Nt.bare, List.length_nil] at *
  have p0 := boxTop w (csN k n i rd cd SA st.length sc r vn vi MA ms.length mc UA us.length uc) 66
  clear okx sb hx hh hm hok l1 l2 l3
  go_enter Try.func12, Try.ntmps12
  go_wp2_with fail
  (with_reducible refine (TH.out _).mono ?_)
  rintro e w1 ⟨rfl, hb⟩
  replace p0 := p0.step hb
  have hB := below_step (below_alloc w (bxN k n i rd cd SA st.length sc r vn vi MA ms.length mc UA us.length uc)) hb
  haveI := p0
  clear hb TH
  go_wp2_with fail
  (with_reducible refine (TE.out _ (HX.out.step hB)).mono ?_)
  rintro e w2 ⟨v2, rfl, ho2, hb⟩
  obtain ⟨g2, c2, rfl, hc2, hm2⟩ := own_some ho2 hel0
  replace p0 := p0.step hb
  replace hB := below_step hB hb
  obtain ⟨j, hj, hjl⟩ : ∃ j : Nat, max cut 0 % (en.length : Int) = (j : Int) ∧ j < en.length := by
    have h0 : 0 ≤ max cut 0 % (en.length : Int) := Int.emod_nonneg _ (by omega)
    have h1 : max cut 0 % (en.length : Int) < (en.length : Int) := Int.emod_lt_of_pos _ (by omega)
    exact ⟨(max cut 0 % (en.length : Int)).toNat, by omega, by omega⟩
  have hjc : j ≤ c2 := by omega
  have hrk : Reads w2 w2.heap.size 1 (some ⟨g2, 0, none⟩) j (bcs (en.take j)) := by
    have := (Reads.of_own ho2).head (m := j) (by omega)
    rwa [bcs_take] at this
  have T2 := hide (fun c => TD.out _ c _ _ hjl hrk)
  have HO2 := hide ho2
  clear hb ho2 TE TD hrk
  go_wp2_with fail
  (with_reducible refine (T2.out _).mono ?_)
  rintro e w3 ⟨S3, s3, M3, m3, U3, u3, rfl, ok3, hb⟩
  simp only [Nt.v, Nt.at, List.length_nil] at ok3 ⊢
  clear hj hjl hjc
  replace p0 := p0.step hb
  replace hB := below_step hB hb
  have hbA := below_alloc w3 (bxN 0 0 0 0 0 S3 0 s3 0 0 0 M3 0 m3 U3 0 u3)
  have HO3 := hide (own_below (own_below HO2.out hb (Nat.le_refl _)) hbA (Nat.le_refl _))
  replace p0 := p0.step hbA
  replace hB := below_step hB hbA
  have T3 := hide (TS2.out _ S3 s3 M3 m3 U3 u3 (ok3.step hbA))
  clear hb hbA ok3 T2 TS2 HO2
  go_wp2_with fail
  (with_reducible refine T3.out.mono ?_)
  rintro e w4 ⟨rfl, hb⟩
  replace p0 := p0.step hb
  replace hB := below_step hB hb
  have HO4 := hide (own_below HO3.out hb (Nat.le_refl _))
  have hB4 := hB.size
  clear hb T3 HO3
  go_wp2_with (first
    | (at_builtin; refine wpList_append_any _ Try.okB (by rfl) (.tmp 59) (.tmp 60) (by rfl) w4.heap.size (.slice (some ⟨w4.heap.size, 0, none⟩) 0 0) 0 [] (by rfl) (own_emptyBy w4) w4.heap.size (some ⟨g2, 0, none⟩) en.length c2 (bcs en) (by rfl) (Reads.below (Reads.of_own HO4.out) (below_alloc _ _)) (bcs_one _) (by unfold maxLen; omega) (by omega) (by simp) ?_; intro v8 w8 hown8 hg8 hnil8 hat8; go_must (obtain ⟨hb8, ho8⟩ := app_fresh (Below.refl _ _) hg8 hown8; have HO8 := hide ho8; have HB8 := hide hb8; have hs8 := hb8.size; clear hown8 hg8 hnil8 hat8 ho8 hb8))
    | (at_builtin; refine wpList_append_any _ Try.okB (by rfl) (.tmp 61) (.tmp 62) (by rfl) w4.heap.size v8 en.length (bcs en) (by rfl) HO8.out w.heap.size BA bs.length bc (bcs bs) (by rfl) (HSB.out.below (hB.trans (HB8.out.mono hB4))) (bcs_one _) (by unfold maxLen; omega) (by omega) (by omega) ?_; intro v9 w9 hown9 hg9 hnil9 hat9; go_must (have hb9 := HB8.out.grown hg9 hs8 (fun k hk => (HO8.out.lt k hk).1); obtain ⟨A9, c9, e9, _, _⟩ := own_slice hown9; subst e9; have hr9 : Reads w9 w9.heap.size 1 A9 (en ++ bs).length (bcs (en ++ bs)) := (by rw [bcs_app, List.length_append]; exact Reads.of_own hown9); have T9 := hide (TD2.out A9 c9 w9 hr9); rw [List.length_append] at T9; have HB9 := hide hb9; clear hown9 hg9 hnil9 hat9 hr9 hb9 HO8 HB8)))
  (with_reducible refine T9.out.mono ?_)
  rintro e w10 ⟨S4, s4, M4, m4, U4, u4, rfl, ok10, hb⟩
  simp only [Nt.v, Nt.at, Nt.bare, List.length_nil] at ok10 ⊢
  have hb410 := below_step HB9.out hb
  replace p0 := p0.step hb410
  replace hB := below_step hB hb410
  have hbA := below_alloc w10 (bxN k n i rd cd S4 st.length s4 r vn vi M4 ms.length m4 U4 us.length u4)
  replace hB := below_step hB hbA
  replace p0 := p0.step hbA
  haveI := p0
  have T10 := hide (TS.out _ S4 s4 M4 m4 U4 u4 (ok10.step hbA) (HX.out.step hB))
  clear hb hbA ok10 hb410 T9 HB9 TS
  go_wp2_with fail
  (with_reducible refine T10.out.mono ?_)
  rintro e w11 ⟨rfl, hb⟩
  replace hB := below_step hB hb
  clear hb T10 p0
  go_wp2_with fail
  (with_reducible refine (TA.out _).mono ?_)
  rintro e w17 ⟨rfl, hb⟩
  replace hB := below_step hB hb
  clear hb
  go_wp2
  go_ret
  exact ⟨rfl, hB⟩
set_option maxRecDepth 100000 in
set_option maxHeartbeats 2000000 in
theorem noticeEnds_true (x : Nt) (BA : Option Addr) (bc : Nat) (bs : List Int) (cut : Int) (w : World) (hs : Sl w x.SA x.st) (hm : Sl w x.vw.MA x.vw.ms) (hu : Ul w x.vw.UA x.vw.us) (hx : x.Wf) (sb : Reads w w.heap.size 1 BA bs.length (bcs bs)) (hok : bOK bs) (hbm : bs.length ≤ 9223372036854775807) (hc : -9223372036854775808 ≤ cut ∧ cut ≤ 9223372036854775807) :
    Calls Try.prog 12 #[x.v, .slice BA bs.length bc, .int .i64 cut] w (RetB w true) := by
  have TA := hide (fun W => awake8_t W)
  have TH := hide (fun W => heavy8_s x W)
  cases hh : hvN x
  · by_cases hbl : bs.length ≤ 500
    · have okx := Nt.ok_of hs hm hu hh
      cases hmm : x.mayB
      · exact noticeEndsB x BA bc bs cut w okx hx hh sb hok hbl hc.1 hc.2 hmm
      · by_cases hne : bs = []
        · exact noticeEndsS x BA bc bs cut w okx hx hh sb hok hbl hc.1 hc.2 hmm hne
        · exact noticeEndsN x BA bc bs cut w okx hx hh sb hok hbl hc.1 hc.2 hmm hne
    · have hb5 : decide ((500 : Int) < (bs.length : Int)) = true := decide_eq_true (by omega)
      rw [hh] at TH
      obtain ⟨k, n, i, rd, cd, SA, sc, st, ⟨r, vn, vi, MA, mc, ms, UA, uc, us⟩⟩ := x
      unfold Nt.v at TH ⊢
      simp only at TH ⊢
      clear hs hm hu hx sb hok hh hbl
      go_enter Try.func12, Try.ntmps12
      go_wp2_with fail
      (with_reducible refine (TH.out _).mono ?_)
      rintro e w1 ⟨rfl, hb⟩
      obtain ⟨⟨d1, os1⟩, rfl⟩ := gw_of_below hb
      clear hb
      go_wp2_with fail
      (with_reducible refine (TA.out _).mono ?_)
      rintro e w3 ⟨rfl, hb⟩
      obtain ⟨⟨d3, os3⟩, rfl⟩ := gw_of_below hb
      clear hb
      go_wp2
      go_ret
      exact ⟨rfl, (by repeat (first | exact Below.refl _ _ | assumption | refine bel_al ?_ _ | refine bel_gw ?_ _ _ | refine bel_drew ?_ | refine bel_drewN ?_ _))⟩
  · rw [hh] at TH
    obtain ⟨k, n, i, rd, cd, SA, sc, st, ⟨r, vn, vi, MA, mc, ms, UA, uc, us⟩⟩ := x
    unfold Nt.v at TH ⊢
    simp only at TH ⊢
    clear hs hm hu hx sb hok hh
    go_enter Try.func12, Try.ntmps12
    go_wp2_with fail
    (with_reducible refine (TH.out _).mono ?_)
    rintro e w1 ⟨rfl, hb⟩
    obtain ⟨⟨d1, os1⟩, rfl⟩ := gw_of_below hb
    clear hb
    go_wp2_with fail
    (with_reducible refine (TA.out _).mono ?_)
    rintro e w3 ⟨rfl, hb⟩
    obtain ⟨⟨d3, os3⟩, rfl⟩ := gw_of_below hb
    clear hb
    go_wp2
    go_ret
    exact ⟨rfl, (by repeat (first | exact Below.refl _ _ | assumption | refine bel_al ?_ _ | refine bel_gw ?_ _ _ | refine bel_drew ?_ | refine bel_drewN ?_ _))⟩
end Go.Proofs.Ytgbappmidllnmaa
