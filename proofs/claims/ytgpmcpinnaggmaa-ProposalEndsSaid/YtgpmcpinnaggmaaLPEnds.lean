/-
  Layer 9: the law ProposalEnds: true for every input.
-/
import Derived.Test.YtgpmcpinnaggmaaLP0
namespace Go.Proofs.Ytgpmcpinnaggmaa
set_option linter.unusedSimpArgs false
set_option linter.unusedVariables false
set_option linter.unusedSectionVars false
open Go.RowKit

set_option maxRecDepth 100000 in
set_option maxHeartbeats 4000000 in
theorem pendsB (x : Pp) (BA : Option Addr) (bc : Nat) (bs : List Int) (cut : Int) (w : World) (okx : x.Ok w) (wx : x.Wf) (hh : hvP x = false) (sb : Reads w w.heap.size 1 BA bs.length (bcs bs)) (hok : bOK bs) (hbl : bs.length ≤ 500) (hc0 : -9223372036854775808 ≤ cut) (hc1 : cut ≤ 9223372036854775807) (hm : x.mayB = false) :
    Calls Try.prog 11 #[x.v, .slice BA bs.length bc, .int .i64 cut] w (RetB w true) := by
  have TA := hide (fun W => awake9_t W)
  have TE : Hid (∀ W, x.Ok W → Calls Try.prog 30 #[x.v] W fun e w' => e = .returned (.tuple #[.slice none 0 0, .int .i64 3]) ∧ Below W.heap.size W w') := hide (fun W h => pencode_no x W h hm)
  have hb5 : decide ((500 : Int) < (bs.length : Int)) = false := decide_eq_false (by omega)
  have HX := hide okx
  have HSB := hide sb
  obtain ⟨n, i, rd, SA, sc, ss, CA, cc, cs, UA, uc, us⟩ := x
  have TH : Hid (Calls Try.prog 19 #[.slice (some ⟨w.heap.size + 1, 0, none⟩) 1 1] ((w.alloc (bxP n i rd SA ss.length sc CA cs.length cc UA us.length uc)).alloc (.cells #[.int .i64 n, .int .u64 i, .int .u64 rd, .slice SA ss.length sc, .slice CA cs.length cc, .slice UA us.length uc] 51)) fun e w' => e = .returned (.bool (hvP ⟨n, i, rd, SA, sc, ss, CA, cc, cs, UA, uc, us⟩)) ∧ ((w.alloc (bxP n i rd SA ss.length sc CA cs.length cc UA us.length uc)).alloc (.cells #[.int .i64 n, .int .u64 i, .int .u64 rd, .slice SA ss.length sc, .slice CA cs.length cc, .slice UA us.length uc] 51)) = w') := hide (heavy9_1 ⟨n, i, rd, SA, sc, ss, CA, cc, cs, UA, uc, us⟩ (w.alloc (bxP n i rd SA ss.length sc CA cs.length cc UA us.length uc)) (w.heap.size + 1) (by simp))
  rw [hh] at TH
  unfold Pp.v at *
  simp only [Pp.at, Pp.bare, List.length_nil] at *
  clear okx sb wx hh hm hok
  go_enter Try.func11, Try.ntmps11
  go_wp2_with fail
  (with_reducible refine TH.out.mono ?_)
  rintro e w1 ⟨rfl, rfl⟩
  clear TH
  have hB : Below w.heap.size w ((w.alloc (bxP n i rd SA ss.length sc CA cs.length cc UA us.length uc)).alloc (.cells #[.int .i64 n, .int .u64 i, .int .u64 rd, .slice SA ss.length sc, .slice CA cs.length cc, .slice UA us.length uc] 51)) := (by repeat (first | exact Below.refl _ _ | assumption | refine bel_al ?_ _ | refine bel_gw ?_ _ _ | refine bel_drew ?_ | refine bel_drewN ?_ _))
  have p0 := (boxTop w (csP n i rd SA ss.length sc CA cs.length cc UA us.length uc) 51).alloc' (.cells #[.int .i64 n, .int .u64 i, .int .u64 rd, .slice SA ss.length sc, .slice CA cs.length cc, .slice UA us.length uc] 51)
  generalize ((w.alloc (bxP n i rd SA ss.length sc CA cs.length cc UA us.length uc)).alloc (.cells #[.int .i64 n, .int .u64 i, .int .u64 rd, .slice SA ss.length sc, .slice CA cs.length cc, .slice UA us.length uc] 51)) = w1 at hB p0 ⊢
  haveI := p0
  go_wp2_with fail
  (with_reducible refine (TE.out _ (HX.out.step hB)).mono ?_)
  rintro e w4 ⟨rfl, hb⟩
  replace p0 := p0.step hb
  replace hB := below_step hB hb
  clear hb TE p0
  go_wp2_with fail
  (with_reducible refine (TA.out _).mono ?_)
  rintro e w17 ⟨rfl, hb⟩
  replace hB := below_step hB hb
  clear hb
  go_wp2
  go_ret
  exact ⟨rfl, hB⟩
set_option maxRecDepth 100000 in
set_option maxHeartbeats 4000000 in
theorem pendsN (x : Pp) (BA : Option Addr) (bc : Nat) (bs : List Int) (cut : Int) (w : World) (okx : x.Ok w) (wx : x.Wf) (hh : hvP x = false) (sb : Reads w w.heap.size 1 BA bs.length (bcs bs)) (hok : bOK bs) (hbl : bs.length ≤ 500) (hc0 : -9223372036854775808 ≤ cut) (hc1 : cut ≤ 9223372036854775807) (hm : x.mayB = true) (hne : bs ≠ []) :
    Calls Try.prog 11 #[x.v, .slice BA bs.length bc, .int .i64 cut] w (RetB w true) := by
  have TA := hide (fun W => awake9_t W)
  have TE := hide (fun W (h : x.Ok W) => pencode_f x W h (PpF.of wx) hm)
  have hel := penc_len x hm
  have HEO := hide (penc_ok x (PpF.of wx))
  have TD : Hid (∀ A c k W, k < x.enc.length → Reads W W.heap.size 1 A k (bcs (x.enc.take k)) → Calls Try.prog 34 #[.slice A k c] W (RetPp W pp0 3)) := hide (fun A c k W hk h => by
    have hl : (x.enc.take k).length = k := by simp; omega
    have := pdecode_s A c (x.enc.take k) W (by rw [hl]; exact h) (by omega) (fun b hb => penc_ok x (PpF.of wx) b (List.mem_of_mem_take hb))
    rw [decP_cut x k hk hm (PpF.of wx), hl] at this; exact this)
  have TS2 : Hid (∀ W S3 s3 C3 c3 U3 u3, Pp.Ok W (pp0.at S3 s3 C3 c3 U3 u3) → Calls Try.prog 29 #[PpV 0 0 0 S3 0 s3 C3 0 c3 U3 0 u3, PpV 0 0 0 none 0 0 none 0 0 none 0 0] W (RetBp W true)) := hide (fun W S3 s3 C3 c3 U3 u3 h => by
    have := refPSame_s (pp0.at S3 s3 C3 c3 U3 u3) pp0 W h (pp0_ok W)
    rw [show Pp.eqB (pp0.at S3 s3 C3 c3 U3 u3) pp0 = true by simp [Pp.eqB, Pp.at, eqP]] at this; exact this)
  have TD2 : Hid (∀ A c W, Reads W W.heap.size 1 A (x.enc ++ bs).length (bcs (x.enc ++ bs)) → Calls Try.prog 34 #[.slice A (x.enc ++ bs).length c] W (RetPp W pp0 3)) := hide (fun A c W h => by
    have := pdecode_s A c (x.enc ++ bs) W h (by simp; omega) ((penc_ok x (PpF.of wx)).app hok)
    rw [decP_more x bs hm (PpF.of wx) hne] at this; exact this)
  have hbs0 : ((bs.length : Int) == 0) = false := by
    have := List.length_pos_iff.2 hne
    rw [beq_eq_false_iff_ne]; omega
  generalize x.enc = en at TE TD hel HEO TD2
  obtain ⟨hel1, hel0⟩ := hel
  have hlen0 : ((en.length : Int) == 0) = false := by rw [beq_eq_false_iff_ne]; omega
  have TR : Hid (bOK (en ++ bs)) := hide (HEO.out.app hok)
  have hb5 : decide ((500 : Int) < (bs.length : Int)) = false := decide_eq_false (by omega)
  have HX := hide okx
  have HSB := hide sb
  obtain ⟨n, i, rd, SA, sc, ss, CA, cc, cs, UA, uc, us⟩ := x
  have TH : Hid (Calls Try.prog 19 #[.slice (some ⟨w.heap.size + 1, 0, none⟩) 1 1] ((w.alloc (bxP n i rd SA ss.length sc CA cs.length cc UA us.length uc)).alloc (.cells #[.int .i64 n, .int .u64 i, .int .u64 rd, .slice SA ss.length sc, .slice CA cs.length cc, .slice UA us.length uc] 51)) fun e w' => e = .returned (.bool (hvP ⟨n, i, rd, SA, sc, ss, CA, cc, cs, UA, uc, us⟩)) ∧ ((w.alloc (bxP n i rd SA ss.length sc CA cs.length cc UA us.length uc)).alloc (.cells #[.int .i64 n, .int .u64 i, .int .u64 rd, .slice SA ss.length sc, .slice CA cs.length cc, .slice UA us.length uc] 51)) = w') := hide (heavy9_1 ⟨n, i, rd, SA, sc, ss, CA, cc, cs, UA, uc, us⟩ (w.alloc (bxP n i rd SA ss.length sc CA cs.length cc UA us.length uc)) (w.heap.size + 1) (by simp))
  rw [hh] at TH
  unfold Pp.v at *
  simp only [Pp.at, Pp.bare, List.length_nil] at *
  clear okx sb wx hh hm hok
  go_enter Try.func11, Try.ntmps11
  go_wp2_with fail
  (with_reducible refine TH.out.mono ?_)
  rintro e w1 ⟨rfl, rfl⟩
  clear TH
  have hB : Below w.heap.size w ((w.alloc (bxP n i rd SA ss.length sc CA cs.length cc UA us.length uc)).alloc (.cells #[.int .i64 n, .int .u64 i, .int .u64 rd, .slice SA ss.length sc, .slice CA cs.length cc, .slice UA us.length uc] 51)) := (by repeat (first | exact Below.refl _ _ | assumption | refine bel_al ?_ _ | refine bel_gw ?_ _ _ | refine bel_drew ?_ | refine bel_drewN ?_ _))
  have p0 := (boxTop w (csP n i rd SA ss.length sc CA cs.length cc UA us.length uc) 51).alloc' (.cells #[.int .i64 n, .int .u64 i, .int .u64 rd, .slice SA ss.length sc, .slice CA cs.length cc, .slice UA us.length uc] 51)
  generalize ((w.alloc (bxP n i rd SA ss.length sc CA cs.length cc UA us.length uc)).alloc (.cells #[.int .i64 n, .int .u64 i, .int .u64 rd, .slice SA ss.length sc, .slice CA cs.length cc, .slice UA us.length uc] 51)) = w1 at hB p0 ⊢
  haveI := p0
  go_wp2_with fail
  (with_reducible refine (TE.out _ (HX.out.step hB)).mono ?_)
  rintro e w2 ⟨v2, rfl, ho2, hb⟩
  obtain ⟨g2, c2, rfl, hc2, hm2⟩ := own_some ho2 hel0
  replace p0 := p0.step hb
  replace hB := below_step hB hb
  obtain ⟨j, hj, hjl⟩ : ∃ j : Nat, max cut 0 % (en.length : Int) = (j : Int) ∧ j < en.length := by
    have h0 : 0 ≤ max cut 0 % (en.length : Int) := Int.emod_nonneg _ (by omega)
    have h1 : max cut 0 % (en.length : Int) < (en.length : Int) := Int.emod_lt_of_pos _ (by omega)
    exact ⟨(max cut 0 % (en.length : Int)).toNat, by omega, by omega⟩
  have hjc : j ≤ c2 := by omega
  have hrk : Reads w2 w2.heap.size 1 (some ⟨g2, 0, none⟩) j (bcs (en.take j)) := by
    have := (Reads.of_own ho2).head (m := j) (by omega)
    rwa [bcs_take] at this
  have T2 := hide (fun c => TD.out _ c _ _ hjl hrk)
  have HO2 := hide ho2
  clear hb ho2 TE TD hrk
  go_wp2_with fail
  (with_reducible refine (T2.out _).mono ?_)
  rintro e w3 ⟨S3, s3, C3, c3, U3, u3, rfl, ok3, hb⟩
  simp only [Pp.v, Pp.at, List.length_nil] at ok3 ⊢
  clear hj hjl hjc
  replace p0 := p0.step hb
  replace hB := below_step hB hb
  have hbA := below_alloc w3 (bxP 0 0 0 S3 0 s3 C3 0 c3 U3 0 u3)
  have HO3 := hide (own_below (own_below HO2.out hb (Nat.le_refl _)) hbA (Nat.le_refl _))
  replace p0 := p0.step hbA
  replace hB := below_step hB hbA
  have T3 := hide (TS2.out _ S3 s3 C3 c3 U3 u3 (ok3.step hbA))
  clear hb hbA ok3 T2 TS2 HO2
  go_wp2_with fail
  (with_reducible refine T3.out.mono ?_)
  rintro e w4 ⟨rfl, hb⟩
  replace p0 := p0.step hb
  replace hB := below_step hB hb
  have HO4 := hide (own_below HO3.out hb (Nat.le_refl _))
  have hB4 := hB.size
  clear hb T3 HO3
  go_wp2_with (first
    | (at_builtin; refine wpList_append_any _ Try.okB (by rfl) (.tmp 60) (.tmp 61) (by rfl) w4.heap.size (.slice (some ⟨w4.heap.size, 0, none⟩) 0 0) 0 [] (by rfl) (own_emptyBy w4) w4.heap.size (some ⟨g2, 0, none⟩) en.length c2 (bcs en) (by rfl) (Reads.below (Reads.of_own HO4.out) (below_alloc _ _)) (bcs_one _) (by unfold maxLen; omega) (by omega) (by simp) ?_; intro v8 w8 hown8 hg8 hnil8 hat8; go_must (obtain ⟨hb8, ho8⟩ := app_fresh (Below.refl _ _) hg8 hown8; have HO8 := hide ho8; have HB8 := hide hb8; have hs8 := hb8.size; clear hown8 hg8 hnil8 hat8 ho8 hb8))
    | (at_builtin; refine wpList_append_any _ Try.okB (by rfl) (.tmp 62) (.tmp 63) (by rfl) w4.heap.size v8 en.length (bcs en) (by rfl) HO8.out w.heap.size BA bs.length bc (bcs bs) (by rfl) (HSB.out.below (hB.trans (HB8.out.mono hB4))) (bcs_one _) (by unfold maxLen; omega) (by omega) (by omega) ?_; intro v9 w9 hown9 hg9 hnil9 hat9; go_must (have hb9 := HB8.out.grown hg9 hs8 (fun k hk => (HO8.out.lt k hk).1); obtain ⟨A9, c9, e9, _, _⟩ := own_slice hown9; subst e9; have hr9 : Reads w9 w9.heap.size 1 A9 (en ++ bs).length (bcs (en ++ bs)) := (by rw [bcs_app, List.length_append]; exact Reads.of_own hown9); have T9 := hide (TD2.out A9 c9 w9 hr9); rw [List.length_append] at T9; have HB9 := hide hb9; clear hown9 hg9 hnil9 hat9 hr9 hb9 HO8 HB8)))
  (with_reducible refine T9.out.mono ?_)
  rintro e w10 ⟨S4, s4, C4, c4, U4, u4, rfl, ok10, hb⟩
  simp only [Pp.v, Pp.at, Pp.bare, List.length_nil] at ok10 ⊢
  have hb410 := below_step HB9.out hb
  replace p0 := p0.step hb410
  replace hB := below_step hB hb410
  have hbA := below_alloc w10 (bxP 0 0 0 S4 0 s4 C4 0 c4 U4 0 u4)
  replace hB := below_step hB hbA
  clear hb hbA ok10 hb410 T9 HB9 hne
  go_wp2_with fail
  (with_reducible refine (TA.out _).mono ?_)
  rintro e w17 ⟨rfl, hb⟩
  replace hB := below_step hB hb
  clear hb
  go_wp2
  go_ret
  exact ⟨rfl, hB⟩
set_option maxRecDepth 100000 in
set_option maxHeartbeats 4000000 in
theorem pendsS (x : Pp) (BA : Option Addr) (bc : Nat) (bs : List Int) (cut : Int) (w : World) (okx : x.Ok w) (wx : x.Wf) (hh : hvP x = false) (sb : Reads w w.heap.size 1 BA bs.length (bcs bs)) (hok : bOK bs) (hbl : bs.length ≤ 500) (hc0 : -9223372036854775808 ≤ cut) (hc1 : cut ≤ 9223372036854775807) (hm : x.mayB = true) (hne : bs = []) :
    Calls Try.prog 11 #[x.v, .slice BA bs.length bc, .int .i64 cut] w (RetB w true) := by
  have TA := hide (fun W => awake9_t W)
  have TE := hide (fun W (h : x.Ok W) => pencode_f x W h (PpF.of wx) hm)
  have hel := penc_len x hm
  have HEO := hide (penc_ok x (PpF.of wx))
  have TD : Hid (∀ A c k W, k < x.enc.length → Reads W W.heap.size 1 A k (bcs (x.enc.take k)) → Calls Try.prog 34 #[.slice A k c] W (RetPp W pp0 3)) := hide (fun A c k W hk h => by
    have hl : (x.enc.take k).length = k := by simp; omega
    have := pdecode_s A c (x.enc.take k) W (by rw [hl]; exact h) (by omega) (fun b hb => penc_ok x (PpF.of wx) b (List.mem_of_mem_take hb))
    rw [decP_cut x k hk hm (PpF.of wx), hl] at this; exact this)
  have TS2 : Hid (∀ W S3 s3 C3 c3 U3 u3, Pp.Ok W (pp0.at S3 s3 C3 c3 U3 u3) → Calls Try.prog 29 #[PpV 0 0 0 S3 0 s3 C3 0 c3 U3 0 u3, PpV 0 0 0 none 0 0 none 0 0 none 0 0] W (RetBp W true)) := hide (fun W S3 s3 C3 c3 U3 u3 h => by
    have := refPSame_s (pp0.at S3 s3 C3 c3 U3 u3) pp0 W h (pp0_ok W)
    rw [show Pp.eqB (pp0.at S3 s3 C3 c3 U3 u3) pp0 = true by simp [Pp.eqB, Pp.at, eqP]] at this; exact this)
  have TD2 : Hid (∀ A c W, Reads W W.heap.size 1 A (x.enc ++ bs).length (bcs (x.enc ++ bs)) → Calls Try.prog 34 #[.slice A (x.enc ++ bs).length c] W (RetPp W x.bare 0)) := hide (fun A c W h => by
    have := pdecode_s A c (x.enc ++ bs) W h (by simp; omega) ((penc_ok x (PpF.of wx)).app hok)
    rw [hne, List.append_nil, decP_back x hm (PpF.of wx)] at this
    rw [hne, List.append_nil]; exact this)
  have hbs0 : ((bs.length : Int) == 0) = true := by rw [hne]; rfl
  have TS : Hid (∀ W S3 s3 C3 c3 U3 u3, Pp.Ok W (x.bare.at S3 s3 C3 c3 U3 u3) → x.Ok W → Calls Try.prog 29 #[(x.bare.at S3 s3 C3 c3 U3 u3).v, x.v] W (RetBp W true)) := hide (fun W S3 s3 C3 c3 U3 u3 h h' => by
    have := refPSame_s (x.bare.at S3 s3 C3 c3 U3 u3) x W h h'
    rw [pbare_eqB] at this; exact this)
  have HNE := hide hne
  clear hne
  generalize x.enc = en at TE TD hel HEO TD2
  obtain ⟨hel1, hel0⟩ := hel
  have hlen0 : ((en.length : Int) == 0) = false := by rw [beq_eq_false_iff_ne]; omega
  have TR : Hid (bOK (en ++ bs)) := hide (HEO.out.app hok)
  have hb5 : decide ((500 : Int) < (bs.length : Int)) = false := decide_eq_false (by omega)
  have HX := hide okx
  have HSB := hide sb
  obtain ⟨n, i, rd, SA, sc, ss, CA, cc, cs, UA, uc, us⟩ := x
  have TH : Hid (Calls Try.prog 19 #[.slice (some ⟨w.heap.size + 1, 0, none⟩) 1 1] ((w.alloc (bxP n i rd SA ss.length sc CA cs.length cc UA us.length uc)).alloc (.cells #[.int .i64 n, .int .u64 i, .int .u64 rd, .slice SA ss.length sc, .slice CA cs.length cc, .slice UA us.length uc] 51)) fun e w' => e = .returned (.bool (hvP ⟨n, i, rd, SA, sc, ss, CA, cc, cs, UA, uc, us⟩)) ∧ ((w.alloc (bxP n i rd SA ss.length sc CA cs.length cc UA us.length uc)).alloc (.cells #[.int .i64 n, .int .u64 i, .int .u64 rd, .slice SA ss.length sc, .slice CA cs.length cc, .slice UA us.length uc] 51)) = w') := hide (heavy9_1 ⟨n, i, rd, SA, sc, ss, CA, cc, cs, UA, uc, us⟩ (w.alloc (bxP n i rd SA ss.length sc CA cs.length cc UA us.length uc)) (w.heap.size + 1) (by simp))
  rw [hh] at TH
  unfold Pp.v at *
  simp only [Pp.at, Pp.bare, List.length_nil] at *
  clear okx sb wx hh hm hok
  go_enter Try.func11, Try.ntmps11
  go_wp2_with fail
  (with_reducible refine TH.out.mono ?_)
  rintro e w1 ⟨rfl, rfl⟩
  clear TH
  have hB : Below w.heap.size w ((w.alloc (bxP n i rd SA ss.length sc CA cs.length cc UA us.length uc)).alloc (.cells #[.int .i64 n, .int .u64 i, .int .u64 rd, .slice SA ss.length sc, .slice CA cs.length cc, .slice UA us.length uc] 51)) := (by repeat (first | exact Below.refl _ _ | assumption | refine bel_al ?_ _ | refine bel_gw ?_ _ _ | refine bel_drew ?_ | refine bel_drewN ?_ _))
  have p0 := (boxTop w (csP n i rd SA ss.length sc CA cs.length cc UA us.length uc) 51).alloc' (.cells #[.int .i64 n, .int .u64 i, .int .u64 rd, .slice SA ss.length sc, .slice CA cs.length cc, .slice UA us.length uc] 51)
  generalize ((w.alloc (bxP n i rd SA ss.length sc CA cs.length cc UA us.length uc)).alloc (.cells #[.int .i64 n, .int .u64 i, .int .u64 rd, .slice SA ss.length sc, .slice CA cs.length cc, .slice UA us.length uc] 51)) = w1 at hB p0 ⊢
  haveI := p0
  go_wp2_with fail
  (with_reducible refine (TE.out _ (HX.out.step hB)).mono ?_)
  rintro e w2 ⟨v2, rfl, ho2, hb⟩
  obtain ⟨g2, c2, rfl, hc2, hm2⟩ := own_some ho2 hel0
  replace p0 := p0.step hb
  replace hB := below_step hB hb
  obtain ⟨j, hj, hjl⟩ : ∃ j : Nat, max cut 0 % (en.length : Int) = (j : Int) ∧ j < en.length := by
    have h0 : 0 ≤ max cut 0 % (en.length : Int) := Int.emod_nonneg _ (by omega)
    have h1 : max cut 0 % (en.length : Int) < (en.length : Int) := Int.emod_lt_of_pos _ (by omega)
    exact ⟨(max cut 0 % (en.length : Int)).toNat, by omega, by omega⟩
  have hjc : j ≤ c2 := by omega
  have hrk : Reads w2 w2.heap.size 1 (some ⟨g2, 0, none⟩) j (bcs (en.take j)) := by
    have := (Reads.of_own ho2).head (m := j) (by omega)
    rwa [bcs_take] at this
  have T2 := hide (fun c => TD.out _ c _ _ hjl hrk)
  have HO2 := hide ho2
  clear hb ho2 TE TD hrk
  go_wp2_with fail
  (with_reducible refine (T2.out _).mono ?_)
  rintro e w3 ⟨S3, s3, C3, c3, U3, u3, rfl, ok3, hb⟩
  simp only [Pp.v, Pp.at, List.length_nil] at ok3 ⊢
  clear hj hjl hjc
  replace p0 := p0.step hb
  replace hB := below_step hB hb
  have hbA := below_alloc w3 (bxP 0 0 0 S3 0 s3 C3 0 c3 U3 0 u3)
  have HO3 := hide (own_below (own_below HO2.out hb (Nat.le_refl _)) hbA (Nat.le_refl _))
  replace p0 := p0.step hbA
  replace hB := below_step hB hbA
  have T3 := hide (TS2.out _ S3 s3 C3 c3 U3 u3 (ok3.step hbA))
  clear hb hbA ok3 T2 TS2 HO2
  go_wp2_with fail
  (with_reducible refine T3.out.mono ?_)
  rintro e w4 ⟨rfl, hb⟩
  replace p0 := p0.step hb
  replace hB := below_step hB hb
  have HO4 := hide (own_below HO3.out hb (Nat.le_refl _))
  have hB4 := hB.size
  clear hb T3 HO3
  go_wp2_with (first
    | (at_builtin; refine wpList_append_any _ Try.okB (by rfl) (.tmp 60) (.tmp 61) (by rfl) w4.heap.size (.slice (some ⟨w4.heap.size, 0, none⟩) 0 0) 0 [] (by rfl) (own_emptyBy w4) w4.heap.size (some ⟨g2, 0, none⟩) en.length c2 (bcs en) (by rfl) (Reads.below (Reads.of_own HO4.out) (below_alloc _ _)) (bcs_one _) (by unfold maxLen; omega) (by omega) (by simp) ?_; intro v8 w8 hown8 hg8 hnil8 hat8; go_must (obtain ⟨hb8, ho8⟩ := app_fresh (Below.refl _ _) hg8 hown8; have HO8 := hide ho8; have HB8 := hide hb8; have hs8 := hb8.size; clear hown8 hg8 hnil8 hat8 ho8 hb8))
    | (at_builtin; refine wpList_append_any _ Try.okB (by rfl) (.tmp 62) (.tmp 63) (by rfl) w4.heap.size v8 en.length (bcs en) (by rfl) HO8.out w.heap.size BA bs.length bc (bcs bs) (by rfl) (HSB.out.below (hB.trans (HB8.out.mono hB4))) (bcs_one _) (by unfold maxLen; omega) (by omega) (by omega) ?_; intro v9 w9 hown9 hg9 hnil9 hat9; go_must (have hb9 := HB8.out.grown hg9 hs8 (fun k hk => (HO8.out.lt k hk).1); obtain ⟨A9, c9, e9, _, _⟩ := own_slice hown9; subst e9; have hr9 : Reads w9 w9.heap.size 1 A9 (en ++ bs).length (bcs (en ++ bs)) := (by rw [bcs_app, List.length_append]; exact Reads.of_own hown9); have T9 := hide (TD2.out A9 c9 w9 hr9); rw [List.length_append] at T9; have HB9 := hide hb9; clear hown9 hg9 hnil9 hat9 hr9 hb9 HO8 HB8)))
  (with_reducible refine T9.out.mono ?_)
  rintro e w10 ⟨S4, s4, C4, c4, U4, u4, rfl, ok10, hb⟩
  simp only [Pp.v, Pp.at, Pp.bare, List.length_nil] at ok10 ⊢
  have hb410 := below_step HB9.out hb
  replace p0 := p0.step hb410
  replace hB := below_step hB hb410
  have hbA := below_alloc w10 (bxP n i rd S4 ss.length s4 C4 cs.length c4 U4 us.length u4)
  replace hB := below_step hB hbA
  replace p0 := p0.step hbA
  haveI := p0
  have T10 := hide (TS.out _ S4 s4 C4 c4 U4 u4 (ok10.step hbA) (HX.out.step hB))
  clear hb hbA ok10 hb410 T9 HB9 TS
  go_wp2_with fail
  (with_reducible refine T10.out.mono ?_)
  rintro e w11 ⟨rfl, hb⟩
  replace hB := below_step hB hb
  clear hb T10 p0
  go_wp2_with fail
  (with_reducible refine (TA.out _).mono ?_)
  rintro e w17 ⟨rfl, hb⟩
  replace hB := below_step hB hb
  clear hb
  go_wp2
  go_ret
  exact ⟨rfl, hB⟩
set_option maxRecDepth 100000 in
set_option maxHeartbeats 2000000 in
theorem proposalEnds_true (x : Pp) (BA : Option Addr) (bc : Nat) (bs : List Int) (cut : Int) (w : World) (hx : x.In w) (wx : x.Wf) (sb : Reads w w.heap.size 1 BA bs.length (bcs bs)) (hok : bOK bs) (hbm : bs.length ≤ 9223372036854775807) (hc : -9223372036854775808 ≤ cut ∧ cut ≤ 9223372036854775807) :
    Calls Try.prog 11 #[x.v, .slice BA bs.length bc, .int .i64 cut] w (RetB w true) := by
  have TA := hide (fun W => awake9_t W)
  cases hh : hvP x
  · by_cases hbl : bs.length ≤ 500
    · have okx := Pp.ok_of hx hh
      cases hmm : x.mayB
      · exact pendsB x BA bc bs cut w okx wx hh sb hok hbl hc.1 hc.2 hmm
      · by_cases hne : bs = []
        · exact pendsS x BA bc bs cut w okx wx hh sb hok hbl hc.1 hc.2 hmm hne
        · exact pendsN x BA bc bs cut w okx wx hh sb hok hbl hc.1 hc.2 hmm hne
    · have hb5 : decide ((500 : Int) < (bs.length : Int)) = true := decide_eq_true (by omega)
      clear hx wx sb hok hbl
      obtain ⟨n, i, rd, SA, sc, ss, CA, cc, cs, UA, uc, us⟩ := x
      have TH : Hid (Calls Try.prog 19 #[.slice (some ⟨w.heap.size + 1, 0, none⟩) 1 1] ((w.alloc (bxP n i rd SA ss.length sc CA cs.length cc UA us.length uc)).alloc (.cells #[.int .i64 n, .int .u64 i, .int .u64 rd, .slice SA ss.length sc, .slice CA cs.length cc, .slice UA us.length uc] 51)) fun e w' => e = .returned (.bool (hvP ⟨n, i, rd, SA, sc, ss, CA, cc, cs, UA, uc, us⟩)) ∧ ((w.alloc (bxP n i rd SA ss.length sc CA cs.length cc UA us.length uc)).alloc (.cells #[.int .i64 n, .int .u64 i, .int .u64 rd, .slice SA ss.length sc, .slice CA cs.length cc, .slice UA us.length uc] 51)) = w') := hide (heavy9_1 ⟨n, i, rd, SA, sc, ss, CA, cc, cs, UA, uc, us⟩ (w.alloc (bxP n i rd SA ss.length sc CA cs.length cc UA us.length uc)) (w.heap.size + 1) (by simp))
      rw [hh] at TH
      unfold Pp.v at *
      simp only at *
      clear hh
      go_enter Try.func11, Try.ntmps11
      go_wp2_with fail
      (with_reducible refine TH.out.mono ?_)
      rintro e w1 ⟨rfl, rfl⟩
      clear TH
      go_wp2_with fail
      (with_reducible refine (TA.out _).mono ?_)
      rintro e w3 ⟨rfl, hb⟩
      obtain ⟨⟨d3, os3⟩, rfl⟩ := gw_of_below hb
      clear hb
      go_wp2
      go_ret
      exact ⟨rfl, (by repeat (first | exact Below.refl _ _ | assumption | refine bel_al ?_ _ | refine bel_gw ?_ _ _ | refine bel_drew ?_ | refine bel_drewN ?_ _))⟩
  · clear hx wx sb hok
    obtain ⟨n, i, rd, SA, sc, ss, CA, cc, cs, UA, uc, us⟩ := x
    have TH : Hid (Calls Try.prog 19 #[.slice (some ⟨w.heap.size + 1, 0, none⟩) 1 1] ((w.alloc (bxP n i rd SA ss.length sc CA cs.length cc UA us.length uc)).alloc (.cells #[.int .i64 n, .int .u64 i, .int .u64 rd, .slice SA ss.length sc, .slice CA cs.length cc, .slice UA us.length uc] 51)) fun e w' => e = .returned (.bool (hvP ⟨n, i, rd, SA, sc, ss, CA, cc, cs, UA, uc, us⟩)) ∧ ((w.alloc (bxP n i rd SA ss.length sc CA cs.length cc UA us.length uc)).alloc (.cells #[.int .i64 n, .int .u64 i, .int .u64 rd, .slice SA ss.length sc, .slice CA cs.length cc, .slice UA us.length uc] 51)) = w') := hide (heavy9_1 ⟨n, i, rd, SA, sc, ss, CA, cc, cs, UA, uc, us⟩ (w.alloc (bxP n i rd SA ss.length sc CA cs.length cc UA us.length uc)) (w.heap.size + 1) (by simp))
    rw [hh] at TH
    unfold Pp.v at *
    simp only at *
    clear hh
    go_enter Try.func11, Try.ntmps11
    go_wp2_with fail
    (with_reducible refine TH.out.mono ?_)
    rintro e w1 ⟨rfl, rfl⟩
    clear TH
    go_wp2_with fail
    (with_reducible refine (TA.out _).mono ?_)
    rintro e w3 ⟨rfl, hb⟩
    obtain ⟨⟨d3, os3⟩, rfl⟩ := gw_of_below hb
    clear hb
    go_wp2
    go_ret
    exact ⟨rfl, (by repeat (first | exact Below.refl _ _ | assumption | refine bel_al ?_ _ | refine bel_gw ?_ _ _ | refine bel_drew ?_ | refine bel_drewN ?_ _))⟩
end Go.Proofs.Ytgpmcpinnaggmaa
