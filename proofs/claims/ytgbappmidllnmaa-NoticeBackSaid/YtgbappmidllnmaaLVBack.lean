/-
  Layer 4: the law ViewBack: true for every input.
-/
import Derived.Test.YtgbappmidllnmaaInvV
import Derived.Test.YtgbappmidllnmaaLVMay
namespace Go.Proofs.Ytgbappmidllnmaa
set_option linter.unusedSimpArgs false
set_option linter.unusedVariables false
set_option linter.unusedSectionVars false
open Go.RowKit

theorem own_emptyBy (w : World) : OwnB (w.alloc (.cells #[] 5)) w.heap.size (.slice (some ⟨w.heap.size, 0, none⟩) 0 0) [] := World.ownsRow_lit w #[] 0 (Nat.le_refl _) (by unfold maxLen; omega) rfl
/-- bytes are appended to an empty slice -/
theorem app_fresh {W X w1 : World} {v : Value} {n : Nat} {xs : List Value} (hX : Below (W.heap.size + 1) (W.alloc (.cells #[] 5)) X) (hg : X.grownBy w1 (some W.heap.size)) (ho : w1.ownsRow W.heap.size 5 1 v (0 + n) ([] ++ xs)) : Below W.heap.size W w1 ∧ w1.ownsRow W.heap.size 5 1 v n xs := by
  rw [Nat.zero_add, List.nil_append] at ho
  refine ⟨((below_alloc W _).trans (hX.mono (by omega))).trans (grown_to_below hg (Nat.le_refl _) ?_), ho⟩
  have := hX.size; simp at this; omega
theorem own_some {w : World} {base : Nat} {e : TypeId} {k n : Nat} {v : Value} {xs : List Value} (h : w.ownsRow base e k v n xs) (hn : 0 < n) : ∃ g c, v = .slice (some ⟨g, 0, none⟩) n c ∧ n ≤ c ∧ c ≤ maxLen := by
  obtain ⟨A, c, rfl, h1, h2⟩ := own_slice h
  obtain ⟨g, cap, hv, _, _⟩ := h.form hn
  injection hv with e1 e2 e3
  subst e1
  exact ⟨g, c, rfl, h1, h2⟩
theorem viewB_len (r n i : Int) (ms : List Pr) (us : List Int) : (viewB r n i ms us).length ≤ 22 + ms.length * 11 + us.length * 10 := by
  have := vidB_len r n i
  have := procsB_len ms
  have := uintsB_len us
  simp [viewB] at *; omega
theorem eqB_back (x : Vw) (A1 A2 : Option Addr) (c1 c2 : Nat) : Vw.eqB ⟨x.r, x.n, x.i, A1, c1, x.ms, A2, c2, x.us⟩ x = true := by simp [Vw.eqB]
set_option maxRecDepth 100000 in
set_option maxHeartbeats 4000000 in
theorem viewBack_main (x : Vw) (TL : Option Addr) (tc : Nat) (ts : List Int) (cut : Int) (w : World) (okx : x.Ok w) (st : Reads w w.heap.size 1 TL ts.length (bcs ts)) (hw : x.Wf) (hts : bOK ts) (hc0 : -9223372036854775808 ≤ cut) (hc1 : cut ≤ 9223372036854775807)
    (hh : hvV x = false) (ht : ts.length ≤ 1000) (hm : x.mayB = true) :
    Calls Try.prog 8 #[x.v, .slice TL ts.length tc, .int .i64 cut] w (RetB w true) := by
  have TA := hide (fun W => awake4_t W)
  have TH := hide (fun W => heavy4_s x W)
  have TM := hide (fun W (h : x.Ok W) => vmay_s x W h)
  rw [hh] at TH
  rw [hm] at TM
  obtain ⟨h3m, h3u⟩ : x.ms.length ≤ 300 ∧ x.us.length ≤ 300 := by unfold hvV at hh; simp at hh; omega
  obtain ⟨r, n, i, MA, mc, ms, UA, uc, us⟩ := x
  simp only at h3m h3u
  have hF : VwF ((r, n, i), ms, us) := ⟨hw.r, ⟨hw.p.2.2.1, hw.p.2.2.2⟩, fun p hp => ⟨(hw.ms p hp).2.2.1, (hw.ms p hp).2.2.2⟩, hw.us⟩
  have hT : mayT ((r, n, i), ms, us) = true := hm
  have hvl := viewB_len r n i ms us
  have hpos := viewT_pos ((r, n, i), ms, us)
  have HBK := hide (rView_back ((r, n, i), ms, us) ts hT hF)
  have HCUT := hide (fun k hk => rView_cut ((r, n, i), ms, us) k hk hT hF)
  have HOK := hide ((viewT_ok hF).app hts)
  have HOKb := hide (viewT_ok hF)
  have TP : Hid (∀ (g : Nat) (W : World), Wtr W g (.slice none 0 0) [] → RdW W g (.slice none 0 0) 2 MA ms.length (pcs ms) → RdW W g (.slice none 0 0) 1 UA us.length (ucs us) → Calls Try.prog 42 #[.pointer (some ⟨g, 0, none⟩), .agg #[.int .u64 r, .int .i64 n, .int .u64 i, .slice MA ms.length mc, .slice UA us.length uc]] W (RetWr g (.slice none 0 0) W ([] ++ viewB r n i ms us))) :=
    hide (fun g W hW h1 h2 => putV_s g _ [] r n i MA mc ms UA uc us W hW (by simp) h1 h2 (by omega) (by omega) hw.r hF.i hF.ms hw.us)
  have eT : viewT ((r, n, i), ms, us) = viewB r n i ms us := rfl
  rw [eT] at HBK HCUT HOK HOKb hpos
  rw [List.nil_append] at TP
  generalize viewB r n i ms us = bs at TP HBK HCUT HOK HOKb hpos hvl
  have hbl : bs.length ≤ 7000 := by omega
  have TS : Hid (∀ W A1 c1 A2 c2, Vw.Ok W ⟨r, n, i, A1, c1, ms, A2, c2, us⟩ → Vw.Ok W ⟨r, n, i, MA, mc, ms, UA, uc, us⟩ → Calls Try.prog 21 #[.agg #[.int .u64 r, .int .i64 n, .int .u64 i, .slice A1 ms.length c1, .slice A2 us.length c2], .agg #[.int .u64 r, .int .i64 n, .int .u64 i, .slice MA ms.length mc, .slice UA us.length uc]] W fun e w' => e = .returned (.bool true) ∧ Below W.heap.size W w') := hide (fun W A1 c1 A2 c2 h h' => by
    have := refVSame_s ⟨r, n, i, A1, c1, ms, A2, c2, us⟩ ⟨r, n, i, MA, mc, ms, UA, uc, us⟩ W h h'
    rw [eqB_same] at this; exact this)
  have TG1 : Hid (∀ (W : World) (g B : Nat), Rds W g B (bs ++ ts) false → Calls Try.prog 43 #[.pointer (some ⟨g, 0, none⟩)] W (RetRV g B W ((r, n, i), ms, us) (ts, false))) := hide (fun W g B h => by
    have := getV_s g B (bs ++ ts, false) W h (by simp; omega)
    rw [HBK.out] at this; exact this)
  have TG2 : Hid (∀ (W : World) (g B k : Nat), k < bs.length → Rds W g B (bs.take k) false → Calls Try.prog 43 #[.pointer (some ⟨g, 0, none⟩)] W fun e w' => ∃ A1 c1 A2 c2 bs', e = .returned (.agg #[.int .u64 0, .int .i64 0, .int .u64 0, .slice A1 0 c1, .slice A2 0 c2]) ∧ Rds w' g B bs' true ∧ W.grownBy w' (some g)) := hide (fun W g B k hk h => by
    have h2 := getV_s g B (bs.take k, false) W h (by simp; omega)
    have h3 := HCUT.out k hk
    rw [rView_bad h3] at h2
    refine h2.mono ?_
    rintro e w' ⟨A1, c1, A2, c2, rfl, _, _, hr, hg⟩
    rw [h3] at hr
    exact ⟨A1, c1, A2, c2, _, rfl, hr, hg⟩)
  have hlen0 : ((bs.length : Int) == 0) = false := by simp; intro h; rw [h] at hpos; simp at hpos
  have hts1 : decide ((1000 : Int) < (ts.length : Int)) = false := decide_eq_false (by omega)
  have hOK := okx
  unfold Vw.v at TH TM ⊢
  simp only at TH TM ⊢
  clear hm hw hT hF HBK HCUT hvl eT hts hh
  go_enter Try.func8, Try.ntmps8
  go_wp2_with fail
  (with_reducible refine (TH.out _).mono ?_)
  rintro e w1 ⟨rfl, hb⟩
  have p0 : BoxAt w1 w.heap.size #[.int .u64 r, .int .i64 n, .int .u64 i, .slice MA ms.length mc, .slice UA us.length uc] 30 := (boxTop w _ _).step hb
  have hB := below_step (below_alloc w (bxV r n i MA ms.length mc UA us.length uc)) hb
  haveI := p0
  clear hb
  go_wp2_with fail
  (with_reducible refine (TM.out _ (hOK.step hB)).mono ?_)
  rintro e w2 ⟨rfl, hb⟩
  replace p0 := p0.step hb
  replace hB := below_step hB hb
  have hp2 := p0.lt
  clear hb TH TM
  go_wp2_with fail
  with_reducible refine (newWriter_s w2).mono ?_
  rintro e w3 ⟨rfl, rfl⟩
  have hw3 := newWtr w2
  have ok2 := hOK.step hB
  have T4 := hide (TP.out _ _ hw3 (RdW.of_reads hw3 (Reads.below ok2.m (below_alloc _ _))) (RdW.of_reads hw3 (Reads.below ok2.u (below_alloc _ _))))
  haveI := p0.alloc' (.cells #[.slice none 0 0] 90)
  clear TP ok2
  go_wp2_with fail
  with_reducible refine T4.out.mono ?_
  rintro e w4 ⟨rfl, v4, hw4, hs4⟩
  have hb24 : Below w2.heap.size w2 w4 := (below_alloc w2 _).trans (hs4.to_below hw3 (Nat.le_refl _))
  replace p0 := p0.step hb24
  replace hB := below_step hB hb24
  have T6 := hide (bytes_s _ _ _ _ (hw4.below (below_alloc w4 (.cells #[] 5))) (by omega))
  have HOE := hide (own_emptyBy w4)
  have hs24 := hb24.size
  clear hw3 hw4 hs4 T4 hb24
  go_wp2_with fail
  with_reducible refine T6.out.mono ?_
  rintro e w6 ⟨v6, rfl, ho6, hb6⟩
  obtain ⟨A6, c6, rfl, _, _⟩ := own_slice ho6
  have HR6 := hide (Reads.of_own ho6)
  have HO6 := hide (own_below HOE.out hb6 (Nat.le_refl _))
  have HX6 : Hid (Below (w4.heap.size + 1) (w4.alloc (.cells #[] 5)) w6) := hide (by have := hb6; rwa [World.size_alloc] at this)
  have hsz6 := hb6.size
  simp only [World.size_alloc] at hsz6
  clear ho6 hb6 T6 HOE
  go_wp2_with (first
    | (at_builtin; refine wpList_append_any _ Try.okB (by rfl) (.tmp 30) (.tmp 32) (by rfl) w4.heap.size (.slice (some ⟨w4.heap.size, 0, none⟩) 0 0) 0 [] (by rfl) HO6.out w6.heap.size A6 bs.length c6 (bcs bs) (by rfl) HR6.out (bcs_one _) (by unfold maxLen; omega) (by omega) (by omega) ?_; intro v7 w7 hown7 hg7 hnil7 hat7; go_must (obtain ⟨hb7, ho7⟩ := app_fresh HX6.out hg7 hown7; obtain ⟨g7, c7, e7, hc7, hm7⟩ := own_some ho7 hpos; subst e7; have HO7 := hide ho7; have p7 := p0.step hb7; have hB7 := below_step hB hb7; have hs7 := hb7.size; clear hown7 hg7 hnil7 hat7 ho7 hb7))
    | (at_builtin; refine wpList_append_any _ Try.okB (by rfl) (.tmp 34) (.tmp 35) (by rfl) w7.heap.size (.slice (some ⟨w7.heap.size, 0, none⟩) 0 0) 0 [] (by rfl) (own_emptyBy w7) w7.heap.size (some ⟨g7, 0, none⟩) bs.length c7 (bcs bs) (by rfl) (Reads.below (Reads.of_own HO7.out) (below_alloc _ _)) (bcs_one _) (by unfold maxLen; omega) (by omega) (by simp) ?_; intro v8 w8 hown8 hg8 hnil8 hat8; go_must (obtain ⟨hb8, ho8⟩ := app_fresh (Below.refl _ _) hg8 hown8; have HO8 := hide ho8; have HB8 := hide hb8; have hs8 := hb8.size; clear hown8 hg8 hnil8 hat8 ho8 hb8))
    | (at_builtin; refine wpList_append_any _ Try.okB (by rfl) (.tmp 36) (.tmp 37) (by rfl) w7.heap.size v8 bs.length (bcs bs) (by rfl) HO8.out w.heap.size TL ts.length tc (bcs ts) (by rfl) (st.below (hB7.trans (HB8.out.mono hB7.size))) (bcs_one _) (by unfold maxLen; omega) (by omega) (by omega) ?_; intro v9 w9 hown9 hg9 hnil9 hat9; go_must (have hb9 := HB8.out.grown hg9 hs8 (fun k hk => (HO8.out.lt k hk).1); obtain ⟨A9, c9, e9, _, _⟩ := own_slice hown9; subst e9; have hr9 : Reads w9 w9.heap.size 1 A9 (bs ++ ts).length (bcs (bs ++ ts)) := (by rw [bcs_app, List.length_append]; exact Reads.of_own hown9); have T9 := hide (newReader_s A9 c9 (bs ++ ts) w9 hr9 (by simp; omega) HOK.out); rw [List.length_append] at T9; have HB9 := hide hb9; clear hown9 hg9 hnil9 hat9 hr9 hb9 HO8 HB8))
    | (go_at_call 35; (with_reducible refine T9.out.mono ?_); rintro e w10 ⟨g10, rfl, hg10, hR10, hb10⟩; have hb7 := below_step HB9.out hb10; have p10 := p7.step hb7; have hB10 := below_step hB7 hb7; have HO10 := hide (own_below HO7.out hb7 (Nat.le_refl _)); have hs10 := hb10.size; have hs9 := HB9.out.size; have hs77 := HO7.out; clear hb10 hb7 T9 HB9 HO7 p7 hB7))
  (with_reducible refine (TG1.out _ _ _ hR10).mono ?_)
  rintro e w11 ⟨A11, c11, A12, c12, rfl, ho11, hu11, hR11, hG11⟩
  have hb11 : Below w9.heap.size w10 w11 := grown_to_below hG11 hg10 hs10
  have p11 := p10.stepN hb11 (by have := p10.lt; omega)
  have hB11 := hB10.trans (hb11.mono (by omega))
  have ho7 := own_apart HO10.out hG11 (fun r hr e => by have := (hs77.lt r hr).2; injection e; omega)
  have okn : Vw.Ok w11 ⟨r, n, i, A11, c11, ms, A12, c12, us⟩ := ⟨Reads.of_own ho11, Reads.of_own hu11, by show ms.length ≤ 1000000; omega, by show us.length ≤ 1000000; omega⟩
  have hbA := below_alloc w11 (bxV r n i A11 ms.length c11 A12 us.length c12)
  replace p11 := p11.step hbA
  haveI := p11
  have T13 := hide (TS.out _ _ _ _ _ (okn.step hbA) (hOK.step (below_step hB11 hbA)))
  have hR12 := hR11.step hbA
  have T14 := hide (fun W (h : Rds W g10 w10.heap.size ts false) => err_s g10 _ ts false W h)
  have T15 := hide (fun W (h : Rds W g10 w10.heap.size ts false) => left_s g10 _ ts false W h)
  simp only [Bool.false_eq_true, if_false] at T14
  have HR12 := hide hR12
  have HO12 := hide (own_below ho7 hbA (Nat.le_refl _))
  have HB12 := hide (below_step hB11 hbA)
  clear hG11 hb11 hbA hR12 hR11 ho7 hB11 hB10 hR10 HO10 okn ho11 hu11 p10 TS TG1 hs77 HOK
  go_wp2_with fail
  with_reducible refine T13.out.mono ?_
  rintro e w13 ⟨rfl, hb⟩
  have HR13 := hide (HR12.out.step hb)
  have HO13 := hide (own_below HO12.out hb (Nat.le_refl _))
  have HB13 := hide (below_step HB12.out hb)
  clear hb HR12 HO12 HB12 T13
  go_wp2_with fail
  with_reducible refine (T14.out _ HR13.out).mono ?_
  rintro e w14 ⟨rfl, rfl⟩
  go_wp2_with fail
  with_reducible refine (T15.out _ HR13.out).mono ?_
  rintro e w15 ⟨rfl, rfl⟩
  clear T14 T15 HR13
  obtain ⟨k, hk, hkl⟩ : ∃ k : Nat, max cut 0 % (bs.length : Int) = (k : Int) ∧ k < bs.length := by
    have h0 : 0 ≤ max cut 0 % (bs.length : Int) := Int.emod_nonneg _ (by omega)
    have h1 : max cut 0 % (bs.length : Int) < (bs.length : Int) := Int.emod_lt_of_pos _ (by omega)
    exact ⟨(max cut 0 % (bs.length : Int)).toNat, by omega, by omega⟩
  have hkc : k ≤ c7 := by omega
  have hrk : Reads w13 w13.heap.size 1 (some ⟨g7, 0, none⟩) k (bcs (bs.take k)) := by
    have := (Reads.of_own HO13.out).head (m := k) (by omega)
    rwa [bcs_take] at this
  have HRK := hide hrk
  have HB13s := HB13.out.size
  have hOKk : Hid (bOK (bs.take k)) := hide (fun b h => HOKb.out b (List.mem_of_mem_take h))
  have htl : (bs.take k).length = k := by simp; omega
  have HTL := hide htl
  clear HO13 hrk htl
  go_wp2_with (first
    | (at_builtin; refine wpList_append_any _ Try.okB (by rfl) (.tmp 63) (.tmp 70) (by rfl) w13.heap.size (.slice (some ⟨w13.heap.size, 0, none⟩) 0 0) 0 [] (by rfl) (own_emptyBy w13) w13.heap.size (some ⟨g7, 0, none⟩) k c7 (bcs (bs.take k)) (by rfl) (Reads.below HRK.out (below_alloc _ _)) (bcs_one _) (by unfold maxLen; omega) (by omega) (by simp) ?_; intro v14 w14 hown hg hnil hat; go_must (obtain ⟨hb14, ho14⟩ := app_fresh (Below.refl _ _) hg hown; obtain ⟨A14, c14, e14, _, _⟩ := own_slice ho14; subst e14; have hr14 : Reads w14 w14.heap.size 1 A14 (bs.take k).length (bcs (bs.take k)) := (by rw [HTL.out]; exact Reads.of_own ho14); have T15 := hide (newReader_s A14 c14 (bs.take k) w14 hr14 (by rw [HTL.out]; omega) hOKk.out); rw [HTL.out] at T15; have HB14 := hide (below_step HB13.out hb14); clear hown hg hnil hat hr14 hb14 ho14))
    | (go_at_call 35; (with_reducible refine T15.out.mono ?_); rintro e w15 ⟨g15, rfl, hg15, hR15, hb15⟩))
  have hs15 := hb15.size
  have hs14 := HB14.out.size
  have HB15 := hide (below_step HB14.out hb15)
  clear hb15 T15
  (with_reducible refine (TG2.out _ _ _ _ hkl hR15).mono ?_)
  rintro e w16 ⟨B1, d1, B2, d2, bs', rfl, hR16, hG16⟩
  have hB16 := HB15.out.trans (grown_to_below hG16 (show w.heap.size ≤ g15 by omega) (by omega))
  have hbA := below_alloc w16 (bxV 0 0 0 B1 0 d1 B2 0 d2)
  have T17 := hide (err_s g15 _ bs' true _ (hR16.step hbA))
  simp only [if_true] at T17
  have HB17 := hide (below_step hB16 hbA)
  clear hR16 hG16 hB16 hbA hR15 TG2
  go_wp2_with fail
  with_reducible refine T17.out.mono ?_
  rintro e w17 ⟨rfl, rfl⟩
  go_wp2_with fail
  with_reducible refine (TA.out _).mono ?_
  rintro e w18 ⟨rfl, hb⟩
  go_wp2
  go_ret
  exact ⟨rfl, below_step HB17.out hb⟩
set_option maxRecDepth 100000 in
set_option maxHeartbeats 4000000 in
theorem viewBack_true (x : Vw) (TL : Option Addr) (tc : Nat) (ts : List Int) (cut : Int) (w : World) (hm : Sl w x.MA x.ms) (hu : Ul w x.UA x.us) (hw : x.Wf) (st : Reads w w.heap.size 1 TL ts.length (bcs ts)) (hts : bOK ts) (htm : ts.length ≤ 9223372036854775807) (hc : -9223372036854775808 ≤ cut ∧ cut ≤ 9223372036854775807) :
    Calls Try.prog 8 #[x.v, .slice TL ts.length tc, .int .i64 cut] w (RetB w true) := by
  have TA := hide (fun W => awake4_t W)
  have TH := hide (fun W => heavy4_s x W)
  cases hh : hvV x
  · have okx := Vw.ok_of hm hu hh
    by_cases ht : ts.length ≤ 1000
    · cases hmm : x.mayB
      · have TM := hide (fun W (h : x.Ok W) => vmay_s x W h)
        have hts1 : decide ((1000 : Int) < (ts.length : Int)) = false := decide_eq_false (by omega)
        rw [hh] at TH
        rw [hmm] at TM
        have HX := hide okx
        obtain ⟨r, n, i, MA, mc, ms, UA, uc, us⟩ := x
        unfold Vw.v at TH TM ⊢
        simp only at TH TM ⊢
        clear hm hu hh hw hmm okx st hts
        go_enter Try.func8, Try.ntmps8
        go_wp2_with fail
        (with_reducible refine (TH.out _).mono ?_)
        rintro e w1 ⟨rfl, hb⟩
        obtain ⟨⟨d1, os1⟩, rfl⟩ := gw_of_below hb
        clear hb
        go_wp2_with fail
        (with_reducible refine (TM.out _ (HX.out.step (by repeat (first | exact Below.refl _ _ | assumption | refine bel_al ?_ _ | refine bel_gw ?_ _ _ | refine bel_drew ?_ | refine bel_drewN ?_ _)))).mono ?_)
        rintro e w2 ⟨rfl, hb⟩
        obtain ⟨⟨d2, os2⟩, rfl⟩ := gw_of_below hb
        clear hb
        go_wp2_with fail
        (with_reducible refine (TA.out _).mono ?_)
        rintro e w3 ⟨rfl, hb⟩
        obtain ⟨⟨d3, os3⟩, rfl⟩ := gw_of_below hb
        clear hb
        go_wp2
        go_ret
        exact ⟨rfl, (by repeat (first | exact Below.refl _ _ | assumption | refine bel_al ?_ _ | refine bel_gw ?_ _ _ | refine bel_drew ?_ | refine bel_drewN ?_ _))⟩
      · exact viewBack_main x TL tc ts cut w okx st hw hts hc.1 hc.2 hh ht hmm
    · have hts1 : decide ((1000 : Int) < (ts.length : Int)) = true := decide_eq_true (by omega)
      rw [hh] at TH
      obtain ⟨r, n, i, MA, mc, ms, UA, uc, us⟩ := x
      unfold Vw.v at TH ⊢
      simp only at TH ⊢
      clear hm hu hh hw okx st hts ht
      go_enter Try.func8, Try.ntmps8
      go_wp2_with fail
      (with_reducible refine (TH.out _).mono ?_)
      rintro e w1 ⟨rfl, hb⟩
      obtain ⟨⟨d1, os1⟩, rfl⟩ := gw_of_below hb
      clear hb
      go_wp2_with fail
      (with_reducible refine (TA.out _).mono ?_)
      rintro e w3 ⟨rfl, hb⟩
      obtain ⟨⟨d3, os3⟩, rfl⟩ := gw_of_below hb
      clear hb
      go_wp2
      go_ret
      exact ⟨rfl, (by repeat (first | exact Below.refl _ _ | assumption | refine bel_al ?_ _ | refine bel_gw ?_ _ _ | refine bel_drew ?_ | refine bel_drewN ?_ _))⟩
  · rw [hh] at TH
    obtain ⟨r, n, i, MA, mc, ms, UA, uc, us⟩ := x
    unfold Vw.v at TH ⊢
    simp only at TH ⊢
    clear hm hu hh hw st hts
    go_enter Try.func8, Try.ntmps8
    go_wp2_with fail
    (with_reducible refine (TH.out _).mono ?_)
    rintro e w1 ⟨rfl, hb⟩
    obtain ⟨⟨d1, os1⟩, rfl⟩ := gw_of_below hb
    clear hb
    go_wp2_with fail
    (with_reducible refine (TA.out _).mono ?_)
    rintro e w3 ⟨rfl, hb⟩
    obtain ⟨⟨d3, os3⟩, rfl⟩ := gw_of_below hb
    clear hb
    go_wp2
    go_ret
    exact ⟨rfl, (by repeat (first | exact Below.refl _ _ | assumption | refine bel_al ?_ _ | refine bel_gw ?_ _ _ | refine bel_drew ?_ | refine bel_drewN ?_ _))⟩
end Go.Proofs.Ytgbappmidllnmaa
