/-
  Walk: the law ProcBack answers true at every input.
-/
import Derived.Test.YtgbappmidllnmaaBack
import Derived.Test.YtgbappmidllnmaaLSort
import Derived.Test.YtgbappmidllnmaaAwake4
namespace Go.Proofs.Ytgbappmidllnmaa
set_option linter.unusedSimpArgs false
set_option linter.unusedVariables false
set_option linter.unusedSectionVars false
open Go.RowKit Go.Sort Go.Lib

/-- may all of them be? -/
def allMay (l : List Pr) : Bool := l.all fun p => mayB p.1 p.2
theorem allMay_take {l : List Pr} {k : Nat} {p : Pr} (h : l[k]? = some p) : allMay (l.take (k + 1)) = (allMay (l.take k) && mayB p.1 p.2) := by
  unfold allMay; rw [List.take_add_one, h]; simp
theorem own_emptyB (w : World) : OwnB (w.alloc (.cells #[] 5)) w.heap.size (.slice (some ⟨w.heap.size, 0, none⟩) 0 0) [] := World.ownsRow_lit w #[] 0 (Nat.le_refl _) (by unfold maxLen; omega) rfl
theorem heavy1 (A : Option Addr) (c n : Nat) (l : List Pr) (hn : l.length = n) (w : World) : Calls Try.prog 29 #[.slice (some ⟨w.heap.size, 0, none⟩) 1 1] (w.alloc (.cells #[.slice A n c] 27)) (RetB w (decide (300 < l.length))) := by
  subst hn
  have := heavy_at [⟨A, c, l⟩] #[.slice A l.length c] w w.heap.size 1 rfl rfl rfl (by omega)
  have e : hvB [⟨A, c, l⟩] = decide (300 < l.length) := by simp [hvB]
  rw [e] at this
  exact this
set_option maxRecDepth 100000 in
set_option maxHeartbeats 4000000 in
theorem procBack_true (A : Option Addr) (ca : Nat) (l : List Pr) (TL : Option Addr) (tc : Nat) (ts : List Int) (w : World) (sa : Sl w A l) (st : Reads w w.heap.size 1 TL ts.length (bcs ts)) (hwf : ∀ p ∈ l, wfP p) (hts : bOK ts) (hlm : l.length ≤ 9223372036854775807) (htm : ts.length ≤ 9223372036854775807) :
    Calls Try.prog 7 #[.slice A l.length ca, .slice TL ts.length tc] w (RetB w true) := by
  have TA := hide (fun W => awake_t W)
  have TH := hide (fun W => heavy1 A ca l.length l rfl W)
  by_cases hh : 300 < l.length ∨ 1000 < ts.length
  · have hk : (decide (300 < l.length) = true) ∨ (decide (300 < l.length) = false ∧ decide (1000 < ts.length) = true) := by
      by_cases h1 : 300 < l.length
      · exact .inl (decide_eq_true h1)
      · exact .inr ⟨decide_eq_false h1, decide_eq_true (hh.resolve_left h1)⟩
    rcases hk with hk | ⟨hk, hk2⟩
    · rw [hk] at TH
      clear hh hk sa st
      go_enter Try.func7, Try.ntmps7
      go_wp2_with fail
      (with_reducible refine (TH.out _).mono ?_)
      rintro e w1 ⟨rfl, hb⟩
      obtain ⟨⟨d1, os1⟩, rfl⟩ := gw_of_below hb
      clear hb
      go_wp2_with fail
      (with_reducible refine (TA.out _).mono ?_)
      rintro e w2 ⟨rfl, hb⟩
      obtain ⟨⟨d2, os2⟩, rfl⟩ := gw_of_below hb
      clear hb
      go_wp2
      go_ret
      exact ⟨rfl, (by repeat (first | exact Below.refl _ _ | assumption | refine bel_al ?_ _ | refine bel_gw ?_ _ _ | refine bel_drew ?_ | refine bel_drewN ?_ _))⟩
    · rw [hk] at TH
      have hk3 : decide ((1000 : Int) < (ts.length : Int)) = true := by simp at hk2 ⊢; omega
      clear hh hk hk2 sa st
      go_enter Try.func7, Try.ntmps7
      go_wp2_with fail
      (with_reducible refine (TH.out _).mono ?_)
      rintro e w1 ⟨rfl, hb⟩
      obtain ⟨⟨d1, os1⟩, rfl⟩ := gw_of_below hb
      clear hb
      go_wp2_with fail
      (with_reducible refine (TA.out _).mono ?_)
      rintro e w2 ⟨rfl, hb⟩
      obtain ⟨⟨d2, os2⟩, rfl⟩ := gw_of_below hb
      clear hb
      go_wp2
      go_ret
      exact ⟨rfl, (by repeat (first | exact Below.refl _ _ | assumption | refine bel_al ?_ _ | refine bel_gw ?_ _ _ | refine bel_drew ?_ | refine bel_drewN ?_ _))⟩
  · have hl3 : l.length ≤ 300 := by omega
    have ht1 : ts.length ≤ 1000 := by omega
    have hk3 : decide ((1000 : Int) < (ts.length : Int)) = false := decide_eq_false (by omega)
    rw [decide_eq_false (by omega)] at TH
    have TS := hide (fun W (h : Sl W A l) => sorted_s A ca l W h (by omega))
    have hSl := sortedL_len l
    have HSS := hide (sortedL_ss l)
    have HWF := hide (fun p (hp : p ∈ sortedL l) => hwf p (mem_sortedL.1 hp))
    generalize sortedL l = S at TS hSl HSS HWF
    have hS3 : S.length ≤ 300 := by omega
    have HW2 := hide (fun p (hp : p ∈ S) => show wfU64 p.2 from ⟨(HWF.out p hp).2.2.1, (HWF.out p hp).2.2.2⟩)
    have HMB := hide (fun p (hp : p ∈ S) (h : mayB p.1 p.2 = true) => show mayB p.1 p.2 = true ∧ p.2 ≤ 18446744073709551615 from ⟨h, (HWF.out p hp).2.2.2⟩)
    have hpb := procsB_len S
    have HOKB := hide ((show bOK ([] ++ [(S.length : Int) % 256] ++ procsB S) from (bOK.app (fun b hb => by simp at hb; omega) (procsB_ok HW2.out))).app hts)
    have hcast : ((S.length : Int) % 256) % 256 = (S.length : Int) % 256 := by omega
    have hc0 : 0 ≤ (S.length : Int) % 256 := by omega
    have hc1 : (S.length : Int) % 256 < 256 := by omega
    have TG : Hid (∀ (W : World) (g B : Nat), Rds W g B (S.length % 256 :: (procsB S ++ ts)) false → Calls Try.prog 37 #[.pointer (some ⟨g, 0, none⟩), .int .i64 S.length] W (RetRP g B W (rGetSet S.length (S.length % 256 :: (procsB S ++ ts), false)).1 (rGetSet S.length (S.length % 256 :: (procsB S ++ ts), false)).2)) := hide (fun W g B h => getSet_s g B S.length _ W h (by simp; omega) (by omega))
    have HM : Hid ((decide (S.length < 256) && allMay S) = true → rGetSet S.length (S.length % 256 :: (procsB S ++ ts), false) = (S, (ts, false))) := hide (fun h => by
      simp [allMay] at h
      have hm : ∀ p ∈ S, mayB p.1 p.2 = true := fun p hp => h.2 p.1 p.2 hp
      exact rGetSet_back S ts S.length h.1 (Nat.le_refl _) (setB_of HSS.out hm) (fun p hp => HMB.out p hp (hm p hp)))
    have HST := hide st
    clear hh hwf hts HWF st
    go_enter Try.func7, Try.ntmps7
    go_wp2_with fail
    (with_reducible refine (TH.out _).mono ?_)
    rintro e w1 ⟨rfl, hb⟩
    have hB := hb
    replace sa := sa.step hb
    clear hb TH
    go_wp2_with fail
    (with_reducible refine (TS.out _ sa).mono ?_)
    rintro e w2 ⟨A1, c1, rfl, s1, hb⟩
    replace hB := below_step hB hb
    clear hb TS sa
    go_wp2_with fail
    with_reducible refine (newWriter_s w2).mono ?_
    rintro e w3 ⟨rfl, rfl⟩
    have hw3 := newWtr w2
    have HR3 := hide (RdW.of_reads hw3 (Reads.below s1 (below_alloc _ _)))
    have T4 := hide (u8_s _ _ _ _ _ hw3 (by simp) hc0 hc1)
    have hB3 := below_step hB (below_alloc w2 (.cells #[.slice none 0 0] 90))
    have hsz2 := hB.size
    have HW3 := hide hw3
    have HB3 := hide hB3
    clear hw3 hB3 hB
    go_wp2_with fail
    with_reducible refine T4.out.mono ?_
    rintro e w4 ⟨rfl, v4, hw4, hs4⟩
    have HR4 := hide (HR3.out.step hs4)
    have HB4 := hide (HB3.out.trans (hs4.to_below HW3.out (by omega)))
    have T5 := hide (putP_s _ _ _ A1 c1 S _ hw4 HR4.out (by omega) (by simp) HW2.out)
    have HS4 := hide (hs4.to_below HW3.out (Nat.le_refl _))
    have HW4 := hide hw4
    clear hw4 hs4 HR3 T4 HW3 HB3
    go_wp2_with fail
    with_reducible refine T5.out.mono ?_
    rintro e w5 ⟨rfl, v5, hw5, hs5⟩
    have HB5 := hide (HB4.out.trans (hs5.to_below HW4.out (by omega)))
    have HS5 := hide ((below_alloc w2 _).trans (HS4.out.trans (hs5.to_below HW4.out (Nat.le_refl _))))
    have T6 := hide (bytes_s _ _ _ _ (hw5.below (below_alloc w5 (.cells #[] 5))) (by simp; omega))
    have HOE := hide (own_emptyB w5)
    clear hw5 hs5 T5 HW4 HB4 HS4 HR4
    go_wp2_with fail
    with_reducible refine T6.out.mono ?_
    rintro e w6 ⟨v6, rfl, ho6, hb6⟩
    obtain ⟨A6, c6, rfl, _, _⟩ := own_slice ho6
    have HO6 := hide (own_below HOE.out hb6 (Nat.le_refl _))
    have HR6 := hide (Reads.of_own ho6)
    have hb56 := below_step (below_alloc w5 (.cells #[] 5)) hb6
    have HB6 := hide (below_step HB5.out hb56)
    have HS6 := hide (below_step HS5.out hb56)
    have HT6 := hide (HST.out.below HB6.out)
    have hsz6 := HB6.out.size
    have hsz5 := HB5.out.size
    have hsz56 := hb56.size
    generalize hbs : [] ++ [(S.length : Int) % 256] ++ procsB S = bs at HO6 HR6 HOKB
    have hbl : bs.length ≤ 4000 := by rw [← hbs]; simp; omega
    have hbs' : bs ++ ts = (S.length : Int) % 256 :: (procsB S ++ ts) := by rw [← hbs]; simp
    have HBS := hide hbs'
    have HO6w : Hid (w6.ownsRow w5.heap.size 5 1 (.slice (some ⟨w5.heap.size, 0, none⟩) 0 0) 0 []) := hide HO6.out
    clear ho6 hb6 T6 HOE hb56 hbs hbs' HO6
    go_wp2_with (first
      | (at_builtin; refine wpList_append_any _ Try.okB (by rfl) (.tmp 32) (.tmp 34) (by rfl) w5.heap.size (.slice (some ⟨w5.heap.size, 0, none⟩) 0 0) 0 [] (by rfl) HO6w.out w6.heap.size A6 bs.length c6 (bcs bs) (by rfl) HR6.out (bcs_one _) (by unfold maxLen; omega) (by omega) (by omega) ?_; intro v7 w7 hown7 hg7 hnil7 hat7; have hb67 : Below w5.heap.size w6 w7 := (Below.refl _ _).grown hg7 (by omega) (fun k hk => (HO6w.out.lt k hk).1); rw [Nat.zero_add, List.nil_append] at hown7; have HO7 := hide hown7; have HB67 := hide hb67; have HT7 := hide (HT6.out.below (hb67.mono hsz5)); clear hown7 hg7 hnil7 hat7 hb67)
      | (at_builtin; refine wpList_append_any _ Try.okB (by rfl) (.tmp 35) (.tmp 36) (by rfl) w5.heap.size v7 bs.length (bcs bs) (by rfl) HO7.out w.heap.size TL ts.length tc (bcs ts) (by rfl) HT7.out (bcs_one _) (by unfold maxLen; omega) (by omega) (by have := HB67.out.size; omega) ?_; intro v8 w8 hown8 hg8 hnil8 hat8; have hb78 : Below w5.heap.size w7 w8 := (Below.refl _ _).grown hg8 (by have := HB67.out.size; omega) (fun k hk => (HO7.out.lt k hk).1); have HB68 := hide (HB67.out.trans hb78); obtain ⟨A8, c8, rfl, _, _⟩ := own_slice hown8; have hr8 : Reads w8 w8.heap.size 1 A8 (bs ++ ts).length (bcs (bs ++ ts)) := (by rw [bcs_app, List.length_append]; exact Reads.of_own hown8); have T8 := hide (newReader_s A8 c8 (bs ++ ts) w8 hr8 (by simp; omega) HOKB.out); rw [List.length_append] at T8; clear hown8 hg8 hnil8 hat8 hb78 hr8)
      | (go_at_call 35; (with_reducible refine T8.out.mono ?_); rintro e w9 ⟨g9, rfl, hg9, hR9, hb9⟩))
    have hsz68 := HB68.out.size
    have hR9' : Rds w9 g9 w9.heap.size ((S.length : Int) % 256 :: (procsB S ++ ts)) false := by rw [← HBS.out]; exact hR9
    have hB9 := (HB6.out.trans (HB68.out.mono hsz5)).trans (hb9.mono (by omega))
    have hS9 := (HS6.out.trans (HB68.out.mono HS5.out.size)).trans (hb9.mono (by have := HS5.out.size; omega))
    have T9 := hide (TG.out _ _ _ hR9')
    have hsz9 := hb9.size
    have h25 := HS5.out.size
    clear hR9 hb9 hR9' T8 TG HST HT6 HT7 HO7 HR6 HO6w HB67 HOKB HB5 HS5 HB6 HS6 HB68 HBS
    (with_reducible refine T9.out.mono ?_)
    rintro e w10 ⟨v10, rfl, ho10, hR10, hG10⟩
    have hb910 := grown_to_below hG10 hg9 hsz9
    have hB10 := hB9.trans (hb910.mono (by omega))
    have hS10 := hS9.trans (hb910.mono (by omega))
    have s10 : Sl w10 A1 S := s1.step hS10
    have HO10 := hide ho10
    have HR10 := hide hR10
    have hsz10 := hB10.size
    clear s1 hS9 hB9 hb910 hG10 hS10 ho10 hR10 T9
    obtain ⟨M, hM⟩ : ∃ M, M = (decide (S.length < 256) && allMay S) := ⟨_, rfl⟩
    rw [← hM] at HM
    have HMM := hide hM
    have S10 := hide s10
    clear hM s10
    go_wp2
    go_loopw [9, 10] (fun m i wr => ∃ (k : Nat), k ≤ S.length ∧ i = .int .i64 k ∧ m = .bool (decide (S.length < 256) && allMay (S.take k)) ∧ Below w10.heap.size w10 wr) (fun _ i _ => S.length - (intOf i).toNat)
    case atStart => exact ⟨0, Nat.zero_le _, rfl, by simp [allMay]; omega, Below.refl _ _⟩
    case round =>
      obtain ⟨k, hk, rfl, rfl, hbw⟩ := hrel
      by_cases hlt : k < S.length
      · obtain ⟨b, off, ⟨pn, pi⟩, rfl, hb, hp, g1, g2⟩ := (S10.out.step hbw).at2 hlt
        have HP := hide (allMay_take hp)
        have TM := hide (fun W => may_b pn pi W)
        simp only at g1 g2
        generalize hx : (decide (S.length < 256) && allMay (S.take k)) = X
        have HX := hide hx
        clear hp hx
        cases X
        · go_wp2
          go_roundw
          case rel => exact ⟨k + 1, by omega, by go_num, by rw [HP.out, ← Bool.and_assoc, HX.out]; rfl, hbw⟩
          case measure => simp [intOf]; omega
        · go_wp2_with fail
          (with_reducible refine (TM.out _).mono ?_)
          rintro e w11 ⟨rfl, hb11⟩
          have HB11 := hide (below_step hbw hb11)
          clear hb11
          go_wp2
          go_roundw
          case rel => exact ⟨k + 1, by omega, by go_num, by rw [HP.out, ← Bool.and_assoc, HX.out]; rfl, HB11.out⟩
          case measure => simp [intOf]; omega
      · obtain rfl : k = S.length := by omega
        rw [List.take_length, ← HMM.out]
        have HBw := hide (hB10.trans (hbw.mono hsz10))
        clear HMM
        cases M
        · clear hbw
          go_wp2_with fail
          (with_reducible refine (TA.out _).mono ?_)
          rintro e w12 ⟨rfl, hb12⟩
          have HB12 := hide (HBw.out.trans (hb12.mono HBw.out.size))
          clear hb12
          go_wp2
          go_ret
          exact ⟨rfl, HB12.out⟩
        · replace HM := HM.out rfl
          rw [HM] at HO10 HR10
          simp only at HO10 HR10
          obtain ⟨A10, c10, rfl, _, _⟩ := own_slice HO10.out
          have sg : Sl wr A10 S := Sl.step (Reads.of_own HO10.out) hbw
          have ss : Sl wr A1 S := S10.out.step hbw
          have T1 := hide (refEqual_t A10 A1 c10 c1 S S wr sg ss (by omega) rfl)
          have HRw := hide (HR10.out.step hbw)
          clear hbw HM HO10 HR10 S10 sg ss
          go_wp2_with fail
          (with_reducible refine T1.out.mono ?_)
          rintro e w12 ⟨rfl, hb12⟩
          have HB12 := hide (HBw.out.trans (hb12.mono HBw.out.size))
          have HR12 := hide (HRw.out.step hb12)
          have T2 := hide (err_s _ _ _ _ _ HR12.out)
          have T3 := hide (left_s _ _ _ _ _ HR12.out)
          have htt : ((ts.length : Int) == (ts.length : Int)) = true := by simp
          simp only [Bool.false_eq_true, if_false] at T2
          clear hb12 HBw HRw HR12 T1
          go_wp2_with fail
          (with_reducible refine T2.out.mono ?_)
          rintro e w13 ⟨rfl, rfl⟩
          go_wp2_with fail
          (with_reducible refine T3.out.mono ?_)
          rintro e w13 ⟨rfl, rfl⟩
          go_wp2_with fail
          (with_reducible refine (TA.out _).mono ?_)
          rintro e w14 ⟨rfl, hb14⟩
          have HB14 := hide (HB12.out.trans (hb14.mono HB12.out.size))
          clear hb14
          go_wp2
          go_ret
          exact ⟨rfl, HB14.out⟩
end Go.Proofs.Ytgbappmidllnmaa
