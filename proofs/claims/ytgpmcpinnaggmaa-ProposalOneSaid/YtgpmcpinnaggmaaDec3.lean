/-
  Layer 8: contract: notice.Decode, all of it.
-/
import Derived.Test.YtgpmcpinnaggmaaDec2
namespace Go.Proofs.Ytgpmcpinnaggmaa
set_option linter.unusedSimpArgs false
set_option linter.unusedVariables false
set_option linter.unusedSectionVars false
open Go.RowKit

set_option maxRecDepth 100000 in
set_option maxHeartbeats 4000000 in
theorem dec_else (A : Option Addr) (c : Nat) (bs : List Int) (w : World) (hr : Reads w w.heap.size 1 A bs.length (bcs bs)) (hn : bs.length ≤ 1000000) (hok : bOK bs) (k : Int) (s : RS) (hk : k ≠ 5 ∧ k ≠ 1 ∧ k ≠ 3 ∧ k ≠ 2 ∧ k ≠ 4) (hu : rU8 (bs, false) = (k, s)) :
    Calls Try.prog 13 #[.slice A bs.length c] w (RetDec w (finN ⟨k, 0, 0, 0, 0, none, 0, [], vw0⟩ s)) := by
  have T1 := hide (newReader_s A c bs _ ((Reads.below hr (below_alloc w (bxN 0 0 0 0 0 none 0 0 0 0 0 none 0 0 none 0 0))).more (by simp)) hn hok)
  have hl1 := rU8_len (bs, false)
  have hrg := rU8_range (s := (bs, false)) hok
  have T2 : Hid (∀ g B W, Rds W g B bs false → Calls Try.prog 37 #[.pointer (some ⟨g, 0, none⟩)] W (RetR g B W (.int .u8 k) s)) := hide (fun g B W h => by
    have := u8R_s g B (bs, false) W h
    rw [hu] at this; exact this)
  rw [hu] at hl1 hrg
  simp only at hl1 hrg
  obtain ⟨hrg0, hrg1⟩ := hrg
  clear hr hu
  go_enter Try.func13, Try.ntmps13
  go_wp2_with fail
  with_reducible refine T1.out.mono ?_
  rintro e w1 ⟨g, rfl, hg, hR1, hb1⟩
  have p0 := (boxTop w #[.int .i64 0, .int .i64 0, .int .u64 0, .int .u64 0, .int .u64 0, .slice none 0 0, .int .u64 0, .int .i64 0, .int .u64 0, .slice none 0 0, .slice none 0 0] 34).step hb1
  have hB1 := below_step (below_alloc w (bxN 0 0 0 0 0 none 0 0 0 0 0 none 0 0 none 0 0)) hb1
  simp only [World.size_alloc] at hg
  have hgt := hR1.top
  have hbA := below_alloc w1 (.cells #[.pointer (some ⟨g, 0, none⟩)] 64)
  have pm := boxTop w1 #[.pointer (some ⟨g, 0, none⟩)] 64
  haveI := pm
  have T3 := hide (T2.out g _ _ (hR1.step hbA))
  clear T1 T2 hb1
  go_wp2_with fail
  with_reducible refine T3.out.mono ?_
  rintro e w2 ⟨rfl, hR2, hG2⟩
  have hm2 := (pm.grown hG2 (by omega))
  have hlt2 := hm2.lt
  have D0 : DN w g w1.heap.size w1.heap.size w2.heap.size ⟨k, 0, 0, 0, 0, none, 0, [], vw0⟩ s (w2.alloc (bxN k 0 0 0 0 none 0 0 0 0 0 none 0 0 none 0 0)) :=
    ⟨((p0.alloc' _).grown hG2 (by omega)).alloc' _, hm2.alloc' _, boxTop w2 _ _, hR2.step (below_alloc _ _), World.ownsRow_nil _ _ _ _, World.ownsRow_nil _ _ _ _, World.ownsRow_nil _ _ _ _,
      below_step ((below_step hB1 hbA).trans (grown_to_below hG2 (by omega) (by have := hB1.size; simp; omega))) (below_alloc _ _), by omega, hgt, Nat.le_refl _, hlt2, Nat.le_trans hl1 hn⟩
  have hB2 := hB1.size
  clear hR1 hR2 hG2 pm hm2 hbA hB1 p0 T3
  haveI := D0.km
  haveI : BoxAt (w2.alloc (bxN k 0 0 0 0 none 0 0 0 0 0 none 0 0 none 0 0)) w2.heap.size #[.int .i64 k, .int .i64 0, .int .u64 0, .int .u64 0, .int .u64 0, .slice none 0 0, .int .u64 0, .int .i64 0, .int .u64 0, .slice none 0 0, .slice none 0 0] 34 := D0.kn
  have D4 := D0
  clear D0
  obtain ⟨a5, a1, a3, a2, a4⟩ := hk
  have k5' : (k == 5) = false := by simpa using a5
  have k1 : (k == 1) = false := by simpa using a1
  have k2 : (k == 2) = false := by simpa using a2
  have k3 : (k == 3) = false := by simpa using a3
  have k4 : (k == 4) = false := by simpa using a4
  clear a5 a1 a3 a2 a4
  haveI := D4.km
  obtain ⟨bs4, bad4⟩ := s
  have T5 := hide (endR_s g _ (bs4, bad4) (w2.alloc (bxN k 0 0 0 0 none 0 0 0 0 0 none 0 0 none 0 0)) D4.rd D4.hl)
  have hcs := D4.kn
  have hok4 : Nt.Ok (w2.alloc (bxN k 0 0 0 0 none 0 0 0 0 0 none 0 0 none 0 0)) ⟨k, 0, 0, 0, 0, none, 0, [], vw0⟩ := ⟨Reads.of_own D4.os, by first | (show (0 : Nat) ≤ _; omega) | (show _ ≤ 1000000; simp only; omega), ⟨Reads.of_own D4.om, Reads.of_own D4.ou, by first | (show (0 : Nat) ≤ _; omega) | (show _ ≤ 1000000; simp only; omega), by first | (show (0 : Nat) ≤ _; omega) | (show _ ≤ 1000000; simp only; omega)⟩⟩
  have T6 := hide (fun W (h : Nt.Ok W ⟨k, 0, 0, 0, 0, none, 0, [], vw0⟩) => nmay_s ⟨k, 0, 0, 0, 0, none, 0, [], vw0⟩ W h)
  unfold Nt.v at T6
  simp only [List.length_nil] at T5 T6
  have key : (bad4 = true ∨ 0 < bs4.length) ∨ (¬ (bad4 = true ∨ 0 < bs4.length) ∧ Nt.mayB ⟨k, 0, 0, 0, 0, none, 0, [], vw0⟩ = false) ∨ (¬ (bad4 = true ∨ 0 < bs4.length) ∧ Nt.mayB ⟨k, 0, 0, 0, 0, none, 0, [], vw0⟩ = true) := by
    by_cases h : bad4 = true ∨ 0 < bs4.length
    · exact .inl h
    · cases h2 : Nt.mayB ⟨k, 0, 0, 0, 0, none, 0, [], vw0⟩
      · exact .inr (.inl ⟨h, rfl⟩)
      · exact .inr (.inr ⟨h, rfl⟩)
  have HOK4 := hide hok4
  clear hok4
  rcases key with hk1 | ⟨hk1, hk2⟩ | ⟨hk1, hk2⟩
  · rw [if_pos hk1] at T5
    have HF : Hid (finN ⟨k, 0, 0, 0, 0, none, 0, [], vw0⟩ (bs4, bad4) = none) := hide (show (if bad4 = true ∨ 0 < bs4.length then none else _) = none from if_pos hk1)
    clear hk1
    go_wp2_with fail
    with_reducible refine T5.out.mono ?_
    rintro e w5 ⟨rfl, hR5, hG5⟩
    have D5 := D4.read (s' := (bs4, bad4 || decide (0 < bs4.length))) hG5 hR5 (Nat.le_refl _)
    haveI := D5.k0
    obtain ⟨k6, g6⟩ := set11 D5.k0 (.int .i64 0) (.int .i64 0) (.int .u64 0) (.int .u64 0) (.int .u64 0) (.slice none 0 0) (.int .u64 0) (.int .i64 0) (.int .u64 0) (.slice none 0 0) (.slice none 0 0)
    have HB6 := hide (D5.hB.trans (grown_to_below g6 (Nat.le_refl _) D5.hB.size))
    clear D4 D5 hR5 hG5 T5 T6
    go_wp2
    generalize ((((((((((w5.setCell ⟨w.heap.size, 0, none⟩ (.int .i64 0)).setCell ⟨w.heap.size, 1, none⟩ (.int .i64 0)).setCell ⟨w.heap.size, 2, none⟩ (.int .u64 0)).setCell ⟨w.heap.size, 3, none⟩ (.int .u64 0)).setCell ⟨w.heap.size, 4, none⟩ (.int .u64 0)).setCell ⟨w.heap.size, 5, none⟩ (.slice none 0 0)).setCell ⟨w.heap.size, 6, none⟩ (.int .u64 0)).setCell ⟨w.heap.size, 7, none⟩ (.int .i64 0)).setCell ⟨w.heap.size, 8, none⟩ (.int .u64 0)).setCell ⟨w.heap.size, 9, none⟩ (.slice none 0 0)).setCell ⟨w.heap.size, 10, none⟩ (.slice none 0 0) = W6 at k6 HB6 ⊢
    haveI := k6
    refine bodyPost_ret (v := .tuple #[.agg #[.int .i64 0, .int .i64 0, .int .u64 0, .int .u64 0, .int .u64 0, .slice none 0 0, .int .u64 0, .int .i64 0, .int .u64 0, .slice none 0 0, .slice none 0 0], .int .i64 3]) (by simp [results, Try.results13, go_sem]) rfl ?_
    rw [HF.out]
    exact RetDec.no HB6.out
  · rw [if_neg hk1] at T5
    have HF : Hid (finN ⟨k, 0, 0, 0, 0, none, 0, [], vw0⟩ (bs4, bad4) = none) := hide ((if_neg hk1).trans (if_pos hk2))
    rw [hk2] at T6
    clear hk1 hk2
    go_wp2_with fail
    with_reducible refine T5.out.mono ?_
    rintro e w5 ⟨rfl, hR5, hG5⟩
    have D5 := D4.read (s' := (bs4, bad4 || decide (0 < bs4.length))) hG5 hR5 (Nat.le_refl _)
    haveI : BoxAt w5 w2.heap.size #[.int .i64 k, .int .i64 0, .int .u64 0, .int .u64 0, .int .u64 0, .slice none 0 0, .int .u64 0, .int .i64 0, .int .u64 0, .slice none 0 0, .slice none 0 0] 34 := D5.kn
    have ok5 : Nt.Ok w5 ⟨k, 0, 0, 0, 0, none, 0, [], vw0⟩ := ⟨Reads.of_own D5.os, HOK4.out.sl, ⟨Reads.of_own D5.om, Reads.of_own D5.ou, HOK4.out.vk.ml, HOK4.out.vk.ul⟩⟩
    clear D4 hR5 hG5 T5
    go_wp2_with fail
    (with_reducible refine (T6.out _ ok5).mono ?_)
    rintro e w7 ⟨rfl, hb7⟩
    have D7 := D5.below hb7
    haveI := D7.k0
    obtain ⟨k6, g6⟩ := set11 D7.k0 (.int .i64 0) (.int .i64 0) (.int .u64 0) (.int .u64 0) (.int .u64 0) (.slice none 0 0) (.int .u64 0) (.int .i64 0) (.int .u64 0) (.slice none 0 0) (.slice none 0 0)
    have HB6 := hide (D7.hB.trans (grown_to_below g6 (Nat.le_refl _) D7.hB.size))
    clear D5 D7 T6 ok5 hb7
    go_wp2
    generalize ((((((((((w7.setCell ⟨w.heap.size, 0, none⟩ (.int .i64 0)).setCell ⟨w.heap.size, 1, none⟩ (.int .i64 0)).setCell ⟨w.heap.size, 2, none⟩ (.int .u64 0)).setCell ⟨w.heap.size, 3, none⟩ (.int .u64 0)).setCell ⟨w.heap.size, 4, none⟩ (.int .u64 0)).setCell ⟨w.heap.size, 5, none⟩ (.slice none 0 0)).setCell ⟨w.heap.size, 6, none⟩ (.int .u64 0)).setCell ⟨w.heap.size, 7, none⟩ (.int .i64 0)).setCell ⟨w.heap.size, 8, none⟩ (.int .u64 0)).setCell ⟨w.heap.size, 9, none⟩ (.slice none 0 0)).setCell ⟨w.heap.size, 10, none⟩ (.slice none 0 0) = W6 at k6 HB6 ⊢
    haveI := k6
    refine bodyPost_ret (v := .tuple #[.agg #[.int .i64 0, .int .i64 0, .int .u64 0, .int .u64 0, .int .u64 0, .slice none 0 0, .int .u64 0, .int .i64 0, .int .u64 0, .slice none 0 0, .slice none 0 0], .int .i64 3]) (by simp [results, Try.results13, go_sem]) rfl ?_
    rw [HF.out]
    exact RetDec.no HB6.out
  · rw [if_neg hk1] at T5
    have HF : Hid (finN ⟨k, 0, 0, 0, 0, none, 0, [], vw0⟩ (bs4, bad4) = some ⟨k, 0, 0, 0, 0, none, 0, [], vw0⟩) := hide ((if_neg hk1).trans (if_neg (by intro h; have h' : Nt.mayB ⟨k, 0, 0, 0, 0, none, 0, [], vw0⟩ = false := h; rw [hk2] at h'; cases h')))
    rw [hk2] at T6
    clear hk1 hk2
    go_wp2_with fail
    with_reducible refine T5.out.mono ?_
    rintro e w5 ⟨rfl, hR5, hG5⟩
    have D5 := D4.read (s' := (bs4, bad4 || decide (0 < bs4.length))) hG5 hR5 (Nat.le_refl _)
    haveI : BoxAt w5 w2.heap.size #[.int .i64 k, .int .i64 0, .int .u64 0, .int .u64 0, .int .u64 0, .slice none 0 0, .int .u64 0, .int .i64 0, .int .u64 0, .slice none 0 0, .slice none 0 0] 34 := D5.kn
    have ok5 : Nt.Ok w5 ⟨k, 0, 0, 0, 0, none, 0, [], vw0⟩ := ⟨Reads.of_own D5.os, HOK4.out.sl, ⟨Reads.of_own D5.om, Reads.of_own D5.ou, HOK4.out.vk.ml, HOK4.out.vk.ul⟩⟩
    clear D4 hR5 hG5 T5
    go_wp2_with fail
    (with_reducible refine (T6.out _ ok5).mono ?_)
    rintro e w7 ⟨rfl, hb7⟩
    have D7 := D5.below hb7
    haveI := D7.k0
    haveI : BoxAt w7 w2.heap.size #[.int .i64 k, .int .i64 0, .int .u64 0, .int .u64 0, .int .u64 0, .slice none 0 0, .int .u64 0, .int .i64 0, .int .u64 0, .slice none 0 0, .slice none 0 0] 34 := D7.kn
    obtain ⟨k6, g6⟩ := set11 D7.k0 (.int .i64 k) (.int .i64 0) (.int .u64 0) (.int .u64 0) (.int .u64 0) (.slice none 0 0) (.int .u64 0) (.int .i64 0) (.int .u64 0) (.slice none 0 0) (.slice none 0 0)
    have HB6 := hide (D7.hB.trans (grown_to_below g6 (Nat.le_refl _) D7.hB.size))
    have q1 := own_grown D7.os g6 (by omega)
    have q2 := own_grown D7.om g6 (by omega)
    have q3 := own_grown D7.ou g6 (by omega)
    have HQ1 := hide q1
    have HQ2 := hide q2
    have HQ3 := hide q3
    clear D5 D7 T6 ok5 hb7 q1 q2 q3
    go_wp2
    generalize ((((((((((w7.setCell ⟨w.heap.size, 0, none⟩ (.int .i64 k)).setCell ⟨w.heap.size, 1, none⟩ (.int .i64 0)).setCell ⟨w.heap.size, 2, none⟩ (.int .u64 0)).setCell ⟨w.heap.size, 3, none⟩ (.int .u64 0)).setCell ⟨w.heap.size, 4, none⟩ (.int .u64 0)).setCell ⟨w.heap.size, 5, none⟩ (.slice none 0 0)).setCell ⟨w.heap.size, 6, none⟩ (.int .u64 0)).setCell ⟨w.heap.size, 7, none⟩ (.int .i64 0)).setCell ⟨w.heap.size, 8, none⟩ (.int .u64 0)).setCell ⟨w.heap.size, 9, none⟩ (.slice none 0 0)).setCell ⟨w.heap.size, 10, none⟩ (.slice none 0 0) = W6 at k6 HB6 HQ1 HQ2 HQ3 ⊢
    haveI := k6
    refine bodyPost_ret (v := .tuple #[.agg #[.int .i64 k, .int .i64 0, .int .u64 0, .int .u64 0, .int .u64 0, .slice none 0 0, .int .u64 0, .int .i64 0, .int .u64 0, .slice none 0 0, .slice none 0 0], .int .i64 0]) (by simp [results, Try.results13, go_sem]) rfl ?_
    rw [HF.out]
    exact ⟨_, _, _, _, _, _, rfl, ⟨Reads.of_own HQ1.out, HOK4.out.sl, ⟨Reads.of_own HQ2.out, Reads.of_own HQ3.out, HOK4.out.vk.ml, HOK4.out.vk.ul⟩⟩, HB6.out⟩
theorem rRun_mem (k : Nat) (s : RS) : (rRun k s []).1.length ≤ k := rRun_le k s
theorem rGetSet_most (most : Nat) (s : RS) : (rGetSet most s).1.length ≤ most := by
  have := rRun_le (rU8 s).1.toNat (rU8 s).2
  rw [rGetSet_eq]
  split
  · simp
  · rename_i h
    have h2 := (not_or.1 h).2
    split
    · simp
    · split
      · omega
      · simp
theorem rUints_length : ∀ (k : Nat) (s : RS) (acc : List Int), (rUints k s acc).1.length = acc.length + k := by
  intro k
  induction k with
  | zero => intro s acc; rfl
  | succ k ih => intro s acc; rw [rUints, ih]; simp; omega
theorem rView_most (s : RS) : (rView s).1.2.1.length ≤ 6 ∧ (rView s).1.2.2.length ≤ 6 := by
  have h1 := rGetSet_most 6 (rId s).2
  have h2 := rUints_length (rGetSet 6 (rId s).2).1.length (rGetSet 6 (rId s).2).2 []
  rw [rView_eq]
  split
  · simp
  · simp at h2 ⊢; omega
/-- what bytes are read as, and what is left -/
def rNt (bs : List Int) : Nt × RS :=
  let a := rU8 (bs, false)
  if a.1 = 1 ∨ a.1 = 3 then
    (⟨a.1, (rGet a.2).1.1, (rGet a.2).1.2, (rUint (rGet a.2).2).1, (rUint (rUint (rGet a.2).2).2).1, none, 0, (rGetSet 6 (rUint (rUint (rGet a.2).2).2).2).1, vw0⟩, (rGetSet 6 (rUint (rUint (rGet a.2).2).2).2).2)
  else if a.1 = 2 then (⟨2, (rGet a.2).1.1, (rGet a.2).1.2, 0, 0, none, 0, [], vw0⟩, (rGet a.2).2)
  else if a.1 = 4 then (⟨4, (rGet a.2).1.1, (rGet a.2).1.2, 0, (rUint (rGet a.2).2).1, none, 0, (rGetSet 6 (rUint (rGet a.2).2).2).1, vw0⟩, (rGetSet 6 (rUint (rGet a.2).2).2).2)
  else if a.1 = 5 then (⟨5, 0, 0, 0, 0, none, 0, [], ⟨(rView a.2).1.1.1, (rView a.2).1.1.2.1, (rView a.2).1.1.2.2, none, 0, (rView a.2).1.2.1, none, 0, (rView a.2).1.2.2⟩⟩, (rView a.2).2)
  else (⟨a.1, 0, 0, 0, 0, none, 0, [], vw0⟩, a.2)
/-- the notice whose bytes these are -/
def decN (bs : List Int) : Option Nt := finN (rNt bs).1 (rNt bs).2
theorem decode_s (A : Option Addr) (c : Nat) (bs : List Int) (w : World) (hr : Reads w w.heap.size 1 A bs.length (bcs bs)) (hn : bs.length ≤ 1000000) (hok : bOK bs) :
    Calls Try.prog 13 #[.slice A bs.length c] w (RetDec w (decN bs)) := by
  unfold decN rNt
  generalize hu : rU8 (bs, false) = a
  obtain ⟨k, s⟩ := a
  simp only
  have m1 := rGetSet_most 6 (rUint (rUint (rGet s).2).2).2
  have m2 := rGetSet_most 6 (rUint (rGet s).2).2
  have m3 := rView_most s
  by_cases k1 : k = 1 ∨ k = 3
  · rw [if_pos k1]
    rcases k1 with rfl | rfl
    · exact dec1 A c bs w hr hn hok s (rGet s).2 (rUint (rGet s).2).2 (rUint (rUint (rGet s).2).2).2 (rGetSet 6 (rUint (rUint (rGet s).2).2).2).2 (rGet s).1.1 (rGet s).1.2 (rUint (rGet s).2).1 (rUint (rUint (rGet s).2).2).1 (rGetSet 6 (rUint (rUint (rGet s).2).2).2).1 rfl rfl rfl rfl (by omega) hu
    · exact dec3 A c bs w hr hn hok s (rGet s).2 (rUint (rGet s).2).2 (rUint (rUint (rGet s).2).2).2 (rGetSet 6 (rUint (rUint (rGet s).2).2).2).2 (rGet s).1.1 (rGet s).1.2 (rUint (rGet s).2).1 (rUint (rUint (rGet s).2).2).1 (rGetSet 6 (rUint (rUint (rGet s).2).2).2).1 rfl rfl rfl rfl (by omega) hu
  · rw [if_neg k1]
    by_cases k2 : k = 2
    · subst k2
      rw [if_pos rfl]
      exact dec2 A c bs w hr hn hok s (rGet s).2 (rGet s).1.1 (rGet s).1.2 rfl hu
    · rw [if_neg k2]
      by_cases k4 : k = 4
      · subst k4
        rw [if_pos rfl]
        exact dec4 A c bs w hr hn hok s (rGet s).2 (rUint (rGet s).2).2 (rGetSet 6 (rUint (rGet s).2).2).2 (rGet s).1.1 (rGet s).1.2 (rUint (rGet s).2).1 (rGetSet 6 (rUint (rGet s).2).2).1 rfl rfl rfl (by omega) hu
      · rw [if_neg k4]
        by_cases k5 : k = 5
        · subst k5
          rw [if_pos rfl]
          exact dec5 A c bs w hr hn hok s (rView s).2 (rView s).1.1.1 (rView s).1.1.2.1 (rView s).1.1.2.2 (rView s).1.2.1 (rView s).1.2.2 rfl (by omega) (by omega) hu
        · rw [if_neg k5]
          exact dec_else A c bs w hr hn hok k s ⟨k5, by omega, by omega, k2, k4⟩ hu
end Go.Proofs.Ytgpmcpinnaggmaa
