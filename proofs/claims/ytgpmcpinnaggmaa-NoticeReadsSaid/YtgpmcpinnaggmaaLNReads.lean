/-
  Layer 8's reference: contract: Decode.
-/
import Derived.Test.YtgpmcpinnaggmaaIn4
import Derived.Test.YtgpmcpinnaggmaaNotP
import Derived.Test.YtgpmcpinnaggmaaLNot
namespace Go.Proofs.Ytgpmcpinnaggmaa
set_option linter.unusedSimpArgs false
set_option linter.unusedVariables false
set_option linter.unusedSectionVars false
open Go.RowKit

theorem RI.boxF {w : World} {g B : Nat} {bs : List Int} (h : RI w g B (bs, false)) : ∃ A c, BoxAt w g #[.slice A bs.length c, .bool false] 75 := by
  obtain ⟨bs', A, c, h1, h2, _⟩ := h
  obtain rfl := h2 rfl
  exact ⟨A, c, h1.boxAt⟩
/-- while the reference reads -/
structure DJ (w : World) (g B nb : Nat) (x : Nt) (s : RS) (W : World) : Prop where
  k0 : BoxAt W w.heap.size #[.int .i64 0, .int .i64 0, .int .u64 0, .int .u64 0, .int .u64 0, .slice none 0 0, .int .u64 0, .int .i64 0, .int .u64 0, .slice none 0 0, .slice none 0 0] 34
  kn : BoxAt W nb x.cs 34
  rd : RI W g B s
  os : OwnP W (nb + 1) (.slice x.SA x.st.length x.sc) x.st
  om : OwnP W (nb + 1) (.slice x.vw.MA x.vw.ms.length x.vw.mc) x.vw.ms
  ou : W.ownsRow (nb + 1) 24 1 (.slice x.vw.UA x.vw.us.length x.vw.uc) x.vw.us.length (ucs x.vw.us)
  hB : Below w.heap.size w W
  h1 : w.heap.size < g
  h2 : g < B
  h4 : B ≤ nb
section
variable {w W W' : World} {g B nb : Nat} {x x' : Nt} {s s' : RS}
theorem DJ.read (h : DJ w g B nb x s W) (hG : W.grownBy W' (some g)) (hR : RI W' g B s') : DJ w g B nb x s' W' := by
  obtain ⟨k0, kn, rd, os, om, ou, hB, h1, h2, h4⟩ := h
  exact ⟨k0.grown hG (by omega), kn.grown hG (by omega), hR, own_grown os hG (by omega), own_grown om hG (by omega), own_grown ou hG (by omega), hB.trans (grown_to_below hG (by omega) hB.size), h1, h2, h4⟩
theorem DJ.below (h : DJ w g B nb x s W) (hb : Below W.heap.size W W') : DJ w g B nb x s W' := by
  obtain ⟨k0, kn, rd, os, om, ou, hB, h1, h2, h4⟩ := h
  exact ⟨k0.step hb, kn.step hb, rd.step hb, own_below os hb (Nat.le_refl _), own_below om hb (Nat.le_refl _), own_below ou hb (Nat.le_refl _), below_step hB hb, h1, h2, h4⟩
theorem DJ.set (h : DJ w g B nb x s W) (hG : W.grownBy W' (some nb)) (kn' : BoxAt W' nb x'.cs 34) (os' : OwnP W (nb + 1) (.slice x'.SA x'.st.length x'.sc) x'.st) (om' : OwnP W (nb + 1) (.slice x'.vw.MA x'.vw.ms.length x'.vw.mc) x'.vw.ms) (ou' : W.ownsRow (nb + 1) 24 1 (.slice x'.vw.UA x'.vw.us.length x'.vw.uc) x'.vw.us.length (ucs x'.vw.us)) : DJ w g B nb x' s W' := by
  obtain ⟨k0, kn, rd, os, om, ou, hB, h1, h2, h4⟩ := h
  have hk := kn.lt
  exact ⟨k0.grown hG (by omega), kn', rd.below (grown_to_below hG (by omega) (by omega)), own_grown os' hG (by omega), own_grown om' hG (by omega), own_grown ou' hG (by omega), hB.trans (grown_to_below hG (by omega) hB.size), h1, h2, h4⟩
end
set_option maxRecDepth 100000 in
set_option maxHeartbeats 4000000 in
theorem rdec1 (A : Option Addr) (c : Nat) (bs : List Int) (w : World) (hr : Reads w w.heap.size 1 A bs.length (bcs bs)) (hn : bs.length ≤ 1000000) (hok : bOK bs) (hcp : bs.length ≤ c) (hcm : c ≤ 9223372036854775807) (s s1 s2 s3 s4 : RS) (pn pi rd cd : Int) (l : List Pr) (e1 : rGet s = ((pn, pi), s1)) (e2 : rUint s1 = (rd, s2)) (e3 : rUint s2 = (cd, s3)) (e4 : rGetSet 6 s3 = (l, s4)) (hll : l.length ≤ 1000000) (hpi : 0 ≤ pi) (hl0 : ∀ p ∈ l, 0 ≤ p.2) (hu : rU8 (bs, false) = (1, s)) :
    Calls Try.prog 14 #[.slice A bs.length c] w (RetDec w (finN ⟨1, pn, pi, rd, cd, none, 0, l, vw0⟩ s4)) := by
  have p0 := (boxTop w #[.int .i64 0, .int .i64 0, .int .u64 0, .int .u64 0, .int .u64 0, .slice none 0 0, .int .u64 0, .int .i64 0, .int .u64 0, .slice none 0 0, .slice none 0 0] 34).alloc' (.cells #[.slice A bs.length c, .bool false] 75)
  have pg := boxTop (w.alloc (bxN 0 0 0 0 0 none 0 0 0 0 0 none 0 0 none 0 0)) #[.slice A bs.length c, .bool false] 75
  rw [World.size_alloc] at pg
  have hB0 : Below w.heap.size w ((w.alloc (bxN 0 0 0 0 0 none 0 0 0 0 0 none 0 0 none 0 0)).alloc (.cells #[.slice A bs.length c, .bool false] 75)) := (by repeat (first | exact Below.refl _ _ | assumption | refine bel_al ?_ _ | refine bel_gw ?_ _ _ | refine bel_drew ?_ | refine bel_drewN ?_ _))
  have hR0 : RI ((w.alloc (bxN 0 0 0 0 0 none 0 0 0 0 0 none 0 0 none 0 0)).alloc (.cells #[.slice A bs.length c, .bool false] 75)) (w.heap.size + 1) (w.heap.size + 2) (bs, false) := by
    refine ⟨bs, A, c, ⟨pg.eq, fun hl => ?_, hcp, hcm, hok, by omega, by simp⟩, fun _ => rfl, hn⟩
    obtain ⟨b, off, e, h1, h2⟩ := hr.2 hl
    exact ⟨b, off, e, by omega, by omega, fun j u hu => (hB0.cell (p := ⟨b, off + j, none⟩) h1).trans (h2 j u hu)⟩
  have T0 := hide (u8I_s _ _ _ _ hR0)
  have hrg := rU8_range (s := (bs, false)) hok
  rw [hu] at T0 hrg
  simp only at T0 hrg
  obtain ⟨hrg0, hrg1⟩ := hrg
  generalize hgg : w.heap.size + 1 = g at *
  generalize hBB : w.heap.size + 2 = B at *
  have hlt0 := p0.lt
  have hg1 : w.heap.size < g := by omega
  have hg2 : g < B := by omega
  have hsz : ((w.alloc (bxN 0 0 0 0 0 none 0 0 0 0 0 none 0 0 none 0 0)).alloc (.cells #[.slice A bs.length c, .bool false] 75)).heap.size = B := by simp; omega
  have HSZ := hide hsz
  have HGG := hide hgg
  clear hr hu hR0 hsz hBB
  go_enter Try.func14, Try.ntmps14
  go_wp2_with fail
  try rw [HGG.out]
  with_reducible refine T0.out.mono ?_
  rintro e w1 ⟨rfl, hR1, hG1⟩
  clear hgg
  have hs1 : B ≤ w1.heap.size := by have := hG1.size; rw [HSZ.out] at this; exact this
  have D0 : DJ w g B w1.heap.size ⟨1, 0, 0, 0, 0, none, 0, [], vw0⟩ s (w1.alloc (bxN 1 0 0 0 0 none 0 0 0 0 0 none 0 0 none 0 0)) := by
    exact ⟨(p0.grown hG1 (by omega)).alloc' _, boxTop w1 _ _, hR1.step (below_alloc _ _), World.ownsRow_nil _ _ _ _, World.ownsRow_nil _ _ _ _, World.ownsRow_nil _ _ _ _,
      below_step (hB0.trans (grown_to_below hG1 (by omega) hB0.size)) (below_alloc _ _), hg1, hg2, hs1⟩
  haveI : BoxAt (w1.alloc (bxN 1 0 0 0 0 none 0 0 0 0 0 none 0 0 none 0 0)) w1.heap.size #[.int .i64 1, .int .i64 0, .int .u64 0, .int .u64 0, .int .u64 0, .slice none 0 0, .int .u64 0, .int .i64 0, .int .u64 0, .slice none 0 0, .slice none 0 0] 34 := D0.kn
  clear hR1 hG1 p0 pg hB0 T0
  go_wp2_with fail
  have T2 := hide (procI_s g B s _ D0.rd)
  rw [e1] at T2
  simp only at T2
  with_reducible refine T2.out.mono ?_
  rintro e v2 ⟨rfl, hR, hG⟩
  have hkl := D0.kn.lt
  have D1 := D0.read hG hR
  haveI : BoxAt v2 w1.heap.size #[.int .i64 1, .int .i64 0, .int .u64 0, .int .u64 0, .int .u64 0, .slice none 0 0, .int .u64 0, .int .i64 0, .int .u64 0, .slice none 0 0, .slice none 0 0] 34 := D1.kn
  clear D0 T2
  have hkl1 := D1.kn.lt
  have D12 : DJ w g B w1.heap.size ⟨1, pn, pi, 0, 0, none, 0, [], vw0⟩ s1 ((v2.setCell ⟨w1.heap.size, 1, none⟩ (.int .i64 pn)).setCell ⟨w1.heap.size, 2, none⟩ (.int .u64 pi)) := D1.set (grown_trans (grown_setCell v2 w1.heap.size 1 (.int .i64 pn)) (grown_setCell (v2.setCell ⟨w1.heap.size, 1, none⟩ (.int .i64 pn)) w1.heap.size 2 (.int .u64 pi))) (setB1 (i := 2) (v := .int .u64 pi) (setB1 (i := 1) (v := .int .i64 pn) D1.kn)) D1.os D1.om D1.ou
  haveI : BoxAt ((v2.setCell ⟨w1.heap.size, 1, none⟩ (.int .i64 pn)).setCell ⟨w1.heap.size, 2, none⟩ (.int .u64 pi)) w1.heap.size #[.int .i64 1, .int .i64 pn, .int .u64 pi, .int .u64 0, .int .u64 0, .slice none 0 0, .int .u64 0, .int .i64 0, .int .u64 0, .slice none 0 0, .slice none 0 0] 34 := D12.kn
  have E0 := D1.k0
  haveI := E0
  clear hR hG D1 hkl hkl1
  go_wp2_with fail
  generalize ((v2.setCell ⟨w1.heap.size, 1, none⟩ (.int .i64 pn)).setCell ⟨w1.heap.size, 2, none⟩ (.int .u64 pi)) = w3 at D12 ⊢
  have T3 := hide (uintI_s g B s1 _ D12.rd)
  rw [e2] at T3
  simp only at T3
  with_reducible refine T3.out.mono ?_
  rintro e v3 ⟨rfl, hR, hG⟩
  have hkl := D12.kn.lt
  have D1 := D12.read hG hR
  haveI : BoxAt v3 w1.heap.size #[.int .i64 1, .int .i64 pn, .int .u64 pi, .int .u64 0, .int .u64 0, .slice none 0 0, .int .u64 0, .int .i64 0, .int .u64 0, .slice none 0 0, .slice none 0 0] 34 := D1.kn
  clear D12 T3
  have hkl1 := D1.kn.lt
  have D13 : DJ w g B w1.heap.size ⟨1, pn, pi, rd, 0, none, 0, [], vw0⟩ s2 (v3.setCell ⟨w1.heap.size, 3, none⟩ (.int .u64 rd)) := D1.set (grown_setCell v3 w1.heap.size 3 (.int .u64 rd)) (setB1 (i := 3) (v := .int .u64 rd) D1.kn) D1.os D1.om D1.ou
  haveI : BoxAt (v3.setCell ⟨w1.heap.size, 3, none⟩ (.int .u64 rd)) w1.heap.size #[.int .i64 1, .int .i64 pn, .int .u64 pi, .int .u64 rd, .int .u64 0, .slice none 0 0, .int .u64 0, .int .i64 0, .int .u64 0, .slice none 0 0, .slice none 0 0] 34 := D13.kn
  have E0 := D1.k0
  haveI := E0
  clear hR hG D1 hkl hkl1
  go_wp2_with fail
  generalize (v3.setCell ⟨w1.heap.size, 3, none⟩ (.int .u64 rd)) = w4 at D13 ⊢
  have T4 := hide (uintI_s g B s2 _ D13.rd)
  rw [e3] at T4
  simp only at T4
  with_reducible refine T4.out.mono ?_
  rintro e v4 ⟨rfl, hR, hG⟩
  have hkl := D13.kn.lt
  have D1 := D13.read hG hR
  haveI : BoxAt v4 w1.heap.size #[.int .i64 1, .int .i64 pn, .int .u64 pi, .int .u64 rd, .int .u64 0, .slice none 0 0, .int .u64 0, .int .i64 0, .int .u64 0, .slice none 0 0, .slice none 0 0] 34 := D1.kn
  clear D13 T4
  have hkl1 := D1.kn.lt
  have D14 : DJ w g B w1.heap.size ⟨1, pn, pi, rd, cd, none, 0, [], vw0⟩ s3 (v4.setCell ⟨w1.heap.size, 4, none⟩ (.int .u64 cd)) := D1.set (grown_setCell v4 w1.heap.size 4 (.int .u64 cd)) (setB1 (i := 4) (v := .int .u64 cd) D1.kn) D1.os D1.om D1.ou
  haveI : BoxAt (v4.setCell ⟨w1.heap.size, 4, none⟩ (.int .u64 cd)) w1.heap.size #[.int .i64 1, .int .i64 pn, .int .u64 pi, .int .u64 rd, .int .u64 cd, .slice none 0 0, .int .u64 0, .int .i64 0, .int .u64 0, .slice none 0 0, .slice none 0 0] 34 := D14.kn
  have E0 := D1.k0
  haveI := E0
  clear hR hG D1 hkl hkl1
  go_wp2_with fail
  generalize (v4.setCell ⟨w1.heap.size, 4, none⟩ (.int .u64 cd)) = w5 at D14 ⊢
  have T5 := hide (show Calls Try.prog 53 #[.pointer (some ⟨g, 0, none⟩), .int .i64 6] _ (RetJP g B _ (rGetSet 6 s3).1 (rGetSet 6 s3).2) from procsI_s g B 6 s3 _ D14.rd (by omega))
  rw [e4] at T5
  simp only at T5
  with_reducible refine T5.out.mono ?_
  rintro e v5 ⟨vv, rfl, ho, hR, hG⟩
  have hkl := D14.kn.lt
  have D1 := D14.read hG hR
  haveI : BoxAt v5 w1.heap.size #[.int .i64 1, .int .i64 pn, .int .u64 pi, .int .u64 rd, .int .u64 cd, .slice none 0 0, .int .u64 0, .int .i64 0, .int .u64 0, .slice none 0 0, .slice none 0 0] 34 := D1.kn
  obtain ⟨A4, c4, rfl, _, _⟩ := own_slice ho
  clear D14 T5
  have hkl1 := D1.kn.lt
  have D15 : DJ w g B w1.heap.size ⟨1, pn, pi, rd, cd, A4, c4, l, vw0⟩ s4 (v5.setCell ⟨w1.heap.size, 5, none⟩ (.slice A4 l.length c4)) := D1.set (grown_setCell v5 w1.heap.size 5 (.slice A4 l.length c4)) (setB1 (i := 5) (v := .slice A4 l.length c4) D1.kn) (own_base ho (by omega)) D1.om D1.ou
  haveI : BoxAt (v5.setCell ⟨w1.heap.size, 5, none⟩ (.slice A4 l.length c4)) w1.heap.size #[.int .i64 1, .int .i64 pn, .int .u64 pi, .int .u64 rd, .int .u64 cd, .slice A4 l.length c4, .int .u64 0, .int .i64 0, .int .u64 0, .slice none 0 0, .slice none 0 0] 34 := D15.kn
  have E0 := D1.k0
  haveI := E0
  clear hR hG D1 hkl hkl1
  obtain ⟨bs4, bad4⟩ := s4
  have hok4 : Nt.Ok (v5.setCell ⟨w1.heap.size, 5, none⟩ (.slice A4 l.length c4)) ⟨1, pn, pi, rd, cd, A4, c4, l, vw0⟩ := ⟨Reads.of_own D15.os, by first | (show (0 : Nat) ≤ _; omega) | (show _ ≤ 1000000; simp only; omega), ⟨Reads.of_own D15.om, Reads.of_own D15.ou, by first | (show (0 : Nat) ≤ _; omega) | (show _ ≤ 1000000; simp only; omega), by first | (show (0 : Nat) ≤ _; omega) | (show _ ≤ 1000000; simp only; omega)⟩⟩
  have T6 := hide (refNMay_s ⟨1, pn, pi, rd, cd, A4, c4, l, vw0⟩ _ hok4 hpi hl0 (by show (0 : Int) ≤ 0; omega) (by simp))
  unfold Nt.v at T6
  simp only [List.length_nil] at T6
  haveI : BoxAt (v5.setCell ⟨w1.heap.size, 5, none⟩ (.slice A4 l.length c4)) w.heap.size #[.int .i64 0, .int .i64 0, .int .u64 0, .int .u64 0, .int .u64 0, .slice none 0 0, .int .u64 0, .int .i64 0, .int .u64 0, .slice none 0 0, .slice none 0 0] 34 := D15.k0
  have key : bad4 = true ∨ (bad4 = false ∧ 0 < bs4.length) ∨ (bad4 = false ∧ bs4 = [] ∧ Nt.mayB ⟨1, pn, pi, rd, cd, A4, c4, l, vw0⟩ = false) ∨ (bad4 = false ∧ bs4 = [] ∧ Nt.mayB ⟨1, pn, pi, rd, cd, A4, c4, l, vw0⟩ = true) := by
    cases bad4
    · rcases Nat.eq_zero_or_pos bs4.length with h | h
      · have h := List.eq_nil_of_length_eq_zero h
        cases h2 : Nt.mayB ⟨1, pn, pi, rd, cd, A4, c4, l, vw0⟩
        · exact .inr (.inr (.inl ⟨rfl, h, rfl⟩))
        · exact .inr (.inr (.inr ⟨rfl, h, rfl⟩))
      · exact .inr (.inl ⟨rfl, h⟩)
    · exact .inl rfl
  have HOK4 := hide hok4
  clear hok4
  rcases key with rfl | ⟨rfl, hk1⟩ | ⟨rfl, rfl, hk2⟩ | ⟨rfl, rfl, hk2⟩
  · have HF : Hid (finN ⟨1, pn, pi, rd, cd, none, 0, l, vw0⟩ (bs4, true) = none) := hide (if_pos (.inl rfl))
    obtain ⟨vb, hbx⟩ := D15.rd.box
    simp only at hbx
    haveI := hbx
    clear T6
    obtain ⟨k6, g6⟩ := set11 D15.k0 (.int .i64 0) (.int .i64 0) (.int .u64 0) (.int .u64 0) (.int .u64 0) (.slice none 0 0) (.int .u64 0) (.int .i64 0) (.int .u64 0) (.slice none 0 0) (.slice none 0 0)
    have HB6 := hide (D15.hB.trans (grown_to_below g6 (Nat.le_refl _) D15.hB.size))
    clear D15
    go_wp2
    generalize (((((((((((v5.setCell ⟨w1.heap.size, 5, none⟩ (.slice A4 l.length c4)).setCell ⟨w.heap.size, 0, none⟩ (.int .i64 0)).setCell ⟨w.heap.size, 1, none⟩ (.int .i64 0)).setCell ⟨w.heap.size, 2, none⟩ (.int .u64 0)).setCell ⟨w.heap.size, 3, none⟩ (.int .u64 0)).setCell ⟨w.heap.size, 4, none⟩ (.int .u64 0)).setCell ⟨w.heap.size, 5, none⟩ (.slice none 0 0)).setCell ⟨w.heap.size, 6, none⟩ (.int .u64 0)).setCell ⟨w.heap.size, 7, none⟩ (.int .i64 0)).setCell ⟨w.heap.size, 8, none⟩ (.int .u64 0)).setCell ⟨w.heap.size, 9, none⟩ (.slice none 0 0)).setCell ⟨w.heap.size, 10, none⟩ (.slice none 0 0) = W6 at k6 HB6 ⊢
    haveI := k6
    refine bodyPost_ret (v := .tuple #[.agg #[.int .i64 0, .int .i64 0, .int .u64 0, .int .u64 0, .int .u64 0, .slice none 0 0, .int .u64 0, .int .i64 0, .int .u64 0, .slice none 0 0, .slice none 0 0], .int .i64 3]) (by simp [results, Try.results14, go_sem]) rfl ?_
    rw [HF.out]
    exact RetDec.no HB6.out
  · have HF : Hid (finN ⟨1, pn, pi, rd, cd, none, 0, l, vw0⟩ (bs4, false) = none) := hide (if_pos (.inr hk1))
    obtain ⟨vA, vc, hbx⟩ := D15.rd.boxF
    haveI := hbx
    have hk1' : decide ((0 : Int) < (bs4.length : Int)) = true := decide_eq_true (by omega)
    clear T6
    obtain ⟨k6, g6⟩ := set11 D15.k0 (.int .i64 0) (.int .i64 0) (.int .u64 0) (.int .u64 0) (.int .u64 0) (.slice none 0 0) (.int .u64 0) (.int .i64 0) (.int .u64 0) (.slice none 0 0) (.slice none 0 0)
    have HB6 := hide (D15.hB.trans (grown_to_below g6 (Nat.le_refl _) D15.hB.size))
    clear D15
    go_wp2
    generalize (((((((((((v5.setCell ⟨w1.heap.size, 5, none⟩ (.slice A4 l.length c4)).setCell ⟨w.heap.size, 0, none⟩ (.int .i64 0)).setCell ⟨w.heap.size, 1, none⟩ (.int .i64 0)).setCell ⟨w.heap.size, 2, none⟩ (.int .u64 0)).setCell ⟨w.heap.size, 3, none⟩ (.int .u64 0)).setCell ⟨w.heap.size, 4, none⟩ (.int .u64 0)).setCell ⟨w.heap.size, 5, none⟩ (.slice none 0 0)).setCell ⟨w.heap.size, 6, none⟩ (.int .u64 0)).setCell ⟨w.heap.size, 7, none⟩ (.int .i64 0)).setCell ⟨w.heap.size, 8, none⟩ (.int .u64 0)).setCell ⟨w.heap.size, 9, none⟩ (.slice none 0 0)).setCell ⟨w.heap.size, 10, none⟩ (.slice none 0 0) = W6 at k6 HB6 ⊢
    haveI := k6
    refine bodyPost_ret (v := .tuple #[.agg #[.int .i64 0, .int .i64 0, .int .u64 0, .int .u64 0, .int .u64 0, .slice none 0 0, .int .u64 0, .int .i64 0, .int .u64 0, .slice none 0 0, .slice none 0 0], .int .i64 3]) (by simp [results, Try.results14, go_sem]) rfl ?_
    rw [HF.out]
    exact RetDec.no HB6.out
  · have HF : Hid (finN ⟨1, pn, pi, rd, cd, none, 0, l, vw0⟩ ([], false) = none) := hide ((if_neg (by simp)).trans (if_pos hk2))
    rw [hk2] at T6
    obtain ⟨vA, vc, hbx⟩ := D15.rd.boxF
    simp only [List.length_nil] at hbx
    haveI := hbx
    clear hk2
    go_wp2_with fail
    with_reducible refine T6.out.mono ?_
    rintro e w7 ⟨rfl, hb7⟩
    have D7 := D15.below hb7
    haveI := D7.k0
    clear D15 hb7 T6
    obtain ⟨k6, g6⟩ := set11 D7.k0 (.int .i64 0) (.int .i64 0) (.int .u64 0) (.int .u64 0) (.int .u64 0) (.slice none 0 0) (.int .u64 0) (.int .i64 0) (.int .u64 0) (.slice none 0 0) (.slice none 0 0)
    have HB6 := hide (D7.hB.trans (grown_to_below g6 (Nat.le_refl _) D7.hB.size))
    clear D7
    go_wp2
    generalize ((((((((((w7.setCell ⟨w.heap.size, 0, none⟩ (.int .i64 0)).setCell ⟨w.heap.size, 1, none⟩ (.int .i64 0)).setCell ⟨w.heap.size, 2, none⟩ (.int .u64 0)).setCell ⟨w.heap.size, 3, none⟩ (.int .u64 0)).setCell ⟨w.heap.size, 4, none⟩ (.int .u64 0)).setCell ⟨w.heap.size, 5, none⟩ (.slice none 0 0)).setCell ⟨w.heap.size, 6, none⟩ (.int .u64 0)).setCell ⟨w.heap.size, 7, none⟩ (.int .i64 0)).setCell ⟨w.heap.size, 8, none⟩ (.int .u64 0)).setCell ⟨w.heap.size, 9, none⟩ (.slice none 0 0)).setCell ⟨w.heap.size, 10, none⟩ (.slice none 0 0) = W6 at k6 HB6 ⊢
    haveI := k6
    refine bodyPost_ret (v := .tuple #[.agg #[.int .i64 0, .int .i64 0, .int .u64 0, .int .u64 0, .int .u64 0, .slice none 0 0, .int .u64 0, .int .i64 0, .int .u64 0, .slice none 0 0, .slice none 0 0], .int .i64 3]) (by simp [results, Try.results14, go_sem]) rfl ?_
    rw [HF.out]
    exact RetDec.no HB6.out
  · have HF : Hid (finN ⟨1, pn, pi, rd, cd, none, 0, l, vw0⟩ ([], false) = some ⟨1, pn, pi, rd, cd, none, 0, l, vw0⟩) := hide ((if_neg (by simp)).trans (if_neg (by intro h; have h' : Nt.mayB ⟨1, pn, pi, rd, cd, A4, c4, l, vw0⟩ = false := h; rw [hk2] at h'; cases h')))
    rw [hk2] at T6
    obtain ⟨vA, vc, hbx⟩ := D15.rd.boxF
    simp only [List.length_nil] at hbx
    haveI := hbx
    clear hk2
    go_wp2_with fail
    with_reducible refine T6.out.mono ?_
    rintro e w7 ⟨rfl, hb7⟩
    have D7 := D15.below hb7
    haveI := D7.k0
    haveI : BoxAt w7 w1.heap.size #[.int .i64 1, .int .i64 pn, .int .u64 pi, .int .u64 rd, .int .u64 cd, .slice A4 l.length c4, .int .u64 0, .int .i64 0, .int .u64 0, .slice none 0 0, .slice none 0 0] 34 := D7.kn
    obtain ⟨k6, g6⟩ := set11 D7.k0 (.int .i64 1) (.int .i64 pn) (.int .u64 pi) (.int .u64 rd) (.int .u64 cd) (.slice A4 l.length c4) (.int .u64 0) (.int .i64 0) (.int .u64 0) (.slice none 0 0) (.slice none 0 0)
    have HB6 := hide (D7.hB.trans (grown_to_below g6 (Nat.le_refl _) D7.hB.size))
    have hh1 := D7.h1
    have hh2 := D7.h2
    have hh4 := D7.h4
    have HQ1 := hide (own_grown D7.os g6 (by omega))
    have HQ2 := hide (own_grown D7.om g6 (by omega))
    have HQ3 := hide (own_grown D7.ou g6 (by omega))
    clear D15 D7 hb7 T6
    go_wp2
    generalize ((((((((((w7.setCell ⟨w.heap.size, 0, none⟩ (.int .i64 1)).setCell ⟨w.heap.size, 1, none⟩ (.int .i64 pn)).setCell ⟨w.heap.size, 2, none⟩ (.int .u64 pi)).setCell ⟨w.heap.size, 3, none⟩ (.int .u64 rd)).setCell ⟨w.heap.size, 4, none⟩ (.int .u64 cd)).setCell ⟨w.heap.size, 5, none⟩ (.slice A4 l.length c4)).setCell ⟨w.heap.size, 6, none⟩ (.int .u64 0)).setCell ⟨w.heap.size, 7, none⟩ (.int .i64 0)).setCell ⟨w.heap.size, 8, none⟩ (.int .u64 0)).setCell ⟨w.heap.size, 9, none⟩ (.slice none 0 0)).setCell ⟨w.heap.size, 10, none⟩ (.slice none 0 0) = W6 at k6 HB6 HQ1 HQ2 HQ3 ⊢
    haveI := k6
    refine bodyPost_ret (v := .tuple #[.agg #[.int .i64 1, .int .i64 pn, .int .u64 pi, .int .u64 rd, .int .u64 cd, .slice A4 l.length c4, .int .u64 0, .int .i64 0, .int .u64 0, .slice none 0 0, .slice none 0 0], .int .i64 0]) (by simp [results, Try.results14, go_sem]) rfl ?_
    rw [HF.out]
    exact ⟨_, _, _, _, _, _, rfl, ⟨Reads.of_own HQ1.out, HOK4.out.sl, ⟨Reads.of_own HQ2.out, Reads.of_own HQ3.out, HOK4.out.vk.ml, HOK4.out.vk.ul⟩⟩, HB6.out⟩
set_option maxRecDepth 100000 in
set_option maxHeartbeats 4000000 in
theorem rdec3 (A : Option Addr) (c : Nat) (bs : List Int) (w : World) (hr : Reads w w.heap.size 1 A bs.length (bcs bs)) (hn : bs.length ≤ 1000000) (hok : bOK bs) (hcp : bs.length ≤ c) (hcm : c ≤ 9223372036854775807) (s s1 s2 s3 s4 : RS) (pn pi rd cd : Int) (l : List Pr) (e1 : rGet s = ((pn, pi), s1)) (e2 : rUint s1 = (rd, s2)) (e3 : rUint s2 = (cd, s3)) (e4 : rGetSet 6 s3 = (l, s4)) (hll : l.length ≤ 1000000) (hpi : 0 ≤ pi) (hl0 : ∀ p ∈ l, 0 ≤ p.2) (hu : rU8 (bs, false) = (3, s)) :
    Calls Try.prog 14 #[.slice A bs.length c] w (RetDec w (finN ⟨3, pn, pi, rd, cd, none, 0, l, vw0⟩ s4)) := by
  have p0 := (boxTop w #[.int .i64 0, .int .i64 0, .int .u64 0, .int .u64 0, .int .u64 0, .slice none 0 0, .int .u64 0, .int .i64 0, .int .u64 0, .slice none 0 0, .slice none 0 0] 34).alloc' (.cells #[.slice A bs.length c, .bool false] 75)
  have pg := boxTop (w.alloc (bxN 0 0 0 0 0 none 0 0 0 0 0 none 0 0 none 0 0)) #[.slice A bs.length c, .bool false] 75
  rw [World.size_alloc] at pg
  have hB0 : Below w.heap.size w ((w.alloc (bxN 0 0 0 0 0 none 0 0 0 0 0 none 0 0 none 0 0)).alloc (.cells #[.slice A bs.length c, .bool false] 75)) := (by repeat (first | exact Below.refl _ _ | assumption | refine bel_al ?_ _ | refine bel_gw ?_ _ _ | refine bel_drew ?_ | refine bel_drewN ?_ _))
  have hR0 : RI ((w.alloc (bxN 0 0 0 0 0 none 0 0 0 0 0 none 0 0 none 0 0)).alloc (.cells #[.slice A bs.length c, .bool false] 75)) (w.heap.size + 1) (w.heap.size + 2) (bs, false) := by
    refine ⟨bs, A, c, ⟨pg.eq, fun hl => ?_, hcp, hcm, hok, by omega, by simp⟩, fun _ => rfl, hn⟩
    obtain ⟨b, off, e, h1, h2⟩ := hr.2 hl
    exact ⟨b, off, e, by omega, by omega, fun j u hu => (hB0.cell (p := ⟨b, off + j, none⟩) h1).trans (h2 j u hu)⟩
  have T0 := hide (u8I_s _ _ _ _ hR0)
  have hrg := rU8_range (s := (bs, false)) hok
  rw [hu] at T0 hrg
  simp only at T0 hrg
  obtain ⟨hrg0, hrg1⟩ := hrg
  generalize hgg : w.heap.size + 1 = g at *
  generalize hBB : w.heap.size + 2 = B at *
  have hlt0 := p0.lt
  have hg1 : w.heap.size < g := by omega
  have hg2 : g < B := by omega
  have hsz : ((w.alloc (bxN 0 0 0 0 0 none 0 0 0 0 0 none 0 0 none 0 0)).alloc (.cells #[.slice A bs.length c, .bool false] 75)).heap.size = B := by simp; omega
  have HSZ := hide hsz
  have HGG := hide hgg
  clear hr hu hR0 hsz hBB
  go_enter Try.func14, Try.ntmps14
  go_wp2_with fail
  try rw [HGG.out]
  with_reducible refine T0.out.mono ?_
  rintro e w1 ⟨rfl, hR1, hG1⟩
  clear hgg
  have hs1 : B ≤ w1.heap.size := by have := hG1.size; rw [HSZ.out] at this; exact this
  have D0 : DJ w g B w1.heap.size ⟨3, 0, 0, 0, 0, none, 0, [], vw0⟩ s (w1.alloc (bxN 3 0 0 0 0 none 0 0 0 0 0 none 0 0 none 0 0)) := by
    exact ⟨(p0.grown hG1 (by omega)).alloc' _, boxTop w1 _ _, hR1.step (below_alloc _ _), World.ownsRow_nil _ _ _ _, World.ownsRow_nil _ _ _ _, World.ownsRow_nil _ _ _ _,
      below_step (hB0.trans (grown_to_below hG1 (by omega) hB0.size)) (below_alloc _ _), hg1, hg2, hs1⟩
  haveI : BoxAt (w1.alloc (bxN 3 0 0 0 0 none 0 0 0 0 0 none 0 0 none 0 0)) w1.heap.size #[.int .i64 3, .int .i64 0, .int .u64 0, .int .u64 0, .int .u64 0, .slice none 0 0, .int .u64 0, .int .i64 0, .int .u64 0, .slice none 0 0, .slice none 0 0] 34 := D0.kn
  clear hR1 hG1 p0 pg hB0 T0
  go_wp2_with fail
  have T2 := hide (procI_s g B s _ D0.rd)
  rw [e1] at T2
  simp only at T2
  with_reducible refine T2.out.mono ?_
  rintro e v2 ⟨rfl, hR, hG⟩
  have hkl := D0.kn.lt
  have D1 := D0.read hG hR
  haveI : BoxAt v2 w1.heap.size #[.int .i64 3, .int .i64 0, .int .u64 0, .int .u64 0, .int .u64 0, .slice none 0 0, .int .u64 0, .int .i64 0, .int .u64 0, .slice none 0 0, .slice none 0 0] 34 := D1.kn
  clear D0 T2
  have hkl1 := D1.kn.lt
  have D12 : DJ w g B w1.heap.size ⟨3, pn, pi, 0, 0, none, 0, [], vw0⟩ s1 ((v2.setCell ⟨w1.heap.size, 1, none⟩ (.int .i64 pn)).setCell ⟨w1.heap.size, 2, none⟩ (.int .u64 pi)) := D1.set (grown_trans (grown_setCell v2 w1.heap.size 1 (.int .i64 pn)) (grown_setCell (v2.setCell ⟨w1.heap.size, 1, none⟩ (.int .i64 pn)) w1.heap.size 2 (.int .u64 pi))) (setB1 (i := 2) (v := .int .u64 pi) (setB1 (i := 1) (v := .int .i64 pn) D1.kn)) D1.os D1.om D1.ou
  haveI : BoxAt ((v2.setCell ⟨w1.heap.size, 1, none⟩ (.int .i64 pn)).setCell ⟨w1.heap.size, 2, none⟩ (.int .u64 pi)) w1.heap.size #[.int .i64 3, .int .i64 pn, .int .u64 pi, .int .u64 0, .int .u64 0, .slice none 0 0, .int .u64 0, .int .i64 0, .int .u64 0, .slice none 0 0, .slice none 0 0] 34 := D12.kn
  have E0 := D1.k0
  haveI := E0
  clear hR hG D1 hkl hkl1
  go_wp2_with fail
  generalize ((v2.setCell ⟨w1.heap.size, 1, none⟩ (.int .i64 pn)).setCell ⟨w1.heap.size, 2, none⟩ (.int .u64 pi)) = w3 at D12 ⊢
  have T3 := hide (uintI_s g B s1 _ D12.rd)
  rw [e2] at T3
  simp only at T3
  with_reducible refine T3.out.mono ?_
  rintro e v3 ⟨rfl, hR, hG⟩
  have hkl := D12.kn.lt
  have D1 := D12.read hG hR
  haveI : BoxAt v3 w1.heap.size #[.int .i64 3, .int .i64 pn, .int .u64 pi, .int .u64 0, .int .u64 0, .slice none 0 0, .int .u64 0, .int .i64 0, .int .u64 0, .slice none 0 0, .slice none 0 0] 34 := D1.kn
  clear D12 T3
  have hkl1 := D1.kn.lt
  have D13 : DJ w g B w1.heap.size ⟨3, pn, pi, rd, 0, none, 0, [], vw0⟩ s2 (v3.setCell ⟨w1.heap.size, 3, none⟩ (.int .u64 rd)) := D1.set (grown_setCell v3 w1.heap.size 3 (.int .u64 rd)) (setB1 (i := 3) (v := .int .u64 rd) D1.kn) D1.os D1.om D1.ou
  haveI : BoxAt (v3.setCell ⟨w1.heap.size, 3, none⟩ (.int .u64 rd)) w1.heap.size #[.int .i64 3, .int .i64 pn, .int .u64 pi, .int .u64 rd, .int .u64 0, .slice none 0 0, .int .u64 0, .int .i64 0, .int .u64 0, .slice none 0 0, .slice none 0 0] 34 := D13.kn
  have E0 := D1.k0
  haveI := E0
  clear hR hG D1 hkl hkl1
  go_wp2_with fail
  generalize (v3.setCell ⟨w1.heap.size, 3, none⟩ (.int .u64 rd)) = w4 at D13 ⊢
  have T4 := hide (uintI_s g B s2 _ D13.rd)
  rw [e3] at T4
  simp only at T4
  with_reducible refine T4.out.mono ?_
  rintro e v4 ⟨rfl, hR, hG⟩
  have hkl := D13.kn.lt
  have D1 := D13.read hG hR
  haveI : BoxAt v4 w1.heap.size #[.int .i64 3, .int .i64 pn, .int .u64 pi, .int .u64 rd, .int .u64 0, .slice none 0 0, .int .u64 0, .int .i64 0, .int .u64 0, .slice none 0 0, .slice none 0 0] 34 := D1.kn
  clear D13 T4
  have hkl1 := D1.kn.lt
  have D14 : DJ w g B w1.heap.size ⟨3, pn, pi, rd, cd, none, 0, [], vw0⟩ s3 (v4.setCell ⟨w1.heap.size, 4, none⟩ (.int .u64 cd)) := D1.set (grown_setCell v4 w1.heap.size 4 (.int .u64 cd)) (setB1 (i := 4) (v := .int .u64 cd) D1.kn) D1.os D1.om D1.ou
  haveI : BoxAt (v4.setCell ⟨w1.heap.size, 4, none⟩ (.int .u64 cd)) w1.heap.size #[.int .i64 3, .int .i64 pn, .int .u64 pi, .int .u64 rd, .int .u64 cd, .slice none 0 0, .int .u64 0, .int .i64 0, .int .u64 0, .slice none 0 0, .slice none 0 0] 34 := D14.kn
  have E0 := D1.k0
  haveI := E0
  clear hR hG D1 hkl hkl1
  go_wp2_with fail
  generalize (v4.setCell ⟨w1.heap.size, 4, none⟩ (.int .u64 cd)) = w5 at D14 ⊢
  have T5 := hide (show Calls Try.prog 53 #[.pointer (some ⟨g, 0, none⟩), .int .i64 6] _ (RetJP g B _ (rGetSet 6 s3).1 (rGetSet 6 s3).2) from procsI_s g B 6 s3 _ D14.rd (by omega))
  rw [e4] at T5
  simp only at T5
  with_reducible refine T5.out.mono ?_
  rintro e v5 ⟨vv, rfl, ho, hR, hG⟩
  have hkl := D14.kn.lt
  have D1 := D14.read hG hR
  haveI : BoxAt v5 w1.heap.size #[.int .i64 3, .int .i64 pn, .int .u64 pi, .int .u64 rd, .int .u64 cd, .slice none 0 0, .int .u64 0, .int .i64 0, .int .u64 0, .slice none 0 0, .slice none 0 0] 34 := D1.kn
  obtain ⟨A4, c4, rfl, _, _⟩ := own_slice ho
  clear D14 T5
  have hkl1 := D1.kn.lt
  have D15 : DJ w g B w1.heap.size ⟨3, pn, pi, rd, cd, A4, c4, l, vw0⟩ s4 (v5.setCell ⟨w1.heap.size, 5, none⟩ (.slice A4 l.length c4)) := D1.set (grown_setCell v5 w1.heap.size 5 (.slice A4 l.length c4)) (setB1 (i := 5) (v := .slice A4 l.length c4) D1.kn) (own_base ho (by omega)) D1.om D1.ou
  haveI : BoxAt (v5.setCell ⟨w1.heap.size, 5, none⟩ (.slice A4 l.length c4)) w1.heap.size #[.int .i64 3, .int .i64 pn, .int .u64 pi, .int .u64 rd, .int .u64 cd, .slice A4 l.length c4, .int .u64 0, .int .i64 0, .int .u64 0, .slice none 0 0, .slice none 0 0] 34 := D15.kn
  have E0 := D1.k0
  haveI := E0
  clear hR hG D1 hkl hkl1
  obtain ⟨bs4, bad4⟩ := s4
  have hok4 : Nt.Ok (v5.setCell ⟨w1.heap.size, 5, none⟩ (.slice A4 l.length c4)) ⟨3, pn, pi, rd, cd, A4, c4, l, vw0⟩ := ⟨Reads.of_own D15.os, by first | (show (0 : Nat) ≤ _; omega) | (show _ ≤ 1000000; simp only; omega), ⟨Reads.of_own D15.om, Reads.of_own D15.ou, by first | (show (0 : Nat) ≤ _; omega) | (show _ ≤ 1000000; simp only; omega), by first | (show (0 : Nat) ≤ _; omega) | (show _ ≤ 1000000; simp only; omega)⟩⟩
  have T6 := hide (refNMay_s ⟨3, pn, pi, rd, cd, A4, c4, l, vw0⟩ _ hok4 hpi hl0 (by show (0 : Int) ≤ 0; omega) (by simp))
  unfold Nt.v at T6
  simp only [List.length_nil] at T6
  haveI : BoxAt (v5.setCell ⟨w1.heap.size, 5, none⟩ (.slice A4 l.length c4)) w.heap.size #[.int .i64 0, .int .i64 0, .int .u64 0, .int .u64 0, .int .u64 0, .slice none 0 0, .int .u64 0, .int .i64 0, .int .u64 0, .slice none 0 0, .slice none 0 0] 34 := D15.k0
  have key : bad4 = true ∨ (bad4 = false ∧ 0 < bs4.length) ∨ (bad4 = false ∧ bs4 = [] ∧ Nt.mayB ⟨3, pn, pi, rd, cd, A4, c4, l, vw0⟩ = false) ∨ (bad4 = false ∧ bs4 = [] ∧ Nt.mayB ⟨3, pn, pi, rd, cd, A4, c4, l, vw0⟩ = true) := by
    cases bad4
    · rcases Nat.eq_zero_or_pos bs4.length with h | h
      · have h := List.eq_nil_of_length_eq_zero h
        cases h2 : Nt.mayB ⟨3, pn, pi, rd, cd, A4, c4, l, vw0⟩
        · exact .inr (.inr (.inl ⟨rfl, h, rfl⟩))
        · exact .inr (.inr (.inr ⟨rfl, h, rfl⟩))
      · exact .inr (.inl ⟨rfl, h⟩)
    · exact .inl rfl
  have HOK4 := hide hok4
  clear hok4
  rcases key with rfl | ⟨rfl, hk1⟩ | ⟨rfl, rfl, hk2⟩ | ⟨rfl, rfl, hk2⟩
  · have HF : Hid (finN ⟨3, pn, pi, rd, cd, none, 0, l, vw0⟩ (bs4, true) = none) := hide (if_pos (.inl rfl))
    obtain ⟨vb, hbx⟩ := D15.rd.box
    simp only at hbx
    haveI := hbx
    clear T6
    obtain ⟨k6, g6⟩ := set11 D15.k0 (.int .i64 0) (.int .i64 0) (.int .u64 0) (.int .u64 0) (.int .u64 0) (.slice none 0 0) (.int .u64 0) (.int .i64 0) (.int .u64 0) (.slice none 0 0) (.slice none 0 0)
    have HB6 := hide (D15.hB.trans (grown_to_below g6 (Nat.le_refl _) D15.hB.size))
    clear D15
    go_wp2
    generalize (((((((((((v5.setCell ⟨w1.heap.size, 5, none⟩ (.slice A4 l.length c4)).setCell ⟨w.heap.size, 0, none⟩ (.int .i64 0)).setCell ⟨w.heap.size, 1, none⟩ (.int .i64 0)).setCell ⟨w.heap.size, 2, none⟩ (.int .u64 0)).setCell ⟨w.heap.size, 3, none⟩ (.int .u64 0)).setCell ⟨w.heap.size, 4, none⟩ (.int .u64 0)).setCell ⟨w.heap.size, 5, none⟩ (.slice none 0 0)).setCell ⟨w.heap.size, 6, none⟩ (.int .u64 0)).setCell ⟨w.heap.size, 7, none⟩ (.int .i64 0)).setCell ⟨w.heap.size, 8, none⟩ (.int .u64 0)).setCell ⟨w.heap.size, 9, none⟩ (.slice none 0 0)).setCell ⟨w.heap.size, 10, none⟩ (.slice none 0 0) = W6 at k6 HB6 ⊢
    haveI := k6
    refine bodyPost_ret (v := .tuple #[.agg #[.int .i64 0, .int .i64 0, .int .u64 0, .int .u64 0, .int .u64 0, .slice none 0 0, .int .u64 0, .int .i64 0, .int .u64 0, .slice none 0 0, .slice none 0 0], .int .i64 3]) (by simp [results, Try.results14, go_sem]) rfl ?_
    rw [HF.out]
    exact RetDec.no HB6.out
  · have HF : Hid (finN ⟨3, pn, pi, rd, cd, none, 0, l, vw0⟩ (bs4, false) = none) := hide (if_pos (.inr hk1))
    obtain ⟨vA, vc, hbx⟩ := D15.rd.boxF
    haveI := hbx
    have hk1' : decide ((0 : Int) < (bs4.length : Int)) = true := decide_eq_true (by omega)
    clear T6
    obtain ⟨k6, g6⟩ := set11 D15.k0 (.int .i64 0) (.int .i64 0) (.int .u64 0) (.int .u64 0) (.int .u64 0) (.slice none 0 0) (.int .u64 0) (.int .i64 0) (.int .u64 0) (.slice none 0 0) (.slice none 0 0)
    have HB6 := hide (D15.hB.trans (grown_to_below g6 (Nat.le_refl _) D15.hB.size))
    clear D15
    go_wp2
    generalize (((((((((((v5.setCell ⟨w1.heap.size, 5, none⟩ (.slice A4 l.length c4)).setCell ⟨w.heap.size, 0, none⟩ (.int .i64 0)).setCell ⟨w.heap.size, 1, none⟩ (.int .i64 0)).setCell ⟨w.heap.size, 2, none⟩ (.int .u64 0)).setCell ⟨w.heap.size, 3, none⟩ (.int .u64 0)).setCell ⟨w.heap.size, 4, none⟩ (.int .u64 0)).setCell ⟨w.heap.size, 5, none⟩ (.slice none 0 0)).setCell ⟨w.heap.size, 6, none⟩ (.int .u64 0)).setCell ⟨w.heap.size, 7, none⟩ (.int .i64 0)).setCell ⟨w.heap.size, 8, none⟩ (.int .u64 0)).setCell ⟨w.heap.size, 9, none⟩ (.slice none 0 0)).setCell ⟨w.heap.size, 10, none⟩ (.slice none 0 0) = W6 at k6 HB6 ⊢
    haveI := k6
    refine bodyPost_ret (v := .tuple #[.agg #[.int .i64 0, .int .i64 0, .int .u64 0, .int .u64 0, .int .u64 0, .slice none 0 0, .int .u64 0, .int .i64 0, .int .u64 0, .slice none 0 0, .slice none 0 0], .int .i64 3]) (by simp [results, Try.results14, go_sem]) rfl ?_
    rw [HF.out]
    exact RetDec.no HB6.out
  · have HF : Hid (finN ⟨3, pn, pi, rd, cd, none, 0, l, vw0⟩ ([], false) = none) := hide ((if_neg (by simp)).trans (if_pos hk2))
    rw [hk2] at T6
    obtain ⟨vA, vc, hbx⟩ := D15.rd.boxF
    simp only [List.length_nil] at hbx
    haveI := hbx
    clear hk2
    go_wp2_with fail
    with_reducible refine T6.out.mono ?_
    rintro e w7 ⟨rfl, hb7⟩
    have D7 := D15.below hb7
    haveI := D7.k0
    clear D15 hb7 T6
    obtain ⟨k6, g6⟩ := set11 D7.k0 (.int .i64 0) (.int .i64 0) (.int .u64 0) (.int .u64 0) (.int .u64 0) (.slice none 0 0) (.int .u64 0) (.int .i64 0) (.int .u64 0) (.slice none 0 0) (.slice none 0 0)
    have HB6 := hide (D7.hB.trans (grown_to_below g6 (Nat.le_refl _) D7.hB.size))
    clear D7
    go_wp2
    generalize ((((((((((w7.setCell ⟨w.heap.size, 0, none⟩ (.int .i64 0)).setCell ⟨w.heap.size, 1, none⟩ (.int .i64 0)).setCell ⟨w.heap.size, 2, none⟩ (.int .u64 0)).setCell ⟨w.heap.size, 3, none⟩ (.int .u64 0)).setCell ⟨w.heap.size, 4, none⟩ (.int .u64 0)).setCell ⟨w.heap.size, 5, none⟩ (.slice none 0 0)).setCell ⟨w.heap.size, 6, none⟩ (.int .u64 0)).setCell ⟨w.heap.size, 7, none⟩ (.int .i64 0)).setCell ⟨w.heap.size, 8, none⟩ (.int .u64 0)).setCell ⟨w.heap.size, 9, none⟩ (.slice none 0 0)).setCell ⟨w.heap.size, 10, none⟩ (.slice none 0 0) = W6 at k6 HB6 ⊢
    haveI := k6
    refine bodyPost_ret (v := .tuple #[.agg #[.int .i64 0, .int .i64 0, .int .u64 0, .int .u64 0, .int .u64 0, .slice none 0 0, .int .u64 0, .int .i64 0, .int .u64 0, .slice none 0 0, .slice none 0 0], .int .i64 3]) (by simp [results, Try.results14, go_sem]) rfl ?_
    rw [HF.out]
    exact RetDec.no HB6.out
  · have HF : Hid (finN ⟨3, pn, pi, rd, cd, none, 0, l, vw0⟩ ([], false) = some ⟨3, pn, pi, rd, cd, none, 0, l, vw0⟩) := hide ((if_neg (by simp)).trans (if_neg (by intro h; have h' : Nt.mayB ⟨3, pn, pi, rd, cd, A4, c4, l, vw0⟩ = false := h; rw [hk2] at h'; cases h')))
    rw [hk2] at T6
    obtain ⟨vA, vc, hbx⟩ := D15.rd.boxF
    simp only [List.length_nil] at hbx
    haveI := hbx
    clear hk2
    go_wp2_with fail
    with_reducible refine T6.out.mono ?_
    rintro e w7 ⟨rfl, hb7⟩
    have D7 := D15.below hb7
    haveI := D7.k0
    haveI : BoxAt w7 w1.heap.size #[.int .i64 3, .int .i64 pn, .int .u64 pi, .int .u64 rd, .int .u64 cd, .slice A4 l.length c4, .int .u64 0, .int .i64 0, .int .u64 0, .slice none 0 0, .slice none 0 0] 34 := D7.kn
    obtain ⟨k6, g6⟩ := set11 D7.k0 (.int .i64 3) (.int .i64 pn) (.int .u64 pi) (.int .u64 rd) (.int .u64 cd) (.slice A4 l.length c4) (.int .u64 0) (.int .i64 0) (.int .u64 0) (.slice none 0 0) (.slice none 0 0)
    have HB6 := hide (D7.hB.trans (grown_to_below g6 (Nat.le_refl _) D7.hB.size))
    have hh1 := D7.h1
    have hh2 := D7.h2
    have hh4 := D7.h4
    have HQ1 := hide (own_grown D7.os g6 (by omega))
    have HQ2 := hide (own_grown D7.om g6 (by omega))
    have HQ3 := hide (own_grown D7.ou g6 (by omega))
    clear D15 D7 hb7 T6
    go_wp2
    generalize ((((((((((w7.setCell ⟨w.heap.size, 0, none⟩ (.int .i64 3)).setCell ⟨w.heap.size, 1, none⟩ (.int .i64 pn)).setCell ⟨w.heap.size, 2, none⟩ (.int .u64 pi)).setCell ⟨w.heap.size, 3, none⟩ (.int .u64 rd)).setCell ⟨w.heap.size, 4, none⟩ (.int .u64 cd)).setCell ⟨w.heap.size, 5, none⟩ (.slice A4 l.length c4)).setCell ⟨w.heap.size, 6, none⟩ (.int .u64 0)).setCell ⟨w.heap.size, 7, none⟩ (.int .i64 0)).setCell ⟨w.heap.size, 8, none⟩ (.int .u64 0)).setCell ⟨w.heap.size, 9, none⟩ (.slice none 0 0)).setCell ⟨w.heap.size, 10, none⟩ (.slice none 0 0) = W6 at k6 HB6 HQ1 HQ2 HQ3 ⊢
    haveI := k6
    refine bodyPost_ret (v := .tuple #[.agg #[.int .i64 3, .int .i64 pn, .int .u64 pi, .int .u64 rd, .int .u64 cd, .slice A4 l.length c4, .int .u64 0, .int .i64 0, .int .u64 0, .slice none 0 0, .slice none 0 0], .int .i64 0]) (by simp [results, Try.results14, go_sem]) rfl ?_
    rw [HF.out]
    exact ⟨_, _, _, _, _, _, rfl, ⟨Reads.of_own HQ1.out, HOK4.out.sl, ⟨Reads.of_own HQ2.out, Reads.of_own HQ3.out, HOK4.out.vk.ml, HOK4.out.vk.ul⟩⟩, HB6.out⟩
set_option maxRecDepth 100000 in
set_option maxHeartbeats 4000000 in
theorem rdec4 (A : Option Addr) (c : Nat) (bs : List Int) (w : World) (hr : Reads w w.heap.size 1 A bs.length (bcs bs)) (hn : bs.length ≤ 1000000) (hok : bOK bs) (hcp : bs.length ≤ c) (hcm : c ≤ 9223372036854775807) (s s1 s3 s4 : RS) (pn pi cd : Int) (l : List Pr) (e1 : rGet s = ((pn, pi), s1)) (e3 : rUint s1 = (cd, s3)) (e4 : rGetSet 6 s3 = (l, s4)) (hll : l.length ≤ 1000000) (hpi : 0 ≤ pi) (hl0 : ∀ p ∈ l, 0 ≤ p.2) (hu : rU8 (bs, false) = (4, s)) :
    Calls Try.prog 14 #[.slice A bs.length c] w (RetDec w (finN ⟨4, pn, pi, 0, cd, none, 0, l, vw0⟩ s4)) := by
  have p0 := (boxTop w #[.int .i64 0, .int .i64 0, .int .u64 0, .int .u64 0, .int .u64 0, .slice none 0 0, .int .u64 0, .int .i64 0, .int .u64 0, .slice none 0 0, .slice none 0 0] 34).alloc' (.cells #[.slice A bs.length c, .bool false] 75)
  have pg := boxTop (w.alloc (bxN 0 0 0 0 0 none 0 0 0 0 0 none 0 0 none 0 0)) #[.slice A bs.length c, .bool false] 75
  rw [World.size_alloc] at pg
  have hB0 : Below w.heap.size w ((w.alloc (bxN 0 0 0 0 0 none 0 0 0 0 0 none 0 0 none 0 0)).alloc (.cells #[.slice A bs.length c, .bool false] 75)) := (by repeat (first | exact Below.refl _ _ | assumption | refine bel_al ?_ _ | refine bel_gw ?_ _ _ | refine bel_drew ?_ | refine bel_drewN ?_ _))
  have hR0 : RI ((w.alloc (bxN 0 0 0 0 0 none 0 0 0 0 0 none 0 0 none 0 0)).alloc (.cells #[.slice A bs.length c, .bool false] 75)) (w.heap.size + 1) (w.heap.size + 2) (bs, false) := by
    refine ⟨bs, A, c, ⟨pg.eq, fun hl => ?_, hcp, hcm, hok, by omega, by simp⟩, fun _ => rfl, hn⟩
    obtain ⟨b, off, e, h1, h2⟩ := hr.2 hl
    exact ⟨b, off, e, by omega, by omega, fun j u hu => (hB0.cell (p := ⟨b, off + j, none⟩) h1).trans (h2 j u hu)⟩
  have T0 := hide (u8I_s _ _ _ _ hR0)
  have hrg := rU8_range (s := (bs, false)) hok
  rw [hu] at T0 hrg
  simp only at T0 hrg
  obtain ⟨hrg0, hrg1⟩ := hrg
  generalize hgg : w.heap.size + 1 = g at *
  generalize hBB : w.heap.size + 2 = B at *
  have hlt0 := p0.lt
  have hg1 : w.heap.size < g := by omega
  have hg2 : g < B := by omega
  have hsz : ((w.alloc (bxN 0 0 0 0 0 none 0 0 0 0 0 none 0 0 none 0 0)).alloc (.cells #[.slice A bs.length c, .bool false] 75)).heap.size = B := by simp; omega
  have HSZ := hide hsz
  have HGG := hide hgg
  clear hr hu hR0 hsz hBB
  go_enter Try.func14, Try.ntmps14
  go_wp2_with fail
  try rw [HGG.out]
  with_reducible refine T0.out.mono ?_
  rintro e w1 ⟨rfl, hR1, hG1⟩
  clear hgg
  have hs1 : B ≤ w1.heap.size := by have := hG1.size; rw [HSZ.out] at this; exact this
  have D0 : DJ w g B w1.heap.size ⟨4, 0, 0, 0, 0, none, 0, [], vw0⟩ s (w1.alloc (bxN 4 0 0 0 0 none 0 0 0 0 0 none 0 0 none 0 0)) := by
    exact ⟨(p0.grown hG1 (by omega)).alloc' _, boxTop w1 _ _, hR1.step (below_alloc _ _), World.ownsRow_nil _ _ _ _, World.ownsRow_nil _ _ _ _, World.ownsRow_nil _ _ _ _,
      below_step (hB0.trans (grown_to_below hG1 (by omega) hB0.size)) (below_alloc _ _), hg1, hg2, hs1⟩
  haveI : BoxAt (w1.alloc (bxN 4 0 0 0 0 none 0 0 0 0 0 none 0 0 none 0 0)) w1.heap.size #[.int .i64 4, .int .i64 0, .int .u64 0, .int .u64 0, .int .u64 0, .slice none 0 0, .int .u64 0, .int .i64 0, .int .u64 0, .slice none 0 0, .slice none 0 0] 34 := D0.kn
  clear hR1 hG1 p0 pg hB0 T0
  go_wp2_with fail
  have T2 := hide (procI_s g B s _ D0.rd)
  rw [e1] at T2
  simp only at T2
  with_reducible refine T2.out.mono ?_
  rintro e v2 ⟨rfl, hR, hG⟩
  have hkl := D0.kn.lt
  have D1 := D0.read hG hR
  haveI : BoxAt v2 w1.heap.size #[.int .i64 4, .int .i64 0, .int .u64 0, .int .u64 0, .int .u64 0, .slice none 0 0, .int .u64 0, .int .i64 0, .int .u64 0, .slice none 0 0, .slice none 0 0] 34 := D1.kn
  clear D0 T2
  have hkl1 := D1.kn.lt
  have D12 : DJ w g B w1.heap.size ⟨4, pn, pi, 0, 0, none, 0, [], vw0⟩ s1 ((v2.setCell ⟨w1.heap.size, 1, none⟩ (.int .i64 pn)).setCell ⟨w1.heap.size, 2, none⟩ (.int .u64 pi)) := D1.set (grown_trans (grown_setCell v2 w1.heap.size 1 (.int .i64 pn)) (grown_setCell (v2.setCell ⟨w1.heap.size, 1, none⟩ (.int .i64 pn)) w1.heap.size 2 (.int .u64 pi))) (setB1 (i := 2) (v := .int .u64 pi) (setB1 (i := 1) (v := .int .i64 pn) D1.kn)) D1.os D1.om D1.ou
  haveI : BoxAt ((v2.setCell ⟨w1.heap.size, 1, none⟩ (.int .i64 pn)).setCell ⟨w1.heap.size, 2, none⟩ (.int .u64 pi)) w1.heap.size #[.int .i64 4, .int .i64 pn, .int .u64 pi, .int .u64 0, .int .u64 0, .slice none 0 0, .int .u64 0, .int .i64 0, .int .u64 0, .slice none 0 0, .slice none 0 0] 34 := D12.kn
  have E0 := D1.k0
  haveI := E0
  clear hR hG D1 hkl hkl1
  go_wp2_with fail
  generalize ((v2.setCell ⟨w1.heap.size, 1, none⟩ (.int .i64 pn)).setCell ⟨w1.heap.size, 2, none⟩ (.int .u64 pi)) = w3 at D12 ⊢
  have T3 := hide (uintI_s g B s1 _ D12.rd)
  rw [e3] at T3
  simp only at T3
  with_reducible refine T3.out.mono ?_
  rintro e v3 ⟨rfl, hR, hG⟩
  have hkl := D12.kn.lt
  have D1 := D12.read hG hR
  haveI : BoxAt v3 w1.heap.size #[.int .i64 4, .int .i64 pn, .int .u64 pi, .int .u64 0, .int .u64 0, .slice none 0 0, .int .u64 0, .int .i64 0, .int .u64 0, .slice none 0 0, .slice none 0 0] 34 := D1.kn
  clear D12 T3
  have hkl1 := D1.kn.lt
  have D13 : DJ w g B w1.heap.size ⟨4, pn, pi, 0, cd, none, 0, [], vw0⟩ s3 (v3.setCell ⟨w1.heap.size, 4, none⟩ (.int .u64 cd)) := D1.set (grown_setCell v3 w1.heap.size 4 (.int .u64 cd)) (setB1 (i := 4) (v := .int .u64 cd) D1.kn) D1.os D1.om D1.ou
  haveI : BoxAt (v3.setCell ⟨w1.heap.size, 4, none⟩ (.int .u64 cd)) w1.heap.size #[.int .i64 4, .int .i64 pn, .int .u64 pi, .int .u64 0, .int .u64 cd, .slice none 0 0, .int .u64 0, .int .i64 0, .int .u64 0, .slice none 0 0, .slice none 0 0] 34 := D13.kn
  have E0 := D1.k0
  haveI := E0
  clear hR hG D1 hkl hkl1
  go_wp2_with fail
  generalize (v3.setCell ⟨w1.heap.size, 4, none⟩ (.int .u64 cd)) = w4 at D13 ⊢
  have T4 := hide (show Calls Try.prog 53 #[.pointer (some ⟨g, 0, none⟩), .int .i64 6] _ (RetJP g B _ (rGetSet 6 s3).1 (rGetSet 6 s3).2) from procsI_s g B 6 s3 _ D13.rd (by omega))
  rw [e4] at T4
  simp only at T4
  with_reducible refine T4.out.mono ?_
  rintro e v4 ⟨vv, rfl, ho, hR, hG⟩
  have hkl := D13.kn.lt
  have D1 := D13.read hG hR
  haveI : BoxAt v4 w1.heap.size #[.int .i64 4, .int .i64 pn, .int .u64 pi, .int .u64 0, .int .u64 cd, .slice none 0 0, .int .u64 0, .int .i64 0, .int .u64 0, .slice none 0 0, .slice none 0 0] 34 := D1.kn
  obtain ⟨A4, c4, rfl, _, _⟩ := own_slice ho
  clear D13 T4
  have hkl1 := D1.kn.lt
  have D14 : DJ w g B w1.heap.size ⟨4, pn, pi, 0, cd, A4, c4, l, vw0⟩ s4 (v4.setCell ⟨w1.heap.size, 5, none⟩ (.slice A4 l.length c4)) := D1.set (grown_setCell v4 w1.heap.size 5 (.slice A4 l.length c4)) (setB1 (i := 5) (v := .slice A4 l.length c4) D1.kn) (own_base ho (by omega)) D1.om D1.ou
  haveI : BoxAt (v4.setCell ⟨w1.heap.size, 5, none⟩ (.slice A4 l.length c4)) w1.heap.size #[.int .i64 4, .int .i64 pn, .int .u64 pi, .int .u64 0, .int .u64 cd, .slice A4 l.length c4, .int .u64 0, .int .i64 0, .int .u64 0, .slice none 0 0, .slice none 0 0] 34 := D14.kn
  have E0 := D1.k0
  haveI := E0
  clear hR hG D1 hkl hkl1
  obtain ⟨bs4, bad4⟩ := s4
  have hok4 : Nt.Ok (v4.setCell ⟨w1.heap.size, 5, none⟩ (.slice A4 l.length c4)) ⟨4, pn, pi, 0, cd, A4, c4, l, vw0⟩ := ⟨Reads.of_own D14.os, by first | (show (0 : Nat) ≤ _; omega) | (show _ ≤ 1000000; simp only; omega), ⟨Reads.of_own D14.om, Reads.of_own D14.ou, by first | (show (0 : Nat) ≤ _; omega) | (show _ ≤ 1000000; simp only; omega), by first | (show (0 : Nat) ≤ _; omega) | (show _ ≤ 1000000; simp only; omega)⟩⟩
  have T6 := hide (refNMay_s ⟨4, pn, pi, 0, cd, A4, c4, l, vw0⟩ _ hok4 hpi hl0 (by show (0 : Int) ≤ 0; omega) (by simp))
  unfold Nt.v at T6
  simp only [List.length_nil] at T6
  haveI : BoxAt (v4.setCell ⟨w1.heap.size, 5, none⟩ (.slice A4 l.length c4)) w.heap.size #[.int .i64 0, .int .i64 0, .int .u64 0, .int .u64 0, .int .u64 0, .slice none 0 0, .int .u64 0, .int .i64 0, .int .u64 0, .slice none 0 0, .slice none 0 0] 34 := D14.k0
  have key : bad4 = true ∨ (bad4 = false ∧ 0 < bs4.length) ∨ (bad4 = false ∧ bs4 = [] ∧ Nt.mayB ⟨4, pn, pi, 0, cd, A4, c4, l, vw0⟩ = false) ∨ (bad4 = false ∧ bs4 = [] ∧ Nt.mayB ⟨4, pn, pi, 0, cd, A4, c4, l, vw0⟩ = true) := by
    cases bad4
    · rcases Nat.eq_zero_or_pos bs4.length with h | h
      · have h := List.eq_nil_of_length_eq_zero h
        cases h2 : Nt.mayB ⟨4, pn, pi, 0, cd, A4, c4, l, vw0⟩
        · exact .inr (.inr (.inl ⟨rfl, h, rfl⟩))
        · exact .inr (.inr (.inr ⟨rfl, h, rfl⟩))
      · exact .inr (.inl ⟨rfl, h⟩)
    · exact .inl rfl
  have HOK4 := hide hok4
  clear hok4
  rcases key with rfl | ⟨rfl, hk1⟩ | ⟨rfl, rfl, hk2⟩ | ⟨rfl, rfl, hk2⟩
  · have HF : Hid (finN ⟨4, pn, pi, 0, cd, none, 0, l, vw0⟩ (bs4, true) = none) := hide (if_pos (.inl rfl))
    obtain ⟨vb, hbx⟩ := D14.rd.box
    simp only at hbx
    haveI := hbx
    clear T6
    obtain ⟨k6, g6⟩ := set11 D14.k0 (.int .i64 0) (.int .i64 0) (.int .u64 0) (.int .u64 0) (.int .u64 0) (.slice none 0 0) (.int .u64 0) (.int .i64 0) (.int .u64 0) (.slice none 0 0) (.slice none 0 0)
    have HB6 := hide (D14.hB.trans (grown_to_below g6 (Nat.le_refl _) D14.hB.size))
    clear D14
    go_wp2
    generalize (((((((((((v4.setCell ⟨w1.heap.size, 5, none⟩ (.slice A4 l.length c4)).setCell ⟨w.heap.size, 0, none⟩ (.int .i64 0)).setCell ⟨w.heap.size, 1, none⟩ (.int .i64 0)).setCell ⟨w.heap.size, 2, none⟩ (.int .u64 0)).setCell ⟨w.heap.size, 3, none⟩ (.int .u64 0)).setCell ⟨w.heap.size, 4, none⟩ (.int .u64 0)).setCell ⟨w.heap.size, 5, none⟩ (.slice none 0 0)).setCell ⟨w.heap.size, 6, none⟩ (.int .u64 0)).setCell ⟨w.heap.size, 7, none⟩ (.int .i64 0)).setCell ⟨w.heap.size, 8, none⟩ (.int .u64 0)).setCell ⟨w.heap.size, 9, none⟩ (.slice none 0 0)).setCell ⟨w.heap.size, 10, none⟩ (.slice none 0 0) = W6 at k6 HB6 ⊢
    haveI := k6
    refine bodyPost_ret (v := .tuple #[.agg #[.int .i64 0, .int .i64 0, .int .u64 0, .int .u64 0, .int .u64 0, .slice none 0 0, .int .u64 0, .int .i64 0, .int .u64 0, .slice none 0 0, .slice none 0 0], .int .i64 3]) (by simp [results, Try.results14, go_sem]) rfl ?_
    rw [HF.out]
    exact RetDec.no HB6.out
  · have HF : Hid (finN ⟨4, pn, pi, 0, cd, none, 0, l, vw0⟩ (bs4, false) = none) := hide (if_pos (.inr hk1))
    obtain ⟨vA, vc, hbx⟩ := D14.rd.boxF
    haveI := hbx
    have hk1' : decide ((0 : Int) < (bs4.length : Int)) = true := decide_eq_true (by omega)
    clear T6
    obtain ⟨k6, g6⟩ := set11 D14.k0 (.int .i64 0) (.int .i64 0) (.int .u64 0) (.int .u64 0) (.int .u64 0) (.slice none 0 0) (.int .u64 0) (.int .i64 0) (.int .u64 0) (.slice none 0 0) (.slice none 0 0)
    have HB6 := hide (D14.hB.trans (grown_to_below g6 (Nat.le_refl _) D14.hB.size))
    clear D14
    go_wp2
    generalize (((((((((((v4.setCell ⟨w1.heap.size, 5, none⟩ (.slice A4 l.length c4)).setCell ⟨w.heap.size, 0, none⟩ (.int .i64 0)).setCell ⟨w.heap.size, 1, none⟩ (.int .i64 0)).setCell ⟨w.heap.size, 2, none⟩ (.int .u64 0)).setCell ⟨w.heap.size, 3, none⟩ (.int .u64 0)).setCell ⟨w.heap.size, 4, none⟩ (.int .u64 0)).setCell ⟨w.heap.size, 5, none⟩ (.slice none 0 0)).setCell ⟨w.heap.size, 6, none⟩ (.int .u64 0)).setCell ⟨w.heap.size, 7, none⟩ (.int .i64 0)).setCell ⟨w.heap.size, 8, none⟩ (.int .u64 0)).setCell ⟨w.heap.size, 9, none⟩ (.slice none 0 0)).setCell ⟨w.heap.size, 10, none⟩ (.slice none 0 0) = W6 at k6 HB6 ⊢
    haveI := k6
    refine bodyPost_ret (v := .tuple #[.agg #[.int .i64 0, .int .i64 0, .int .u64 0, .int .u64 0, .int .u64 0, .slice none 0 0, .int .u64 0, .int .i64 0, .int .u64 0, .slice none 0 0, .slice none 0 0], .int .i64 3]) (by simp [results, Try.results14, go_sem]) rfl ?_
    rw [HF.out]
    exact RetDec.no HB6.out
  · have HF : Hid (finN ⟨4, pn, pi, 0, cd, none, 0, l, vw0⟩ ([], false) = none) := hide ((if_neg (by simp)).trans (if_pos hk2))
    rw [hk2] at T6
    obtain ⟨vA, vc, hbx⟩ := D14.rd.boxF
    simp only [List.length_nil] at hbx
    haveI := hbx
    clear hk2
    go_wp2_with fail
    with_reducible refine T6.out.mono ?_
    rintro e w7 ⟨rfl, hb7⟩
    have D7 := D14.below hb7
    haveI := D7.k0
    clear D14 hb7 T6
    obtain ⟨k6, g6⟩ := set11 D7.k0 (.int .i64 0) (.int .i64 0) (.int .u64 0) (.int .u64 0) (.int .u64 0) (.slice none 0 0) (.int .u64 0) (.int .i64 0) (.int .u64 0) (.slice none 0 0) (.slice none 0 0)
    have HB6 := hide (D7.hB.trans (grown_to_below g6 (Nat.le_refl _) D7.hB.size))
    clear D7
    go_wp2
    generalize ((((((((((w7.setCell ⟨w.heap.size, 0, none⟩ (.int .i64 0)).setCell ⟨w.heap.size, 1, none⟩ (.int .i64 0)).setCell ⟨w.heap.size, 2, none⟩ (.int .u64 0)).setCell ⟨w.heap.size, 3, none⟩ (.int .u64 0)).setCell ⟨w.heap.size, 4, none⟩ (.int .u64 0)).setCell ⟨w.heap.size, 5, none⟩ (.slice none 0 0)).setCell ⟨w.heap.size, 6, none⟩ (.int .u64 0)).setCell ⟨w.heap.size, 7, none⟩ (.int .i64 0)).setCell ⟨w.heap.size, 8, none⟩ (.int .u64 0)).setCell ⟨w.heap.size, 9, none⟩ (.slice none 0 0)).setCell ⟨w.heap.size, 10, none⟩ (.slice none 0 0) = W6 at k6 HB6 ⊢
    haveI := k6
    refine bodyPost_ret (v := .tuple #[.agg #[.int .i64 0, .int .i64 0, .int .u64 0, .int .u64 0, .int .u64 0, .slice none 0 0, .int .u64 0, .int .i64 0, .int .u64 0, .slice none 0 0, .slice none 0 0], .int .i64 3]) (by simp [results, Try.results14, go_sem]) rfl ?_
    rw [HF.out]
    exact RetDec.no HB6.out
  · have HF : Hid (finN ⟨4, pn, pi, 0, cd, none, 0, l, vw0⟩ ([], false) = some ⟨4, pn, pi, 0, cd, none, 0, l, vw0⟩) := hide ((if_neg (by simp)).trans (if_neg (by intro h; have h' : Nt.mayB ⟨4, pn, pi, 0, cd, A4, c4, l, vw0⟩ = false := h; rw [hk2] at h'; cases h')))
    rw [hk2] at T6
    obtain ⟨vA, vc, hbx⟩ := D14.rd.boxF
    simp only [List.length_nil] at hbx
    haveI := hbx
    clear hk2
    go_wp2_with fail
    with_reducible refine T6.out.mono ?_
    rintro e w7 ⟨rfl, hb7⟩
    have D7 := D14.below hb7
    haveI := D7.k0
    haveI : BoxAt w7 w1.heap.size #[.int .i64 4, .int .i64 pn, .int .u64 pi, .int .u64 0, .int .u64 cd, .slice A4 l.length c4, .int .u64 0, .int .i64 0, .int .u64 0, .slice none 0 0, .slice none 0 0] 34 := D7.kn
    obtain ⟨k6, g6⟩ := set11 D7.k0 (.int .i64 4) (.int .i64 pn) (.int .u64 pi) (.int .u64 0) (.int .u64 cd) (.slice A4 l.length c4) (.int .u64 0) (.int .i64 0) (.int .u64 0) (.slice none 0 0) (.slice none 0 0)
    have HB6 := hide (D7.hB.trans (grown_to_below g6 (Nat.le_refl _) D7.hB.size))
    have hh1 := D7.h1
    have hh2 := D7.h2
    have hh4 := D7.h4
    have HQ1 := hide (own_grown D7.os g6 (by omega))
    have HQ2 := hide (own_grown D7.om g6 (by omega))
    have HQ3 := hide (own_grown D7.ou g6 (by omega))
    clear D14 D7 hb7 T6
    go_wp2
    generalize ((((((((((w7.setCell ⟨w.heap.size, 0, none⟩ (.int .i64 4)).setCell ⟨w.heap.size, 1, none⟩ (.int .i64 pn)).setCell ⟨w.heap.size, 2, none⟩ (.int .u64 pi)).setCell ⟨w.heap.size, 3, none⟩ (.int .u64 0)).setCell ⟨w.heap.size, 4, none⟩ (.int .u64 cd)).setCell ⟨w.heap.size, 5, none⟩ (.slice A4 l.length c4)).setCell ⟨w.heap.size, 6, none⟩ (.int .u64 0)).setCell ⟨w.heap.size, 7, none⟩ (.int .i64 0)).setCell ⟨w.heap.size, 8, none⟩ (.int .u64 0)).setCell ⟨w.heap.size, 9, none⟩ (.slice none 0 0)).setCell ⟨w.heap.size, 10, none⟩ (.slice none 0 0) = W6 at k6 HB6 HQ1 HQ2 HQ3 ⊢
    haveI := k6
    refine bodyPost_ret (v := .tuple #[.agg #[.int .i64 4, .int .i64 pn, .int .u64 pi, .int .u64 0, .int .u64 cd, .slice A4 l.length c4, .int .u64 0, .int .i64 0, .int .u64 0, .slice none 0 0, .slice none 0 0], .int .i64 0]) (by simp [results, Try.results14, go_sem]) rfl ?_
    rw [HF.out]
    exact ⟨_, _, _, _, _, _, rfl, ⟨Reads.of_own HQ1.out, HOK4.out.sl, ⟨Reads.of_own HQ2.out, Reads.of_own HQ3.out, HOK4.out.vk.ml, HOK4.out.vk.ul⟩⟩, HB6.out⟩
set_option maxRecDepth 100000 in
set_option maxHeartbeats 4000000 in
theorem rdec2 (A : Option Addr) (c : Nat) (bs : List Int) (w : World) (hr : Reads w w.heap.size 1 A bs.length (bcs bs)) (hn : bs.length ≤ 1000000) (hok : bOK bs) (hcp : bs.length ≤ c) (hcm : c ≤ 9223372036854775807) (s s4 : RS) (pn pi : Int) (e1 : rGet s = ((pn, pi), s4)) (hpi : 0 ≤ pi) (hu : rU8 (bs, false) = (2, s)) :
    Calls Try.prog 14 #[.slice A bs.length c] w (RetDec w (finN ⟨2, pn, pi, 0, 0, none, 0, [], vw0⟩ s4)) := by
  have p0 := (boxTop w #[.int .i64 0, .int .i64 0, .int .u64 0, .int .u64 0, .int .u64 0, .slice none 0 0, .int .u64 0, .int .i64 0, .int .u64 0, .slice none 0 0, .slice none 0 0] 34).alloc' (.cells #[.slice A bs.length c, .bool false] 75)
  have pg := boxTop (w.alloc (bxN 0 0 0 0 0 none 0 0 0 0 0 none 0 0 none 0 0)) #[.slice A bs.length c, .bool false] 75
  rw [World.size_alloc] at pg
  have hB0 : Below w.heap.size w ((w.alloc (bxN 0 0 0 0 0 none 0 0 0 0 0 none 0 0 none 0 0)).alloc (.cells #[.slice A bs.length c, .bool false] 75)) := (by repeat (first | exact Below.refl _ _ | assumption | refine bel_al ?_ _ | refine bel_gw ?_ _ _ | refine bel_drew ?_ | refine bel_drewN ?_ _))
  have hR0 : RI ((w.alloc (bxN 0 0 0 0 0 none 0 0 0 0 0 none 0 0 none 0 0)).alloc (.cells #[.slice A bs.length c, .bool false] 75)) (w.heap.size + 1) (w.heap.size + 2) (bs, false) := by
    refine ⟨bs, A, c, ⟨pg.eq, fun hl => ?_, hcp, hcm, hok, by omega, by simp⟩, fun _ => rfl, hn⟩
    obtain ⟨b, off, e, h1, h2⟩ := hr.2 hl
    exact ⟨b, off, e, by omega, by omega, fun j u hu => (hB0.cell (p := ⟨b, off + j, none⟩) h1).trans (h2 j u hu)⟩
  have T0 := hide (u8I_s _ _ _ _ hR0)
  have hrg := rU8_range (s := (bs, false)) hok
  rw [hu] at T0 hrg
  simp only at T0 hrg
  obtain ⟨hrg0, hrg1⟩ := hrg
  generalize hgg : w.heap.size + 1 = g at *
  generalize hBB : w.heap.size + 2 = B at *
  have hlt0 := p0.lt
  have hg1 : w.heap.size < g := by omega
  have hg2 : g < B := by omega
  have hsz : ((w.alloc (bxN 0 0 0 0 0 none 0 0 0 0 0 none 0 0 none 0 0)).alloc (.cells #[.slice A bs.length c, .bool false] 75)).heap.size = B := by simp; omega
  have HSZ := hide hsz
  have HGG := hide hgg
  clear hr hu hR0 hsz hBB
  go_enter Try.func14, Try.ntmps14
  go_wp2_with fail
  try rw [HGG.out]
  with_reducible refine T0.out.mono ?_
  rintro e w1 ⟨rfl, hR1, hG1⟩
  clear hgg
  have hs1 : B ≤ w1.heap.size := by have := hG1.size; rw [HSZ.out] at this; exact this
  have D0 : DJ w g B w1.heap.size ⟨2, 0, 0, 0, 0, none, 0, [], vw0⟩ s (w1.alloc (bxN 2 0 0 0 0 none 0 0 0 0 0 none 0 0 none 0 0)) := by
    exact ⟨(p0.grown hG1 (by omega)).alloc' _, boxTop w1 _ _, hR1.step (below_alloc _ _), World.ownsRow_nil _ _ _ _, World.ownsRow_nil _ _ _ _, World.ownsRow_nil _ _ _ _,
      below_step (hB0.trans (grown_to_below hG1 (by omega) hB0.size)) (below_alloc _ _), hg1, hg2, hs1⟩
  haveI : BoxAt (w1.alloc (bxN 2 0 0 0 0 none 0 0 0 0 0 none 0 0 none 0 0)) w1.heap.size #[.int .i64 2, .int .i64 0, .int .u64 0, .int .u64 0, .int .u64 0, .slice none 0 0, .int .u64 0, .int .i64 0, .int .u64 0, .slice none 0 0, .slice none 0 0] 34 := D0.kn
  clear hR1 hG1 p0 pg hB0 T0
  go_wp2_with fail
  have T2 := hide (procI_s g B s _ D0.rd)
  rw [e1] at T2
  simp only at T2
  with_reducible refine T2.out.mono ?_
  rintro e v2 ⟨rfl, hR, hG⟩
  have hkl := D0.kn.lt
  have D1 := D0.read hG hR
  haveI : BoxAt v2 w1.heap.size #[.int .i64 2, .int .i64 0, .int .u64 0, .int .u64 0, .int .u64 0, .slice none 0 0, .int .u64 0, .int .i64 0, .int .u64 0, .slice none 0 0, .slice none 0 0] 34 := D1.kn
  clear D0 T2
  have hkl1 := D1.kn.lt
  have D12 : DJ w g B w1.heap.size ⟨2, pn, pi, 0, 0, none, 0, [], vw0⟩ s4 ((v2.setCell ⟨w1.heap.size, 1, none⟩ (.int .i64 pn)).setCell ⟨w1.heap.size, 2, none⟩ (.int .u64 pi)) := D1.set (grown_trans (grown_setCell v2 w1.heap.size 1 (.int .i64 pn)) (grown_setCell (v2.setCell ⟨w1.heap.size, 1, none⟩ (.int .i64 pn)) w1.heap.size 2 (.int .u64 pi))) (setB1 (i := 2) (v := .int .u64 pi) (setB1 (i := 1) (v := .int .i64 pn) D1.kn)) D1.os D1.om D1.ou
  haveI : BoxAt ((v2.setCell ⟨w1.heap.size, 1, none⟩ (.int .i64 pn)).setCell ⟨w1.heap.size, 2, none⟩ (.int .u64 pi)) w1.heap.size #[.int .i64 2, .int .i64 pn, .int .u64 pi, .int .u64 0, .int .u64 0, .slice none 0 0, .int .u64 0, .int .i64 0, .int .u64 0, .slice none 0 0, .slice none 0 0] 34 := D12.kn
  have E0 := D1.k0
  haveI := E0
  clear hR hG D1 hkl hkl1
  obtain ⟨bs4, bad4⟩ := s4
  have hok4 : Nt.Ok ((v2.setCell ⟨w1.heap.size, 1, none⟩ (.int .i64 pn)).setCell ⟨w1.heap.size, 2, none⟩ (.int .u64 pi)) ⟨2, pn, pi, 0, 0, none, 0, [], vw0⟩ := ⟨Reads.of_own D12.os, by first | (show (0 : Nat) ≤ _; omega) | (show _ ≤ 1000000; simp only; omega), ⟨Reads.of_own D12.om, Reads.of_own D12.ou, by first | (show (0 : Nat) ≤ _; omega) | (show _ ≤ 1000000; simp only; omega), by first | (show (0 : Nat) ≤ _; omega) | (show _ ≤ 1000000; simp only; omega)⟩⟩
  have T6 := hide (refNMay_s ⟨2, pn, pi, 0, 0, none, 0, [], vw0⟩ _ hok4 hpi (by simp) (by show (0 : Int) ≤ 0; omega) (by simp))
  unfold Nt.v at T6
  simp only [List.length_nil] at T6
  haveI : BoxAt ((v2.setCell ⟨w1.heap.size, 1, none⟩ (.int .i64 pn)).setCell ⟨w1.heap.size, 2, none⟩ (.int .u64 pi)) w.heap.size #[.int .i64 0, .int .i64 0, .int .u64 0, .int .u64 0, .int .u64 0, .slice none 0 0, .int .u64 0, .int .i64 0, .int .u64 0, .slice none 0 0, .slice none 0 0] 34 := D12.k0
  have key : bad4 = true ∨ (bad4 = false ∧ 0 < bs4.length) ∨ (bad4 = false ∧ bs4 = [] ∧ Nt.mayB ⟨2, pn, pi, 0, 0, none, 0, [], vw0⟩ = false) ∨ (bad4 = false ∧ bs4 = [] ∧ Nt.mayB ⟨2, pn, pi, 0, 0, none, 0, [], vw0⟩ = true) := by
    cases bad4
    · rcases Nat.eq_zero_or_pos bs4.length with h | h
      · have h := List.eq_nil_of_length_eq_zero h
        cases h2 : Nt.mayB ⟨2, pn, pi, 0, 0, none, 0, [], vw0⟩
        · exact .inr (.inr (.inl ⟨rfl, h, rfl⟩))
        · exact .inr (.inr (.inr ⟨rfl, h, rfl⟩))
      · exact .inr (.inl ⟨rfl, h⟩)
    · exact .inl rfl
  have HOK4 := hide hok4
  clear hok4
  rcases key with rfl | ⟨rfl, hk1⟩ | ⟨rfl, rfl, hk2⟩ | ⟨rfl, rfl, hk2⟩
  · have HF : Hid (finN ⟨2, pn, pi, 0, 0, none, 0, [], vw0⟩ (bs4, true) = none) := hide (if_pos (.inl rfl))
    obtain ⟨vb, hbx⟩ := D12.rd.box
    simp only at hbx
    haveI := hbx
    clear T6
    obtain ⟨k6, g6⟩ := set11 D12.k0 (.int .i64 0) (.int .i64 0) (.int .u64 0) (.int .u64 0) (.int .u64 0) (.slice none 0 0) (.int .u64 0) (.int .i64 0) (.int .u64 0) (.slice none 0 0) (.slice none 0 0)
    have HB6 := hide (D12.hB.trans (grown_to_below g6 (Nat.le_refl _) D12.hB.size))
    clear D12
    go_wp2
    generalize ((((((((((((v2.setCell ⟨w1.heap.size, 1, none⟩ (.int .i64 pn)).setCell ⟨w1.heap.size, 2, none⟩ (.int .u64 pi)).setCell ⟨w.heap.size, 0, none⟩ (.int .i64 0)).setCell ⟨w.heap.size, 1, none⟩ (.int .i64 0)).setCell ⟨w.heap.size, 2, none⟩ (.int .u64 0)).setCell ⟨w.heap.size, 3, none⟩ (.int .u64 0)).setCell ⟨w.heap.size, 4, none⟩ (.int .u64 0)).setCell ⟨w.heap.size, 5, none⟩ (.slice none 0 0)).setCell ⟨w.heap.size, 6, none⟩ (.int .u64 0)).setCell ⟨w.heap.size, 7, none⟩ (.int .i64 0)).setCell ⟨w.heap.size, 8, none⟩ (.int .u64 0)).setCell ⟨w.heap.size, 9, none⟩ (.slice none 0 0)).setCell ⟨w.heap.size, 10, none⟩ (.slice none 0 0) = W6 at k6 HB6 ⊢
    haveI := k6
    refine bodyPost_ret (v := .tuple #[.agg #[.int .i64 0, .int .i64 0, .int .u64 0, .int .u64 0, .int .u64 0, .slice none 0 0, .int .u64 0, .int .i64 0, .int .u64 0, .slice none 0 0, .slice none 0 0], .int .i64 3]) (by simp [results, Try.results14, go_sem]) rfl ?_
    rw [HF.out]
    exact RetDec.no HB6.out
  · have HF : Hid (finN ⟨2, pn, pi, 0, 0, none, 0, [], vw0⟩ (bs4, false) = none) := hide (if_pos (.inr hk1))
    obtain ⟨vA, vc, hbx⟩ := D12.rd.boxF
    haveI := hbx
    have hk1' : decide ((0 : Int) < (bs4.length : Int)) = true := decide_eq_true (by omega)
    clear T6
    obtain ⟨k6, g6⟩ := set11 D12.k0 (.int .i64 0) (.int .i64 0) (.int .u64 0) (.int .u64 0) (.int .u64 0) (.slice none 0 0) (.int .u64 0) (.int .i64 0) (.int .u64 0) (.slice none 0 0) (.slice none 0 0)
    have HB6 := hide (D12.hB.trans (grown_to_below g6 (Nat.le_refl _) D12.hB.size))
    clear D12
    go_wp2
    generalize ((((((((((((v2.setCell ⟨w1.heap.size, 1, none⟩ (.int .i64 pn)).setCell ⟨w1.heap.size, 2, none⟩ (.int .u64 pi)).setCell ⟨w.heap.size, 0, none⟩ (.int .i64 0)).setCell ⟨w.heap.size, 1, none⟩ (.int .i64 0)).setCell ⟨w.heap.size, 2, none⟩ (.int .u64 0)).setCell ⟨w.heap.size, 3, none⟩ (.int .u64 0)).setCell ⟨w.heap.size, 4, none⟩ (.int .u64 0)).setCell ⟨w.heap.size, 5, none⟩ (.slice none 0 0)).setCell ⟨w.heap.size, 6, none⟩ (.int .u64 0)).setCell ⟨w.heap.size, 7, none⟩ (.int .i64 0)).setCell ⟨w.heap.size, 8, none⟩ (.int .u64 0)).setCell ⟨w.heap.size, 9, none⟩ (.slice none 0 0)).setCell ⟨w.heap.size, 10, none⟩ (.slice none 0 0) = W6 at k6 HB6 ⊢
    haveI := k6
    refine bodyPost_ret (v := .tuple #[.agg #[.int .i64 0, .int .i64 0, .int .u64 0, .int .u64 0, .int .u64 0, .slice none 0 0, .int .u64 0, .int .i64 0, .int .u64 0, .slice none 0 0, .slice none 0 0], .int .i64 3]) (by simp [results, Try.results14, go_sem]) rfl ?_
    rw [HF.out]
    exact RetDec.no HB6.out
  · have HF : Hid (finN ⟨2, pn, pi, 0, 0, none, 0, [], vw0⟩ ([], false) = none) := hide ((if_neg (by simp)).trans (if_pos hk2))
    rw [hk2] at T6
    obtain ⟨vA, vc, hbx⟩ := D12.rd.boxF
    simp only [List.length_nil] at hbx
    haveI := hbx
    clear hk2
    go_wp2_with fail
    with_reducible refine T6.out.mono ?_
    rintro e w7 ⟨rfl, hb7⟩
    have D7 := D12.below hb7
    haveI := D7.k0
    clear D12 hb7 T6
    obtain ⟨k6, g6⟩ := set11 D7.k0 (.int .i64 0) (.int .i64 0) (.int .u64 0) (.int .u64 0) (.int .u64 0) (.slice none 0 0) (.int .u64 0) (.int .i64 0) (.int .u64 0) (.slice none 0 0) (.slice none 0 0)
    have HB6 := hide (D7.hB.trans (grown_to_below g6 (Nat.le_refl _) D7.hB.size))
    clear D7
    go_wp2
    generalize ((((((((((w7.setCell ⟨w.heap.size, 0, none⟩ (.int .i64 0)).setCell ⟨w.heap.size, 1, none⟩ (.int .i64 0)).setCell ⟨w.heap.size, 2, none⟩ (.int .u64 0)).setCell ⟨w.heap.size, 3, none⟩ (.int .u64 0)).setCell ⟨w.heap.size, 4, none⟩ (.int .u64 0)).setCell ⟨w.heap.size, 5, none⟩ (.slice none 0 0)).setCell ⟨w.heap.size, 6, none⟩ (.int .u64 0)).setCell ⟨w.heap.size, 7, none⟩ (.int .i64 0)).setCell ⟨w.heap.size, 8, none⟩ (.int .u64 0)).setCell ⟨w.heap.size, 9, none⟩ (.slice none 0 0)).setCell ⟨w.heap.size, 10, none⟩ (.slice none 0 0) = W6 at k6 HB6 ⊢
    haveI := k6
    refine bodyPost_ret (v := .tuple #[.agg #[.int .i64 0, .int .i64 0, .int .u64 0, .int .u64 0, .int .u64 0, .slice none 0 0, .int .u64 0, .int .i64 0, .int .u64 0, .slice none 0 0, .slice none 0 0], .int .i64 3]) (by simp [results, Try.results14, go_sem]) rfl ?_
    rw [HF.out]
    exact RetDec.no HB6.out
  · have HF : Hid (finN ⟨2, pn, pi, 0, 0, none, 0, [], vw0⟩ ([], false) = some ⟨2, pn, pi, 0, 0, none, 0, [], vw0⟩) := hide ((if_neg (by simp)).trans (if_neg (by intro h; have h' : Nt.mayB ⟨2, pn, pi, 0, 0, none, 0, [], vw0⟩ = false := h; rw [hk2] at h'; cases h')))
    rw [hk2] at T6
    obtain ⟨vA, vc, hbx⟩ := D12.rd.boxF
    simp only [List.length_nil] at hbx
    haveI := hbx
    clear hk2
    go_wp2_with fail
    with_reducible refine T6.out.mono ?_
    rintro e w7 ⟨rfl, hb7⟩
    have D7 := D12.below hb7
    haveI := D7.k0
    haveI : BoxAt w7 w1.heap.size #[.int .i64 2, .int .i64 pn, .int .u64 pi, .int .u64 0, .int .u64 0, .slice none 0 0, .int .u64 0, .int .i64 0, .int .u64 0, .slice none 0 0, .slice none 0 0] 34 := D7.kn
    obtain ⟨k6, g6⟩ := set11 D7.k0 (.int .i64 2) (.int .i64 pn) (.int .u64 pi) (.int .u64 0) (.int .u64 0) (.slice none 0 0) (.int .u64 0) (.int .i64 0) (.int .u64 0) (.slice none 0 0) (.slice none 0 0)
    have HB6 := hide (D7.hB.trans (grown_to_below g6 (Nat.le_refl _) D7.hB.size))
    have hh1 := D7.h1
    have hh2 := D7.h2
    have hh4 := D7.h4
    have HQ1 := hide (own_grown D7.os g6 (by omega))
    have HQ2 := hide (own_grown D7.om g6 (by omega))
    have HQ3 := hide (own_grown D7.ou g6 (by omega))
    clear D12 D7 hb7 T6
    go_wp2
    generalize ((((((((((w7.setCell ⟨w.heap.size, 0, none⟩ (.int .i64 2)).setCell ⟨w.heap.size, 1, none⟩ (.int .i64 pn)).setCell ⟨w.heap.size, 2, none⟩ (.int .u64 pi)).setCell ⟨w.heap.size, 3, none⟩ (.int .u64 0)).setCell ⟨w.heap.size, 4, none⟩ (.int .u64 0)).setCell ⟨w.heap.size, 5, none⟩ (.slice none 0 0)).setCell ⟨w.heap.size, 6, none⟩ (.int .u64 0)).setCell ⟨w.heap.size, 7, none⟩ (.int .i64 0)).setCell ⟨w.heap.size, 8, none⟩ (.int .u64 0)).setCell ⟨w.heap.size, 9, none⟩ (.slice none 0 0)).setCell ⟨w.heap.size, 10, none⟩ (.slice none 0 0) = W6 at k6 HB6 HQ1 HQ2 HQ3 ⊢
    haveI := k6
    refine bodyPost_ret (v := .tuple #[.agg #[.int .i64 2, .int .i64 pn, .int .u64 pi, .int .u64 0, .int .u64 0, .slice none 0 0, .int .u64 0, .int .i64 0, .int .u64 0, .slice none 0 0, .slice none 0 0], .int .i64 0]) (by simp [results, Try.results14, go_sem]) rfl ?_
    rw [HF.out]
    exact ⟨_, _, _, _, _, _, rfl, ⟨Reads.of_own HQ1.out, HOK4.out.sl, ⟨Reads.of_own HQ2.out, Reads.of_own HQ3.out, HOK4.out.vk.ml, HOK4.out.vk.ul⟩⟩, HB6.out⟩
set_option maxRecDepth 100000 in
set_option maxHeartbeats 4000000 in
theorem rdec5 (A : Option Addr) (c : Nat) (bs : List Int) (w : World) (hr : Reads w w.heap.size 1 A bs.length (bcs bs)) (hn : bs.length ≤ 1000000) (hok : bOK bs) (hcp : bs.length ≤ c) (hcm : c ≤ 9223372036854775807) (s s4 : RS) (r vn vi : Int) (ms : List Pr) (us : List Int) (e1 : rView s = (((r, vn, vi), ms, us), s4)) (hml : ms.length ≤ 1000000) (hul : us.length ≤ 1000000) (hvi : 0 ≤ vi) (hm0 : ∀ p ∈ ms, 0 ≤ p.2) (hu : rU8 (bs, false) = (5, s)) :
    Calls Try.prog 14 #[.slice A bs.length c] w (RetDec w (finN ⟨5, 0, 0, 0, 0, none, 0, [], ⟨r, vn, vi, none, 0, ms, none, 0, us⟩⟩ s4)) := by
  have p0 := (boxTop w #[.int .i64 0, .int .i64 0, .int .u64 0, .int .u64 0, .int .u64 0, .slice none 0 0, .int .u64 0, .int .i64 0, .int .u64 0, .slice none 0 0, .slice none 0 0] 34).alloc' (.cells #[.slice A bs.length c, .bool false] 75)
  have pg := boxTop (w.alloc (bxN 0 0 0 0 0 none 0 0 0 0 0 none 0 0 none 0 0)) #[.slice A bs.length c, .bool false] 75
  rw [World.size_alloc] at pg
  have hB0 : Below w.heap.size w ((w.alloc (bxN 0 0 0 0 0 none 0 0 0 0 0 none 0 0 none 0 0)).alloc (.cells #[.slice A bs.length c, .bool false] 75)) := (by repeat (first | exact Below.refl _ _ | assumption | refine bel_al ?_ _ | refine bel_gw ?_ _ _ | refine bel_drew ?_ | refine bel_drewN ?_ _))
  have hR0 : RI ((w.alloc (bxN 0 0 0 0 0 none 0 0 0 0 0 none 0 0 none 0 0)).alloc (.cells #[.slice A bs.length c, .bool false] 75)) (w.heap.size + 1) (w.heap.size + 2) (bs, false) := by
    refine ⟨bs, A, c, ⟨pg.eq, fun hl => ?_, hcp, hcm, hok, by omega, by simp⟩, fun _ => rfl, hn⟩
    obtain ⟨b, off, e, h1, h2⟩ := hr.2 hl
    exact ⟨b, off, e, by omega, by omega, fun j u hu => (hB0.cell (p := ⟨b, off + j, none⟩) h1).trans (h2 j u hu)⟩
  have T0 := hide (u8I_s _ _ _ _ hR0)
  have hrg := rU8_range (s := (bs, false)) hok
  rw [hu] at T0 hrg
  simp only at T0 hrg
  obtain ⟨hrg0, hrg1⟩ := hrg
  generalize hgg : w.heap.size + 1 = g at *
  generalize hBB : w.heap.size + 2 = B at *
  have hlt0 := p0.lt
  have hg1 : w.heap.size < g := by omega
  have hg2 : g < B := by omega
  have hsz : ((w.alloc (bxN 0 0 0 0 0 none 0 0 0 0 0 none 0 0 none 0 0)).alloc (.cells #[.slice A bs.length c, .bool false] 75)).heap.size = B := by simp; omega
  have HSZ := hide hsz
  have HGG := hide hgg
  clear hr hu hR0 hsz hBB
  go_enter Try.func14, Try.ntmps14
  go_wp2_with fail
  try rw [HGG.out]
  with_reducible refine T0.out.mono ?_
  rintro e w1 ⟨rfl, hR1, hG1⟩
  clear hgg
  have hs1 : B ≤ w1.heap.size := by have := hG1.size; rw [HSZ.out] at this; exact this
  have D0 : DJ w g B w1.heap.size ⟨5, 0, 0, 0, 0, none, 0, [], vw0⟩ s (w1.alloc (bxN 5 0 0 0 0 none 0 0 0 0 0 none 0 0 none 0 0)) := by
    exact ⟨(p0.grown hG1 (by omega)).alloc' _, boxTop w1 _ _, hR1.step (below_alloc _ _), World.ownsRow_nil _ _ _ _, World.ownsRow_nil _ _ _ _, World.ownsRow_nil _ _ _ _,
      below_step (hB0.trans (grown_to_below hG1 (by omega) hB0.size)) (below_alloc _ _), hg1, hg2, hs1⟩
  haveI : BoxAt (w1.alloc (bxN 5 0 0 0 0 none 0 0 0 0 0 none 0 0 none 0 0)) w1.heap.size #[.int .i64 5, .int .i64 0, .int .u64 0, .int .u64 0, .int .u64 0, .slice none 0 0, .int .u64 0, .int .i64 0, .int .u64 0, .slice none 0 0, .slice none 0 0] 34 := D0.kn
  clear hR1 hG1 p0 pg hB0 T0
  go_wp2_with fail
  have T2 := hide (readV_s g B s _ D0.rd)
  rw [e1] at T2
  simp only at T2
  with_reducible refine T2.out.mono ?_
  rintro e v2 ⟨A1, c1, A2, c2, rfl, ho, hu, hR, hG⟩
  have hkl := D0.kn.lt
  have D1 := D0.read hG hR
  haveI : BoxAt v2 w1.heap.size #[.int .i64 5, .int .i64 0, .int .u64 0, .int .u64 0, .int .u64 0, .slice none 0 0, .int .u64 0, .int .i64 0, .int .u64 0, .slice none 0 0, .slice none 0 0] 34 := D1.kn
  clear D0 T2
  have hkl1 := D1.kn.lt
  have D12 : DJ w g B w1.heap.size ⟨5, 0, 0, 0, 0, none, 0, [], ⟨r, vn, vi, A1, c1, ms, A2, c2, us⟩⟩ s4 (((((v2.setCell ⟨w1.heap.size, 6, none⟩ (.int .u64 r)).setCell ⟨w1.heap.size, 7, none⟩ (.int .i64 vn)).setCell ⟨w1.heap.size, 8, none⟩ (.int .u64 vi)).setCell ⟨w1.heap.size, 9, none⟩ (.slice A1 ms.length c1)).setCell ⟨w1.heap.size, 10, none⟩ (.slice A2 us.length c2)) := D1.set (grown_trans (grown_trans (grown_trans (grown_trans (grown_setCell v2 w1.heap.size 6 (.int .u64 r)) (grown_setCell (v2.setCell ⟨w1.heap.size, 6, none⟩ (.int .u64 r)) w1.heap.size 7 (.int .i64 vn))) (grown_setCell ((v2.setCell ⟨w1.heap.size, 6, none⟩ (.int .u64 r)).setCell ⟨w1.heap.size, 7, none⟩ (.int .i64 vn)) w1.heap.size 8 (.int .u64 vi))) (grown_setCell (((v2.setCell ⟨w1.heap.size, 6, none⟩ (.int .u64 r)).setCell ⟨w1.heap.size, 7, none⟩ (.int .i64 vn)).setCell ⟨w1.heap.size, 8, none⟩ (.int .u64 vi)) w1.heap.size 9 (.slice A1 ms.length c1))) (grown_setCell ((((v2.setCell ⟨w1.heap.size, 6, none⟩ (.int .u64 r)).setCell ⟨w1.heap.size, 7, none⟩ (.int .i64 vn)).setCell ⟨w1.heap.size, 8, none⟩ (.int .u64 vi)).setCell ⟨w1.heap.size, 9, none⟩ (.slice A1 ms.length c1)) w1.heap.size 10 (.slice A2 us.length c2))) (setB1 (i := 10) (v := .slice A2 us.length c2) (setB1 (i := 9) (v := .slice A1 ms.length c1) (setB1 (i := 8) (v := .int .u64 vi) (setB1 (i := 7) (v := .int .i64 vn) (setB1 (i := 6) (v := .int .u64 r) D1.kn))))) D1.os (own_base ho (by omega)) (own_base hu (by omega))
  haveI : BoxAt (((((v2.setCell ⟨w1.heap.size, 6, none⟩ (.int .u64 r)).setCell ⟨w1.heap.size, 7, none⟩ (.int .i64 vn)).setCell ⟨w1.heap.size, 8, none⟩ (.int .u64 vi)).setCell ⟨w1.heap.size, 9, none⟩ (.slice A1 ms.length c1)).setCell ⟨w1.heap.size, 10, none⟩ (.slice A2 us.length c2)) w1.heap.size #[.int .i64 5, .int .i64 0, .int .u64 0, .int .u64 0, .int .u64 0, .slice none 0 0, .int .u64 r, .int .i64 vn, .int .u64 vi, .slice A1 ms.length c1, .slice A2 us.length c2] 34 := D12.kn
  have E0 := D1.k0
  haveI := E0
  clear hR hG D1 hkl hkl1
  obtain ⟨bs4, bad4⟩ := s4
  have hok4 : Nt.Ok (((((v2.setCell ⟨w1.heap.size, 6, none⟩ (.int .u64 r)).setCell ⟨w1.heap.size, 7, none⟩ (.int .i64 vn)).setCell ⟨w1.heap.size, 8, none⟩ (.int .u64 vi)).setCell ⟨w1.heap.size, 9, none⟩ (.slice A1 ms.length c1)).setCell ⟨w1.heap.size, 10, none⟩ (.slice A2 us.length c2)) ⟨5, 0, 0, 0, 0, none, 0, [], ⟨r, vn, vi, A1, c1, ms, A2, c2, us⟩⟩ := ⟨Reads.of_own D12.os, by first | (show (0 : Nat) ≤ _; omega) | (show _ ≤ 1000000; simp only; omega), ⟨Reads.of_own D12.om, Reads.of_own D12.ou, by first | (show (0 : Nat) ≤ _; omega) | (show _ ≤ 1000000; simp only; omega), by first | (show (0 : Nat) ≤ _; omega) | (show _ ≤ 1000000; simp only; omega)⟩⟩
  have T6 := hide (refNMay_s ⟨5, 0, 0, 0, 0, none, 0, [], ⟨r, vn, vi, A1, c1, ms, A2, c2, us⟩⟩ _ hok4 (by show (0 : Int) ≤ 0; omega) (by simp) hvi hm0)
  unfold Nt.v at T6
  simp only [List.length_nil] at T6
  haveI : BoxAt (((((v2.setCell ⟨w1.heap.size, 6, none⟩ (.int .u64 r)).setCell ⟨w1.heap.size, 7, none⟩ (.int .i64 vn)).setCell ⟨w1.heap.size, 8, none⟩ (.int .u64 vi)).setCell ⟨w1.heap.size, 9, none⟩ (.slice A1 ms.length c1)).setCell ⟨w1.heap.size, 10, none⟩ (.slice A2 us.length c2)) w.heap.size #[.int .i64 0, .int .i64 0, .int .u64 0, .int .u64 0, .int .u64 0, .slice none 0 0, .int .u64 0, .int .i64 0, .int .u64 0, .slice none 0 0, .slice none 0 0] 34 := D12.k0
  have key : bad4 = true ∨ (bad4 = false ∧ 0 < bs4.length) ∨ (bad4 = false ∧ bs4 = [] ∧ Nt.mayB ⟨5, 0, 0, 0, 0, none, 0, [], ⟨r, vn, vi, A1, c1, ms, A2, c2, us⟩⟩ = false) ∨ (bad4 = false ∧ bs4 = [] ∧ Nt.mayB ⟨5, 0, 0, 0, 0, none, 0, [], ⟨r, vn, vi, A1, c1, ms, A2, c2, us⟩⟩ = true) := by
    cases bad4
    · rcases Nat.eq_zero_or_pos bs4.length with h | h
      · have h := List.eq_nil_of_length_eq_zero h
        cases h2 : Nt.mayB ⟨5, 0, 0, 0, 0, none, 0, [], ⟨r, vn, vi, A1, c1, ms, A2, c2, us⟩⟩
        · exact .inr (.inr (.inl ⟨rfl, h, rfl⟩))
        · exact .inr (.inr (.inr ⟨rfl, h, rfl⟩))
      · exact .inr (.inl ⟨rfl, h⟩)
    · exact .inl rfl
  have HOK4 := hide hok4
  clear hok4
  rcases key with rfl | ⟨rfl, hk1⟩ | ⟨rfl, rfl, hk2⟩ | ⟨rfl, rfl, hk2⟩
  · have HF : Hid (finN ⟨5, 0, 0, 0, 0, none, 0, [], ⟨r, vn, vi, none, 0, ms, none, 0, us⟩⟩ (bs4, true) = none) := hide (if_pos (.inl rfl))
    obtain ⟨vb, hbx⟩ := D12.rd.box
    simp only at hbx
    haveI := hbx
    clear T6
    obtain ⟨k6, g6⟩ := set11 D12.k0 (.int .i64 0) (.int .i64 0) (.int .u64 0) (.int .u64 0) (.int .u64 0) (.slice none 0 0) (.int .u64 0) (.int .i64 0) (.int .u64 0) (.slice none 0 0) (.slice none 0 0)
    have HB6 := hide (D12.hB.trans (grown_to_below g6 (Nat.le_refl _) D12.hB.size))
    clear D12
    go_wp2
    generalize (((((((((((((((v2.setCell ⟨w1.heap.size, 6, none⟩ (.int .u64 r)).setCell ⟨w1.heap.size, 7, none⟩ (.int .i64 vn)).setCell ⟨w1.heap.size, 8, none⟩ (.int .u64 vi)).setCell ⟨w1.heap.size, 9, none⟩ (.slice A1 ms.length c1)).setCell ⟨w1.heap.size, 10, none⟩ (.slice A2 us.length c2)).setCell ⟨w.heap.size, 0, none⟩ (.int .i64 0)).setCell ⟨w.heap.size, 1, none⟩ (.int .i64 0)).setCell ⟨w.heap.size, 2, none⟩ (.int .u64 0)).setCell ⟨w.heap.size, 3, none⟩ (.int .u64 0)).setCell ⟨w.heap.size, 4, none⟩ (.int .u64 0)).setCell ⟨w.heap.size, 5, none⟩ (.slice none 0 0)).setCell ⟨w.heap.size, 6, none⟩ (.int .u64 0)).setCell ⟨w.heap.size, 7, none⟩ (.int .i64 0)).setCell ⟨w.heap.size, 8, none⟩ (.int .u64 0)).setCell ⟨w.heap.size, 9, none⟩ (.slice none 0 0)).setCell ⟨w.heap.size, 10, none⟩ (.slice none 0 0) = W6 at k6 HB6 ⊢
    haveI := k6
    refine bodyPost_ret (v := .tuple #[.agg #[.int .i64 0, .int .i64 0, .int .u64 0, .int .u64 0, .int .u64 0, .slice none 0 0, .int .u64 0, .int .i64 0, .int .u64 0, .slice none 0 0, .slice none 0 0], .int .i64 3]) (by simp [results, Try.results14, go_sem]) rfl ?_
    rw [HF.out]
    exact RetDec.no HB6.out
  · have HF : Hid (finN ⟨5, 0, 0, 0, 0, none, 0, [], ⟨r, vn, vi, none, 0, ms, none, 0, us⟩⟩ (bs4, false) = none) := hide (if_pos (.inr hk1))
    obtain ⟨vA, vc, hbx⟩ := D12.rd.boxF
    haveI := hbx
    have hk1' : decide ((0 : Int) < (bs4.length : Int)) = true := decide_eq_true (by omega)
    clear T6
    obtain ⟨k6, g6⟩ := set11 D12.k0 (.int .i64 0) (.int .i64 0) (.int .u64 0) (.int .u64 0) (.int .u64 0) (.slice none 0 0) (.int .u64 0) (.int .i64 0) (.int .u64 0) (.slice none 0 0) (.slice none 0 0)
    have HB6 := hide (D12.hB.trans (grown_to_below g6 (Nat.le_refl _) D12.hB.size))
    clear D12
    go_wp2
    generalize (((((((((((((((v2.setCell ⟨w1.heap.size, 6, none⟩ (.int .u64 r)).setCell ⟨w1.heap.size, 7, none⟩ (.int .i64 vn)).setCell ⟨w1.heap.size, 8, none⟩ (.int .u64 vi)).setCell ⟨w1.heap.size, 9, none⟩ (.slice A1 ms.length c1)).setCell ⟨w1.heap.size, 10, none⟩ (.slice A2 us.length c2)).setCell ⟨w.heap.size, 0, none⟩ (.int .i64 0)).setCell ⟨w.heap.size, 1, none⟩ (.int .i64 0)).setCell ⟨w.heap.size, 2, none⟩ (.int .u64 0)).setCell ⟨w.heap.size, 3, none⟩ (.int .u64 0)).setCell ⟨w.heap.size, 4, none⟩ (.int .u64 0)).setCell ⟨w.heap.size, 5, none⟩ (.slice none 0 0)).setCell ⟨w.heap.size, 6, none⟩ (.int .u64 0)).setCell ⟨w.heap.size, 7, none⟩ (.int .i64 0)).setCell ⟨w.heap.size, 8, none⟩ (.int .u64 0)).setCell ⟨w.heap.size, 9, none⟩ (.slice none 0 0)).setCell ⟨w.heap.size, 10, none⟩ (.slice none 0 0) = W6 at k6 HB6 ⊢
    haveI := k6
    refine bodyPost_ret (v := .tuple #[.agg #[.int .i64 0, .int .i64 0, .int .u64 0, .int .u64 0, .int .u64 0, .slice none 0 0, .int .u64 0, .int .i64 0, .int .u64 0, .slice none 0 0, .slice none 0 0], .int .i64 3]) (by simp [results, Try.results14, go_sem]) rfl ?_
    rw [HF.out]
    exact RetDec.no HB6.out
  · have HF : Hid (finN ⟨5, 0, 0, 0, 0, none, 0, [], ⟨r, vn, vi, none, 0, ms, none, 0, us⟩⟩ ([], false) = none) := hide ((if_neg (by simp)).trans (if_pos hk2))
    rw [hk2] at T6
    obtain ⟨vA, vc, hbx⟩ := D12.rd.boxF
    simp only [List.length_nil] at hbx
    haveI := hbx
    clear hk2
    go_wp2_with fail
    with_reducible refine T6.out.mono ?_
    rintro e w7 ⟨rfl, hb7⟩
    have D7 := D12.below hb7
    haveI := D7.k0
    clear D12 hb7 T6
    obtain ⟨k6, g6⟩ := set11 D7.k0 (.int .i64 0) (.int .i64 0) (.int .u64 0) (.int .u64 0) (.int .u64 0) (.slice none 0 0) (.int .u64 0) (.int .i64 0) (.int .u64 0) (.slice none 0 0) (.slice none 0 0)
    have HB6 := hide (D7.hB.trans (grown_to_below g6 (Nat.le_refl _) D7.hB.size))
    clear D7
    go_wp2
    generalize ((((((((((w7.setCell ⟨w.heap.size, 0, none⟩ (.int .i64 0)).setCell ⟨w.heap.size, 1, none⟩ (.int .i64 0)).setCell ⟨w.heap.size, 2, none⟩ (.int .u64 0)).setCell ⟨w.heap.size, 3, none⟩ (.int .u64 0)).setCell ⟨w.heap.size, 4, none⟩ (.int .u64 0)).setCell ⟨w.heap.size, 5, none⟩ (.slice none 0 0)).setCell ⟨w.heap.size, 6, none⟩ (.int .u64 0)).setCell ⟨w.heap.size, 7, none⟩ (.int .i64 0)).setCell ⟨w.heap.size, 8, none⟩ (.int .u64 0)).setCell ⟨w.heap.size, 9, none⟩ (.slice none 0 0)).setCell ⟨w.heap.size, 10, none⟩ (.slice none 0 0) = W6 at k6 HB6 ⊢
    haveI := k6
    refine bodyPost_ret (v := .tuple #[.agg #[.int .i64 0, .int .i64 0, .int .u64 0, .int .u64 0, .int .u64 0, .slice none 0 0, .int .u64 0, .int .i64 0, .int .u64 0, .slice none 0 0, .slice none 0 0], .int .i64 3]) (by simp [results, Try.results14, go_sem]) rfl ?_
    rw [HF.out]
    exact RetDec.no HB6.out
  · have HF : Hid (finN ⟨5, 0, 0, 0, 0, none, 0, [], ⟨r, vn, vi, none, 0, ms, none, 0, us⟩⟩ ([], false) = some ⟨5, 0, 0, 0, 0, none, 0, [], ⟨r, vn, vi, none, 0, ms, none, 0, us⟩⟩) := hide ((if_neg (by simp)).trans (if_neg (by intro h; have h' : Nt.mayB ⟨5, 0, 0, 0, 0, none, 0, [], ⟨r, vn, vi, A1, c1, ms, A2, c2, us⟩⟩ = false := h; rw [hk2] at h'; cases h')))
    rw [hk2] at T6
    obtain ⟨vA, vc, hbx⟩ := D12.rd.boxF
    simp only [List.length_nil] at hbx
    haveI := hbx
    clear hk2
    go_wp2_with fail
    with_reducible refine T6.out.mono ?_
    rintro e w7 ⟨rfl, hb7⟩
    have D7 := D12.below hb7
    haveI := D7.k0
    haveI : BoxAt w7 w1.heap.size #[.int .i64 5, .int .i64 0, .int .u64 0, .int .u64 0, .int .u64 0, .slice none 0 0, .int .u64 r, .int .i64 vn, .int .u64 vi, .slice A1 ms.length c1, .slice A2 us.length c2] 34 := D7.kn
    obtain ⟨k6, g6⟩ := set11 D7.k0 (.int .i64 5) (.int .i64 0) (.int .u64 0) (.int .u64 0) (.int .u64 0) (.slice none 0 0) (.int .u64 r) (.int .i64 vn) (.int .u64 vi) (.slice A1 ms.length c1) (.slice A2 us.length c2)
    have HB6 := hide (D7.hB.trans (grown_to_below g6 (Nat.le_refl _) D7.hB.size))
    have hh1 := D7.h1
    have hh2 := D7.h2
    have hh4 := D7.h4
    have HQ1 := hide (own_grown D7.os g6 (by omega))
    have HQ2 := hide (own_grown D7.om g6 (by omega))
    have HQ3 := hide (own_grown D7.ou g6 (by omega))
    clear D12 D7 hb7 T6
    go_wp2
    generalize ((((((((((w7.setCell ⟨w.heap.size, 0, none⟩ (.int .i64 5)).setCell ⟨w.heap.size, 1, none⟩ (.int .i64 0)).setCell ⟨w.heap.size, 2, none⟩ (.int .u64 0)).setCell ⟨w.heap.size, 3, none⟩ (.int .u64 0)).setCell ⟨w.heap.size, 4, none⟩ (.int .u64 0)).setCell ⟨w.heap.size, 5, none⟩ (.slice none 0 0)).setCell ⟨w.heap.size, 6, none⟩ (.int .u64 r)).setCell ⟨w.heap.size, 7, none⟩ (.int .i64 vn)).setCell ⟨w.heap.size, 8, none⟩ (.int .u64 vi)).setCell ⟨w.heap.size, 9, none⟩ (.slice A1 ms.length c1)).setCell ⟨w.heap.size, 10, none⟩ (.slice A2 us.length c2) = W6 at k6 HB6 HQ1 HQ2 HQ3 ⊢
    haveI := k6
    refine bodyPost_ret (v := .tuple #[.agg #[.int .i64 5, .int .i64 0, .int .u64 0, .int .u64 0, .int .u64 0, .slice none 0 0, .int .u64 r, .int .i64 vn, .int .u64 vi, .slice A1 ms.length c1, .slice A2 us.length c2], .int .i64 0]) (by simp [results, Try.results14, go_sem]) rfl ?_
    rw [HF.out]
    exact ⟨_, _, _, _, _, _, rfl, ⟨Reads.of_own HQ1.out, HOK4.out.sl, ⟨Reads.of_own HQ2.out, Reads.of_own HQ3.out, HOK4.out.vk.ml, HOK4.out.vk.ul⟩⟩, HB6.out⟩
set_option maxRecDepth 100000 in
set_option maxHeartbeats 4000000 in
theorem rdec_else (A : Option Addr) (c : Nat) (bs : List Int) (w : World) (hr : Reads w w.heap.size 1 A bs.length (bcs bs)) (hn : bs.length ≤ 1000000) (hok : bOK bs) (hcp : bs.length ≤ c) (hcm : c ≤ 9223372036854775807) (k : Int) (hk : k ≠ 5 ∧ k ≠ 1 ∧ k ≠ 3 ∧ k ≠ 2 ∧ k ≠ 4) (s s1 s3 s4 : RS) (pn pi cd : Int) (l : List Pr) (e1 : rGet s = ((pn, pi), s1)) (e3 : rUint s1 = (cd, s3)) (e4 : rGetSet 6 s3 = (l, s4)) (hll : l.length ≤ 1000000) (hpi : 0 ≤ pi) (hl0 : ∀ p ∈ l, 0 ≤ p.2) (hu : rU8 (bs, false) = (k, s)) :
    Calls Try.prog 14 #[.slice A bs.length c] w (RetDec w (finN ⟨k, pn, pi, 0, cd, none, 0, l, vw0⟩ s4)) := by
  have p0 := (boxTop w #[.int .i64 0, .int .i64 0, .int .u64 0, .int .u64 0, .int .u64 0, .slice none 0 0, .int .u64 0, .int .i64 0, .int .u64 0, .slice none 0 0, .slice none 0 0] 34).alloc' (.cells #[.slice A bs.length c, .bool false] 75)
  have pg := boxTop (w.alloc (bxN 0 0 0 0 0 none 0 0 0 0 0 none 0 0 none 0 0)) #[.slice A bs.length c, .bool false] 75
  rw [World.size_alloc] at pg
  have hB0 : Below w.heap.size w ((w.alloc (bxN 0 0 0 0 0 none 0 0 0 0 0 none 0 0 none 0 0)).alloc (.cells #[.slice A bs.length c, .bool false] 75)) := (by repeat (first | exact Below.refl _ _ | assumption | refine bel_al ?_ _ | refine bel_gw ?_ _ _ | refine bel_drew ?_ | refine bel_drewN ?_ _))
  have hR0 : RI ((w.alloc (bxN 0 0 0 0 0 none 0 0 0 0 0 none 0 0 none 0 0)).alloc (.cells #[.slice A bs.length c, .bool false] 75)) (w.heap.size + 1) (w.heap.size + 2) (bs, false) := by
    refine ⟨bs, A, c, ⟨pg.eq, fun hl => ?_, hcp, hcm, hok, by omega, by simp⟩, fun _ => rfl, hn⟩
    obtain ⟨b, off, e, h1, h2⟩ := hr.2 hl
    exact ⟨b, off, e, by omega, by omega, fun j u hu => (hB0.cell (p := ⟨b, off + j, none⟩) h1).trans (h2 j u hu)⟩
  have T0 := hide (u8I_s _ _ _ _ hR0)
  have hrg := rU8_range (s := (bs, false)) hok
  rw [hu] at T0 hrg
  simp only at T0 hrg
  obtain ⟨hrg0, hrg1⟩ := hrg
  generalize hgg : w.heap.size + 1 = g at *
  generalize hBB : w.heap.size + 2 = B at *
  have hlt0 := p0.lt
  have hg1 : w.heap.size < g := by omega
  have hg2 : g < B := by omega
  have hsz : ((w.alloc (bxN 0 0 0 0 0 none 0 0 0 0 0 none 0 0 none 0 0)).alloc (.cells #[.slice A bs.length c, .bool false] 75)).heap.size = B := by simp; omega
  have HSZ := hide hsz
  have HGG := hide hgg
  clear hr hu hR0 hsz hBB
  obtain ⟨a5, a1, a3, a2, a4⟩ := hk
  have k5' : (k == 5) = false := by simpa using a5
  have k1 : (k == 1) = false := by simpa using a1
  have k2 : (k != 2) = true := by simpa using a2
  have k3 : (k == 3) = false := by simpa using a3
  clear a5 a1 a3 a2 a4
  go_enter Try.func14, Try.ntmps14
  go_wp2_with fail
  try rw [HGG.out]
  with_reducible refine T0.out.mono ?_
  rintro e w1 ⟨rfl, hR1, hG1⟩
  clear hgg
  have hs1 : B ≤ w1.heap.size := by have := hG1.size; rw [HSZ.out] at this; exact this
  have D0 : DJ w g B w1.heap.size ⟨k, 0, 0, 0, 0, none, 0, [], vw0⟩ s (w1.alloc (bxN k 0 0 0 0 none 0 0 0 0 0 none 0 0 none 0 0)) := by
    exact ⟨(p0.grown hG1 (by omega)).alloc' _, boxTop w1 _ _, hR1.step (below_alloc _ _), World.ownsRow_nil _ _ _ _, World.ownsRow_nil _ _ _ _, World.ownsRow_nil _ _ _ _,
      below_step (hB0.trans (grown_to_below hG1 (by omega) hB0.size)) (below_alloc _ _), hg1, hg2, hs1⟩
  haveI : BoxAt (w1.alloc (bxN k 0 0 0 0 none 0 0 0 0 0 none 0 0 none 0 0)) w1.heap.size #[.int .i64 k, .int .i64 0, .int .u64 0, .int .u64 0, .int .u64 0, .slice none 0 0, .int .u64 0, .int .i64 0, .int .u64 0, .slice none 0 0, .slice none 0 0] 34 := D0.kn
  clear hR1 hG1 p0 pg hB0 T0
  go_wp2_with fail
  have T2 := hide (procI_s g B s _ D0.rd)
  rw [e1] at T2
  simp only at T2
  with_reducible refine T2.out.mono ?_
  rintro e v2 ⟨rfl, hR, hG⟩
  have hkl := D0.kn.lt
  have D1 := D0.read hG hR
  haveI : BoxAt v2 w1.heap.size #[.int .i64 k, .int .i64 0, .int .u64 0, .int .u64 0, .int .u64 0, .slice none 0 0, .int .u64 0, .int .i64 0, .int .u64 0, .slice none 0 0, .slice none 0 0] 34 := D1.kn
  clear D0 T2
  have hkl1 := D1.kn.lt
  have D12 : DJ w g B w1.heap.size ⟨k, pn, pi, 0, 0, none, 0, [], vw0⟩ s1 ((v2.setCell ⟨w1.heap.size, 1, none⟩ (.int .i64 pn)).setCell ⟨w1.heap.size, 2, none⟩ (.int .u64 pi)) := D1.set (grown_trans (grown_setCell v2 w1.heap.size 1 (.int .i64 pn)) (grown_setCell (v2.setCell ⟨w1.heap.size, 1, none⟩ (.int .i64 pn)) w1.heap.size 2 (.int .u64 pi))) (setB1 (i := 2) (v := .int .u64 pi) (setB1 (i := 1) (v := .int .i64 pn) D1.kn)) D1.os D1.om D1.ou
  haveI : BoxAt ((v2.setCell ⟨w1.heap.size, 1, none⟩ (.int .i64 pn)).setCell ⟨w1.heap.size, 2, none⟩ (.int .u64 pi)) w1.heap.size #[.int .i64 k, .int .i64 pn, .int .u64 pi, .int .u64 0, .int .u64 0, .slice none 0 0, .int .u64 0, .int .i64 0, .int .u64 0, .slice none 0 0, .slice none 0 0] 34 := D12.kn
  have E0 := D1.k0
  haveI := E0
  clear hR hG D1 hkl hkl1
  go_wp2_with fail
  generalize ((v2.setCell ⟨w1.heap.size, 1, none⟩ (.int .i64 pn)).setCell ⟨w1.heap.size, 2, none⟩ (.int .u64 pi)) = w3 at D12 ⊢
  have T3 := hide (uintI_s g B s1 _ D12.rd)
  rw [e3] at T3
  simp only at T3
  with_reducible refine T3.out.mono ?_
  rintro e v3 ⟨rfl, hR, hG⟩
  have hkl := D12.kn.lt
  have D1 := D12.read hG hR
  haveI : BoxAt v3 w1.heap.size #[.int .i64 k, .int .i64 pn, .int .u64 pi, .int .u64 0, .int .u64 0, .slice none 0 0, .int .u64 0, .int .i64 0, .int .u64 0, .slice none 0 0, .slice none 0 0] 34 := D1.kn
  clear D12 T3
  have hkl1 := D1.kn.lt
  have D13 : DJ w g B w1.heap.size ⟨k, pn, pi, 0, cd, none, 0, [], vw0⟩ s3 (v3.setCell ⟨w1.heap.size, 4, none⟩ (.int .u64 cd)) := D1.set (grown_setCell v3 w1.heap.size 4 (.int .u64 cd)) (setB1 (i := 4) (v := .int .u64 cd) D1.kn) D1.os D1.om D1.ou
  haveI : BoxAt (v3.setCell ⟨w1.heap.size, 4, none⟩ (.int .u64 cd)) w1.heap.size #[.int .i64 k, .int .i64 pn, .int .u64 pi, .int .u64 0, .int .u64 cd, .slice none 0 0, .int .u64 0, .int .i64 0, .int .u64 0, .slice none 0 0, .slice none 0 0] 34 := D13.kn
  have E0 := D1.k0
  haveI := E0
  clear hR hG D1 hkl hkl1
  go_wp2_with fail
  generalize (v3.setCell ⟨w1.heap.size, 4, none⟩ (.int .u64 cd)) = w4 at D13 ⊢
  have T4 := hide (show Calls Try.prog 53 #[.pointer (some ⟨g, 0, none⟩), .int .i64 6] _ (RetJP g B _ (rGetSet 6 s3).1 (rGetSet 6 s3).2) from procsI_s g B 6 s3 _ D13.rd (by omega))
  rw [e4] at T4
  simp only at T4
  with_reducible refine T4.out.mono ?_
  rintro e v4 ⟨vv, rfl, ho, hR, hG⟩
  have hkl := D13.kn.lt
  have D1 := D13.read hG hR
  haveI : BoxAt v4 w1.heap.size #[.int .i64 k, .int .i64 pn, .int .u64 pi, .int .u64 0, .int .u64 cd, .slice none 0 0, .int .u64 0, .int .i64 0, .int .u64 0, .slice none 0 0, .slice none 0 0] 34 := D1.kn
  obtain ⟨A4, c4, rfl, _, _⟩ := own_slice ho
  clear D13 T4
  have hkl1 := D1.kn.lt
  have D14 : DJ w g B w1.heap.size ⟨k, pn, pi, 0, cd, A4, c4, l, vw0⟩ s4 (v4.setCell ⟨w1.heap.size, 5, none⟩ (.slice A4 l.length c4)) := D1.set (grown_setCell v4 w1.heap.size 5 (.slice A4 l.length c4)) (setB1 (i := 5) (v := .slice A4 l.length c4) D1.kn) (own_base ho (by omega)) D1.om D1.ou
  haveI : BoxAt (v4.setCell ⟨w1.heap.size, 5, none⟩ (.slice A4 l.length c4)) w1.heap.size #[.int .i64 k, .int .i64 pn, .int .u64 pi, .int .u64 0, .int .u64 cd, .slice A4 l.length c4, .int .u64 0, .int .i64 0, .int .u64 0, .slice none 0 0, .slice none 0 0] 34 := D14.kn
  have E0 := D1.k0
  haveI := E0
  clear hR hG D1 hkl hkl1
  obtain ⟨bs4, bad4⟩ := s4
  have hok4 : Nt.Ok (v4.setCell ⟨w1.heap.size, 5, none⟩ (.slice A4 l.length c4)) ⟨k, pn, pi, 0, cd, A4, c4, l, vw0⟩ := ⟨Reads.of_own D14.os, by first | (show (0 : Nat) ≤ _; omega) | (show _ ≤ 1000000; simp only; omega), ⟨Reads.of_own D14.om, Reads.of_own D14.ou, by first | (show (0 : Nat) ≤ _; omega) | (show _ ≤ 1000000; simp only; omega), by first | (show (0 : Nat) ≤ _; omega) | (show _ ≤ 1000000; simp only; omega)⟩⟩
  have T6 := hide (refNMay_s ⟨k, pn, pi, 0, cd, A4, c4, l, vw0⟩ _ hok4 hpi hl0 (by show (0 : Int) ≤ 0; omega) (by simp))
  unfold Nt.v at T6
  simp only [List.length_nil] at T6
  haveI : BoxAt (v4.setCell ⟨w1.heap.size, 5, none⟩ (.slice A4 l.length c4)) w.heap.size #[.int .i64 0, .int .i64 0, .int .u64 0, .int .u64 0, .int .u64 0, .slice none 0 0, .int .u64 0, .int .i64 0, .int .u64 0, .slice none 0 0, .slice none 0 0] 34 := D14.k0
  have key : bad4 = true ∨ (bad4 = false ∧ 0 < bs4.length) ∨ (bad4 = false ∧ bs4 = [] ∧ Nt.mayB ⟨k, pn, pi, 0, cd, A4, c4, l, vw0⟩ = false) ∨ (bad4 = false ∧ bs4 = [] ∧ Nt.mayB ⟨k, pn, pi, 0, cd, A4, c4, l, vw0⟩ = true) := by
    cases bad4
    · rcases Nat.eq_zero_or_pos bs4.length with h | h
      · have h := List.eq_nil_of_length_eq_zero h
        cases h2 : Nt.mayB ⟨k, pn, pi, 0, cd, A4, c4, l, vw0⟩
        · exact .inr (.inr (.inl ⟨rfl, h, rfl⟩))
        · exact .inr (.inr (.inr ⟨rfl, h, rfl⟩))
      · exact .inr (.inl ⟨rfl, h⟩)
    · exact .inl rfl
  have HOK4 := hide hok4
  clear hok4
  rcases key with rfl | ⟨rfl, hk1⟩ | ⟨rfl, rfl, hk2⟩ | ⟨rfl, rfl, hk2⟩
  · have HF : Hid (finN ⟨k, pn, pi, 0, cd, none, 0, l, vw0⟩ (bs4, true) = none) := hide (if_pos (.inl rfl))
    obtain ⟨vb, hbx⟩ := D14.rd.box
    simp only at hbx
    haveI := hbx
    clear T6
    obtain ⟨k6, g6⟩ := set11 D14.k0 (.int .i64 0) (.int .i64 0) (.int .u64 0) (.int .u64 0) (.int .u64 0) (.slice none 0 0) (.int .u64 0) (.int .i64 0) (.int .u64 0) (.slice none 0 0) (.slice none 0 0)
    have HB6 := hide (D14.hB.trans (grown_to_below g6 (Nat.le_refl _) D14.hB.size))
    clear D14
    go_wp2
    generalize (((((((((((v4.setCell ⟨w1.heap.size, 5, none⟩ (.slice A4 l.length c4)).setCell ⟨w.heap.size, 0, none⟩ (.int .i64 0)).setCell ⟨w.heap.size, 1, none⟩ (.int .i64 0)).setCell ⟨w.heap.size, 2, none⟩ (.int .u64 0)).setCell ⟨w.heap.size, 3, none⟩ (.int .u64 0)).setCell ⟨w.heap.size, 4, none⟩ (.int .u64 0)).setCell ⟨w.heap.size, 5, none⟩ (.slice none 0 0)).setCell ⟨w.heap.size, 6, none⟩ (.int .u64 0)).setCell ⟨w.heap.size, 7, none⟩ (.int .i64 0)).setCell ⟨w.heap.size, 8, none⟩ (.int .u64 0)).setCell ⟨w.heap.size, 9, none⟩ (.slice none 0 0)).setCell ⟨w.heap.size, 10, none⟩ (.slice none 0 0) = W6 at k6 HB6 ⊢
    haveI := k6
    refine bodyPost_ret (v := .tuple #[.agg #[.int .i64 0, .int .i64 0, .int .u64 0, .int .u64 0, .int .u64 0, .slice none 0 0, .int .u64 0, .int .i64 0, .int .u64 0, .slice none 0 0, .slice none 0 0], .int .i64 3]) (by simp [results, Try.results14, go_sem]) rfl ?_
    rw [HF.out]
    exact RetDec.no HB6.out
  · have HF : Hid (finN ⟨k, pn, pi, 0, cd, none, 0, l, vw0⟩ (bs4, false) = none) := hide (if_pos (.inr hk1))
    obtain ⟨vA, vc, hbx⟩ := D14.rd.boxF
    haveI := hbx
    have hk1' : decide ((0 : Int) < (bs4.length : Int)) = true := decide_eq_true (by omega)
    clear T6
    obtain ⟨k6, g6⟩ := set11 D14.k0 (.int .i64 0) (.int .i64 0) (.int .u64 0) (.int .u64 0) (.int .u64 0) (.slice none 0 0) (.int .u64 0) (.int .i64 0) (.int .u64 0) (.slice none 0 0) (.slice none 0 0)
    have HB6 := hide (D14.hB.trans (grown_to_below g6 (Nat.le_refl _) D14.hB.size))
    clear D14
    go_wp2
    generalize (((((((((((v4.setCell ⟨w1.heap.size, 5, none⟩ (.slice A4 l.length c4)).setCell ⟨w.heap.size, 0, none⟩ (.int .i64 0)).setCell ⟨w.heap.size, 1, none⟩ (.int .i64 0)).setCell ⟨w.heap.size, 2, none⟩ (.int .u64 0)).setCell ⟨w.heap.size, 3, none⟩ (.int .u64 0)).setCell ⟨w.heap.size, 4, none⟩ (.int .u64 0)).setCell ⟨w.heap.size, 5, none⟩ (.slice none 0 0)).setCell ⟨w.heap.size, 6, none⟩ (.int .u64 0)).setCell ⟨w.heap.size, 7, none⟩ (.int .i64 0)).setCell ⟨w.heap.size, 8, none⟩ (.int .u64 0)).setCell ⟨w.heap.size, 9, none⟩ (.slice none 0 0)).setCell ⟨w.heap.size, 10, none⟩ (.slice none 0 0) = W6 at k6 HB6 ⊢
    haveI := k6
    refine bodyPost_ret (v := .tuple #[.agg #[.int .i64 0, .int .i64 0, .int .u64 0, .int .u64 0, .int .u64 0, .slice none 0 0, .int .u64 0, .int .i64 0, .int .u64 0, .slice none 0 0, .slice none 0 0], .int .i64 3]) (by simp [results, Try.results14, go_sem]) rfl ?_
    rw [HF.out]
    exact RetDec.no HB6.out
  · have HF : Hid (finN ⟨k, pn, pi, 0, cd, none, 0, l, vw0⟩ ([], false) = none) := hide ((if_neg (by simp)).trans (if_pos hk2))
    rw [hk2] at T6
    obtain ⟨vA, vc, hbx⟩ := D14.rd.boxF
    simp only [List.length_nil] at hbx
    haveI := hbx
    clear hk2
    go_wp2_with fail
    with_reducible refine T6.out.mono ?_
    rintro e w7 ⟨rfl, hb7⟩
    have D7 := D14.below hb7
    haveI := D7.k0
    clear D14 hb7 T6
    obtain ⟨k6, g6⟩ := set11 D7.k0 (.int .i64 0) (.int .i64 0) (.int .u64 0) (.int .u64 0) (.int .u64 0) (.slice none 0 0) (.int .u64 0) (.int .i64 0) (.int .u64 0) (.slice none 0 0) (.slice none 0 0)
    have HB6 := hide (D7.hB.trans (grown_to_below g6 (Nat.le_refl _) D7.hB.size))
    clear D7
    go_wp2
    generalize ((((((((((w7.setCell ⟨w.heap.size, 0, none⟩ (.int .i64 0)).setCell ⟨w.heap.size, 1, none⟩ (.int .i64 0)).setCell ⟨w.heap.size, 2, none⟩ (.int .u64 0)).setCell ⟨w.heap.size, 3, none⟩ (.int .u64 0)).setCell ⟨w.heap.size, 4, none⟩ (.int .u64 0)).setCell ⟨w.heap.size, 5, none⟩ (.slice none 0 0)).setCell ⟨w.heap.size, 6, none⟩ (.int .u64 0)).setCell ⟨w.heap.size, 7, none⟩ (.int .i64 0)).setCell ⟨w.heap.size, 8, none⟩ (.int .u64 0)).setCell ⟨w.heap.size, 9, none⟩ (.slice none 0 0)).setCell ⟨w.heap.size, 10, none⟩ (.slice none 0 0) = W6 at k6 HB6 ⊢
    haveI := k6
    refine bodyPost_ret (v := .tuple #[.agg #[.int .i64 0, .int .i64 0, .int .u64 0, .int .u64 0, .int .u64 0, .slice none 0 0, .int .u64 0, .int .i64 0, .int .u64 0, .slice none 0 0, .slice none 0 0], .int .i64 3]) (by simp [results, Try.results14, go_sem]) rfl ?_
    rw [HF.out]
    exact RetDec.no HB6.out
  · have HF : Hid (finN ⟨k, pn, pi, 0, cd, none, 0, l, vw0⟩ ([], false) = some ⟨k, pn, pi, 0, cd, none, 0, l, vw0⟩) := hide ((if_neg (by simp)).trans (if_neg (by intro h; have h' : Nt.mayB ⟨k, pn, pi, 0, cd, A4, c4, l, vw0⟩ = false := h; rw [hk2] at h'; cases h')))
    rw [hk2] at T6
    obtain ⟨vA, vc, hbx⟩ := D14.rd.boxF
    simp only [List.length_nil] at hbx
    haveI := hbx
    clear hk2
    go_wp2_with fail
    with_reducible refine T6.out.mono ?_
    rintro e w7 ⟨rfl, hb7⟩
    have D7 := D14.below hb7
    haveI := D7.k0
    haveI : BoxAt w7 w1.heap.size #[.int .i64 k, .int .i64 pn, .int .u64 pi, .int .u64 0, .int .u64 cd, .slice A4 l.length c4, .int .u64 0, .int .i64 0, .int .u64 0, .slice none 0 0, .slice none 0 0] 34 := D7.kn
    obtain ⟨k6, g6⟩ := set11 D7.k0 (.int .i64 k) (.int .i64 pn) (.int .u64 pi) (.int .u64 0) (.int .u64 cd) (.slice A4 l.length c4) (.int .u64 0) (.int .i64 0) (.int .u64 0) (.slice none 0 0) (.slice none 0 0)
    have HB6 := hide (D7.hB.trans (grown_to_below g6 (Nat.le_refl _) D7.hB.size))
    have hh1 := D7.h1
    have hh2 := D7.h2
    have hh4 := D7.h4
    have HQ1 := hide (own_grown D7.os g6 (by omega))
    have HQ2 := hide (own_grown D7.om g6 (by omega))
    have HQ3 := hide (own_grown D7.ou g6 (by omega))
    clear D14 D7 hb7 T6
    go_wp2
    generalize ((((((((((w7.setCell ⟨w.heap.size, 0, none⟩ (.int .i64 k)).setCell ⟨w.heap.size, 1, none⟩ (.int .i64 pn)).setCell ⟨w.heap.size, 2, none⟩ (.int .u64 pi)).setCell ⟨w.heap.size, 3, none⟩ (.int .u64 0)).setCell ⟨w.heap.size, 4, none⟩ (.int .u64 cd)).setCell ⟨w.heap.size, 5, none⟩ (.slice A4 l.length c4)).setCell ⟨w.heap.size, 6, none⟩ (.int .u64 0)).setCell ⟨w.heap.size, 7, none⟩ (.int .i64 0)).setCell ⟨w.heap.size, 8, none⟩ (.int .u64 0)).setCell ⟨w.heap.size, 9, none⟩ (.slice none 0 0)).setCell ⟨w.heap.size, 10, none⟩ (.slice none 0 0) = W6 at k6 HB6 HQ1 HQ2 HQ3 ⊢
    haveI := k6
    refine bodyPost_ret (v := .tuple #[.agg #[.int .i64 k, .int .i64 pn, .int .u64 pi, .int .u64 0, .int .u64 cd, .slice A4 l.length c4, .int .u64 0, .int .i64 0, .int .u64 0, .slice none 0 0, .slice none 0 0], .int .i64 0]) (by simp [results, Try.results14, go_sem]) rfl ?_
    rw [HF.out]
    exact ⟨_, _, _, _, _, _, rfl, ⟨Reads.of_own HQ1.out, HOK4.out.sl, ⟨Reads.of_own HQ2.out, Reads.of_own HQ3.out, HOK4.out.vk.ml, HOK4.out.vk.ul⟩⟩, HB6.out⟩
end Go.Proofs.Ytgpmcpinnaggmaa

namespace Go.Proofs.Ytgpmcpinnaggmaa
set_option linter.unusedSimpArgs false
set_option linter.unusedVariables false
set_option linter.unusedSectionVars false
open Go.RowKit

theorem rView_nonneg (s : RS) : 0 ≤ (rView s).1.1.2.2 ∧ ∀ p ∈ (rView s).1.2.1, 0 ≤ p.2 := by
  have h1 := rId_nonneg s
  have h2 := rGetSet_nonneg 6 (rId s).2
  rw [rView_eq]
  split
  · exact ⟨by simp, by simp⟩
  · exact ⟨h1, h2⟩
theorem rdec_s (A : Option Addr) (c : Nat) (bs : List Int) (w : World) (hr : Reads w w.heap.size 1 A bs.length (bcs bs)) (hn : bs.length ≤ 1000000) (hok : bOK bs) (hcp : bs.length ≤ c) (hcm : c ≤ 9223372036854775807) :
    Calls Try.prog 14 #[.slice A bs.length c] w (RetDec w (decN bs)) := by
  unfold decN rNt
  generalize hu : rU8 (bs, false) = a
  obtain ⟨k, s⟩ := a
  simp only
  have m1 := rGetSet_most 6 (rUint (rUint (rGet s).2).2).2
  have m2 := rGetSet_most 6 (rUint (rGet s).2).2
  have m3 := rView_most s
  have n1 := rGetSet_nonneg 6 (rUint (rUint (rGet s).2).2).2
  have n2 := rGetSet_nonneg 6 (rUint (rGet s).2).2
  have n3 := rView_nonneg s
  have n4 := rGet_nonneg s
  by_cases k1 : k = 1 ∨ k = 3
  · rw [if_pos k1]
    rcases k1 with rfl | rfl
    · exact rdec1 A c bs w hr hn hok hcp hcm s (rGet s).2 (rUint (rGet s).2).2 (rUint (rUint (rGet s).2).2).2 (rGetSet 6 (rUint (rUint (rGet s).2).2).2).2 (rGet s).1.1 (rGet s).1.2 (rUint (rGet s).2).1 (rUint (rUint (rGet s).2).2).1 (rGetSet 6 (rUint (rUint (rGet s).2).2).2).1 rfl rfl rfl rfl (by omega) n4 n1 hu
    · exact rdec3 A c bs w hr hn hok hcp hcm s (rGet s).2 (rUint (rGet s).2).2 (rUint (rUint (rGet s).2).2).2 (rGetSet 6 (rUint (rUint (rGet s).2).2).2).2 (rGet s).1.1 (rGet s).1.2 (rUint (rGet s).2).1 (rUint (rUint (rGet s).2).2).1 (rGetSet 6 (rUint (rUint (rGet s).2).2).2).1 rfl rfl rfl rfl (by omega) n4 n1 hu
  · rw [if_neg k1]
    by_cases k2 : k = 2
    · subst k2
      rw [if_pos rfl]
      exact rdec2 A c bs w hr hn hok hcp hcm s (rGet s).2 (rGet s).1.1 (rGet s).1.2 rfl n4 hu
    · rw [if_neg k2]
      by_cases k4 : k = 4
      · subst k4
        rw [if_pos rfl]
        exact rdec4 A c bs w hr hn hok hcp hcm s (rGet s).2 (rUint (rGet s).2).2 (rGetSet 6 (rUint (rGet s).2).2).2 (rGet s).1.1 (rGet s).1.2 (rUint (rGet s).2).1 (rGetSet 6 (rUint (rGet s).2).2).1 rfl rfl rfl (by omega) n4 n2 hu
      · rw [if_neg k4]
        by_cases k5 : k = 5
        · subst k5
          rw [if_pos rfl]
          exact rdec5 A c bs w hr hn hok hcp hcm s (rView s).2 (rView s).1.1.1 (rView s).1.1.2.1 (rView s).1.1.2.2 (rView s).1.2.1 (rView s).1.2.2 rfl (by omega) (by omega) n3.1 n3.2 hu
        · rw [if_neg k5]
          have e1 : finN ⟨k, 0, 0, 0, 0, none, 0, [], vw0⟩ s = none := by
            unfold finN
            split
            · rfl
            · rw [if_pos]
              show Nt.mayB _ = false
              unfold Nt.mayB
              rw [if_neg k5, if_neg k1, if_neg k2, if_neg k4]; simp
          have e2 : finN ⟨k, (rGet s).1.1, (rGet s).1.2, 0, (rUint (rGet s).2).1, none, 0, (rGetSet 6 (rUint (rGet s).2).2).1, vw0⟩ (rGetSet 6 (rUint (rGet s).2).2).2 = none := by
            unfold finN
            split
            · rfl
            · rw [if_pos]
              show Nt.mayB _ = false
              unfold Nt.mayB
              rw [if_neg k5, if_neg k1, if_neg k2, if_neg k4]; simp
          rw [e1, ← e2]
          exact rdec_else A c bs w hr hn hok hcp hcm k ⟨k5, by omega, by omega, k2, k4⟩ s (rGet s).2 (rUint (rGet s).2).2 (rGetSet 6 (rUint (rGet s).2).2).2 (rGet s).1.1 (rGet s).1.2 (rUint (rGet s).2).1 (rGetSet 6 (rUint (rGet s).2).2).1 rfl rfl rfl (by omega) n4 n2 hu
end Go.Proofs.Ytgpmcpinnaggmaa

namespace Go.Proofs.Ytgpmcpinnaggmaa
set_option linter.unusedSimpArgs false
set_option linter.unusedVariables false
set_option linter.unusedSectionVars false
open Go.RowKit

set_option maxRecDepth 100000 in
set_option maxHeartbeats 4000000 in
theorem noticeReads_true (BA : Option Addr) (bc : Nat) (bs : List Int) (w : World) (sb : Reads w w.heap.size 1 BA bs.length (bcs bs)) (hok : bOK bs) (hcp : bs.length ≤ bc) (hcm : bc ≤ 9223372036854775807) :
    Calls Try.prog 3 #[.slice BA bs.length bc] w (RetB w true) := by
  have TA := hide (fun W => awake8_t W)
  by_cases hbl : bs.length ≤ 5000
  · have hb5 : decide ((5000 : Int) < (bs.length : Int)) = false := decide_eq_false (by omega)
    obtain ⟨y, er, T1, T2⟩ : ∃ (y : Nt) (er : Int), (∀ A c W, Reads W W.heap.size 1 A bs.length (bcs bs) → Calls Try.prog 13 #[.slice A bs.length c] W (RetN W y er)) ∧ (∀ W, Reads W W.heap.size 1 BA bs.length (bcs bs) → Calls Try.prog 14 #[.slice BA bs.length bc] W (RetN W y er)) := by
      have h1 : ∀ A c W, Reads W W.heap.size 1 A bs.length (bcs bs) → Calls Try.prog 13 #[.slice A bs.length c] W (RetDec W (decN bs)) := fun A c W h => decode_s A c bs W h (by omega) hok
      have h2 : ∀ W, Reads W W.heap.size 1 BA bs.length (bcs bs) → Calls Try.prog 14 #[.slice BA bs.length bc] W (RetDec W (decN bs)) := fun W h => rdec_s BA bc bs W h (by omega) hok hcp hcm
      cases hd : decN bs with
      | none => rw [hd] at h1 h2; exact ⟨nt0, 3, h1, h2⟩
      | some y => rw [hd] at h1 h2; exact ⟨y, 0, h1, h2⟩
    have T3 : Hid (∀ W SA sc MA mc UA uc SA' sc' MA' mc' UA' uc', Nt.Ok W (y.at SA sc MA mc UA uc) → Nt.Ok W (y.at SA' sc' MA' mc' UA' uc') → Calls Try.prog 15 #[(y.at SA sc MA mc UA uc).v, (y.at SA' sc' MA' mc' UA' uc').v] W (RetBb W true)) := hide (fun W SA sc MA mc UA uc SA' sc' MA' mc' UA' uc' h h' => by
      have := refNSame_s (y.at SA sc MA mc UA uc) (y.at SA' sc' MA' mc' UA' uc') W h h'
      rw [show Nt.eqB (y.at SA sc MA mc UA uc) (y.at SA' sc' MA' mc' UA' uc') = true by simp [Nt.eqB, Nt.at, eqP, Vw.eqB]] at this; exact this)
    replace T1 := hide T1
    replace T2 := hide T2
    have HSB := hide sb
    obtain ⟨yk, yn, yi, yrd, ycd, ySA, ysc, yst, ⟨yr, yvn, yvi, yMA, ymc, yms, yUA, yuc, yus⟩⟩ := y
    unfold Nt.v at *
    simp only [Nt.at] at *
    clear sb hok
    go_enter Try.func3, Try.ntmps3
    go_wp2_with (at_builtin; refine wpList_append_any _ Try.okB (by rfl) (.tmp 12) (.tmp 13) (by rfl) w.heap.size (.slice (some ⟨w.heap.size, 0, none⟩) 0 0) 0 [] (by rfl) (own_emptyBy w) w.heap.size BA bs.length bc (bcs bs) (by rfl) (Reads.below HSB.out (below_alloc _ _)) (bcs_one _) (by unfold maxLen; omega) (by omega) (by simp) ?_; intro v1 w1 hown1 hg1 hnil1 hat1; obtain ⟨hB, ho1⟩ := app_fresh (Below.refl _ _) hg1 hown1; obtain ⟨A1, c1, rfl, _, _⟩ := own_slice ho1; have HO1 := hide ho1; have T4 := hide (T1.out A1 c1 w1 (Reads.of_own ho1)); clear hown1 hg1 hnil1 hat1 ho1 T1)
    (with_reducible refine T4.out.mono ?_)
    rintro e w2 ⟨S2, s2, M2, m2, U2, u2, rfl, ok2, hb⟩
    simp only [Nt.v, Nt.at] at ok2 ⊢
    have hs1 := hB.size
    replace hB := below_step hB hb
    have hbA := below_alloc w2 (bxN yk yn yi yrd ycd S2 yst.length s2 yr yvn yvi M2 yms.length m2 U2 yus.length u2)
    have p0 := boxTop w2 (csN yk yn yi yrd ycd S2 yst.length s2 yr yvn yvi M2 yms.length m2 U2 yus.length u2) 34
    replace hB := below_step hB hbA
    have HO2 := hide (own_below (own_below HO1.out hb (Nat.le_refl _)) hbA (Nat.le_refl _))
    have OK2 := hide (ok2.step hbA)
    have T5 := hide (T2.out _ ((HSB.out.below hB).more hB.size))
    clear hb hbA ok2 T4 T2 HO1
    go_wp2_with fail
    (with_reducible refine T5.out.mono ?_)
    rintro e w3 ⟨S3, s3, M3, m3, U3, u3, rfl, ok3, hb⟩
    simp only [Nt.v, Nt.at] at ok3 ⊢
    replace hB := below_step hB hb
    replace p0 := p0.step hb
    have hbA := below_alloc w3 (bxN yk yn yi yrd ycd S3 yst.length s3 yr yvn yvi M3 yms.length m3 U3 yus.length u3)
    replace hB := below_step hB hbA
    replace p0 := p0.step hbA
    haveI := p0
    have HO3 := hide (own_below (own_below HO2.out hb (Nat.le_refl _)) hbA (Nat.le_refl _))
    have T6 := hide (T3.out _ S2 s2 M2 m2 U2 u2 S3 s3 M3 m3 U3 u3 ((OK2.out.step hb).step hbA) (ok3.step hbA))
    clear hb hbA ok3 T5 T3 HO2 OK2
    go_wp2_with fail
    (with_reducible refine T6.out.mono ?_)
    rintro e w4 ⟨rfl, hb⟩
    replace hB := below_step hB hb
    have HO4 := hide (own_below HO3.out hb (Nat.le_refl _))
    have hcv := conv_reads (c := c1) (Reads.of_own HO4.out)
    have hcv2 := conv_reads (c := bc) (HSB.out.below hB)
    have e1 : (er == er) = true := by simp
    clear hb T6 HO3 p0
    go_wp2_with fail
    (with_reducible refine (TA.out _).mono ?_)
    rintro e w7 ⟨rfl, hb⟩
    replace hB := below_step hB hb
    clear hb
    go_wp2
    go_ret
    exact ⟨rfl, hB⟩
  · have hb5 : decide ((5000 : Int) < (bs.length : Int)) = true := decide_eq_true (by omega)
    clear sb hok hbl
    go_enter Try.func3, Try.ntmps3
    go_wp2_with fail
    (with_reducible refine (TA.out _).mono ?_)
    rintro e w3 ⟨rfl, hb⟩
    obtain ⟨⟨d3, os3⟩, rfl⟩ := gw_of_below hb
    clear hb
    go_wp2
    go_ret
    exact ⟨rfl, (by repeat (first | exact Below.refl _ _ | assumption | refine bel_al ?_ _ | refine bel_gw ?_ _ _ | refine bel_drew ?_ | refine bel_drewN ?_ _))⟩
end Go.Proofs.Ytgpmcpinnaggmaa
