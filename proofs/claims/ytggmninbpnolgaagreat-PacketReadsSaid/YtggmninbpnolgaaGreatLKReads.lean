/-
  Layer 6: packets are read: contract: Decode, with the body's row told.
-/
import Derived.Test.YtggmninbpnolgaaGreatPkL
import Derived.Test.YtggmninbpnolgaaGreatOpenK
import Derived.Test.YtggmninbpnolgaaGreatPkA
import Derived.Test.YtggmninbpnolgaaGreatRd6c
import Derived.Test.YtggmninbpnolgaaGreatRd6d
namespace Go.Proofs.YtggmninbpnolgaaGreat
set_option linter.unusedSimpArgs false
set_option linter.unusedVariables false
set_option linter.unusedSectionVars false
open Go.RowKit

/-- a row of bytes of one's own, some of them behind it shared with nobody -/
structure RowF (W : World) (B g n : Nat) : Prop where
  hB : B ≤ g
  bx : ∃ cur fz, W.heap[g]? = some (.cells cur 5 fz) ∧ n ≤ fz.1 ∧ ∀ j, j < n → ∃ u : Int, cur[j]? = some (.int .u8 u)
theorem RowF.below {X W : World} {B g n : Nat} (h : RowF X B g n) (hb : Below X.heap.size X W) : RowF W B g n := by
  obtain ⟨cur, fz, h1, h2, h3⟩ := h.bx
  exact ⟨h.hB, cur, fz, (hb.block g (Array.getElem?_eq_some_iff.1 h1).1).trans h1, h2, h3⟩
theorem RowF.lt {W : World} {B g n : Nat} (h : RowF W B g n) : g < W.heap.size := by
  obtain ⟨cur, fz, h1, _⟩ := h.bx
  exact (Array.getElem?_eq_some_iff.1 h1).1
theorem RowF.cell {W : World} {B g n m : Nat} (h : RowF W B g n) (hm : m < n) : (∃ u : Int, W.cell? ⟨g, m, none⟩ = some (.int .u8 u)) ∧ W.frozen? ⟨g, m, none⟩ = false := by
  obtain ⟨cur, ⟨lo, hi⟩, h1, h2, h3⟩ := h.bx
  obtain ⟨u, hu⟩ := h3 m hm
  simp only at h2
  refine ⟨⟨u, by simp [World.cell?, h1, hu]⟩, ?_⟩
  unfold World.frozen?
  simp only [h1]
  have : decide (lo ≤ m) = false := decide_eq_false (by omega)
  simp [this]
theorem RowF.set {W : World} {B g n m : Nat} (h : RowF W B g n) (y : Int) : RowF (W.setCell ⟨g, m, none⟩ (.int .u8 y)) B g n := by
  obtain ⟨cur, fz, h1, h2, h3⟩ := h.bx
  refine ⟨h.hB, cur.setIfInBounds m (.int .u8 y), fz, by simp [World.setCell, Array.getElem?_modify, h1], h2, fun j hj => ?_⟩
  obtain ⟨u, hu⟩ := h3 j hj
  have hj' := (Array.getElem?_eq_some_iff.1 hu).1
  by_cases e : m = j
  · subst e
    exact ⟨y, by simp [hj']⟩
  · exact ⟨u, by rw [Array.getElem?_setIfInBounds_ne e]; exact hu⟩
theorem RowF.of {W w : World} {B n : Nat} {t : List Int} (h : BlkAt W n (.cells (Lib.bytesCells w 5 (strOfNums t)) 5 ((Lib.bytesCells w 5 (strOfNums t)).size, (Lib.bytesCells w 5 (strOfNums t)).size + 1))) (hB : B ≤ n) : RowF W B n t.length := by
  have hsz : (strOfNums t).data.size = t.length := by simp [strOfNums]
  refine ⟨hB, _, _, h.h, ?_, fun j hj => ?_⟩
  · simp only [Lib.bytesCells, Array.size_append, Array.size_map]; omega
  · refine ⟨_, by unfold Lib.bytesCells; rw [Array.getElem?_append_left (by simpa [hsz] using hj), Array.getElem?_map, Array.getElem?_eq_getElem (by omega)]; rfl⟩
/-- a packet in new memory, and an error's number; its body is a row of one's own -/
def RetPkB (w : World) (x : Pk) (err : Int) (e : Ending) (w' : World) : Prop := ∃ HA hcp BA bcp PA pcp, e = .returned (.tuple #[x.at HA hcp BA bcp PA pcp, .int .i64 err]) ∧ PkIn w' x HA BA PA ∧ Below w.heap.size w w' ∧ (0 < x.bs.length → ∃ g, BA = some ⟨g, 0, none⟩ ∧ RowF w' w.heap.size g x.bs.length)
def RetDecB (w : World) : Option Pk → Ending → World → Prop
  | none => RetPkB w pk0 3
  | some x => RetPkB w x 0
theorem RetDecB.no {w w' : World} (hb : Below w.heap.size w w') : RetDecB w none (.returned (.tuple #[PkV 0 0 0 0 none 0 0 none 0 0 0 0 0 none 0 0, .int .i64 3])) w' := ⟨none, 0, none, 0, none, 0, rfl, pk0_in w', hb, fun h => by simp at h⟩
theorem RetDecB.of {w : World} {o : Option Pk} {e : Ending} {w' : World} (h : RetDecK w o e w') (ho : ∀ x, o = some x → x.bs = []) : RetDecB w o e w' := by
  cases o with
  | none => obtain ⟨HA, hcp, BA, bcp, PA, pcp, h1, h2, h3⟩ := h; exact ⟨HA, hcp, BA, bcp, PA, pcp, h1, h2, h3, fun h => by simp at h⟩
  | some x => obtain ⟨HA, hcp, BA, bcp, PA, pcp, h1, h2, h3⟩ := h; exact ⟨HA, hcp, BA, bcp, PA, pcp, h1, h2, h3, fun h => by rw [ho x rfl] at h; simp at h⟩
set_option maxRecDepth 100000 in
set_option maxHeartbeats 4000000 in
theorem kdec2B (A : Option Addr) (c : Nat) (bs : List Int) (w : World) (hr : Reads w w.heap.size 1 A bs.length (bcs bs)) (hn : bs.length ≤ 900000) (hok : bOK bs) (s : RS) (s1 s2 s3 s4 : RS) (pn pi hp : Int) (l : List Hd) (tx : List Int) (e1 : rGet s = ((pn, pi), s1)) (e2 : rU8 s1 = (hp, s2)) (e3 : rHeads false s2 = (l, s3)) (e4 : rText 320 s3 = (tx, s4)) (hll : l.length ≤ 255) (h3l : s3.1.length ≤ s2.1.length) (hh0 : 0 ≤ hp) (hh1 : hp < 256) (htl : tx.length ≤ 1000000) (h4l : s4.1.length ≤ s3.1.length) (hto : bOK tx) (hu : rU8 (bs, false) = (2, s)) :
    Calls Tryz.prog 12 #[.slice A bs.length c] w (RetDecB w (finK ⟨2, pn, pi, hp, l, tx, 0, 0, 0, []⟩ s4)) := by
  have T1 := hide (newReader_s A c bs _ ((Reads.below hr (below_alloc w (.cells #[.int .i64 0, .int .i64 0, .int .u64 0, .int .i64 0, .slice none 0 0, .slice none 0 0, .int .i64 0, .int .u64 0, .int .u64 0, .slice none 0 0] 31))).more (by simp)) (by omega) hok)
  have hl0 := rU8_len (bs, false)
  have T2 : Hid (∀ g B W, Rds W g B bs false → Calls Tryz.prog 27 #[.pointer (some ⟨g, 0, none⟩)] W (RetR g B W (.int .u8 2) s)) := hide (fun g B W h => by
    have := u8R_s g B (bs, false) W h
    rw [hu] at this; exact this)
  have hrg := rU8_range (s := (bs, false)) hok
  rw [hu] at hl0 hrg
  simp only at hl0 hrg
  obtain ⟨hrg0, hrg1⟩ := hrg
  have hl1 := rGet_len s
  have hl2 := rU8_len s1
  rw [e1] at hl1
  rw [e2] at hl2
  simp only at hl1 hl2
  have TP := hide (fun g B W (h : Rds W g B s.1 s.2) => getP_s g B s W h (by omega))
  have TU := hide (fun g B W (h : Rds W g B s1.1 s1.2) => u8R_s g B s1 W h)
  have TL := hide (fun g B W (h : Rds W g B s2.1 s2.2) => heads_r_false g B s2 W h (by omega))
  rw [e1] at TP
  rw [e2] at TU
  rw [e3] at TL
  have TX : Hid (∀ g B W, Rds W g B s3.1 s3.2 → Calls Tryz.prog 32 #[.pointer (some ⟨g, 0, none⟩), .int .i64 320] W (RetTx g B W (rText 320 s3))) := hide (fun g B W h => textR_s g B 320 s3 W h (by omega) (by omega))
  rw [e4] at TX
  unfold RetTx at TX
  have HTO := hide hto
  simp only at TP TU TL TX
  clear hr hok hu e1 e2 e3 e4 hto
  go_enter Tryz.func12, Tryz.ntmps12
  go_wp2_with fail
  with_reducible refine T1.out.mono ?_
  rintro e w1 ⟨g, rfl, hg, hR1, hb1⟩
  haveI : Stp _ w1 := ⟨hb1⟩
  haveI : Rdc w1 g w1.heap.size (bs, false) := ⟨hR1⟩
  simp only [World.size_alloc] at hg
  have hgt := hR1.top
  haveI : LtN w.heap.size g := ⟨hg⟩
  haveI : LeN w.heap.size g := ⟨by omega⟩
  haveI : LtN g w1.heap.size := ⟨hgt⟩
  haveI : LeN w.heap.size w1.heap.size := ⟨by omega⟩
  clear hR1 hb1 T1
  go_wp2_with fail
  (with_reducible refine (T2.out _ _ _ (Rdc.h (s := (bs, false)))).mono ?_)
  rintro e w2 ⟨rfl, hR, hG⟩
  haveI : StpG _ _ w2 := ⟨hG⟩
  haveI : Rdc w2 g w1.heap.size s := ⟨hR⟩
  have hz2 : w1.heap.size ≤ w2.heap.size := hG.size
  clear hR hG
  haveI : LeN w1.heap.size w2.heap.size := ⟨hz2⟩
  haveI : LtN g w2.heap.size := ⟨by omega⟩
  haveI : LtN w.heap.size w2.heap.size := ⟨by omega⟩
  haveI : LeN w.heap.size w2.heap.size := ⟨by omega⟩
  clear T2
  go_wp2_with fail
  (with_reducible refine (TP.out _ _ _ Rdc.h).mono ?_)
  rintro e w3 ⟨rfl, hR, hG⟩
  haveI : StpG _ _ w3 := ⟨hG⟩
  haveI : Rdc w3 g w1.heap.size s1 := ⟨hR⟩
  clear hR hG
  go_wp2_with fail
  (with_reducible refine (TU.out _ _ _ Rdc.h).mono ?_)
  rintro e w4 ⟨rfl, hR, hG⟩
  haveI : StpG _ _ w4 := ⟨hG⟩
  haveI : Rdc w4 g w1.heap.size s2 := ⟨hR⟩
  clear hR hG
  go_wp2_with fail
  (with_reducible refine (TL.out _ _ _ Rdc.h).mono ?_)
  rintro e w5 ⟨v5, rfl, ho, hR, hG⟩
  haveI : StpG _ _ w5 := ⟨hG⟩
  haveI : Rdc w5 g w1.heap.size s3 := ⟨hR⟩
  obtain ⟨A5, c5, rfl, _, _⟩ := own_slice ho
  have HO := hide (own_base (base' := w2.heap.size + 1) ho (BoxAt.lt (n := w2.heap.size) inferInstance))
  clear hR hG ho TP TU TL
  go_wp2_with fail
  (with_reducible refine (TX.out _ _ _ Rdc.h).mono ?_)
  rintro e w6 ⟨rfl, hR, hG⟩
  have hz6 : w2.heap.size < w6.heap.size := by
    have : w2.heap.size < w6.heap.size := Nat.lt_of_lt_of_le (BoxAt.lt (n := w2.heap.size) inferInstance) hG.size
    exact this
  haveI : StpG _ _ w6 := ⟨hG⟩
  haveI : Rdc w6 g w1.heap.size s4 := ⟨hR⟩
  haveI : LtN w2.heap.size w6.heap.size := ⟨hz6⟩
  haveI : LtN g w6.heap.size := ⟨by omega⟩
  haveI : LtN w.heap.size w6.heap.size := ⟨by omega⟩
  haveI : LeN w.heap.size w6.heap.size := ⟨by omega⟩
  haveI := bytesW_blk w6 tx
  clear hR hG TX
  have T8 := hide (fun W (hW : Rds W g w1.heap.size s4.1 s4.2) => endR_s g w1.heap.size s4 W hW (by omega))
  have key : (s4.2 = true ∨ 0 < s4.1.length) ∨ (¬ (s4.2 = true ∨ 0 < s4.1.length) ∧ Pk.mayB ⟨2, pn, pi, hp, l, tx, 0, 0, 0, []⟩ = false) ∨ (¬ (s4.2 = true ∨ 0 < s4.1.length) ∧ Pk.mayB ⟨2, pn, pi, hp, l, tx, 0, 0, 0, []⟩ = true) := by
    by_cases h : s4.2 = true ∨ 0 < s4.1.length
    · exact .inl h
    · cases h2 : Pk.mayB ⟨2, pn, pi, hp, l, tx, 0, 0, 0, []⟩
      · exact .inr (.inl ⟨h, rfl⟩)
      · exact .inr (.inr ⟨h, rfl⟩)
  have TM := hide (fun W (h : Reads W W.heap.size 4 A5 l.length (hcs l)) (hq : Sl W none []) => kmay_s 2 pn pi hp A5 c5 l (some ⟨w6.heap.size, 0, none⟩) (capB w6 tx) tx 0 0 0 none 0 [] W h hq (by omega) (by omega) (by simp))
  simp only [List.length_nil] at TM
  rcases key with hk1 | ⟨hk1, hk2⟩ | ⟨hk1, hk2⟩
  · rw [if_pos hk1] at T8
    have HF : Hid (finK ⟨2, pn, pi, hp, l, tx, 0, 0, 0, []⟩ s4 = none) := hide (if_pos hk1)
    clear hk1 TM
    go_wp2_with fail
    with_reducible refine (T8.out _ Rdc.h).mono ?_
    rintro e w8 ⟨rfl, hR, hG⟩
    haveI : StpG _ _ w8 := ⟨hG⟩
    clear hR hG T8
    go_wp2
    refine bodyPost_ret (v := .tuple #[.agg #[.int .i64 0, .int .i64 0, .int .u64 0, .int .i64 0, .slice none 0 0, .slice none 0 0, .int .i64 0, .int .u64 0, .int .u64 0, .slice none 0 0], .int .i64 3]) (by simp [results, Tryz.results12, go_sem]) rfl ?_
    rw [HF.out]
    exact RetDecB.no blw
  · rw [if_neg hk1] at T8
    have HF : Hid (finK ⟨2, pn, pi, hp, l, tx, 0, 0, 0, []⟩ s4 = none) := hide ((if_neg hk1).trans (if_pos hk2))
    have hk2' : mayKB 2 pn pi hp l tx 0 0 0 [] = false := hk2
    rw [hk2'] at TM
    clear hk1 hk2 hk2'
    go_wp2_with fail
    with_reducible refine (T8.out _ Rdc.h).mono ?_
    rintro e w8 ⟨rfl, hR, hG⟩
    haveI : StpG _ _ w8 := ⟨hG⟩
    clear hR hG T8
    go_wp2_with fail
    (with_reducible refine (TM.out _ (Reads.of_own (own_kp HO.out)) (sl_nil _)).mono ?_)
    rintro e w9 ⟨rfl, hb9⟩
    haveI : Stp _ w9 := ⟨hb9⟩
    clear hb9 TM
    go_wp2
    refine bodyPost_ret (v := .tuple #[.agg #[.int .i64 0, .int .i64 0, .int .u64 0, .int .i64 0, .slice none 0 0, .slice none 0 0, .int .i64 0, .int .u64 0, .int .u64 0, .slice none 0 0], .int .i64 3]) (by simp [results, Tryz.results12, go_sem]) rfl ?_
    rw [HF.out]
    exact RetDecB.no blw
  · rw [if_neg hk1] at T8
    have HF : Hid (finK ⟨2, pn, pi, hp, l, tx, 0, 0, 0, []⟩ s4 = some ⟨2, pn, pi, hp, l, tx, 0, 0, 0, []⟩) := hide ((if_neg hk1).trans (if_neg (by rw [hk2]; simp)))
    have hk2' : mayKB 2 pn pi hp l tx 0 0 0 [] = true := hk2
    rw [hk2'] at TM
    clear hk1 hk2 hk2'
    go_wp2_with fail
    with_reducible refine (T8.out _ Rdc.h).mono ?_
    rintro e w8 ⟨rfl, hR, hG⟩
    haveI : StpG _ _ w8 := ⟨hG⟩
    clear hR hG T8
    go_wp2_with fail
    (with_reducible refine (TM.out _ (Reads.of_own (own_kp HO.out)) (sl_nil _)).mono ?_)
    rintro e w9 ⟨rfl, hb9⟩
    haveI : Stp _ w9 := ⟨hb9⟩
    clear hb9 TM
    go_wp2
    refine bodyPost_ret (v := .tuple #[.agg #[.int .i64 2, .int .i64 pn, .int .u64 pi, .int .i64 hp, .slice A5 l.length c5, .slice (some ⟨w6.heap.size, 0, none⟩) tx.length (capB w6 tx), .int .i64 0, .int .u64 0, .int .u64 0, .slice none 0 0], .int .i64 0]) (by simp [results, Tryz.results12, go_sem]) rfl ?_
    rw [HF.out]
    exact ⟨A5, c5, (some ⟨w6.heap.size, 0, none⟩), (capB w6 tx), none, 0, rfl, ⟨Reads.of_own (own_kp HO.out), bytes_read (W := _) (w := w6) (t := tx) inferInstance HTO.out, Reads.none_, by show l.length ≤ 1000000; omega, by show tx.length ≤ 1000000; omega, by simp⟩, blw, fun _ => ⟨w6.heap.size, rfl, RowF.of (w := w6) (t := tx) inferInstance (LeN.h (a := w.heap.size))⟩⟩
theorem kdecodeB_s (A : Option Addr) (c : Nat) (bs : List Int) (w : World) (hr : Reads w w.heap.size 1 A bs.length (bcs bs)) (hn : bs.length ≤ 900000) (hok : bOK bs) :
    Calls Tryz.prog 12 #[.slice A bs.length c] w (RetDecB w (decK bs)) := by
  by_cases h2 : (rU8 (bs, false)).1 = 2
  · unfold decK
    have b0 := rU8_bk (s := (bs, false)) hok
    have z0 := rU8_len (bs, false)
    generalize hu : rU8 (bs, false) = a at b0 z0 h2
    obtain ⟨k, s⟩ := a
    simp only at b0 z0 h2 ⊢
    have b1 := rGet_bk b0
    have z1 := rGet_len s
    subst h2
    rw [if_neg (by omega)]
    have hr8 := rU8_range b1
    rw [if_pos rfl]
    have l3 := rHeads_len false (rU8_bk b1)
    have l4 := rText_len 320 (rHeads false (rU8 (rGet s).2).2).2
    have z2 := rU8_len (rGet s).2
    exact kdec2B A c bs w hr hn hok s _ _ _ _ _ _ _ _ _ rfl rfl rfl rfl l3.1 l3.2 hr8.1 hr8.2 (by omega) l4.2 (rText_bk 320 (rHeads_bk false (rU8_bk b1))).1 hu
  · refine (kdecode_s A c bs w hr hn hok).mono fun e w' h => RetDecB.of h fun x hx => ?_
    unfold decK at hx
    simp only at hx
    by_cases h1 : (rU8 (bs, false)).1 = 1
    · rw [if_pos h1] at hx
      obtain ⟨_, _, _, rfl⟩ := finK_some hx
      rfl
    · rw [if_neg h1, if_neg h2] at hx
      by_cases h3 : (rU8 (bs, false)).1 = 3
      · rw [if_pos h3] at hx
        obtain ⟨_, _, _, rfl⟩ := finK_some hx
        rfl
      · rw [if_neg h3] at hx; cases hx
end Go.Proofs.YtggmninbpnolgaaGreat

namespace Go.Proofs.YtggmninbpnolgaaGreat
set_option linter.unusedSimpArgs false
set_option linter.unusedVariables false
set_option linter.unusedSectionVars false
open Go.RowKit

theorem rTxI_len (most : Nat) (s : RS) : (rTxI most s).1.length ≤ most := by
  unfold rTxI
  split
  · simp
  · rename_i h
    rw [not_or, not_or] at h
    have h1 := rUint_nonneg s
    simp only [List.length_take]
    omega
theorem rread_s (A : Option Addr) (c : Nat) (bs : List Int) (w : World) (hr : Reads w w.heap.size 1 A bs.length (bcs bs)) (hn : bs.length ≤ 900000) (hok : bOK bs) :
    Calls Tryz.prog 13 #[.slice A bs.length c] w (RetKd w (decK bs)) := by
  rw [← readK_eq hok]
  have hF := rawK_F hok
  unfold readK
  unfold rawK at hF ⊢
  have b0 := rU8_bk (s := (bs, false)) hok
  generalize hu : rU8 (bs, false) = a at b0 hF ⊢
  obtain ⟨kk, s⟩ := a
  simp only at b0 hF ⊢
  have b1 := rGet_bk b0
  by_cases h1 : kk = 1
  · subst h1
    rw [if_pos rfl] at hF ⊢
    exact rread1 A c bs w hr hn hok s _ _ _ _ _ _ _ hu rfl rfl rfl (rGetSet_most' 10 _) hF
  · rw [if_neg h1] at hF ⊢
    have b2 := rU8_bk b1
    have r3 := rU8_range b2
    have e3 : rU8 (rU8 (rGet s).2).2 = ((((rU8 (rU8 (rGet s).2).2).1.toNat : Nat) : Int), (rU8 (rU8 (rGet s).2).2).2) := Prod.ext (Int.toNat_of_nonneg r3.1).symm rfl
    have hl := rHq_len (kk == 3) (rU8 (rU8 (rGet s).2).2).1.toNat (rU8 (rU8 (rGet s).2).2).2 []
    simp only [List.length_nil, Nat.zero_add] at hl
    have hc : (rU8 (rU8 (rGet s).2).2).1.toNat ≤ 255 := by omega
    by_cases h2 : kk = 2
    · subst h2
      rw [if_pos rfl] at hF ⊢
      exact rread2 A c bs w hr hn hok s _ _ _ _ _ _ _ _ _ _ _ hu rfl rfl e3 hc rfl rfl (rTxI_len 320 _) (Nat.le_trans hl hc) hF
    · rw [if_neg h2] at hF ⊢
      by_cases h3 : kk = 3
      · subst h3
        exact rread3 A c bs w hr hn hok s _ _ _ _ _ _ _ _ _ hu rfl rfl e3 hc rfl (Nat.le_trans hl hc) hF
      · rw [show (kk == 3) = false by simpa using h3] at hF hl ⊢
        exact rreadk A c bs w hr hn hok s _ _ _ _ kk _ _ _ _ _ hu h1 h2 h3 rfl rfl e3 hc rfl (Nat.le_trans hl hc) hF
set_option maxRecDepth 100000 in
set_option maxHeartbeats 4000000 in
theorem packetReadsG (A : Option Addr) (c : Nat) (bs : List Int) (w : World) (h : Reads w w.heap.size 1 A bs.length (bcs bs)) (hok : bOK bs) (hl : bs.length ≤ 65536) (y : Pk) (err : Int) (ok : Bool) (hy : bOK y.bs)
    (hd : ∀ A c W, Reads W W.heap.size 1 A bs.length (bcs bs) → Calls Tryz.prog 12 #[.slice A bs.length c] W (RetPkB W y err)) (hq : ∀ A c W, Reads W W.heap.size 1 A bs.length (bcs bs) → Calls Tryz.prog 13 #[.slice A bs.length c] W (RetKp W y ok))
    (he : (err = 0 ∧ ok = true) ∨ (err = 3 ∧ ok = false)) :
    Calls Tryz.prog 4 #[.slice A bs.length c] w (RetB w true) := by
  have TA := hide (fun W => awake6_t W)
  have TD := hide hd
  have TR := hide hq
  have l1 : decide (65536 < (bs.length : Int)) = false := decide_eq_false (by omega)
  have TS := hide (fun W HA hcp BA bcp PA pcp HA' hcp' BA' bcp' PA' pcp' (h : PkIn W y HA BA PA) (h' : PkIn W y HA' BA' PA') => ksameP_s y y HA hcp BA bcp PA pcp HA' hcp' BA' bcp' PA' pcp' W h h' hy hy true (by simp))
  have HOKB := hide hok
  haveI : Src w A bs.length 1 (bcs bs) := ⟨h⟩
  obtain ⟨k, n, i, hp, hs, bo, an, ai, sq, ps⟩ := y
  simp only [RetPkB, RetKp, Pk.at] at TD TR TS
  clear h hok hy hd hq
  go_enter Tryz.func4, Tryz.ntmps4
  go_wp2_with fail
  (with_reducible refine (TD.out _ _ _ src).mono ?_)
  rintro e w1 ⟨HA, hcp, BA, bcp, PA, pcp, rfl, hin, hb, hrow⟩
  haveI : Stp _ w1 := ⟨hb⟩
  have HIN := hide hin
  have hbl : bo.length ≤ 1000000 := hin.bl
  obtain ⟨g, hg⟩ : ∃ g, 0 < bo.length → (BA = some ⟨g, 0, none⟩ ∧ RowF w1 w.heap.size g bo.length ∧ g < w1.heap.size) := by
    by_cases h0 : 0 < bo.length
    · obtain ⟨g, g1, g2⟩ := hrow h0
      exact ⟨g, fun _ => ⟨g1, g2, g2.lt⟩⟩
    · exact ⟨0, fun h => absurd h h0⟩
  have HG := hide hg
  clear hb TD hin hrow hg
  go_wp2_with fail
  obtain ⟨W1, hW⟩ : ∃ W, W = w1.alloc (.cells (csK k n i hp HA hs.length hcp BA bo.length bcp an ai sq PA ps.length pcp) 31) := ⟨_, rfl⟩
  rw [← hW]
  haveI : Stp w1 W1 := ⟨by rw [hW]; exact below_alloc _ _⟩
  haveI : BoxAt W1 w1.heap.size (csK k n i hp HA hs.length hcp BA bo.length bcp an ai sq PA ps.length pcp) 31 := by rw [hW]; infer_instance
  have hz1 : W1.heap.size = w1.heap.size + 1 := by rw [hW]; simp
  have hb1 := bytesW_blk W1 bs
  rw [hz1] at hb1
  haveI := hb1
  clear hW
  (with_reducible refine (TR.out _ _ _ (bytes_read (W := _) (w := W1) (t := bs) inferInstance HOKB.out)).mono ?_)
  rintro e w2 ⟨HA2, hcp2, BA2, bcp2, PA2, pcp2, rfl, hin, hb⟩
  haveI : Stp _ w2 := ⟨hb⟩
  have HIN2 := hide hin
  clear hb TR hin hb1
  rcases he with ⟨rfl, rfl⟩ | ⟨rfl, rfl⟩
  all_goals
    go_wp2_with fail
    (with_reducible refine (TS.out _ HA hcp BA bcp PA pcp HA2 hcp2 BA2 bcp2 PA2 pcp2 HIN.out.tc HIN2.out.tc).mono ?_)
    rintro e w3 ⟨rfl, hb⟩
    haveI : Stp _ w3 := ⟨hb⟩
    clear hb TS
    go_wp2_with fail
    go_loopw [8] (fun j wr => ∃ m : Nat, m ≤ bo.length ∧ j = .int .i64 m ∧ Below w.heap.size w wr ∧ BoxAt wr w1.heap.size (csK k n i hp HA hs.length hcp BA bo.length bcp an ai sq PA ps.length pcp) 31 ∧ (0 < bo.length → RowF wr w.heap.size g bo.length)) (fun j _ => bo.length - (intOf j).toNat)
    case atStart => exact ⟨0, Nat.zero_le _, rfl, blw, inferInstance, fun h0 => (HG.out h0).2.1.below blw⟩
    case round =>
      obtain ⟨m, hm, rfl, hB, hbx, hrw⟩ := hrel
      haveI : Blw w wr := ⟨hB⟩
      haveI := hbx
      have HB := hide hB
      clear hB
      by_cases hlt : m < bo.length
      · obtain ⟨hBA, _, hgl⟩ := HG.out (by omega)
        subst hBA
        have R := hrw (by omega)
        obtain ⟨⟨u, hu⟩, hfz⟩ := R.cell hlt
        have HR := hide R
        have i1 : (m : Int) < (bo.length : Int) := by omega
        have i0 : (0 : Int) ≤ (m : Int) := by omega
        haveI : InW g wr := ⟨R.lt⟩
        haveI : NeN w1.heap.size g := ⟨by omega⟩
        clear hrw R
        go_wp2
        go_roundw
        case rel => exact ⟨m + 1, by omega, by go_num, HB.out.setCell (p := ⟨g, m, none⟩) HR.out.hB _, inferInstance, fun _ => HR.out.set _⟩
        case measure => simp [intOf]; omega
      · obtain rfl : m = bo.length := by omega
        clear hrw
        go_wp2_with fail
        (with_reducible refine (TA.out _).mono ?_)
        rintro e w9 ⟨rfl, hb⟩
        haveI : Stp _ w9 := ⟨hb⟩
        clear hb
        go_wp2
        go_ret
        exact ⟨rfl, blw⟩
theorem packetReads_true (A : Option Addr) (c : Nat) (bs : List Int) (w : World) (h : Reads w w.heap.size 1 A bs.length (bcs bs)) (hok : bOK bs) :
    Calls Tryz.prog 4 #[.slice A bs.length c] w (RetB w true) := by
  by_cases hl : bs.length ≤ 65536
  · cases hd : decK bs with
    | none => exact packetReadsG A c bs w h hok hl pk0 3 false bOK.nil (fun A c W hW => by have := kdecodeB_s A c bs W hW (by omega) hok; rw [hd] at this; exact this) (fun A c W hW => by have := rread_s A c bs W hW (by omega) hok; rw [hd] at this; exact this) (.inr ⟨rfl, rfl⟩)
    | some y => exact packetReadsG A c bs w h hok hl y 0 true (decK_inv hok hd).2.2.bs (fun A c W hW => by have := kdecodeB_s A c bs W hW (by omega) hok; rw [hd] at this; exact this) (fun A c W hW => by have := rread_s A c bs W hW (by omega) hok; rw [hd] at this; exact this) (.inl ⟨rfl, rfl⟩)
  · have TA := hide (fun W => awake6_t W)
    have l1 : decide (65536 < (bs.length : Int)) = true := decide_eq_true (by omega)
    clear h hok hl
    go_enter Tryz.func4, Tryz.ntmps4
    go_wp2_with fail
    (with_reducible refine (TA.out _).mono ?_)
    rintro e w3 ⟨rfl, hb⟩
    haveI : Stp _ w3 := ⟨hb⟩
    clear hb
    go_wp2
    go_ret
    exact ⟨rfl, blw⟩
end Go.Proofs.YtggmninbpnolgaaGreat
