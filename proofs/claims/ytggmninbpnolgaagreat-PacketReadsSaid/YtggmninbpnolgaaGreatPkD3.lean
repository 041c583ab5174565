/-
  Layer 6: contract: Decode, whole.
-/
import Derived.Test.YtggmninbpnolgaaGreatPkD2
namespace Go.Proofs.YtggmninbpnolgaaGreat
set_option linter.unusedSimpArgs false
set_option linter.unusedVariables false
set_option linter.unusedSectionVars false
open Go.RowKit

theorem rU8_bk {s : RS} (h : bOK s.1) : bOK (rU8 s).2.1 := by
  obtain ⟨bs, bad⟩ := s
  cases bs with
  | nil => simpa [rU8] using h
  | cons b bs => cases bad <;> simp [rU8] <;> first | exact h | exact fun x hx => h x (List.mem_cons_of_mem _ hx)
theorem rUint_bk {s : RS} (h : bOK s.1) : bOK (rUint s).2.1 := by
  unfold rUint
  split
  · exact h
  · exact h.drop _
theorem rGet_bk {s : RS} (h : bOK s.1) : bOK (rGet s).2.1 := by
  have h2 := rUint_bk (rU8_bk h)
  unfold rGet
  split <;> exact h2
theorem rHd_bk (ack : Bool) {s : RS} (h : bOK s.1) : bOK (rHd ack s).2.1 := by
  have h1 := rUint_bk (rUint_bk (rU8_bk h))
  unfold rHd
  cases ack
  · exact h1
  · exact rUint_bk h1
theorem rHds_bk (ack : Bool) : ∀ (k : Nat) (s : RS) (acc : List Hd), bOK s.1 → bOK (rHds ack k s acc).2.1
  | 0, _, _, h => h
  | k + 1, s, acc, h => by rw [rHds]; exact rHds_bk ack k _ _ (rHd_bk ack h)
theorem rHeads_bk (ack : Bool) {s : RS} (h : bOK s.1) : bOK (rHeads ack s).2.1 := rHds_bk ack _ _ _ (rU8_bk h)
theorem rText_bk (most : Nat) {s : RS} (h : bOK s.1) : bOK (rText most s).1 ∧ bOK (rText most s).2.1 := by
  unfold rText
  split
  · exact ⟨bOK.nil, h⟩
  · exact ⟨fun x hx => h.drop _ x (List.mem_of_mem_take hx), (h.drop _).drop _⟩
theorem rText_len (most : Nat) (s : RS) : (rText most s).1.length ≤ s.1.length ∧ (rText most s).2.1.length ≤ s.1.length := by
  unfold rText
  split
  · simp
  · simp only [List.length_take, List.length_drop]; omega
theorem rLvs_len : ∀ (k : Nat) (s : RS) (acc : List Pr), (rLvs k s acc).1.length = acc.length + k ∧ (rLvs k s acc).2.1.length ≤ s.1.length
  | 0, _, _ => ⟨rfl, Nat.le_refl _⟩
  | k + 1, s, acc => by
    have h1 := rLvs_len k (rGet s).2 (acc ++ [(rGet s).1])
    have h2 := rGet_len s
    rw [rLvs]
    simp only [List.length_append, List.length_singleton] at h1
    omega
theorem rHd_len (ack : Bool) (s : RS) : (rHd ack s).2.1.length ≤ s.1.length := by
  have h1 := rU8_len s
  have h2 := rUint_len (rU8 s).2
  have h3 := rUint_len (rUint (rU8 s).2).2
  have h4 := rUint_len (rUint (rUint (rU8 s).2).2).2
  unfold rHd
  cases ack <;> simp <;> omega
theorem rHds_len (ack : Bool) : ∀ (k : Nat) (s : RS) (acc : List Hd), (rHds ack k s acc).1.length = acc.length + k ∧ (rHds ack k s acc).2.1.length ≤ s.1.length
  | 0, _, _ => ⟨rfl, Nat.le_refl _⟩
  | k + 1, s, acc => by
    have h1 := rHds_len ack k (rHd ack s).2 (acc ++ [(rHd ack s).1])
    have h2 := rHd_len ack s
    rw [rHds]
    simp only [List.length_append, List.length_singleton] at h1
    omega
theorem rLives_len {s : RS} (h : bOK s.1) : (rLives s).1.length ≤ 255 ∧ (rLives s).2.1.length ≤ s.1.length := by
  have h1 := rLvs_len (rU8 s).1.toNat (rU8 s).2 []
  have h2 := rU8_len s
  have h3 := rU8_range h
  simp only [List.length_nil] at h1
  unfold rLives
  omega
theorem rHeads_len (ack : Bool) {s : RS} (h : bOK s.1) : (rHeads ack s).1.length ≤ 255 ∧ (rHeads ack s).2.1.length ≤ s.1.length := by
  have h1 := rHds_len ack (rU8 s).1.toNat (rU8 s).2 []
  have h2 := rU8_len s
  have h3 := rU8_range h
  simp only [List.length_nil] at h1
  unfold rHeads
  omega
set_option maxRecDepth 100000 in
set_option maxHeartbeats 4000000 in
theorem kdecN (A : Option Addr) (c : Nat) (bs : List Int) (w : World) (hr : Reads w w.heap.size 1 A bs.length (bcs bs)) (hn : bs.length ≤ 900000) (hok : bOK bs) (k : Int) (s : RS) (hu : rU8 (bs, false) = (k, s)) (h1 : k ≠ 1) (h2 : k ≠ 2) (h3 : k ≠ 3) :
    Calls Tryz.prog 12 #[.slice A bs.length c] w (RetDecK w none) := by
  have T1 := hide (newReader_s A c bs _ ((Reads.below hr (below_alloc w (.cells #[.int .i64 0, .int .i64 0, .int .u64 0, .int .i64 0, .slice none 0 0, .slice none 0 0, .int .i64 0, .int .u64 0, .int .u64 0, .slice none 0 0] 31))).more (by simp)) (by omega) hok)
  have hl0 := rU8_len (bs, false)
  have T2 : Hid (∀ g B W, Rds W g B bs false → Calls Tryz.prog 27 #[.pointer (some ⟨g, 0, none⟩)] W (RetR g B W (.int .u8 k) s)) := hide (fun g B W h => by
    have := u8R_s g B (bs, false) W h
    rw [hu] at this; exact this)
  have hrg := rU8_range (s := (bs, false)) hok
  rw [hu] at hl0 hrg
  simp only at hl0 hrg
  obtain ⟨hrg0, hrg1⟩ := hrg
  have f1 : (k == 1) = false := by simpa using h1
  have f2 : (k == 2) = false := by simpa using h2
  have f3 : (k == 3) = false := by simpa using h3
  have TM : Hid (∀ W, Calls Tryz.prog 14 #[PkV k 0 0 0 none 0 0 none 0 0 0 0 0 none 0 0] W (RetB W false)) := hide (fun W => by
    have := kmay_s k 0 0 0 none 0 [] none 0 [] 0 0 0 none 0 [] W Reads.none_ (sl_nil W) (by simp) (by simp) (by simp)
    rw [show mayKB k 0 0 0 [] [] 0 0 0 [] = false by unfold mayKB; rw [if_neg h1, if_neg h2, if_neg h3]] at this
    exact this)
  clear hr hok hu h1 h2 h3
  go_enter Tryz.func12, Tryz.ntmps12
  go_wp2_with fail
  with_reducible refine T1.out.mono ?_
  rintro e w1 ⟨g, rfl, hg, hR1, hb1⟩
  haveI : Stp _ w1 := ⟨hb1⟩
  haveI : Rdc w1 g w1.heap.size (bs, false) := ⟨hR1⟩
  simp only [World.size_alloc] at hg
  have hgt := hR1.top
  haveI : LtN w.heap.size g := ⟨hg⟩
  haveI : LeN w.heap.size g := ⟨by omega⟩
  haveI : LtN g w1.heap.size := ⟨hgt⟩
  haveI : LeN w.heap.size w1.heap.size := ⟨by omega⟩
  clear hR1 hb1 T1
  go_wp2_with fail
  (with_reducible refine (T2.out _ _ _ (Rdc.h (s := (bs, false)))).mono ?_)
  rintro e w2 ⟨rfl, hR, hG⟩
  haveI : StpG _ _ w2 := ⟨hG⟩
  haveI : Rdc w2 g w1.heap.size s := ⟨hR⟩
  have hz2 : w1.heap.size ≤ w2.heap.size := hG.size
  clear hR hG
  haveI : LeN w1.heap.size w2.heap.size := ⟨hz2⟩
  haveI : LtN g w2.heap.size := ⟨by omega⟩
  haveI : LtN w.heap.size w2.heap.size := ⟨by omega⟩
  haveI : LeN w.heap.size w2.heap.size := ⟨by omega⟩
  clear T2
  have T8 := hide (fun W (hW : Rds W g w1.heap.size s.1 s.2) => endR_s g w1.heap.size s W hW (by omega))
  by_cases hk1 : s.2 = true ∨ 0 < s.1.length
  · rw [if_pos hk1] at T8
    clear hk1 TM
    go_wp2_with fail
    with_reducible refine (T8.out _ Rdc.h).mono ?_
    rintro e w8 ⟨rfl, hR, hG⟩
    haveI : StpG _ _ w8 := ⟨hG⟩
    clear hR hG T8
    go_wp2
    refine bodyPost_ret (v := .tuple #[PkV 0 0 0 0 none 0 0 none 0 0 0 0 0 none 0 0, .int .i64 3]) (by simp [results, Tryz.results12, go_sem]) rfl ?_
    exact RetDecK.no blw
  · rw [if_neg hk1] at T8
    clear hk1
    go_wp2_with fail
    with_reducible refine (T8.out _ Rdc.h).mono ?_
    rintro e w8 ⟨rfl, hR, hG⟩
    haveI : StpG _ _ w8 := ⟨hG⟩
    clear hR hG T8
    go_wp2_with fail
    (with_reducible refine (TM.out _).mono ?_)
    rintro e w9 ⟨rfl, hb9⟩
    haveI : Stp _ w9 := ⟨hb9⟩
    clear hb9 TM
    go_wp2
    refine bodyPost_ret (v := .tuple #[PkV 0 0 0 0 none 0 0 none 0 0 0 0 0 none 0 0, .int .i64 3]) (by simp [results, Tryz.results12, go_sem]) rfl ?_
    exact RetDecK.no blw
theorem kdecode_s (A : Option Addr) (c : Nat) (bs : List Int) (w : World) (hr : Reads w w.heap.size 1 A bs.length (bcs bs)) (hn : bs.length ≤ 900000) (hok : bOK bs) :
    Calls Tryz.prog 12 #[.slice A bs.length c] w (RetDecK w (decK bs)) := by
  unfold decK
  have b0 := rU8_bk (s := (bs, false)) hok
  have z0 := rU8_len (bs, false)
  generalize hu : rU8 (bs, false) = a at b0 z0
  obtain ⟨k, s⟩ := a
  simp only at b0 z0 ⊢
  have b1 := rGet_bk b0
  have z1 := rGet_len s
  by_cases h1 : k = 1
  · subst h1
    rw [if_pos rfl]
    have l3 := rLives_len (rUint_bk b1)
    exact kdec1 A c bs w hr hn hok s _ _ _ _ _ _ _ rfl rfl rfl l3.1 l3.2 hu
  · rw [if_neg h1]
    have hr8 := rU8_range b1
    by_cases h2 : k = 2
    · subst h2
      rw [if_pos rfl]
      have l3 := rHeads_len false (rU8_bk b1)
      have l4 := rText_len 320 (rHeads false (rU8 (rGet s).2).2).2
      have z2 := rU8_len (rGet s).2
      exact kdec2 A c bs w hr hn hok s _ _ _ _ _ _ _ _ _ rfl rfl rfl rfl l3.1 l3.2 hr8.1 hr8.2 (by omega) l4.2 (rText_bk 320 (rHeads_bk false (rU8_bk b1))).1 hu
    · rw [if_neg h2]
      by_cases h3 : k = 3
      · subst h3
        rw [if_pos rfl]
        have l3 := rHeads_len true (rU8_bk b1)
        exact kdec3 A c bs w hr hn hok s _ _ _ _ _ _ _ rfl rfl rfl l3.1 l3.2 hr8.1 hr8.2 hu
      · rw [if_neg h3]
        exact kdecN A c bs w hr hn hok k s hu h1 h2 h3
end Go.Proofs.YtggmninbpnolgaaGreat
