/-
  The reference's reader: contracts: its Uint, Proc.
-/
import Derived.Test.YtgpmcpinnaggmaaIn
import Derived.Test.YtgpmcpinnaggmaaHas
namespace Go.Proofs.Ytgpmcpinnaggmaa
set_option linter.unusedSimpArgs false
set_option linter.unusedVariables false
set_option linter.unusedSectionVars false
open Go.RowKit

theorem rU8_drop {l : List Int} {k : Nat} {c : Int} (h : l[k]? = some c) : rU8 (l.drop k, false) = (c, (l.drop (k + 1), false)) := by
  obtain ⟨hk, rfl⟩ := List.getElem?_eq_some_iff.1 h
  rw [List.drop_eq_getElem_cons hk]; rfl
theorem rUint_of (bs : List Int) (x : Int) (n : Nat) (h : numGo 0 0 bs = (x, n)) (hn : n ≠ 0) : rUint (bs, false) = (x, (bs.drop n, false)) := by
  unfold rUint; simp only [numV, Bool.false_eq_true, if_false, h]; rw [if_neg hn]
theorem rUint_no (bs : List Int) (x : Int) (h : numGo 0 0 bs = (x, 0)) : rUint (bs, false) = (0, (bs, true)) := by
  unfold rUint; simp [numV, h]
theorem addStep {X x : Int} {k : Nat} (hk : k ≤ 9) (h0 : 0 ≤ X) (h1 : X < 128 ^ k) (h9 : k = 9 → x % 128 ≤ 1) : IntKind.u64.wrap (X + IntKind.u64.wrap (x % 128 * 2 ^ (7 * k))) = X + x % 128 * 128 ^ k := by
  have e : (2 : Int) ^ (7 * k) = 128 ^ k := by rw [Int.pow_mul]; rfl
  rw [e]
  have hp : (0 : Int) ≤ 128 ^ k := Int.pow_nonneg (by omega)
  have key : x % 128 * 128 ^ k < 2 ^ 64 ∧ X + x % 128 * 128 ^ k < 2 ^ 64 := by
    rcases Nat.lt_or_ge k 9 with h9' | h9'
    · have : (128 : Int) ^ k ≤ 128 ^ 8 := by
        have e : (128 : Nat) ^ k ≤ 128 ^ 8 := Nat.pow_le_pow_right (by omega) (by omega)
        exact_mod_cast e
      have h3 : x % 128 * 128 ^ k ≤ 127 * 128 ^ 8 := Int.mul_le_mul (by omega) this hp (by omega)
      have : (127 : Int) * 128 ^ 8 + 128 ^ 8 < 2 ^ 64 := by decide
      omega
    · obtain rfl : k = 9 := by omega
      have h3 : x % 128 * (128 : Int) ^ 9 ≤ 1 * 128 ^ 9 := Int.mul_le_mul_of_nonneg_right (h9 rfl) (by decide)
      have : (1 : Int) * 128 ^ 9 + 128 ^ 9 ≤ 2 ^ 64 := by decide
      omega
  have hnn := Int.mul_nonneg (show 0 ≤ x % 128 by omega) hp
  rw [IntWalk.u64_in _ ⟨hnn, by omega⟩, IntWalk.u64_in _ ⟨by omega, by omega⟩]
set_option maxRecDepth 100000 in
set_option maxHeartbeats 2000000 in
theorem uintI_s (g B : Nat) (s : RS) (w : World) (h : RI w g B s) : Calls Try.prog 52 #[.pointer (some ⟨g, 0, none⟩)] w (RetJ g B w (.int .u64 (rUint s).1) (rUint s).2) := by
  obtain ⟨bs, bad⟩ := s
  cases bad
  · have hok := h.ok rfl
    have hlen := h.len rfl
    simp only at hok hlen
    have HK := hide hok
    go_enter Try.func52, Try.ntmps52
    go_wp2
    go_loopw [3, 4] (fun x i wr => ∃ (k : Nat) (X : Int), k ≤ bs.length ∧ k ≤ 9 ∧ i = .int .i64 k ∧ x = .int .u64 X ∧ 0 ≤ X ∧ X < 128 ^ k ∧ numGo 0 0 bs = numGo k X (bs.drop k) ∧ RI wr g B (bs.drop k, false) ∧ w.grownBy wr (some g)) (fun _ i _ => 10 - (intOf i).toNat)
    case atStart => exact ⟨0, 0, Nat.zero_le _, by omega, rfl, rfl, by omega, by omega, rfl, h, grown_refl _ _⟩
    case round =>
      obtain ⟨k, X, hk, hk9, rfl, rfl, hX0, hX1, hnum, hR, hG⟩ := hrel
      have HX1 := hide hX1
      have HN := hide hnum
      have HG := hide hG
      have T := hide (u8I_s g B (bs.drop k, false) wr hR)
      clear hnum hX1 h hR hG hok
      by_cases hlt : k < bs.length
      · have hx : bs[k]? = some bs[k] := List.getElem?_eq_getElem hlt
        generalize bs[k] = x at hx
        obtain ⟨hx0, hx1⟩ := HK.out.get hx
        have HS := hide (numGo_step (X := X) hx)
        have hwx : IntKind.u64.wrap x = x := IntWalk.u64_in _ ⟨by omega, by omega⟩
        rw [rU8_drop hx] at T
        simp only at T
        clear hx
        by_cases hA : k = 9 ∧ 1 < x
        · have HZ := hide (rUint_no bs 0 (by rw [HN.out, HS.out, if_pos hA]))
          obtain ⟨rfl, h1x⟩ := hA
          clear HN HS HX1
          go_wp2_with fail
          with_reducible refine T.out.mono ?_
          rintro e w1 ⟨rfl, hR1, hG1⟩
          have HF := hide (hR1.fail bs)
          have HG1 := hide (grown_trans (grown_trans HG.out hG1) (grown_setCell w1 g 1 (.bool true)))
          obtain ⟨v1, hbx⟩ := hR1.box
          simp only at hbx
          haveI := hbx
          clear hR1 hG1 T
          go_wp2
          go_ret
          rw [HZ.out]
          exact ⟨rfl, HF.out, HG1.out⟩
        · replace HS := hide (HS.out.trans (if_neg hA))
          have hst := hide (addStep (x := x) hk9 hX0 HX1.out (by omega))
          have hA1 : (k : Int) = 9 → x ≤ 1 := by omega
          by_cases h128 : x < 128
          · replace HS := hide (HS.out.trans (if_pos h128))
            by_cases hz : x = 0 ∧ 0 < k
            · have HZ := hide (rUint_no bs 0 (by rw [HN.out, HS.out, if_pos hz]))
              obtain ⟨rfl, hk0⟩ := hz
              clear HN HS HX1 hA
              go_wp2_with fail
              with_reducible refine T.out.mono ?_
              rintro e w1 ⟨rfl, hR1, hG1⟩
              have HF := hide (hR1.fail bs)
              have HG1 := hide (grown_trans (grown_trans HG.out hG1) (grown_setCell w1 g 1 (.bool true)))
              obtain ⟨v1, hbx⟩ := hR1.box
              simp only at hbx
              haveI := hbx
              clear hR1 hG1 T
              go_wp2
              all_goals
                go_ret
                rw [HZ.out]
                exact ⟨rfl, HF.out, HG1.out⟩
            · have HZ := hide (rUint_of bs _ (k + 1) (by rw [HN.out, HS.out, if_neg hz]) (by omega))
              have hXz : k = 0 → X = 0 := fun h => by have := HX1.out; rw [h] at this; simp at this; omega
              clear HN HS HX1
              go_wp2_with fail
              with_reducible refine T.out.mono ?_
              rintro e w1 ⟨rfl, hR1, hG1⟩
              have HF := hide hR1
              have HG1 := hide (grown_trans HG.out hG1)
              obtain ⟨v1, hbx⟩ := hR1.box
              simp only at hbx
              haveI := hbx
              clear hR1 hG1 T hA
              by_cases hx00 : x = 0
              · obtain rfl : k = 0 := by omega
                subst hx00
                obtain rfl := hXz rfl
                clear hXz hst
                go_wp2
                go_ret
                rw [HZ.out]
                exact ⟨ret_i rfl, HF.out, HG1.out⟩
              · have hxb : (x == 0) = false := by simp [hx00]
                by_cases hk90 : k = 9
                · subst hk90
                  obtain rfl : x = 1 := by omega
                  have hst1 : IntKind.u64.wrap (X + 9223372036854775808) = X + 1 % 128 * 128 ^ 9 := by
                    have := hst.out
                    rw [show IntKind.u64.wrap (1 % 128 * 2 ^ (7 * 9)) = 9223372036854775808 by decide] at this
                    exact this
                  have HST1 := hide hst1
                  clear hst1 hst hXz
                  go_wp2
                  go_ret
                  rw [HZ.out]
                  exact ⟨ret_i HST1.out, HF.out, HG1.out⟩
                · have hkb : ((k : Int) == 9) = false := by simp; omega
                  clear hXz
                  go_wp2
                  go_ret
                  rw [HZ.out]
                  exact ⟨ret_i hst.out, HF.out, HG1.out⟩
          · replace HS := hide (HS.out.trans (if_neg h128))
            have hge : ¬ x < 128 := h128
            have h9 : ¬ (k : Int) = 9 := by omega
            have h9' : ((k : Int) == 9) = false := by simp; omega
            clear hA
            go_wp2_with fail
            with_reducible refine T.out.mono ?_
            rintro e w1 ⟨rfl, hR1, hG1⟩
            have HF := hide hR1
            have HG1 := hide (grown_trans HG.out hG1)
            obtain ⟨v1, hbx⟩ := hR1.box
            simp only at hbx
            haveI := hbx
            clear hR1 hG1 T
            go_wp2
            exact ⟨⟨k + 1, X + x % 128 * 128 ^ k, by omega, by omega, by go_num, by rw [hst.out], (pow_next hX0 HX1.out).1, (pow_next hX0 HX1.out).2, HN.out.trans HS.out, HF.out, HG1.out⟩, by simp [intOf]; omega⟩
      · obtain rfl : k = bs.length := by omega
        have HZ := hide (rUint_no bs 0 (by rw [HN.out, List.drop_length]; rfl))
        rw [List.drop_length] at T
        have e0 : rU8 ([], false) = (0, ([], true)) := rfl
        rw [e0] at T
        simp only at T
        clear HN
        go_wp2_with fail
        with_reducible refine T.out.mono ?_
        rintro e w1 ⟨rfl, hR1, hG1⟩
        obtain ⟨v1, hbx⟩ := hR1.box
        simp only at hbx
        haveI := hbx
        have HF := hide (RI.any (s := ([], true)) hR1 bs)
        have HG1 := hide (grown_trans HG.out hG1)
        clear hR1 hG1 T
        go_wp2
        go_ret
        rw [HZ.out]
        exact ⟨rfl, HF.out, HG1.out⟩
  · have T := hide (u8I_s g B (bs, true) w h)
    have e0 : rU8 (bs, true) = (0, (bs, true)) := by cases bs <;> rfl
    have e1 : rUint (bs, true) = (0, (bs, true)) := by unfold rUint; simp [numV]
    rw [e0] at T
    rw [e1]
    simp only at T ⊢
    clear h e0 e1
    go_enter Try.func52, Try.ntmps52
    go_wp2
    refine wp_loop_rounds 1 ?_
    rw [rounds_succ]
    go_wp2_with fail
    with_reducible refine T.out.mono ?_
    rintro e w1 ⟨rfl, hR1, hG1⟩
    obtain ⟨v1, hbx⟩ := hR1.box
    simp only at hbx
    haveI := hbx
    have HF := hide hR1
    have HG1 := hide hG1
    clear hR1 hG1 T
    go_wp2
    go_ret
    exact ⟨rfl, HF.out, HG1.out⟩
theorem numGo_nonneg : ∀ (bs : List Int) (i : Nat) (X : Int), 0 ≤ X → 0 ≤ (numGo i X bs).1 := by
  intro bs
  induction bs with
  | nil => intro i X _; simp [numGo]
  | cons c cs ih =>
    intro i X hX
    have hp : (0 : Int) ≤ 128 ^ i := Int.pow_nonneg (by omega)
    have hn : 0 ≤ c % 128 * 128 ^ i := Int.mul_nonneg (by omega) hp
    rw [numGo]
    split
    · simp
    · split
      · split
        · simp
        · simp only; omega
      · exact ih _ _ (by omega)
theorem rUint_nonneg (s : RS) : 0 ≤ (rUint s).1 := by
  unfold rUint
  split
  · simp
  · unfold numV
    split
    · simp
    · exact numGo_nonneg _ _ _ (by omega)
/-- the whole of its step: the lower world, what it has read -/
theorem rstI {W w' : World} {g B : Nat} {s : RS} (f : World → World) (hf : Lays f) (h : (f W).grownBy w' (some g)) (hr : RI w' g B s) (hB : B ≤ W.heap.size) :
    ∃ (W' : World) (p : GW), W'.heap.size = W.heap.size ∧ W.grownBy W' (some g) ∧ w' = gw (f W') p.d p.os ∧ RI W' g B s := by
  have hg : g < W.heap.size := Nat.lt_of_lt_of_le hr.top hB
  obtain ⟨W', p, h1, h2, h3, h4⟩ := rst f hf h hg
  exact ⟨W', p, h1, h2, h3, hr.keepB (fun k hk => h4 k (by omega)) (by omega)⟩
set_option maxRecDepth 100000 in
set_option maxHeartbeats 1000000 in
theorem procI_s (g B : Nat) (s : RS) (w : World) (h : RI w g B s) :
    Calls Try.prog 51 #[.pointer (some ⟨g, 0, none⟩)] w (RetJ g B w (.agg #[.int .i64 (rGet s).1.1, .int .u64 (rGet s).1.2]) (rGet s).2) := by
  have hle := h.le
  have htop := h.top
  have T1 := hide (u8I_s g B s _ (h.step (below_alloc w (bx 0 0))))
  have T2 := hide (fun W (hW : RI W g B (rU8 s).2) => uintI_s g B (rU8 s).2 W hW)
  have hx2 : 0 ≤ (rUint (rU8 s).2).1 := rUint_nonneg _
  have hGet : rGet s = if (rUint (rU8 s).2).2.2 = true ∨ mayB (rU8 s).1 (rUint (rU8 s).2).1 = false then ((0, 0), ((rUint (rU8 s).2).2.1, true)) else (((rU8 s).1, (rUint (rU8 s).2).1), (rUint (rU8 s).2).2) := rfl
  rw [hGet]
  clear hGet h
  generalize rU8 s = r1 at T1 T2 hx2 ⊢
  obtain ⟨x1, s1⟩ := r1
  simp only at T1 T2 hx2 ⊢
  generalize rUint s1 = r2 at T2 hx2 ⊢
  obtain ⟨x2, bs2, bad2⟩ := r2
  simp only at T2 hx2 ⊢
  have T4 := hide (fun W => refMay_b x1 x2 W hx2)
  have key : bad2 = true ∨ (bad2 = false ∧ mayB x1 x2 = false) ∨ (bad2 = false ∧ mayB x1 x2 = true) := by
    cases bad2 <;> cases mayB x1 x2 <;> simp
  rcases key with rfl | ⟨rfl, hm⟩ | ⟨rfl, hm⟩
  · rw [if_pos (.inl rfl)]
    clear T4
    go_enter Try.func51, Try.ntmps51
    go_wp2_with fail
    (with_reducible refine T1.out.mono ?_)
    rintro e wx ⟨rfl, hR, hG⟩
    obtain ⟨W1, ⟨d1, os1⟩, hs1, hg1, rfl, hR1⟩ := rstI (W := w) (fun W => W.alloc (bx 0 0)) (by repeat (first | exact Lays.id | refine Lays.alloc ?_ _ | refine Lays.gw ?_ _ _)) hG hR (by omega)
    dsimp only
    haveI : Sz W1 w.heap.size := ⟨hs1⟩
    clear hR hG
    go_wp2_with fail
    (with_reducible refine (T2.out _ (hR1.step (by repeat (first | exact Below.refl _ _ | assumption | refine bel_al ?_ _ | refine bel_gw ?_ _ _ | refine bel_drew ?_ | refine bel_drewN ?_ _)))).mono ?_)
    rintro e wx ⟨rfl, hR, hG⟩
    obtain ⟨W2, ⟨d2, os2⟩, hs2, hg2, rfl, hR2⟩ := rstI (W := W1) (fun W => gw (W.alloc (bx 0 0)) d1 os1) (by repeat (first | exact Lays.id | refine Lays.alloc ?_ _ | refine Lays.gw ?_ _ _)) hG hR (by omega)
    dsimp only
    replace hg2 := grown_trans hg1 hg2
    replace hs2 := hs2.trans hs1
    haveI : Sz W2 w.heap.size := ⟨hs2⟩
    clear hR hG hR1 hs1 hg1
    obtain ⟨v2, hbx⟩ := hR2.box
    simp only at hbx
    haveI := hbx
    have hF := hR2.fail bs2
    have hgF := grown_trans hg2 (grown_setCell W2 g 1 (.bool true))
    go_wp2
    refine bodyPost_ret (v := .agg #[.int .i64 0, .int .u64 0]) (by simp [results, Try.results51, go_sem]) rfl ?_
    exact ⟨rfl, hF.step (by repeat (first | exact Below.refl _ _ | assumption | refine bel_al ?_ _ | refine bel_gw ?_ _ _ | refine bel_drew ?_ | refine bel_drewN ?_ _)), grown_gw hgF (by repeat (first | exact Below.refl _ _ | assumption | refine bel_al ?_ _ | refine bel_gw ?_ _ _ | refine bel_drew ?_ | refine bel_drewN ?_ _))⟩
  · rw [if_pos (.inr hm)]
    rw [hm] at T4
    clear hm
    go_enter Try.func51, Try.ntmps51
    go_wp2_with fail
    (with_reducible refine T1.out.mono ?_)
    rintro e wx ⟨rfl, hR, hG⟩
    obtain ⟨W1, ⟨d1, os1⟩, hs1, hg1, rfl, hR1⟩ := rstI (W := w) (fun W => W.alloc (bx 0 0)) (by repeat (first | exact Lays.id | refine Lays.alloc ?_ _ | refine Lays.gw ?_ _ _)) hG hR (by omega)
    dsimp only
    haveI : Sz W1 w.heap.size := ⟨hs1⟩
    clear hR hG
    go_wp2_with fail
    (with_reducible refine (T2.out _ (hR1.step (by repeat (first | exact Below.refl _ _ | assumption | refine bel_al ?_ _ | refine bel_gw ?_ _ _ | refine bel_drew ?_ | refine bel_drewN ?_ _)))).mono ?_)
    rintro e wx ⟨rfl, hR, hG⟩
    obtain ⟨W2, ⟨d2, os2⟩, hs2, hg2, rfl, hR2⟩ := rstI (W := W1) (fun W => gw (W.alloc (bx 0 0)) d1 os1) (by repeat (first | exact Lays.id | refine Lays.alloc ?_ _ | refine Lays.gw ?_ _ _)) hG hR (by omega)
    dsimp only
    replace hg2 := grown_trans hg1 hg2
    replace hs2 := hs2.trans hs1
    haveI : Sz W2 w.heap.size := ⟨hs2⟩
    clear hR hG hR1 hs1 hg1
    obtain ⟨v2, hbx⟩ := hR2.box
    simp only at hbx
    haveI := hbx
    go_wp2_with fail
    (with_reducible refine (T4.out _).mono ?_)
    rintro e w3 ⟨rfl, hb⟩
    obtain ⟨⟨d4, os4⟩, rfl⟩ := gw_of_below hb
    clear hb
    have hF := hR2.fail bs2
    have hgF := grown_trans hg2 (grown_setCell W2 g 1 (.bool true))
    go_wp2
    refine bodyPost_ret (v := .agg #[.int .i64 0, .int .u64 0]) (by simp [results, Try.results51, go_sem]) rfl ?_
    exact ⟨rfl, hF.step (by repeat (first | exact Below.refl _ _ | assumption | refine bel_al ?_ _ | refine bel_gw ?_ _ _ | refine bel_drew ?_ | refine bel_drewN ?_ _)), grown_gw hgF (by repeat (first | exact Below.refl _ _ | assumption | refine bel_al ?_ _ | refine bel_gw ?_ _ _ | refine bel_drew ?_ | refine bel_drewN ?_ _))⟩
  · rw [if_neg (by rw [hm]; simp)]
    rw [hm] at T4
    clear hm
    go_enter Try.func51, Try.ntmps51
    go_wp2_with fail
    (with_reducible refine T1.out.mono ?_)
    rintro e wx ⟨rfl, hR, hG⟩
    obtain ⟨W1, ⟨d1, os1⟩, hs1, hg1, rfl, hR1⟩ := rstI (W := w) (fun W => W.alloc (bx 0 0)) (by repeat (first | exact Lays.id | refine Lays.alloc ?_ _ | refine Lays.gw ?_ _ _)) hG hR (by omega)
    dsimp only
    haveI : Sz W1 w.heap.size := ⟨hs1⟩
    clear hR hG
    go_wp2_with fail
    (with_reducible refine (T2.out _ (hR1.step (by repeat (first | exact Below.refl _ _ | assumption | refine bel_al ?_ _ | refine bel_gw ?_ _ _ | refine bel_drew ?_ | refine bel_drewN ?_ _)))).mono ?_)
    rintro e wx ⟨rfl, hR, hG⟩
    obtain ⟨W2, ⟨d2, os2⟩, hs2, hg2, rfl, hR2⟩ := rstI (W := W1) (fun W => gw (W.alloc (bx 0 0)) d1 os1) (by repeat (first | exact Lays.id | refine Lays.alloc ?_ _ | refine Lays.gw ?_ _ _)) hG hR (by omega)
    dsimp only
    replace hg2 := grown_trans hg1 hg2
    replace hs2 := hs2.trans hs1
    haveI : Sz W2 w.heap.size := ⟨hs2⟩
    clear hR hG hR1 hs1 hg1
    obtain ⟨v2, hbx⟩ := hR2.box
    simp only at hbx
    haveI := hbx
    go_wp2_with fail
    (with_reducible refine (T4.out _).mono ?_)
    rintro e w3 ⟨rfl, hb⟩
    obtain ⟨⟨d4, os4⟩, rfl⟩ := gw_of_below hb
    clear hb
    go_wp2
    refine bodyPost_ret (v := .agg #[.int .i64 x1, .int .u64 x2]) (by simp [results, Try.results51, go_sem]) rfl ?_
    exact ⟨rfl, hR2.step (by repeat (first | exact Below.refl _ _ | assumption | refine bel_al ?_ _ | refine bel_gw ?_ _ _ | refine bel_drew ?_ | refine bel_drewN ?_ _)), grown_gw hg2 (by repeat (first | exact Below.refl _ _ | assumption | refine bel_al ?_ _ | refine bel_gw ?_ _ _ | refine bel_drew ?_ | refine bel_drewN ?_ _))⟩
end Go.Proofs.Ytgpmcpinnaggmaa
