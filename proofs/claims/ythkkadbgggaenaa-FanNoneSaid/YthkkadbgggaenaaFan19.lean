/-
  Layer 14: contracts: symMergeCmpFunc of heads, where one of the rows has one head.
-/
import Derived.Test.YthkkadbgggaenaaFan18
namespace Go.Proofs.Ythkkadbgggaenaa
set_option linter.unusedSimpArgs false
set_option linter.unusedVariables false
set_option linter.unusedSectionVars false
open Go.RowKit

theorem int_half (i j : Nat) : ((i : Int) + (j : Int)) / 2 = (((i + j) / 2 : Nat) : Int) := by omega
theorem cmpI_nlt {x y : Int} (h : ¬ x < y) : decide (cmpI x y < 0) = false := decide_eq_false (by
  rcases Int.lt_trichotomy x y with k | k | k
  · exact absurd k h
  · rw [cmpI_eq k]; omega
  · rw [cmpI_gt k]; omega)
set_option maxRecDepth 100000 in
set_option maxHeartbeats 4000000 in
theorem sym1_s (g c a m b N : Nat) (cur : Array Value) (A Y B : List Hd) (x : Hd) (w : World) (h : RowC w g cur (A ++ ([x] ++ (Y ++ B)))) (hN : N = A.length + 1 + Y.length + B.length) (ha : a = A.length) (hm : m = A.length + 1) (hb : b = A.length + 1 + Y.length) (hY : Srt Y) (hl : N ≤ 1000000) :
    Calls Try.prog 128 #[.slice (some ⟨g, 0, none⟩) N c, .int .i64 a, .int .i64 m, .int .i64 b, .func (.func 56) #[] #[]] w fun e w' => e = .returned (.tuple #[]) ∧ (∃ cur' R, RowC w' g cur' (A ++ (R ++ B)) ∧ Srt R ∧ Fib ([x] ++ Y) R) ∧ Gro [g] w w' := by
  have TC := hide (fun x y W => bareCmp_s x y W)
  have HE : Hid (N = A.length + 1 + Y.length + B.length ∧ a = A.length ∧ m = A.length + 1 ∧ b = A.length + 1 + Y.length) := hide ⟨hN, ha, hm, hb⟩
  have HY := hide hY
  obtain ⟨K, hK⟩ : ∃ K, K = A ++ ([x] ++ (Y ++ B)) := ⟨_, rfl⟩
  have hlen : K.length = N := by rw [hK]; simp; omega
  have hx : K[a]? = some x := by rw [hK, ha, List.getElem?_append_right (Nat.le_refl _), Nat.sub_self]; rfl
  have HS := hide (show SrtIn K m b by
    rw [hK, show A ++ ([x] ++ (Y ++ B)) = (A ++ [x]) ++ (Y ++ B) by simp]
    exact srtIn (A ++ [x]) Y B m b (by simp; omega) (by simp; omega) hY)
  rw [← hK] at h
  have HR := hide h
  have HK := hide hK
  have HX := hide hx
  have HLN := hide hlen
  have x0 : cur[a * 4]? = some (.int .i64 x.d) := h.c a 0 x hx (by omega)
  have x1 : cur[a * 4 + 1]? = some (.int .u64 x.c) := h.c a 1 x hx (by omega)
  have x2 : cur[a * 4 + 2]? = some (.int .u64 x.s) := h.c a 2 x hx (by omega)
  have x3 : cur[a * 4 + 3]? = some (.int .u64 x.i) := h.c a 3 x hx (by omega)
  have z1 : m ≤ b := by omega
  have z2 : b ≤ N := by omega
  have z3 : 0 < m := by omega
  have z4 : a < N := by omega
  have c1 : (m : Int) - (a : Int) = 1 := by omega
  clear h hN ha hm hb hY hK hx hlen
  go_enter Try.func128, Try.ntmps128
  go_wp2_with fail
  clear c1
  go_loopw [10, 11] (fun iv jv wr => ∃ (i j : Nat), iv = .int .i64 i ∧ jv = .int .i64 j ∧ m ≤ i ∧ i ≤ j ∧ j ≤ b ∧ (∀ t q, m ≤ t → t < i → K[t]? = some q → q.d < x.d) ∧ (∀ t q, j ≤ t → t < b → K[t]? = some q → x.d ≤ q.d) ∧ RowC wr g cur K ∧ Gro [g] w wr) (fun i j _ => (intOf j).toNat - (intOf i).toNat)
  case atStart => exact ⟨m, b, rfl, rfl, Nat.le_refl _, z1, Nat.le_refl _, fun t q _ _ => by omega, fun t q _ _ => by omega, HR.out, Gro.refl _ _⟩
  case round =>
    obtain ⟨i, j, rfl, rfl, hmi, hij, hjb, hlo, hhi, hR, hG⟩ := hrel
    have HLO := hide hlo
    have HHI := hide hhi
    have HR2 := hide hR
    have HG := hide hG
    clear hlo hhi hR hG
    by_cases hlt : i < j
    · obtain ⟨t, ht⟩ : ∃ t, (i + j) / 2 = t := ⟨_, rfl⟩
      have ht1 : i ≤ t := by omega
      have ht2 : t < j := by omega
      have hp := getD_at K (i := t) (by rw [HLN.out]; omega)
      generalize K.getD t default = p at hp
      have HP := hide hp
      have p0 : cur[t * 4]? = some (.int .i64 p.d) := HR2.out.c t 0 p hp (by omega)
      have p1 : cur[t * 4 + 1]? = some (.int .u64 p.c) := HR2.out.c t 1 p hp (by omega)
      have p2 : cur[t * 4 + 2]? = some (.int .u64 p.s) := HR2.out.c t 2 p hp (by omega)
      have p3 : cur[t * 4 + 3]? = some (.int .u64 p.i) := HR2.out.c t 3 p hp (by omega)
      have j0 : ((i : Int) + (j : Int)) / 2 = (t : Int) := by omega
      have j1 : (0 : Int) ≤ (t : Int) := by omega
      have j2 : (t : Int) < (N : Int) := by omega
      have j3 : (0 : Int) ≤ (a : Int) := by omega
      have j4 : (a : Int) < (N : Int) := by omega
      haveI := HR2.out.b
      haveI : InW g wr := ⟨BoxAt.lt HR2.out.b⟩
      have T := hide (fun W => TC.out p x W)
      clear hp
      have HT := hide ht
      clear ht
      by_cases hc : p.d < x.d
      · have HN := hide (show ∀ s q, m ≤ s → s < t + 1 → K[s]? = some q → q.d < x.d from fun s q h1 h2 h3 => by
          have := HS.out s t q p h1 (by omega) (by omega) h3 HP.out; omega)
        rw [cmpI_lt hc] at T
        clear hc
        go_wp2_with fail
        (refine wp_region_gw (by kernel_rfl) (by kernel_rfl) ?_; (repeat (go_big_quiet_step ((first | (go_at_call 56; with_reducible exact calls_gw (T.out _)) | fail)))); refine wpQuiet_nil ?_; intro _ hw'; obtain ⟨⟨dq, osq⟩, hw''⟩ := hw'; subst hw'')
        go_wp2
        go_roundw
        case rel => exact ⟨t + 1, j, by go_num, rfl, by omega, by omega, hjb, HN.out, HHI.out, ⟨inferInstance, HR2.out.sz, HR2.out.c⟩, HG.out.trans (Gro.of blw)⟩
        case measure => simp [intOf]; omega
      · have HN := hide (show ∀ s q, t ≤ s → s < b → K[s]? = some q → x.d ≤ q.d from fun s q h1 h2 h3 => by
          have := HS.out t s p q (by omega) h1 h2 HP.out h3; omega)
        have hv := cmpI_nlt hc
        clear hc
        generalize cmpI p.d x.d = v at T hv
        go_wp2_with fail
        (refine wp_region_gw (by kernel_rfl) (by kernel_rfl) ?_; (repeat (go_big_quiet_step ((first | (go_at_call 56; with_reducible exact calls_gw (T.out _)) | fail)))); refine wpQuiet_nil ?_; intro _ hw'; obtain ⟨⟨dq, osq⟩, hw''⟩ := hw'; subst hw'')
        go_wp2
        go_roundw
        case rel => exact ⟨i, t, rfl, rfl, hmi, by omega, by omega, HLO.out, HN.out, ⟨inferInstance, HR2.out.sz, HR2.out.c⟩, HG.out.trans (Gro.of blw)⟩
        case measure => simp [intOf]; omega
    · obtain rfl : i = j := by omega
      have HSP := hide (lower_end (A ++ [x]) Y B m i b x.d (by have := HE.out; simp; omega) (by have := HE.out; simp; omega) hjb hmi (by
        have e : (A ++ [x]) ++ (Y ++ B) = K := by rw [HK.out]; simp
        rw [e]; exact HLO.out) (by
        have e : (A ++ [x]) ++ (Y ++ B) = K := by rw [HK.out]; simp
        rw [e]; exact HHI.out))
      have HR3 := hide (show RowC wr g cur (A ++ ([] ++ (x :: (Y ++ B)))) by have := HR2.out; rw [HK.out] at this; exact this)
      obtain ⟨i', hi'⟩ : ∃ i', i = i' + 1 := ⟨i - 1, by omega⟩
      subst hi'
      have c2 : ((i' + 1 : Nat) : Int) - 1 = (i' : Int) := by omega
      have z5 : a ≤ i' := by have := HE.out; omega
      have z6 : i' < N := by omega
      clear x0 x1 x2 x3 HLO HHI HR2 HS HX hmi hij hlt
      go_wp2_with fail
      clear c2
      go_loopw [13] (fun kv wr => ∃ (k : Nat) (cur : Array Value) (Y1 Y2 : List Hd), kv = .int .i64 k ∧ k ≤ i' ∧ A.length + Y1.length = k ∧ Y1 ++ Y2 = Y ∧ RowC wr g cur (A ++ (Y1 ++ (x :: (Y2 ++ B)))) ∧ Gro [g] w wr) (fun k _ => i' - (intOf k).toNat)
      case atStart => exact ⟨a, cur, [], Y, rfl, z5, by have := HE.out; simp; omega, rfl, HR3.out, HG.out⟩
      case round =>
        obtain ⟨k, cur2, Y1, Y2, rfl, hk, hY1, hY12, hR, hG2⟩ := hrel
        have HR4 := hide hR
        have HG4 := hide hG2
        have HYY := hide hY12
        clear hR hG2
        have hyl : Y1.length + Y2.length = Y.length := by rw [← hY12, List.length_append]
        clear hY12
        by_cases hlt2 : k < i'
        · obtain ⟨y, Y3, rfl⟩ := uncons (L := Y2) (by have := HE.out; omega)
          have HSW := hide (swp_list (A ++ Y1) [] (Y3 ++ B) x y k (k + 1) (by simp; omega) (by simp; omega))
          have hR5 : RowC wr g cur2 ((A ++ Y1) ++ (x :: ([] ++ (y :: (Y3 ++ B))))) := by have := HR4.out; simpa using this
          have hp : ((A ++ Y1) ++ (x :: ([] ++ (y :: (Y3 ++ B)))))[k]? = some x := by rw [List.getElem?_append_right (by simp; omega), List.length_append, hY1, Nat.sub_self]; rfl
          have hq : ((A ++ Y1) ++ (x :: ([] ++ (y :: (Y3 ++ B)))))[k + 1]? = some y := by rw [List.getElem?_append_right (by simp; omega), List.length_append, hY1, Nat.add_sub_cancel_left]; rfl
          have hkl : ((A ++ Y1) ++ (x :: ([] ++ (y :: (Y3 ++ B))))).length = N := by have := HE.out; simp at hyl ⊢; omega
          generalize hKL : (A ++ Y1) ++ (x :: ([] ++ (y :: (Y3 ++ B)))) = L at hR5 hp hq hkl HSW
          have HR3 := hide hR5
          have hj1 : k + 1 < N := by omega
          obtain ⟨j1, hjj⟩ : ∃ j1, k + 1 = j1 := ⟨_, rfl⟩
          rw [hjj] at hq HSW hj1
          have HC := hide (fun W' cur' hb hc => (by
            have e := HR3.out.swp (W' := W') (cur' := cur') (i := k) (j := j1) (by omega) (by omega) (by omega) hp hq hb hc
            rw [HSW.out] at e
            simpa using e : RowC W' g cur' (A ++ ((Y1 ++ [y]) ++ (x :: (Y3 ++ B))))))
          haveI := HR3.out.b
          have p0 : cur2[k * 4]? = some (.int .i64 x.d) := HR3.out.c k 0 x hp (by omega)
          have p1 : cur2[k * 4 + 1]? = some (.int .u64 x.c) := HR3.out.c k 1 x hp (by omega)
          have p2 : cur2[k * 4 + 2]? = some (.int .u64 x.s) := HR3.out.c k 2 x hp (by omega)
          have p3 : cur2[k * 4 + 3]? = some (.int .u64 x.i) := HR3.out.c k 3 x hp (by omega)
          have q0 : cur2[j1 * 4]? = some (.int .i64 y.d) := HR3.out.c j1 0 y hq (by omega)
          have q1 : cur2[j1 * 4 + 1]? = some (.int .u64 y.c) := HR3.out.c j1 1 y hq (by omega)
          have q2 : cur2[j1 * 4 + 2]? = some (.int .u64 y.s) := HR3.out.c j1 2 y hq (by omega)
          have q3 : cur2[j1 * 4 + 3]? = some (.int .u64 y.i) := HR3.out.c j1 3 y hq (by omega)
          have e00 : ∀ (A : Array Value) (v : Value), (A.setIfInBounds (k * 4) v)[j1 * 4]? = A[j1 * 4]? := fun A v => Array.getElem?_setIfInBounds_ne (by omega)
          have e01 : ∀ (A : Array Value) (v : Value), (A.setIfInBounds (k * 4) v)[j1 * 4 + 1]? = A[j1 * 4 + 1]? := fun A v => Array.getElem?_setIfInBounds_ne (by omega)
          have e02 : ∀ (A : Array Value) (v : Value), (A.setIfInBounds (k * 4) v)[j1 * 4 + 2]? = A[j1 * 4 + 2]? := fun A v => Array.getElem?_setIfInBounds_ne (by omega)
          have e03 : ∀ (A : Array Value) (v : Value), (A.setIfInBounds (k * 4) v)[j1 * 4 + 3]? = A[j1 * 4 + 3]? := fun A v => Array.getElem?_setIfInBounds_ne (by omega)
          have e10 : ∀ (A : Array Value) (v : Value), (A.setIfInBounds (k * 4 + 1) v)[j1 * 4]? = A[j1 * 4]? := fun A v => Array.getElem?_setIfInBounds_ne (by omega)
          have e11 : ∀ (A : Array Value) (v : Value), (A.setIfInBounds (k * 4 + 1) v)[j1 * 4 + 1]? = A[j1 * 4 + 1]? := fun A v => Array.getElem?_setIfInBounds_ne (by omega)
          have e12 : ∀ (A : Array Value) (v : Value), (A.setIfInBounds (k * 4 + 1) v)[j1 * 4 + 2]? = A[j1 * 4 + 2]? := fun A v => Array.getElem?_setIfInBounds_ne (by omega)
          have e13 : ∀ (A : Array Value) (v : Value), (A.setIfInBounds (k * 4 + 1) v)[j1 * 4 + 3]? = A[j1 * 4 + 3]? := fun A v => Array.getElem?_setIfInBounds_ne (by omega)
          have e20 : ∀ (A : Array Value) (v : Value), (A.setIfInBounds (k * 4 + 2) v)[j1 * 4]? = A[j1 * 4]? := fun A v => Array.getElem?_setIfInBounds_ne (by omega)
          have e21 : ∀ (A : Array Value) (v : Value), (A.setIfInBounds (k * 4 + 2) v)[j1 * 4 + 1]? = A[j1 * 4 + 1]? := fun A v => Array.getElem?_setIfInBounds_ne (by omega)
          have e22 : ∀ (A : Array Value) (v : Value), (A.setIfInBounds (k * 4 + 2) v)[j1 * 4 + 2]? = A[j1 * 4 + 2]? := fun A v => Array.getElem?_setIfInBounds_ne (by omega)
          have e23 : ∀ (A : Array Value) (v : Value), (A.setIfInBounds (k * 4 + 2) v)[j1 * 4 + 3]? = A[j1 * 4 + 3]? := fun A v => Array.getElem?_setIfInBounds_ne (by omega)
          have e30 : ∀ (A : Array Value) (v : Value), (A.setIfInBounds (k * 4 + 3) v)[j1 * 4]? = A[j1 * 4]? := fun A v => Array.getElem?_setIfInBounds_ne (by omega)
          have e31 : ∀ (A : Array Value) (v : Value), (A.setIfInBounds (k * 4 + 3) v)[j1 * 4 + 1]? = A[j1 * 4 + 1]? := fun A v => Array.getElem?_setIfInBounds_ne (by omega)
          have e32 : ∀ (A : Array Value) (v : Value), (A.setIfInBounds (k * 4 + 3) v)[j1 * 4 + 2]? = A[j1 * 4 + 2]? := fun A v => Array.getElem?_setIfInBounds_ne (by omega)
          have e33 : ∀ (A : Array Value) (v : Value), (A.setIfInBounds (k * 4 + 3) v)[j1 * 4 + 3]? = A[j1 * 4 + 3]? := fun A v => Array.getElem?_setIfInBounds_ne (by omega)
          have i0 : (k : Int) + 1 = (j1 : Int) := by omega
          have i1 : (0 : Int) ≤ (k : Int) := by omega
          have i2 : (k : Int) < (N : Int) := by omega
          have i3 : (0 : Int) ≤ (j1 : Int) := by omega
          have i4 : (j1 : Int) < (N : Int) := by omega
          haveI : InW g wr := ⟨BoxAt.lt HR3.out.b⟩
          have HJJ := hide hjj
          have HYL := hide (And.intro hY1 hyl)
          clear hp hq hKL hR5 hkl HSW HR4 hjj hY1 hyl
          go_wp2_with fail
          go_region
          go_wp2
          go_roundw
          case rel => exact ⟨j1, _, Y1 ++ [y], Y3, by go_num, by have := HJJ.out; omega, by have := HYL.out; have := HJJ.out; simp; omega, by have := HYY.out; simpa using this, HC.out _ _ (inferInstance : BoxAt _ g _ _) rfl, (Gro.set8 HG4.out _ _ _ _ _ _ _ _ _ _ _ _ _ _ _ _).trans (Gro.of (Below.drew (Below.refl _ _)))⟩
          case measure => have := HJJ.out; simp [intOf]; omega
        · obtain rfl : k = i' := by omega
          have e1 : Y.take (k + 1 - m) = Y1 := by rw [← HYY.out]; exact List.take_left' (by have := HE.out; omega)
          have e2 : Y.drop (k + 1 - m) = Y2 := by rw [← HYY.out]; exact List.drop_left' (by have := HE.out; omega)
          have HSP2 := HSP.out
          rw [e1, e2] at HSP2
          have hYs : Srt (Y1 ++ Y2) := by rw [HYY.out]; exact HY.out
          have HF := hide (one_first hYs HSP2.1 HSP2.2)
          rw [HYY.out] at HF
          clear hY1 hyl e1 e2 HSP2 hYs
          go_wp2
          refine bodyPost_ret (results_none rfl _ _ _) rfl ?_
          exact ⟨rfl, ⟨cur2, Y1 ++ (x :: Y2), by have := HR4.out; simpa using this, HF.out.1, HF.out.2⟩, HG4.out⟩
set_option maxRecDepth 100000 in
set_option maxHeartbeats 4000000 in
theorem sym2_s (g c a m b N : Nat) (cur : Array Value) (A X B : List Hd) (y : Hd) (w : World) (h : RowC w g cur (A ++ (X ++ ([y] ++ B)))) (hN : N = A.length + X.length + 1 + B.length) (ha : a = A.length) (hm : m = A.length + X.length) (hb : b = A.length + X.length + 1) (hX : Srt X) (hX1 : X.length ≠ 1) (hl : N ≤ 1000000) :
    Calls Try.prog 128 #[.slice (some ⟨g, 0, none⟩) N c, .int .i64 a, .int .i64 m, .int .i64 b, .func (.func 56) #[] #[]] w fun e w' => e = .returned (.tuple #[]) ∧ (∃ cur' R, RowC w' g cur' (A ++ (R ++ B)) ∧ Srt R ∧ Fib (X ++ [y]) R) ∧ Gro [g] w w' := by
  have TC := hide (fun x y W => bareCmp_s x y W)
  have HE : Hid (N = A.length + X.length + 1 + B.length ∧ a = A.length ∧ m = A.length + X.length ∧ b = A.length + X.length + 1) := hide ⟨hN, ha, hm, hb⟩
  have HX := hide hX
  obtain ⟨K, hK⟩ : ∃ K, K = A ++ (X ++ ([y] ++ B)) := ⟨_, rfl⟩
  have hlen : K.length = N := by rw [hK]; simp; omega
  have hx : K[m]? = some y := by rw [hK, hm, List.getElem?_append_right (by omega), Nat.add_sub_cancel_left, List.getElem?_append_right (Nat.le_refl _), Nat.sub_self]; rfl
  have HS := hide (show SrtIn K a m by rw [hK]; exact srtIn A X ([y] ++ B) a m ha (by omega) hX)
  rw [← hK] at h
  have HR := hide h
  have HK := hide hK
  have HLN := hide hlen
  have x0 : cur[m * 4]? = some (.int .i64 y.d) := h.c m 0 y hx (by omega)
  have x1 : cur[m * 4 + 1]? = some (.int .u64 y.c) := h.c m 1 y hx (by omega)
  have x2 : cur[m * 4 + 2]? = some (.int .u64 y.s) := h.c m 2 y hx (by omega)
  have x3 : cur[m * 4 + 3]? = some (.int .u64 y.i) := h.c m 3 y hx (by omega)
  have z1 : a ≤ m := by omega
  have z2 : m < N := by omega
  have c0 : ((m : Int) - (a : Int) == 1) = false := beq_eq_false_iff_ne.2 (by omega)
  have c1 : (b : Int) - (m : Int) = 1 := by omega
  clear h hN ha hm hb hX hX1 hK hx hlen
  go_enter Try.func128, Try.ntmps128
  go_wp2_with fail
  clear c0 c1
  go_loopw [14, 15] (fun iv jv wr => ∃ (i j : Nat), iv = .int .i64 i ∧ jv = .int .i64 j ∧ a ≤ i ∧ i ≤ j ∧ j ≤ m ∧ (∀ t q, a ≤ t → t < i → K[t]? = some q → q.d ≤ y.d) ∧ (∀ t q, j ≤ t → t < m → K[t]? = some q → y.d < q.d) ∧ RowC wr g cur K ∧ Gro [g] w wr) (fun i j _ => (intOf j).toNat - (intOf i).toNat)
  case atStart => exact ⟨a, m, rfl, rfl, Nat.le_refl _, z1, Nat.le_refl _, fun t q _ _ => by omega, fun t q _ _ => by omega, HR.out, Gro.refl _ _⟩
  case round =>
    obtain ⟨i, j, rfl, rfl, hmi, hij, hjb, hlo, hhi, hR, hG⟩ := hrel
    have HLO := hide hlo
    have HHI := hide hhi
    have HR2 := hide hR
    have HG := hide hG
    clear hlo hhi hR hG
    by_cases hlt : i < j
    · obtain ⟨t, ht⟩ : ∃ t, (i + j) / 2 = t := ⟨_, rfl⟩
      have ht1 : i ≤ t := by omega
      have ht2 : t < j := by omega
      have hp := getD_at K (i := t) (by rw [HLN.out]; omega)
      generalize K.getD t default = p at hp
      have HP := hide hp
      have p0 : cur[t * 4]? = some (.int .i64 p.d) := HR2.out.c t 0 p hp (by omega)
      have p1 : cur[t * 4 + 1]? = some (.int .u64 p.c) := HR2.out.c t 1 p hp (by omega)
      have p2 : cur[t * 4 + 2]? = some (.int .u64 p.s) := HR2.out.c t 2 p hp (by omega)
      have p3 : cur[t * 4 + 3]? = some (.int .u64 p.i) := HR2.out.c t 3 p hp (by omega)
      have j0 : ((i : Int) + (j : Int)) / 2 = (t : Int) := by omega
      have j1 : (0 : Int) ≤ (t : Int) := by omega
      have j2 : (t : Int) < (N : Int) := by omega
      have j3 : (0 : Int) ≤ (m : Int) := by omega
      have j4 : (m : Int) < (N : Int) := by omega
      haveI := HR2.out.b
      haveI : InW g wr := ⟨BoxAt.lt HR2.out.b⟩
      have T := hide (fun W => TC.out y p W)
      clear hp
      have HT := hide ht
      clear ht
      by_cases hc : y.d < p.d
      · have HN := hide (show ∀ s q, t ≤ s → s < m → K[s]? = some q → y.d < q.d from fun s q h1 h2 h3 => by
          have := HS.out t s p q (by omega) h1 h2 HP.out h3; omega)
        rw [cmpI_lt hc] at T
        clear hc
        go_wp2_with fail
        (refine wp_region_gw (by kernel_rfl) (by kernel_rfl) ?_; (repeat (go_big_quiet_step ((first | (go_at_call 56; with_reducible exact calls_gw (T.out _)) | fail)))); refine wpQuiet_nil ?_; intro _ hw'; obtain ⟨⟨dq, osq⟩, hw''⟩ := hw'; subst hw'')
        go_wp2
        go_roundw
        case rel => exact ⟨i, t, rfl, rfl, hmi, by omega, by omega, HLO.out, HN.out, ⟨inferInstance, HR2.out.sz, HR2.out.c⟩, HG.out.trans (Gro.of blw)⟩
        case measure => simp [intOf]; omega
      · have HN := hide (show ∀ s q, a ≤ s → s < t + 1 → K[s]? = some q → q.d ≤ y.d from fun s q h1 h2 h3 => by
          have := HS.out s t q p h1 (by omega) (by omega) h3 HP.out; omega)
        have hv := cmpI_nlt hc
        clear hc
        generalize cmpI y.d p.d = v at T hv
        go_wp2_with fail
        (refine wp_region_gw (by kernel_rfl) (by kernel_rfl) ?_; (repeat (go_big_quiet_step ((first | (go_at_call 56; with_reducible exact calls_gw (T.out _)) | fail)))); refine wpQuiet_nil ?_; intro _ hw'; obtain ⟨⟨dq, osq⟩, hw''⟩ := hw'; subst hw'')
        go_wp2
        go_roundw
        case rel => exact ⟨t + 1, j, by go_num, rfl, by omega, by omega, hjb, HN.out, HHI.out, ⟨inferInstance, HR2.out.sz, HR2.out.c⟩, HG.out.trans (Gro.of blw)⟩
        case measure => simp [intOf]; omega
    · obtain rfl : i = j := by omega
      have HSP := hide (upper_end A X ([y] ++ B) a i m y.d HE.out.2.1 (by have := HE.out; omega) hjb hmi (by rw [← HK.out]; exact HLO.out) (by rw [← HK.out]; exact HHI.out))
      have HR3 := hide (show RowC wr g cur (A ++ (X ++ (y :: ([] ++ B)))) by have := HR2.out; rw [HK.out] at this; exact this)
      clear x0 x1 x2 x3 HLO HHI HR2 HS hij hlt
      go_wp2_with fail
      go_loopw [17] (fun kv wr => ∃ (k : Nat) (cur : Array Value) (X1 X2 : List Hd), kv = .int .i64 k ∧ i ≤ k ∧ A.length + X1.length = k ∧ X1 ++ X2 = X ∧ RowC wr g cur (A ++ (X1 ++ (y :: (X2 ++ B)))) ∧ Gro [g] w wr) (fun k _ => (intOf k).toNat)
      case atStart => exact ⟨m, cur, X, [], rfl, hjb, by have := HE.out; omega, by simp, HR3.out, HG.out⟩
      case round =>
        obtain ⟨k, cur2, X1, X2, rfl, hk, hX1, hX12, hR, hG2⟩ := hrel
        have HR4 := hide hR
        have HG4 := hide hG2
        have HYY := hide hX12
        clear hR hG2
        have hyl : X1.length + X2.length = X.length := by rw [← hX12, List.length_append]
        clear hX12
        by_cases hlt2 : i < k
        · obtain ⟨X3, x, rfl⟩ : ∃ S0 y, X1 = S0 ++ [y] := by
            rcases List.eq_nil_or_concat X1 with h | ⟨S0, y, h⟩
            · subst h; have := HE.out; simp at hX1; omega
            · exact ⟨S0, y, by simpa using h⟩
          obtain ⟨j1, hjj⟩ : ∃ j1, k = j1 + 1 := ⟨k - 1, by omega⟩
          subst hjj
          simp only [List.length_append, List.length_cons, List.length_nil, Nat.zero_add] at hX1 hyl
          have HSW := hide ((swp_comm _ (j1 + 1) j1 (by omega)).trans (swp_list (A ++ X3) [] (X2 ++ B) x y j1 (j1 + 1) (by simp; omega) (by simp; omega)))
          have hR5 : RowC wr g cur2 ((A ++ X3) ++ (x :: ([] ++ (y :: (X2 ++ B))))) := by have := HR4.out; simpa using this
          have hp : ((A ++ X3) ++ (x :: ([] ++ (y :: (X2 ++ B)))))[j1 + 1]? = some y := by rw [List.getElem?_append_right (by simp; omega), List.length_append, show A.length + X3.length = j1 by omega, Nat.add_sub_cancel_left]; rfl
          have hq : ((A ++ X3) ++ (x :: ([] ++ (y :: (X2 ++ B)))))[j1]? = some x := by rw [List.getElem?_append_right (by simp; omega), List.length_append, show A.length + X3.length = j1 by omega, Nat.sub_self]; rfl
          have hkl : ((A ++ X3) ++ (x :: ([] ++ (y :: (X2 ++ B))))).length = N := by have := HE.out; simp; omega
          generalize hKL : (A ++ X3) ++ (x :: ([] ++ (y :: (X2 ++ B)))) = L at hR5 hp hq hkl HSW
          have HR3 := hide hR5
          have hj1 : j1 + 1 < N := by have := HE.out; omega
          obtain ⟨k, hkk⟩ : ∃ k, j1 + 1 = k := ⟨_, rfl⟩
          rw [hkk] at hp HSW hj1 hX1 hk hlt2 ⊢
          have HC := hide (fun W' cur' hb hc => (by
            have e := HR3.out.swp (W' := W') (cur' := cur') (i := k) (j := j1) (by omega) (by omega) (by omega) hp hq hb hc
            rw [HSW.out] at e
            simpa using e : RowC W' g cur' (A ++ (X3 ++ (y :: ((x :: X2) ++ B))))))
          haveI := HR3.out.b
          have p0 : cur2[k * 4]? = some (.int .i64 y.d) := HR3.out.c k 0 y hp (by omega)
          have p1 : cur2[k * 4 + 1]? = some (.int .u64 y.c) := HR3.out.c k 1 y hp (by omega)
          have p2 : cur2[k * 4 + 2]? = some (.int .u64 y.s) := HR3.out.c k 2 y hp (by omega)
          have p3 : cur2[k * 4 + 3]? = some (.int .u64 y.i) := HR3.out.c k 3 y hp (by omega)
          have q0 : cur2[j1 * 4]? = some (.int .i64 x.d) := HR3.out.c j1 0 x hq (by omega)
          have q1 : cur2[j1 * 4 + 1]? = some (.int .u64 x.c) := HR3.out.c j1 1 x hq (by omega)
          have q2 : cur2[j1 * 4 + 2]? = some (.int .u64 x.s) := HR3.out.c j1 2 x hq (by omega)
          have q3 : cur2[j1 * 4 + 3]? = some (.int .u64 x.i) := HR3.out.c j1 3 x hq (by omega)
          have e00 : ∀ (A : Array Value) (v : Value), (A.setIfInBounds (k * 4) v)[j1 * 4]? = A[j1 * 4]? := fun A v => Array.getElem?_setIfInBounds_ne (by omega)
          have e01 : ∀ (A : Array Value) (v : Value), (A.setIfInBounds (k * 4) v)[j1 * 4 + 1]? = A[j1 * 4 + 1]? := fun A v => Array.getElem?_setIfInBounds_ne (by omega)
          have e02 : ∀ (A : Array Value) (v : Value), (A.setIfInBounds (k * 4) v)[j1 * 4 + 2]? = A[j1 * 4 + 2]? := fun A v => Array.getElem?_setIfInBounds_ne (by omega)
          have e03 : ∀ (A : Array Value) (v : Value), (A.setIfInBounds (k * 4) v)[j1 * 4 + 3]? = A[j1 * 4 + 3]? := fun A v => Array.getElem?_setIfInBounds_ne (by omega)
          have e10 : ∀ (A : Array Value) (v : Value), (A.setIfInBounds (k * 4 + 1) v)[j1 * 4]? = A[j1 * 4]? := fun A v => Array.getElem?_setIfInBounds_ne (by omega)
          have e11 : ∀ (A : Array Value) (v : Value), (A.setIfInBounds (k * 4 + 1) v)[j1 * 4 + 1]? = A[j1 * 4 + 1]? := fun A v => Array.getElem?_setIfInBounds_ne (by omega)
          have e12 : ∀ (A : Array Value) (v : Value), (A.setIfInBounds (k * 4 + 1) v)[j1 * 4 + 2]? = A[j1 * 4 + 2]? := fun A v => Array.getElem?_setIfInBounds_ne (by omega)
          have e13 : ∀ (A : Array Value) (v : Value), (A.setIfInBounds (k * 4 + 1) v)[j1 * 4 + 3]? = A[j1 * 4 + 3]? := fun A v => Array.getElem?_setIfInBounds_ne (by omega)
          have e20 : ∀ (A : Array Value) (v : Value), (A.setIfInBounds (k * 4 + 2) v)[j1 * 4]? = A[j1 * 4]? := fun A v => Array.getElem?_setIfInBounds_ne (by omega)
          have e21 : ∀ (A : Array Value) (v : Value), (A.setIfInBounds (k * 4 + 2) v)[j1 * 4 + 1]? = A[j1 * 4 + 1]? := fun A v => Array.getElem?_setIfInBounds_ne (by omega)
          have e22 : ∀ (A : Array Value) (v : Value), (A.setIfInBounds (k * 4 + 2) v)[j1 * 4 + 2]? = A[j1 * 4 + 2]? := fun A v => Array.getElem?_setIfInBounds_ne (by omega)
          have e23 : ∀ (A : Array Value) (v : Value), (A.setIfInBounds (k * 4 + 2) v)[j1 * 4 + 3]? = A[j1 * 4 + 3]? := fun A v => Array.getElem?_setIfInBounds_ne (by omega)
          have e30 : ∀ (A : Array Value) (v : Value), (A.setIfInBounds (k * 4 + 3) v)[j1 * 4]? = A[j1 * 4]? := fun A v => Array.getElem?_setIfInBounds_ne (by omega)
          have e31 : ∀ (A : Array Value) (v : Value), (A.setIfInBounds (k * 4 + 3) v)[j1 * 4 + 1]? = A[j1 * 4 + 1]? := fun A v => Array.getElem?_setIfInBounds_ne (by omega)
          have e32 : ∀ (A : Array Value) (v : Value), (A.setIfInBounds (k * 4 + 3) v)[j1 * 4 + 2]? = A[j1 * 4 + 2]? := fun A v => Array.getElem?_setIfInBounds_ne (by omega)
          have e33 : ∀ (A : Array Value) (v : Value), (A.setIfInBounds (k * 4 + 3) v)[j1 * 4 + 3]? = A[j1 * 4 + 3]? := fun A v => Array.getElem?_setIfInBounds_ne (by omega)
          have i0 : (k : Int) - 1 = (j1 : Int) := by omega
          have i1 : (0 : Int) ≤ (k : Int) := by omega
          have i2 : (k : Int) < (N : Int) := by omega
          have i3 : (0 : Int) ≤ (j1 : Int) := by omega
          have i4 : (j1 : Int) < (N : Int) := by omega
          haveI : InW g wr := ⟨BoxAt.lt HR3.out.b⟩
          have HJJ := hide hkk
          have HYL := hide (And.intro hX1 hyl)
          clear hp hq hKL hR5 hkl HSW HR4 hkk hX1 hyl
          go_wp2_with fail
          go_region
          go_wp2
          go_roundw
          case rel => exact ⟨j1, _, X3, x :: X2, by go_num, by have := HJJ.out; omega, by have := HYL.out; have := HJJ.out; omega, by have := HYY.out; simpa using this, HC.out _ _ (inferInstance : BoxAt _ g _ _) rfl, (Gro.set8 HG4.out _ _ _ _ _ _ _ _ _ _ _ _ _ _ _ _).trans (Gro.of (Below.drew (Below.refl _ _)))⟩
          case measure => have := HJJ.out; simp [intOf]; omega
        · obtain rfl : k = i := by omega
          have e1 : X.take (k - a) = X1 := by rw [← HYY.out]; exact List.take_left' (by have := HE.out; omega)
          have e2 : X.drop (k - a) = X2 := by rw [← HYY.out]; exact List.drop_left' (by have := HE.out; omega)
          have HSP2 := HSP.out
          rw [e1, e2] at HSP2
          have hYs : Srt (X1 ++ X2) := by rw [HYY.out]; exact HX.out
          have HF := hide (one_last hYs HSP2.1 HSP2.2)
          rw [HYY.out] at HF
          clear hX1 hyl e1 e2 HSP2 hYs
          go_wp2
          refine bodyPost_ret (results_none rfl _ _ _) rfl ?_
          exact ⟨rfl, ⟨cur2, X1 ++ (y :: X2), by have := HR4.out; simpa using this, HF.out.1, HF.out.2⟩, HG4.out⟩
end Go.Proofs.Ythkkadbgggaenaa
