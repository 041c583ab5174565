/-
  Layer 21: contract: the library's CompactFunc at letters.
-/
import Derived.Test.YtmleeohaaipdcaaLet9
namespace Go.Proofs.Ytmleeohaaipdcaa
set_option linter.unusedSimpArgs false
set_option linter.unusedVariables false
set_option linter.unusedSectionVars false
open Go.RowKit Go.Sort Go.Lib

abbrev KP := Lr × Nat
/-- what CompactFunc leaves of them -/
def compK (l : List KP) : List KP := compF (fun z : KP => z.1.x.p) (fun z => z.1.x.cid) l
def eqKP (x y : KP) : Bool := eqK (fun z : KP => z.1.x.p) (fun z => z.1.x.cid) x y
theorem compK_take {l : List KP} {k : Nat} {y z : KP} (hk : 0 < k) (hy : l[k]? = some y) (hz : l[k - 1]? = some z) : compK (l.take (k + 1)) = compK (l.take k) ++ (if eqKP y z then [] else [y]) := compF_take _ _ hk hy hz
theorem compK_one {l : List KP} (h : l.length < 2) : compK l = l := by
  cases l with
  | nil => rfl
  | cons x l =>
    cases l with
    | nil => rfl
    | cons y l => exact absurd h (by simp)
def kp0 : KP := (lr0, 0)
theorem ownK_at {w : World} {base g n cap : Nat} {l : List KP} (h : w.ownsRow base 109 12 (.slice (some ⟨g, 0, none⟩) n cap) n (kcs l)) {i q : Nat} {t : KP} {v : Value} (hi : l[i]? = some t) (hq : q < 12) (hv : (kc t)[q]? = some v) : w.cell? ⟨g, i * 12 + q, none⟩ = some v := by
  have hl : i < l.length := (List.getElem?_eq_some_iff.1 hi).1
  have hn : n = l.length := by have := h.1; rw [kcs_len] at this; omega
  rw [h.cellAt _ (by omega), kcs, flat_get kc_len l i q _ hi hq]; exact hv
theorem kcs_set : ∀ (l : List KP) (i : Nat) (t : KP), ((((((((((((kcs l).set (i * 12) (.int .i64 t.1.x.k)).set (i * 12 + 1) (.int .i64 t.1.x.p.1)).set (i * 12 + 2) (.int .u64 t.1.x.p.2)).set (i * 12 + 3) (.int .u64 t.1.x.r)).set (i * 12 + 4) (.int .i64 t.1.x.s.1)).set (i * 12 + 5) (.int .u64 t.1.x.s.2)).set (i * 12 + 6) (.int .u64 t.1.x.n)).set (i * 12 + 7) (.slice t.1.BA t.1.x.b.length t.1.bc)).set (i * 12 + 8) (.int .u64 t.1.x.cid)).set (i * 12 + 9) (.slice t.1.CA t.1.x.c.length t.1.cc)).set (i * 12 + 10) (.bool t.1.x.w)).set (i * 12 + 11) (.int .i64 t.2) = kcs (l.set i t) := by
  intro l
  induction l with
  | nil => intro i t; simp [kcs]
  | cons x l ih =>
    intro i t
    cases i with
    | zero => simp [kcs, kc]
    | succ i =>
      have := ih i t
      rw [List.set_cons_succ]
      show _ = kc x ++ kcs (l.set i t)
      rw [← this]
      show ((((((((((((kc x ++ kcs l).set _ _).set _ _).set _ _).set _ _).set _ _).set _ _).set _ _).set _ _).set _ _).set _ _).set _ _).set _ _ = _
      have e : ∀ (q : Nat) (xs : List Value) (v : Value), (kc x ++ xs).set ((i + 1) * 12 + q) v = kc x ++ xs.set (i * 12 + q) v := fun q xs v => by
        rw [List.set_append_right _ _ (by rw [kc_len]; omega), kc_len, show (i + 1) * 12 + q - 12 = i * 12 + q by omega]
      have e0 : ∀ (xs : List Value) (v : Value), (kc x ++ xs).set ((i + 1) * 12) v = kc x ++ xs.set (i * 12) v := fun xs v => e 0 xs v
      rw [e0, e, e, e, e, e, e, e, e, e, e, e]
theorem ownK_set {w : World} {base g n cap : Nat} {l : List KP} (h : w.ownsRow base 109 12 (.slice (some ⟨g, 0, none⟩) n cap) n (kcs l)) (i : Nat) (t : KP) :
    ((((((((((((w.setCell ⟨g, i * 12, none⟩ (.int .i64 t.1.x.k)).setCell ⟨g, i * 12 + 1, none⟩ (.int .i64 t.1.x.p.1)).setCell ⟨g, i * 12 + 2, none⟩ (.int .u64 t.1.x.p.2)).setCell ⟨g, i * 12 + 3, none⟩ (.int .u64 t.1.x.r)).setCell ⟨g, i * 12 + 4, none⟩ (.int .i64 t.1.x.s.1)).setCell ⟨g, i * 12 + 5, none⟩ (.int .u64 t.1.x.s.2)).setCell ⟨g, i * 12 + 6, none⟩ (.int .u64 t.1.x.n)).setCell ⟨g, i * 12 + 7, none⟩ (.slice t.1.BA t.1.x.b.length t.1.bc)).setCell ⟨g, i * 12 + 8, none⟩ (.int .u64 t.1.x.cid)).setCell ⟨g, i * 12 + 9, none⟩ (.slice t.1.CA t.1.x.c.length t.1.cc)).setCell ⟨g, i * 12 + 10, none⟩ (.bool t.1.x.w)).setCell ⟨g, i * 12 + 11, none⟩ (.int .i64 t.2)).ownsRow base 109 12 (.slice (some ⟨g, 0, none⟩) n cap) n (kcs (l.set i t)) ∧
    w.grownBy ((((((((((((w.setCell ⟨g, i * 12, none⟩ (.int .i64 t.1.x.k)).setCell ⟨g, i * 12 + 1, none⟩ (.int .i64 t.1.x.p.1)).setCell ⟨g, i * 12 + 2, none⟩ (.int .u64 t.1.x.p.2)).setCell ⟨g, i * 12 + 3, none⟩ (.int .u64 t.1.x.r)).setCell ⟨g, i * 12 + 4, none⟩ (.int .i64 t.1.x.s.1)).setCell ⟨g, i * 12 + 5, none⟩ (.int .u64 t.1.x.s.2)).setCell ⟨g, i * 12 + 6, none⟩ (.int .u64 t.1.x.n)).setCell ⟨g, i * 12 + 7, none⟩ (.slice t.1.BA t.1.x.b.length t.1.bc)).setCell ⟨g, i * 12 + 8, none⟩ (.int .u64 t.1.x.cid)).setCell ⟨g, i * 12 + 9, none⟩ (.slice t.1.CA t.1.x.c.length t.1.cc)).setCell ⟨g, i * 12 + 10, none⟩ (.bool t.1.x.w)).setCell ⟨g, i * 12 + 11, none⟩ (.int .i64 t.2)) (some g) := by
  obtain ⟨h0, g0⟩ := h.stored (i * 12) (.int .i64 t.1.x.k)
  obtain ⟨h1, g1⟩ := h0.stored (i * 12 + 1) (.int .i64 t.1.x.p.1)
  obtain ⟨h2, g2⟩ := h1.stored (i * 12 + 2) (.int .u64 t.1.x.p.2)
  obtain ⟨h3, g3⟩ := h2.stored (i * 12 + 3) (.int .u64 t.1.x.r)
  obtain ⟨h4, g4⟩ := h3.stored (i * 12 + 4) (.int .i64 t.1.x.s.1)
  obtain ⟨h5, g5⟩ := h4.stored (i * 12 + 5) (.int .u64 t.1.x.s.2)
  obtain ⟨h6, g6⟩ := h5.stored (i * 12 + 6) (.int .u64 t.1.x.n)
  obtain ⟨h7, g7⟩ := h6.stored (i * 12 + 7) (.slice t.1.BA t.1.x.b.length t.1.bc)
  obtain ⟨h8, g8⟩ := h7.stored (i * 12 + 8) (.int .u64 t.1.x.cid)
  obtain ⟨h9, g9⟩ := h8.stored (i * 12 + 9) (.slice t.1.CA t.1.x.c.length t.1.cc)
  obtain ⟨h10, g10⟩ := h9.stored (i * 12 + 10) (.bool t.1.x.w)
  obtain ⟨h11, g11⟩ := h10.stored (i * 12 + 11) (.int .i64 t.2)
  rw [kcs_set] at h11
  exact ⟨h11, ((((((((((g0.trans g1).trans g2).trans g3).trans g4).trans g5).trans g6).trans g7).trans g8).trans g9).trans g10).trans g11⟩
/-- what has been gone through -/
structure CI (l : List KP) (n kk : Nat) (dk : List KP) : Prop where
  len : dk.length = l.length
  lt : kk < n
  low : dk.take kk = compK (l.take n)
  klen : (compK (l.take n)).length = kk
  high : ∀ j, n ≤ j + 1 → dk[j]? = l[j]?
theorem CI.start {l : List KP} {k : Nat} {y z : KP} (hk : 0 < k) (hy : l[k]? = some y) (hz : l[k - 1]? = some z) (ha : compK (l.take k) = l.take k) (he : eqKP y z = true) : CI l (k + 1) k l := by
  have hl := (List.getElem?_eq_some_iff.1 hy).1
  have e : compK (l.take (k + 1)) = l.take k := by rw [compK_take hk hy hz, he, if_pos rfl, List.append_nil, ha]
  exact ⟨rfl, by omega, e.symm, by rw [e, List.length_take]; omega, fun _ _ => rfl⟩
theorem CI.skip {l dk : List KP} {n kk : Nat} {y z : KP} (h : CI l n kk dk) (hn : 0 < n) (hy : l[n]? = some y) (hz : l[n - 1]? = some z) (he : eqKP y z = true) : CI l (n + 1) kk dk := by
  have e : compK (l.take (n + 1)) = compK (l.take n) := by rw [compK_take hn hy hz, he, if_pos rfl, List.append_nil]
  exact ⟨h.len, by have := h.lt; omega, by rw [e]; exact h.low, by rw [e]; exact h.klen, fun j hj => h.high j (by omega)⟩
theorem CI.keep {l dk : List KP} {n kk : Nat} {y z : KP} (h : CI l n kk dk) (hn : 0 < n) (hy : l[n]? = some y) (hz : l[n - 1]? = some z) (he : eqKP y z = false) : CI l (n + 1) (kk + 1) (dk.set kk y) := by
  have e : compK (l.take (n + 1)) = compK (l.take n) ++ [y] := by rw [compK_take hn hy hz, he, if_neg (by simp)]
  have hlt := h.lt
  have hl := (List.getElem?_eq_some_iff.1 hy).1
  have hlen := h.len
  refine ⟨by rw [List.length_set, h.len], by omega, ?_, by rw [e, List.length_append, h.klen]; rfl, fun j hj => ?_⟩
  · rw [e, ← h.low, List.take_add_one, List.getElem?_set_self (by omega), List.take_set_of_le (Nat.le_refl _)]; rfl
  · rw [List.getElem?_set_ne (by omega)]; exact h.high j (by omega)
theorem ownK_at' {w : World} {base g n cap : Nat} {l : List KP} (h : w.ownsRow base 109 12 (.slice (some ⟨g, 0, none⟩) n cap) n (kcs l)) {i q a : Nat} {t : KP} {v : Value} (hi : l[i]? = some t) (hq : q < 12) (ha : a = i * 12 + q) (hv : (kc t)[q]? = some v) : w.cell? ⟨g, a, none⟩ = some v := by rw [ha]; exact ownK_at h hi hq hv
theorem grown_bel {w X Y : World} {g : Nat} (h : w.grownBy X (some g)) (hb : Below X.heap.size X Y) : w.grownBy Y (some g) := ⟨hb.os.trans h.os, hb.tape.trans h.tape, hb.output.trans h.output, Nat.le_trans h.size hb.size, fun i hi hr => (hb.block i (Nat.lt_of_lt_of_le hi h.size)).trans (h.block i hi hr)⟩
set_option maxRecDepth 100000 in
set_option maxHeartbeats 8000000 in
theorem compactK_own (base g cap : Nat) (l : List KP) (w : World) (h : OwnK w base (.slice (some ⟨g, 0, none⟩) l.length cap) l) (hg : g < w.heap.size) (hn : l.length ≤ 1000000) (hc : l.length ≤ cap) (hcap : cap ≤ maxLen) :
    Calls Try.prog 50 #[.slice (some ⟨g, 0, none⟩) l.length cap, .func (.func 43) #[] #[]] w fun e w' => e = .returned (.slice (some ⟨g, 0, none⟩) (compK l).length cap) ∧ OwnK w' base (.slice (some ⟨g, 0, none⟩) (compK l).length cap) (compK l) ∧ w.grownBy w' (some g) := by
  unfold maxLen at hcap
  by_cases h2 : l.length < 2
  · have hz := compK_one h2
    rw [hz]
    have HO := hide h
    clear h hz
    go_enter Try.func50, Try.ntmps50
    go_wp2
    go_ret
    exact ⟨rfl, HO.out, World.grownBy.refl _ _⟩
  · have HO := hide h
    clear h
    have hb8 : decide ((l.length : Int) < 2) = false := by simp; omega
    have HT1 := hide (show compK (l.take 1) = l.take 1 from compK_one (by simp; omega))
    go_enter Try.func50, Try.ntmps50
    go_wp2
    go_loopw [5] (fun s3 wr => ∃ k : Nat, 1 ≤ k ∧ k ≤ l.length ∧ s3 = .int .i64 k ∧ Below w.heap.size w wr ∧ compK (l.take k) = l.take k) (fun s3 _ => l.length - (intOf s3).toNat)
    case atStart => exact ⟨1, Nat.le_refl _, by omega, rfl, blw, HT1.out⟩
    case round =>
      obtain ⟨k, hk1, hk, rfl, hB, hall⟩ := hrel
      have HA := hide hall
      haveI : Stp w wr := ⟨hB⟩
      have HB := hide hB
      have zr := hB.size
      haveI : InW g wr := ⟨by omega⟩
      clear hall hB
      have HO2 := hide (show OwnK wr base (.slice (some ⟨g, 0, none⟩) l.length cap) l from own_tc HO.out)
      by_cases hlt : k < l.length
      · have hy : l[k]? = some l[k] := List.getElem?_eq_getElem hlt
        have hz : l[k - 1]? = some (l[k - 1]'(by omega)) := List.getElem?_eq_getElem (by omega)
        generalize l[k] = y at hy
        generalize l[k - 1]'(by omega) = z at hz
        have c0 := ownK_at' HO2.out hy (q := 0) (by omega) (a := k * 12) (by omega) rfl
        have c1 := ownK_at' HO2.out hy (q := 1) (by omega) (a := k * 12 + 1) (by omega) rfl
        have c2 := ownK_at' HO2.out hy (q := 2) (by omega) (a := k * 12 + 2) (by omega) rfl
        have c3 := ownK_at' HO2.out hy (q := 3) (by omega) (a := k * 12 + 3) (by omega) rfl
        have c4 := ownK_at' HO2.out hy (q := 4) (by omega) (a := k * 12 + 4) (by omega) rfl
        have c5 := ownK_at' HO2.out hy (q := 5) (by omega) (a := k * 12 + 5) (by omega) rfl
        have c6 := ownK_at' HO2.out hy (q := 6) (by omega) (a := k * 12 + 6) (by omega) rfl
        have c7 := ownK_at' HO2.out hy (q := 7) (by omega) (a := k * 12 + 7) (by omega) rfl
        have c8 := ownK_at' HO2.out hy (q := 8) (by omega) (a := k * 12 + 8) (by omega) rfl
        have c9 := ownK_at' HO2.out hy (q := 9) (by omega) (a := k * 12 + 9) (by omega) rfl
        have c10 := ownK_at' HO2.out hy (q := 10) (by omega) (a := k * 12 + 10) (by omega) rfl
        have c11 := ownK_at' HO2.out hy (q := 11) (by omega) (a := k * 12 + 11) (by omega) rfl
        have b0 := ownK_at' HO2.out hz (q := 0) (by omega) (a := (k - 1) * 12) (by omega) rfl
        have b1 := ownK_at' HO2.out hz (q := 1) (by omega) (a := (k - 1) * 12 + 1) (by omega) rfl
        have b2 := ownK_at' HO2.out hz (q := 2) (by omega) (a := (k - 1) * 12 + 2) (by omega) rfl
        have b3 := ownK_at' HO2.out hz (q := 3) (by omega) (a := (k - 1) * 12 + 3) (by omega) rfl
        have b4 := ownK_at' HO2.out hz (q := 4) (by omega) (a := (k - 1) * 12 + 4) (by omega) rfl
        have b5 := ownK_at' HO2.out hz (q := 5) (by omega) (a := (k - 1) * 12 + 5) (by omega) rfl
        have b6 := ownK_at' HO2.out hz (q := 6) (by omega) (a := (k - 1) * 12 + 6) (by omega) rfl
        have b7 := ownK_at' HO2.out hz (q := 7) (by omega) (a := (k - 1) * 12 + 7) (by omega) rfl
        have b8 := ownK_at' HO2.out hz (q := 8) (by omega) (a := (k - 1) * 12 + 8) (by omega) rfl
        have b9 := ownK_at' HO2.out hz (q := 9) (by omega) (a := (k - 1) * 12 + 9) (by omega) rfl
        have b10 := ownK_at' HO2.out hz (q := 10) (by omega) (a := (k - 1) * 12 + 10) (by omega) rfl
        have b11 := ownK_at' HO2.out hz (q := 11) (by omega) (a := (k - 1) * 12 + 11) (by omega) rfl
        have HY := hide hy
        have HZ := hide hz
        have T := hide (fun W => keep2_s y z W)
        clear hy hz
        have i0 : (0 : Int) ≤ (k : Int) := by omega
        have i1 : (k : Int) < (l.length : Int) := by omega
        have i2 : (0 : Int) ≤ (k : Int) - 1 := by omega
        have i3 : (k : Int) - 1 < (l.length : Int) := by omega
        have i4 : ((k : Int) - 1).toNat = k - 1 := by omega
        have i5 : (1 : Int) ≤ (k : Int) := by omega
        cases he : eqKP y z
        · have T := hide (show ∀ W, Calls Try.prog 43 #[kva y, kva z] W (RetB W false) by rw [← he]; exact T.out)
          have H := hide (show compK (l.take (k + 1)) = l.take (k + 1) by rw [compK_take (by omega) HY.out HZ.out, he, if_neg Bool.false_ne_true, HA.out, take_succ_of HY.out])
          go_wp2_with fail
          (refine wp_region_gw (by kernel_rfl) (by kernel_rfl) ?_; (repeat (go_big_quiet_step ((first | (go_at_call 43; with_reducible exact calls_gw (T.out _)) | fail)))); refine wpQuiet_nil ?_; intro _ hw'; obtain ⟨⟨dq, osq⟩, hw''⟩ := hw'; subst hw'')
          go_wp2
          go_roundw
          case rel => exact ⟨k + 1, by omega, by omega, by go_num, blw, H.out⟩
          case measure => simp [intOf]; omega
        · have T := hide (show ∀ W, Calls Try.prog 43 #[kva y, kva z] W (RetB W true) by rw [← he]; exact T.out)
          have HCI := hide (CI.start (by omega) HY.out HZ.out HA.out he)
          have n1 : ¬ cap = k := by omega
          have n2 : ¬ k = cap := by omega
          have n3 : k ≤ cap := by omega
          go_wp2_with fail
          (refine wp_region_gw (by kernel_rfl) (by kernel_rfl) ?_; (repeat (go_big_quiet_step ((first | (go_at_call 43; with_reducible exact calls_gw (T.out _)) | fail)))); refine wpQuiet_nil ?_; intro _ hw'; obtain ⟨⟨dq, osq⟩, hw''⟩ := hw'; subst hw'')
          go_wp2
          clear c0 c1 c2 c3 c4 c5 c6 c7 c8 c9 c10 c11 b0 b1 b2 b3 b4 b5 b6 b7 b8 b9 b10 b11 T
          go_loopw [5, 7] (fun s3 s5 wr => ∃ (kk k2 : Nat) (dk : List KP), s3 = .int .i64 kk ∧ s5 = .int .i64 k2 ∧ 1 ≤ k2 ∧ k + k2 ≤ l.length ∧ wr.ownsRow base 109 12 (.slice (some ⟨g, 0, none⟩) l.length cap) l.length (kcs dk) ∧ w.grownBy wr (some g) ∧ CI l (k + k2) kk dk) (fun _ s5 _ => l.length - (intOf s5).toNat)
          case atStart => exact ⟨k, 1, l, rfl, rfl, Nat.le_refl _, by omega, own_tc HO2.out, grown_bel (grown_bel (World.grownBy.refl w _) HB.out) blw, HCI.out⟩
          case round =>
            obtain ⟨kk, k2, dk, rfl, rfl, h1, hle, hown, hgr, hI⟩ := hrel
            have hkk := hI.lt
            have HW := hide hown
            have HG := hide hgr
            have HI := hide hI
            have zr2 := hgr.size
            haveI : InW g wr := ⟨by omega⟩
            clear hown hgr hI
            by_cases hlt2 : k + k2 < l.length
            · have hu : l[k + k2]? = some l[k + k2] := List.getElem?_eq_getElem hlt2
              have hv : l[k + k2 - 1]? = some (l[k + k2 - 1]'(by omega)) := List.getElem?_eq_getElem (by omega)
              generalize l[k + k2] = u at hu
              generalize l[k + k2 - 1]'(by omega) = v at hv
              have hu2 : dk[k + k2]? = some u := by rw [HI.out.high _ (by omega)]; exact hu
              have hv2 : dk[k + k2 - 1]? = some v := by rw [HI.out.high _ (by omega)]; exact hv
              have hx2 : dk[kk]? = some (dk[kk]'(by have := HI.out.len; omega)) := List.getElem?_eq_getElem _
              generalize dk[kk]'(by have := HI.out.len; omega) = x at hx2
              have e0 := ownK_at' HW.out hu2 (q := 0) (by omega) (a := k * 12 + k2 * 12) (by omega) rfl
              have e1 := ownK_at' HW.out hu2 (q := 1) (by omega) (a := k * 12 + k2 * 12 + 1) (by omega) rfl
              have e2 := ownK_at' HW.out hu2 (q := 2) (by omega) (a := k * 12 + k2 * 12 + 2) (by omega) rfl
              have e3 := ownK_at' HW.out hu2 (q := 3) (by omega) (a := k * 12 + k2 * 12 + 3) (by omega) rfl
              have e4 := ownK_at' HW.out hu2 (q := 4) (by omega) (a := k * 12 + k2 * 12 + 4) (by omega) rfl
              have e5 := ownK_at' HW.out hu2 (q := 5) (by omega) (a := k * 12 + k2 * 12 + 5) (by omega) rfl
              have e6 := ownK_at' HW.out hu2 (q := 6) (by omega) (a := k * 12 + k2 * 12 + 6) (by omega) rfl
              have e7 := ownK_at' HW.out hu2 (q := 7) (by omega) (a := k * 12 + k2 * 12 + 7) (by omega) rfl
              have e8 := ownK_at' HW.out hu2 (q := 8) (by omega) (a := k * 12 + k2 * 12 + 8) (by omega) rfl
              have e9 := ownK_at' HW.out hu2 (q := 9) (by omega) (a := k * 12 + k2 * 12 + 9) (by omega) rfl
              have e10 := ownK_at' HW.out hu2 (q := 10) (by omega) (a := k * 12 + k2 * 12 + 10) (by omega) rfl
              have e11 := ownK_at' HW.out hu2 (q := 11) (by omega) (a := k * 12 + k2 * 12 + 11) (by omega) rfl
              have d0 := ownK_at' HW.out hv2 (q := 0) (by omega) (a := k * 12 + (k2 - 1) * 12) (by omega) rfl
              have d1 := ownK_at' HW.out hv2 (q := 1) (by omega) (a := k * 12 + (k2 - 1) * 12 + 1) (by omega) rfl
              have d2 := ownK_at' HW.out hv2 (q := 2) (by omega) (a := k * 12 + (k2 - 1) * 12 + 2) (by omega) rfl
              have d3 := ownK_at' HW.out hv2 (q := 3) (by omega) (a := k * 12 + (k2 - 1) * 12 + 3) (by omega) rfl
              have d4 := ownK_at' HW.out hv2 (q := 4) (by omega) (a := k * 12 + (k2 - 1) * 12 + 4) (by omega) rfl
              have d5 := ownK_at' HW.out hv2 (q := 5) (by omega) (a := k * 12 + (k2 - 1) * 12 + 5) (by omega) rfl
              have d6 := ownK_at' HW.out hv2 (q := 6) (by omega) (a := k * 12 + (k2 - 1) * 12 + 6) (by omega) rfl
              have d7 := ownK_at' HW.out hv2 (q := 7) (by omega) (a := k * 12 + (k2 - 1) * 12 + 7) (by omega) rfl
              have d8 := ownK_at' HW.out hv2 (q := 8) (by omega) (a := k * 12 + (k2 - 1) * 12 + 8) (by omega) rfl
              have d9 := ownK_at' HW.out hv2 (q := 9) (by omega) (a := k * 12 + (k2 - 1) * 12 + 9) (by omega) rfl
              have d10 := ownK_at' HW.out hv2 (q := 10) (by omega) (a := k * 12 + (k2 - 1) * 12 + 10) (by omega) rfl
              have d11 := ownK_at' HW.out hv2 (q := 11) (by omega) (a := k * 12 + (k2 - 1) * 12 + 11) (by omega) rfl
              have a0 := ownK_at' HW.out hx2 (q := 0) (by omega) (a := kk * 12) (by omega) rfl
              have a1 := ownK_at' HW.out hx2 (q := 1) (by omega) (a := kk * 12 + 1) (by omega) rfl
              have a2 := ownK_at' HW.out hx2 (q := 2) (by omega) (a := kk * 12 + 2) (by omega) rfl
              have a3 := ownK_at' HW.out hx2 (q := 3) (by omega) (a := kk * 12 + 3) (by omega) rfl
              have a4 := ownK_at' HW.out hx2 (q := 4) (by omega) (a := kk * 12 + 4) (by omega) rfl
              have a5 := ownK_at' HW.out hx2 (q := 5) (by omega) (a := kk * 12 + 5) (by omega) rfl
              have a6 := ownK_at' HW.out hx2 (q := 6) (by omega) (a := kk * 12 + 6) (by omega) rfl
              have a7 := ownK_at' HW.out hx2 (q := 7) (by omega) (a := kk * 12 + 7) (by omega) rfl
              have a8 := ownK_at' HW.out hx2 (q := 8) (by omega) (a := kk * 12 + 8) (by omega) rfl
              have a9 := ownK_at' HW.out hx2 (q := 9) (by omega) (a := kk * 12 + 9) (by omega) rfl
              have a10 := ownK_at' HW.out hx2 (q := 10) (by omega) (a := kk * 12 + 10) (by omega) rfl
              have a11 := ownK_at' HW.out hx2 (q := 11) (by omega) (a := kk * 12 + 11) (by omega) rfl
              have f0 := HW.out.frozenAt (kk * 12)
              have f1 := HW.out.frozenAt (kk * 12 + 1)
              have f2 := HW.out.frozenAt (kk * 12 + 2)
              have f3 := HW.out.frozenAt (kk * 12 + 3)
              have f4 := HW.out.frozenAt (kk * 12 + 4)
              have f5 := HW.out.frozenAt (kk * 12 + 5)
              have f6 := HW.out.frozenAt (kk * 12 + 6)
              have f7 := HW.out.frozenAt (kk * 12 + 7)
              have f8 := HW.out.frozenAt (kk * 12 + 8)
              have f9 := HW.out.frozenAt (kk * 12 + 9)
              have f10 := HW.out.frozenAt (kk * 12 + 10)
              have f11 := HW.out.frozenAt (kk * 12 + 11)
              have HU := hide hu
              have HV := hide hv
              have T := hide (fun W => keep2_s u v W)
              clear hu hv hu2 hv2 hx2
              have j0 : (0 : Int) ≤ (k2 : Int) := by omega
              have j1 : (k2 : Int) < (l.length : Int) - (k : Int) := by omega
              have j2 : (0 : Int) ≤ (k2 : Int) - 1 := by omega
              have j3 : (k2 : Int) - 1 < (l.length : Int) - (k : Int) := by omega
              have j4 : ((k2 : Int) - 1).toNat = k2 - 1 := by omega
              have j5 : (1 : Int) ≤ (k2 : Int) := by omega
              have j6 : k2 < l.length - k := by omega
              have j7 : (0 : Int) ≤ (kk : Int) := by omega
              have j8 : (kk : Int) < (l.length : Int) := by omega
              cases he2 : eqKP u v
              · have T := hide (show ∀ W, Calls Try.prog 43 #[kva u, kva v] W (RetB W false) by rw [← he2]; exact T.out)
                have HK := hide (HI.out.keep (by omega) HU.out HV.out he2)
                go_wp2_with fail
                (refine wp_region_gw (by kernel_rfl) (by kernel_rfl) ?_; (repeat (go_big_quiet_step ((first | (go_at_call 43; with_reducible exact calls_gw (T.out _)) | fail)))); refine wpQuiet_nil ?_; intro _ hw'; obtain ⟨⟨dq, osq⟩, hw''⟩ := hw'; subst hw'')
                go_wp2
                go_roundw
                case rel =>
                  have hs := ownK_set HW.out kk u
                  exact ⟨kk + 1, k2 + 1, dk.set kk u, by go_num, by go_num, by omega, by omega, own_tc hs.1, grown_bel (HG.out.trans hs.2) (below_gw _ _ _), HK.out⟩
                case measure => simp [intOf]; omega
              · have T := hide (show ∀ W, Calls Try.prog 43 #[kva u, kva v] W (RetB W true) by rw [← he2]; exact T.out)
                have HK := hide (HI.out.skip (by omega) HU.out HV.out he2)
                go_wp2_with fail
                (refine wp_region_gw (by kernel_rfl) (by kernel_rfl) ?_; (repeat (go_big_quiet_step ((first | (go_at_call 43; with_reducible exact calls_gw (T.out _)) | fail)))); refine wpQuiet_nil ?_; intro _ hw'; obtain ⟨⟨dq, osq⟩, hw''⟩ := hw'; subst hw'')
                go_wp2
                go_roundw
                case rel => exact ⟨kk, k2 + 1, dk, rfl, by go_num, by omega, by omega, own_tc HW.out, grown_bel HG.out blw, HK.out⟩
                case measure => simp [intOf]; omega
            · have hend : k + k2 = l.length := by omega
              have HF := hide (show compK l = dk.take kk ∧ (compK l).length = kk by
                have h1 := HI.out.low; have h2 := HI.out.klen
                rw [hend, List.take_length] at h1 h2
                exact ⟨h1.symm, h2⟩)
              have hdl : dk.length = l.length := HI.out.len
              have hcl : ∀ ty, (Builtin.clear_ #[105] ty #[.slice (some ⟨g, kk * 12, none⟩) (l.length - kk) (cap - kk)]).run Try.prog wr = .ok (.tuple #[]) (wr.setCells g (kk * 12) (Builtin.zeroCells #[.int .i64 0, .int .i64 0, .int .u64 0, .int .u64 0, .int .i64 0, .int .u64 0, .int .u64 0, .slice none 0 0, .int .u64 0, .slice none 0 0, .bool false, .int .i64 0] (l.length - kk)).toList) := fun ty =>
                run_clear_cells wr 105 109 ty (.agg #[.int .i64 0, .int .i64 0, .int .u64 0, .int .u64 0, .int .i64 0, .int .u64 0, .int .u64 0, .slice none 0 0, .int .u64 0, .slice none 0 0, .bool false, .int .i64 0]) Try.underlying105 (fun _ => by kernel_rfl) (by simp [Value.cells, Value.oneCell']) (by simp [Value.cells]) g (kk * 12) (l.length - kk) (cap - kk)
                  (fun j hj => by
                    have hj' : j < (l.length - kk) * 12 := hj
                    rw [HW.out.cellAt _ (by omega), List.getElem?_eq_getElem (by rw [kcs_len]; omega)]; rfl)
                  (fun j hj => HW.out.frozenAt _)
              have m0 : ¬ cap = kk := by omega
              have m1 : kk ≤ cap := by omega
              have m2 : (0 : Int) ≤ (kk : Int) := by omega
              have m3 : (kk : Int) ≤ (l.length : Int) := by omega
              have m4 : kk ≤ l.length := by omega
              clear hend
              go_wp2
              go_ret
              obtain ⟨s1, s2⟩ := own_setCells (Builtin.zeroCells #[.int .i64 0, .int .i64 0, .int .u64 0, .int .u64 0, .int .i64 0, .int .u64 0, .int .u64 0, .slice none 0 0, .int .u64 0, .slice none 0 0, .bool false, .int .i64 0] (l.length - kk)).toList (kk * 12) wr _ (own_take HW.out m4) (Nat.le_refl _)
              refine ⟨?_, ?_, HG.out.trans s2⟩
              · rw [HF.out.2]; rfl
              · rw [OwnK, HF.out.2, HF.out.1, kcs, ← flat_take kc_len]; exact s1
      · have H := hide (show compK l = l by have := HA.out; rwa [List.take_of_length_le (by omega)] at this)
        have HN := hide (grown_bel (World.grownBy.refl w (some g)) HB.out)
        go_wp2
        go_ret
        refine ⟨?_, ?_, HN.out⟩
        · rw [H.out]; rfl
        · rw [OwnK, H.out]; exact HO2.out
theorem compactK_few (A : Option Addr) (n c : Nat) (fv : Value) (w : World) (hn : n < 2) : Calls Try.prog 50 #[.slice A n c, fv] w fun e w' => e = .returned (.slice A n c) ∧ w = w' := by
  have hb8 : decide ((n : Int) < 2) = true := by simp; omega
  go_enter Try.func50, Try.ntmps50
  go_wp2
  go_ret
  exact ⟨rfl, rfl⟩
end Go.Proofs.Ytmleeohaaipdcaa
