/-
  Layer 10: letters: contracts: the reference's numbers, cut, May, Same; slices.Max, letter.mayCut, letter.May.
-/
import Derived.Test.YtmleeohaaipdcaaView
import Derived.Test.YtmleeohaaipdcaaRef4
import Derived.Test.YtmleeohaaipdcaaTcL
import Derived.Test.YtmleeohaaipdcaaStrI
namespace Go.Proofs.Ytmleeohaaipdcaa
set_option linter.unusedSimpArgs false
set_option linter.unusedVariables false
set_option linter.unusedSectionVars false
open Go.RowKit

abbrev LtV (k fn fi r sn si n : Int) (BA : Option Addr) (bl bc : Nat) (cid : Int) (CA : Option Addr) (cl cc : Nat) (wt : Bool) : Value := .agg #[.int .i64 k, .int .i64 fn, .int .u64 fi, .int .u64 r, .int .i64 sn, .int .u64 si, .int .u64 n, .slice BA bl bc, .int .u64 cid, .slice CA cl cc, .bool wt]
abbrev LtA (k fn fi r sn si n : Int) (BA : Option Addr) (bl bc : Nat) (cid : Int) (CA : Option Addr) (cl cc : Nat) (wt : Bool) : Array Value := #[.int .i64 k, .int .i64 fn, .int .u64 fi, .int .u64 r, .int .i64 sn, .int .u64 si, .int .u64 n, .slice BA bl bc, .int .u64 cid, .slice CA cl cc, .bool wt]
theorem Ul.tc {a W : World} {A : Option Addr} {l : List Int} (h : Ul a A l) [b : Blw a W] : Ul W A l := h.step b.h
theorem all_succ' (l : List Int) (p : Int → Bool) (k : Nat) (x : Int) (h : l[k]? = some x) : (l.take (k + 1)).all p = ((l.take k).all p && p x) := by rw [take_succ_of h]; simp
set_option maxHeartbeats 1000000 in
theorem numbers10_s (A A' : Option Addr) (c c' : Nat) (l m : List Int) (w : World) (h : Ul w A l) (h' : Ul w A' m) (hn : l.length ≤ 1000000) (hm : m.length ≤ 1000000) :
    Calls Try.prog 54 #[.slice A l.length c, .slice A' m.length c'] w (RetB w (decide (l = m))) := by
  haveI : Src w A l.length 1 (ucs l) := ⟨h⟩
  haveI : Src w A' m.length 1 (ucs m) := ⟨h'⟩
  clear h h'
  cases f1 : ((l.length : Int) != (m.length : Int))
  · have hlen : l.length = m.length := by have := f1; simp at this; omega
    have HLEN := hide hlen
    clear hlen
    go_enter Try.func54, Try.ntmps54
    go_wp2
    go_loopw [5] (fun j wr => ∃ k : Nat, k ≤ l.length ∧ j = .int .i64 k ∧ Below w.heap.size w wr ∧ l.take k = m.take k) (fun j _ => l.length - (intOf j).toNat)
    case atStart => exact ⟨0, Nat.zero_le _, rfl, blw, rfl⟩
    case round =>
      obtain ⟨k, hk, rfl, hB, htk⟩ := hrel
      haveI : Blw w wr := ⟨hB⟩
      have HN := hide htk
      clear htk hB
      by_cases hlt : k < l.length
      · have hlt' : k < m.length := by have := HLEN.out; omega
        obtain ⟨b, off, x, rfl, hb, hx, g1⟩ := (show Reads wr wr.heap.size 1 A l.length (ucs l) from src).atU hlt
        obtain ⟨b', off', y, rfl, hb', hy, g2⟩ := (show Reads wr wr.heap.size 1 A' m.length (ucs m) from src).atU hlt'
        haveI : InW b wr := ⟨hb⟩
        haveI : InW b' wr := ⟨hb'⟩
        have HX := hide hx
        have HY := hide hy
        have i0 : (0 : Int) ≤ (k : Int) := by omega
        have i1 : (k : Int) < (l.length : Int) := by omega
        have i2 : (k : Int) < (m.length : Int) := by omega
        clear hx hy
        by_cases hxy : x = y
        · subst hxy
          have H := hide (show l.take (k + 1) = m.take (k + 1) by rw [take_succ_of HX.out, take_succ_of HY.out, HN.out])
          go_wp2
          go_quiet (fail)
          go_wp2
          go_roundw
          case rel => exact ⟨k + 1, by omega, by go_num, blw, H.out⟩
          case measure => simp [intOf]; omega
        · have H := hide (show ¬ l = m by
            intro h; subst h
            have := HX.out.symm.trans HY.out
            injection this with this
            exact hxy this)
          have hb : (x != y) = true := by simpa using hxy
          clear hxy
          go_wp2
          go_quiet (fail)
          go_wp2
          go_ret
          exact ⟨ret_b (by simp [H.out]), blw⟩
      · have H := hide (show l = m by
          have := HN.out; have h2 := HLEN.out
          rwa [List.take_of_length_le (by omega), List.take_of_length_le (by omega)] at this)
        go_wp2
        go_ret
        exact ⟨ret_b (by simp [H.out]), blw⟩
  · have H := hide (show ¬ l = m by intro h; subst h; simp at f1)
    go_enter Try.func54, Try.ntmps54
    go_wp2
    go_ret
    exact ⟨ret_b (by simp [H.out]), blw⟩
def cutB (l : List Int) : Bool := l.all (fun x => decide (x ≤ 16)) && (decide (1 ≤ (l.length : Int)) && decide ((l.length : Int) ≤ 6))
set_option maxHeartbeats 1000000 in
theorem cut10_s (A : Option Addr) (c : Nat) (l : List Int) (w : World) (h : Ul w A l) (hn : l.length ≤ 1000000) : Calls Try.prog 120 #[.slice A l.length c] w (RetB w (cutB l)) := by
  haveI : Src w A l.length 1 (ucs l) := ⟨h⟩
  clear h
  go_enter Try.func120, Try.ntmps120
  go_wp2
  go_loopw [3] (fun j wr => ∃ k : Nat, k ≤ l.length ∧ j = .int .i64 k ∧ Below w.heap.size w wr ∧ (l.take k).all (fun x => decide (x ≤ 16)) = true) (fun j _ => l.length - (intOf j).toNat)
  case atStart => exact ⟨0, Nat.zero_le _, rfl, blw, rfl⟩
  case round =>
    obtain ⟨k, hk, rfl, hB, htk⟩ := hrel
    haveI : Blw w wr := ⟨hB⟩
    have HN := hide htk
    clear htk hB
    by_cases hlt : k < l.length
    · obtain ⟨b, off, x, rfl, hb, hx, g1⟩ := (show Reads wr wr.heap.size 1 A l.length (ucs l) from src).atU hlt
      haveI : InW b wr := ⟨hb⟩
      have HX := hide hx
      have i0 : (0 : Int) ≤ (k : Int) := by omega
      have i1 : (k : Int) < (l.length : Int) := by omega
      clear hx
      cases f1 : decide (16 < x)
      · have H := hide (show (l.take (k + 1)).all (fun x => decide (x ≤ 16)) = true by rw [all_succ' _ _ _ _ HX.out, HN.out]; have := of_decide_eq_false f1; simp; omega)
        go_wp2
        go_roundw
        case rel => exact ⟨k + 1, by omega, by go_num, blw, H.out⟩
        case measure => simp [intOf]; omega
      · have H := hide (show l.all (fun x => decide (x ≤ 16)) = false by
          rw [List.all_eq_false]
          exact ⟨x, List.mem_of_getElem? HX.out, by have := of_decide_eq_true f1; simp; omega⟩)
        go_wp2
        go_ret
        exact ⟨ret_b (by unfold cutB; rw [H.out]; rfl), blw⟩
    · have H := hide (show l.all (fun x => decide (x ≤ 16)) = true by
        have := HN.out
        rwa [List.take_of_length_le (by omega)] at this)
      cases f1 : decide (1 ≤ (l.length : Int))
      · go_wp2
        go_ret
        exact ⟨ret_b (by unfold cutB; rw [H.out, f1]; rfl), blw⟩
      · go_wp2
        go_ret
        exact ⟨ret_b (by unfold cutB; rw [H.out, f1]; rfl), blw⟩
/-- the greatest -/
def maxF (x : Int) (l : List Int) : Int := l.foldl max x
theorem maxF_le (x : Int) (l : List Int) (b : Int) : maxF x l ≤ b ↔ x ≤ b ∧ ∀ y ∈ l, y ≤ b := by
  unfold maxF
  induction l generalizing x with
  | nil => simp
  | cons y l ih =>
    rw [List.foldl_cons, ih]
    simp only [List.mem_cons, forall_eq_or_imp]
    constructor
    · rintro ⟨h1, h2⟩; exact ⟨by omega, by omega, h2⟩
    · rintro ⟨h1, h2, h3⟩; exact ⟨by omega, h3⟩
theorem maxF_snoc (x : Int) (l : List Int) (y : Int) : maxF x (l ++ [y]) = max (maxF x l) y := by unfold maxF; rw [List.foldl_append]; rfl
set_option maxHeartbeats 1000000 in
theorem max_s (A : Option Addr) (c : Nat) (x : Int) (l : List Int) (w : World) (h : Ul w A (x :: l)) (hn : l.length ≤ 1000000) : Calls Try.prog 106 #[.slice A (x :: l).length c] w fun e w' => e = .returned (.int .u64 (maxF x l)) ∧ w = w' := by
  have HR := hide h
  clear h
  have hl : (x :: l).length = l.length + 1 := rfl
  obtain ⟨b, off, y, rfl, hb, hy, g1⟩ := HR.out.atU (k := 0) (by simp)
  simp at hy
  subst hy
  rw [Nat.add_zero] at g1
  haveI : InW b w := ⟨hb⟩
  generalize hL : x :: l = L at HR hl
  have HL := hide hL
  clear hL
  have i0 : decide ((L.length : Int) < 1) = false := decide_eq_false (by omega)
  have i3 : (0 : Int) < (L.length : Int) := by omega
  go_enter Try.func106, Try.ntmps106
  go_wp2
  go_loop [3, 4] (fun v j => ∃ k : Nat, 1 ≤ k ∧ k ≤ L.length ∧ j = .int .i64 k ∧ v = .int .u64 (maxF x (l.take (k - 1)))) (fun _ j => L.length - (intOf j).toNat)
  case atStart => exact ⟨1, Nat.le_refl _, by omega, rfl, by simp [maxF]⟩
  case round =>
    obtain ⟨k, hk1, hk, rfl, rfl⟩ := hrel
    by_cases hlt : k < L.length
    · obtain ⟨b', off', y, he, hb', hy, g2⟩ := HR.out.atU hlt
      injection he with he
      injection he with he1 he2
      subst he1 he2
      have H := hide (show maxF x (l.take (k + 1 - 1)) = max (maxF x (l.take (k - 1))) y by
        have hy' : l[k - 1]? = some y := by
          rw [← HL.out] at hy
          obtain ⟨j, rfl⟩ : ∃ j, k = j + 1 := ⟨k - 1, by omega⟩
          simpa using hy
        rw [show k + 1 - 1 = (k - 1) + 1 by omega, take_succ_of hy', maxF_snoc])
      generalize maxF x (l.take (k - 1)) = mm at H
      have i1 : (0 : Int) ≤ (k : Int) := by omega
      have i2 : (k : Int) < (L.length : Int) := by omega
      clear hy
      go_wp2
      go_round
      case rel => exact ⟨k + 1, by omega, by omega, by go_num, by rw [H.out]⟩
      case measure => simp [intOf]; omega
    · obtain rfl : k = L.length := by omega
      go_wp2
      go_ret
      exact ⟨rfl, rfl⟩
set_option maxHeartbeats 1000000 in
theorem mayCut_s (A : Option Addr) (c : Nat) (l : List Int) (w : World) (h : Ul w A l) (hn : l.length ≤ 1000000) : Calls Try.prog 76 #[.slice A l.length c] w (RetB w (cutB l)) := by
  have T := hide (fun x l' (e : l = x :: l') => (by subst e; exact max_s A c x l' w h (by simp at hn; omega) : Calls Try.prog 106 #[.slice A l.length c] w fun e w' => e = .returned (.int .u64 (maxF x l')) ∧ w = w'))
  clear h
  cases f1 : decide ((l.length : Int) < 1)
  · cases f2 : decide (6 < (l.length : Int))
    · cases l with
      | nil => simp at f1
      | cons x l =>
        have T2 := hide (T.out x l rfl)
        have H := hide (show cutB (x :: l) = decide (maxF x l ≤ 16) by
          have g1 := of_decide_eq_false f1
          have g2 := of_decide_eq_false f2
          unfold cutB
          rw [decide_eq_true (show 1 ≤ ((x :: l).length : Int) by omega), decide_eq_true (show ((x :: l).length : Int) ≤ 6 by omega), Bool.and_true, Bool.and_true, Bool.eq_iff_iff, decide_eq_true_eq, maxF_le]
          simp)
        clear T
        rw [H.out]
        generalize maxF x l = mm at T2
        generalize (x :: l).length = n at T2 f1 f2 hn
        go_enter Try.func76, Try.ntmps76
        go_wp2_with fail
        (with_reducible refine T2.out.mono ?_)
        rintro e w1 ⟨rfl, rfl⟩
        go_wp2
        go_ret
        exact ⟨rfl, blw⟩
    · have H := hide (show cutB l = false by unfold cutB; rw [decide_eq_false (show ¬ (l.length : Int) ≤ 6 by have := of_decide_eq_true f2; omega), Bool.and_false, Bool.and_false])
      clear T
      go_enter Try.func76, Try.ntmps76
      go_wp2
      go_ret
      exact ⟨ret_b H.out.symm, blw⟩
  · have H := hide (show cutB l = false by unfold cutB; rw [decide_eq_false (show ¬ 1 ≤ (l.length : Int) by have := of_decide_eq_true f1; omega), Bool.false_and, Bool.and_false])
    clear T
    go_enter Try.func76, Try.ntmps76
    go_wp2
    go_ret
    exact ⟨ret_b H.out.symm, blw⟩
def lprog7 (n : Int) (bs : List Int) (cid : Int) (cs : List Int) (wt : Bool) : Bool := (!((cid : Int) != 0) && (!wt && (decide (1 ≤ n) && (decide (n ≤ 16) && (decide ((bs.length : Int) ≤ 64) && ((cs.length : Int) == 0))))))
def lprog8 (n : Int) (bs : List Int) (cid : Int) (cs : List Int) (wt : Bool) : Bool := (!((n : Int) != 0) && (!((bs.length : Int) != 0) && (!wt && (decide (0 < cid) && cutB cs))))
def lprog9 (n : Int) (bs : List Int) (cid : Int) (cs : List Int) (wt : Bool) : Bool := (!((n : Int) != 0) && (!((bs.length : Int) != 0) && (!((cid : Int) != 0) && cutB cs)))
def lprog0 (n : Int) (bs : List Int) (cid : Int) (cs : List Int) (wt : Bool) : Bool := false
set_option maxRecDepth 100000 in
set_option maxHeartbeats 4000000 in
theorem lprog7_s (k fn fi r sn si n : Int) (BA : Option Addr) (bs : List Int) (bc : Nat) (cid : Int) (CA : Option Addr) (cs : List Int) (cc : Nat) (wt : Bool) (w : World) (h : Ul w CA cs) (hl : cs.length ≤ 1000000) (hk : k = 7) :
    Calls Try.prog 41 #[LtV k fn fi r sn si n BA bs.length bc cid CA cs.length cc wt] w (RetB w (mayB fn fi && (mayIdB r sn si && lprog7 n bs cid cs wt))) := by
  have k7 : (k == 7) = true := by rw [hk]; rfl
  have m7 : (k != 7) = false := by rw [hk]; rfl
  have k8 : (k == 8) = false := by rw [hk]; rfl
  have m8 : (k != 8) = true := by rw [hk]; rfl
  have k9 : (k == 9) = false := by rw [hk]; rfl
  have m9 : (k != 9) = true := by rw [hk]; rfl
  clear hk
  have T1 := hide (fun W => may_b fn fi W)
  have T2 := hide (fun W => mayId_s r sn si W)
  have T3 := hide (fun W (h : Ul W CA cs) => mayCut_s CA cc cs W h hl)
  have HC := hide h
  clear h
  unfold lprog7
  cases q1 : mayB fn fi
  · rw [q1] at T1
    go_enter Try.func41, Try.ntmps41
    go_wp2_with (first | (go_at_call 71; (with_reducible refine (T1.out _).mono ?_); rintro e w1 ⟨rfl, hb⟩; haveI : Stp _ w1 := ⟨hb⟩; clear hb) | (go_at_call 75; (with_reducible refine (T2.out _).mono ?_); rintro e w2 ⟨rfl, hb⟩; haveI : Stp _ w2 := ⟨hb⟩; clear hb) | (go_at_call 76; (with_reducible refine (T3.out _ HC.out.tc).mono ?_); rintro e w3 ⟨rfl, hb⟩; haveI : Stp _ w3 := ⟨hb⟩; clear hb))
    go_ret
    exact ⟨ret_b (by simp), blw⟩
  · rw [q1] at T1
    cases q2 : mayIdB r sn si
    · rw [q2] at T2
      go_enter Try.func41, Try.ntmps41
      go_wp2_with (first | (go_at_call 71; (with_reducible refine (T1.out _).mono ?_); rintro e w1 ⟨rfl, hb⟩; haveI : Stp _ w1 := ⟨hb⟩; clear hb) | (go_at_call 75; (with_reducible refine (T2.out _).mono ?_); rintro e w2 ⟨rfl, hb⟩; haveI : Stp _ w2 := ⟨hb⟩; clear hb) | (go_at_call 76; (with_reducible refine (T3.out _ HC.out.tc).mono ?_); rintro e w3 ⟨rfl, hb⟩; haveI : Stp _ w3 := ⟨hb⟩; clear hb))
      go_ret
      exact ⟨ret_b (by simp), blw⟩
    · rw [q2] at T2
      cases f1 : ((cid : Int) != 0)
      · cases f2 : wt
        · cases f3 : decide (1 ≤ n)
          · go_enter Try.func41, Try.ntmps41
            go_wp2_with (first | (go_at_call 71; (with_reducible refine (T1.out _).mono ?_); rintro e w1 ⟨rfl, hb⟩; haveI : Stp _ w1 := ⟨hb⟩; clear hb) | (go_at_call 75; (with_reducible refine (T2.out _).mono ?_); rintro e w2 ⟨rfl, hb⟩; haveI : Stp _ w2 := ⟨hb⟩; clear hb) | (go_at_call 76; (with_reducible refine (T3.out _ HC.out.tc).mono ?_); rintro e w3 ⟨rfl, hb⟩; haveI : Stp _ w3 := ⟨hb⟩; clear hb))
            go_ret
            exact ⟨ret_b (by simp), blw⟩
          · cases f4 : decide (n ≤ 16)
            · go_enter Try.func41, Try.ntmps41
              go_wp2_with (first | (go_at_call 71; (with_reducible refine (T1.out _).mono ?_); rintro e w1 ⟨rfl, hb⟩; haveI : Stp _ w1 := ⟨hb⟩; clear hb) | (go_at_call 75; (with_reducible refine (T2.out _).mono ?_); rintro e w2 ⟨rfl, hb⟩; haveI : Stp _ w2 := ⟨hb⟩; clear hb) | (go_at_call 76; (with_reducible refine (T3.out _ HC.out.tc).mono ?_); rintro e w3 ⟨rfl, hb⟩; haveI : Stp _ w3 := ⟨hb⟩; clear hb))
              go_ret
              exact ⟨ret_b (by simp), blw⟩
            · cases f5 : decide ((bs.length : Int) ≤ 64)
              · go_enter Try.func41, Try.ntmps41
                go_wp2_with (first | (go_at_call 71; (with_reducible refine (T1.out _).mono ?_); rintro e w1 ⟨rfl, hb⟩; haveI : Stp _ w1 := ⟨hb⟩; clear hb) | (go_at_call 75; (with_reducible refine (T2.out _).mono ?_); rintro e w2 ⟨rfl, hb⟩; haveI : Stp _ w2 := ⟨hb⟩; clear hb) | (go_at_call 76; (with_reducible refine (T3.out _ HC.out.tc).mono ?_); rintro e w3 ⟨rfl, hb⟩; haveI : Stp _ w3 := ⟨hb⟩; clear hb))
                go_ret
                exact ⟨ret_b (by simp), blw⟩
              · cases f6 : ((cs.length : Int) == 0)
                · go_enter Try.func41, Try.ntmps41
                  go_wp2_with (first | (go_at_call 71; (with_reducible refine (T1.out _).mono ?_); rintro e w1 ⟨rfl, hb⟩; haveI : Stp _ w1 := ⟨hb⟩; clear hb) | (go_at_call 75; (with_reducible refine (T2.out _).mono ?_); rintro e w2 ⟨rfl, hb⟩; haveI : Stp _ w2 := ⟨hb⟩; clear hb) | (go_at_call 76; (with_reducible refine (T3.out _ HC.out.tc).mono ?_); rintro e w3 ⟨rfl, hb⟩; haveI : Stp _ w3 := ⟨hb⟩; clear hb))
                  go_ret
                  exact ⟨ret_b (by simp), blw⟩
                · go_enter Try.func41, Try.ntmps41
                  go_wp2_with (first | (go_at_call 71; (with_reducible refine (T1.out _).mono ?_); rintro e w1 ⟨rfl, hb⟩; haveI : Stp _ w1 := ⟨hb⟩; clear hb) | (go_at_call 75; (with_reducible refine (T2.out _).mono ?_); rintro e w2 ⟨rfl, hb⟩; haveI : Stp _ w2 := ⟨hb⟩; clear hb) | (go_at_call 76; (with_reducible refine (T3.out _ HC.out.tc).mono ?_); rintro e w3 ⟨rfl, hb⟩; haveI : Stp _ w3 := ⟨hb⟩; clear hb))
                  go_ret
                  exact ⟨ret_b (by simp), blw⟩
        · go_enter Try.func41, Try.ntmps41
          go_wp2_with (first | (go_at_call 71; (with_reducible refine (T1.out _).mono ?_); rintro e w1 ⟨rfl, hb⟩; haveI : Stp _ w1 := ⟨hb⟩; clear hb) | (go_at_call 75; (with_reducible refine (T2.out _).mono ?_); rintro e w2 ⟨rfl, hb⟩; haveI : Stp _ w2 := ⟨hb⟩; clear hb) | (go_at_call 76; (with_reducible refine (T3.out _ HC.out.tc).mono ?_); rintro e w3 ⟨rfl, hb⟩; haveI : Stp _ w3 := ⟨hb⟩; clear hb))
          go_ret
          exact ⟨ret_b (by simp), blw⟩
      · go_enter Try.func41, Try.ntmps41
        go_wp2_with (first | (go_at_call 71; (with_reducible refine (T1.out _).mono ?_); rintro e w1 ⟨rfl, hb⟩; haveI : Stp _ w1 := ⟨hb⟩; clear hb) | (go_at_call 75; (with_reducible refine (T2.out _).mono ?_); rintro e w2 ⟨rfl, hb⟩; haveI : Stp _ w2 := ⟨hb⟩; clear hb) | (go_at_call 76; (with_reducible refine (T3.out _ HC.out.tc).mono ?_); rintro e w3 ⟨rfl, hb⟩; haveI : Stp _ w3 := ⟨hb⟩; clear hb))
        go_ret
        exact ⟨ret_b (by simp), blw⟩
set_option maxRecDepth 100000 in
set_option maxHeartbeats 4000000 in
theorem lprog8_s (k fn fi r sn si n : Int) (BA : Option Addr) (bs : List Int) (bc : Nat) (cid : Int) (CA : Option Addr) (cs : List Int) (cc : Nat) (wt : Bool) (w : World) (h : Ul w CA cs) (hl : cs.length ≤ 1000000) (hk : k = 8) :
    Calls Try.prog 41 #[LtV k fn fi r sn si n BA bs.length bc cid CA cs.length cc wt] w (RetB w (mayB fn fi && (mayIdB r sn si && lprog8 n bs cid cs wt))) := by
  have k7 : (k == 7) = false := by rw [hk]; rfl
  have m7 : (k != 7) = true := by rw [hk]; rfl
  have k8 : (k == 8) = true := by rw [hk]; rfl
  have m8 : (k != 8) = false := by rw [hk]; rfl
  have k9 : (k == 9) = false := by rw [hk]; rfl
  have m9 : (k != 9) = true := by rw [hk]; rfl
  clear hk
  have T1 := hide (fun W => may_b fn fi W)
  have T2 := hide (fun W => mayId_s r sn si W)
  have T3 := hide (fun W (h : Ul W CA cs) => mayCut_s CA cc cs W h hl)
  have HC := hide h
  clear h
  unfold lprog8
  cases q1 : mayB fn fi
  · rw [q1] at T1
    go_enter Try.func41, Try.ntmps41
    go_wp2_with (first | (go_at_call 71; (with_reducible refine (T1.out _).mono ?_); rintro e w1 ⟨rfl, hb⟩; haveI : Stp _ w1 := ⟨hb⟩; clear hb) | (go_at_call 75; (with_reducible refine (T2.out _).mono ?_); rintro e w2 ⟨rfl, hb⟩; haveI : Stp _ w2 := ⟨hb⟩; clear hb) | (go_at_call 76; (with_reducible refine (T3.out _ HC.out.tc).mono ?_); rintro e w3 ⟨rfl, hb⟩; haveI : Stp _ w3 := ⟨hb⟩; clear hb))
    go_ret
    exact ⟨ret_b (by simp), blw⟩
  · rw [q1] at T1
    cases q2 : mayIdB r sn si
    · rw [q2] at T2
      go_enter Try.func41, Try.ntmps41
      go_wp2_with (first | (go_at_call 71; (with_reducible refine (T1.out _).mono ?_); rintro e w1 ⟨rfl, hb⟩; haveI : Stp _ w1 := ⟨hb⟩; clear hb) | (go_at_call 75; (with_reducible refine (T2.out _).mono ?_); rintro e w2 ⟨rfl, hb⟩; haveI : Stp _ w2 := ⟨hb⟩; clear hb) | (go_at_call 76; (with_reducible refine (T3.out _ HC.out.tc).mono ?_); rintro e w3 ⟨rfl, hb⟩; haveI : Stp _ w3 := ⟨hb⟩; clear hb))
      go_ret
      exact ⟨ret_b (by simp), blw⟩
    · rw [q2] at T2
      cases f1 : ((n : Int) != 0)
      · cases f2 : ((bs.length : Int) != 0)
        · cases f3 : wt
          · cases f4 : decide (0 < cid)
            · go_enter Try.func41, Try.ntmps41
              go_wp2_with (first | (go_at_call 71; (with_reducible refine (T1.out _).mono ?_); rintro e w1 ⟨rfl, hb⟩; haveI : Stp _ w1 := ⟨hb⟩; clear hb) | (go_at_call 75; (with_reducible refine (T2.out _).mono ?_); rintro e w2 ⟨rfl, hb⟩; haveI : Stp _ w2 := ⟨hb⟩; clear hb) | (go_at_call 76; (with_reducible refine (T3.out _ HC.out.tc).mono ?_); rintro e w3 ⟨rfl, hb⟩; haveI : Stp _ w3 := ⟨hb⟩; clear hb))
              go_ret
              exact ⟨ret_b (by simp), blw⟩
            · cases f5 : cutB cs
              · rw [f5] at T3
                go_enter Try.func41, Try.ntmps41
                go_wp2_with (first | (go_at_call 71; (with_reducible refine (T1.out _).mono ?_); rintro e w1 ⟨rfl, hb⟩; haveI : Stp _ w1 := ⟨hb⟩; clear hb) | (go_at_call 75; (with_reducible refine (T2.out _).mono ?_); rintro e w2 ⟨rfl, hb⟩; haveI : Stp _ w2 := ⟨hb⟩; clear hb) | (go_at_call 76; (with_reducible refine (T3.out _ HC.out.tc).mono ?_); rintro e w3 ⟨rfl, hb⟩; haveI : Stp _ w3 := ⟨hb⟩; clear hb))
                go_ret
                exact ⟨ret_b (by simp), blw⟩
              · rw [f5] at T3
                go_enter Try.func41, Try.ntmps41
                go_wp2_with (first | (go_at_call 71; (with_reducible refine (T1.out _).mono ?_); rintro e w1 ⟨rfl, hb⟩; haveI : Stp _ w1 := ⟨hb⟩; clear hb) | (go_at_call 75; (with_reducible refine (T2.out _).mono ?_); rintro e w2 ⟨rfl, hb⟩; haveI : Stp _ w2 := ⟨hb⟩; clear hb) | (go_at_call 76; (with_reducible refine (T3.out _ HC.out.tc).mono ?_); rintro e w3 ⟨rfl, hb⟩; haveI : Stp _ w3 := ⟨hb⟩; clear hb))
                go_ret
                exact ⟨ret_b (by simp), blw⟩
          · go_enter Try.func41, Try.ntmps41
            go_wp2_with (first | (go_at_call 71; (with_reducible refine (T1.out _).mono ?_); rintro e w1 ⟨rfl, hb⟩; haveI : Stp _ w1 := ⟨hb⟩; clear hb) | (go_at_call 75; (with_reducible refine (T2.out _).mono ?_); rintro e w2 ⟨rfl, hb⟩; haveI : Stp _ w2 := ⟨hb⟩; clear hb) | (go_at_call 76; (with_reducible refine (T3.out _ HC.out.tc).mono ?_); rintro e w3 ⟨rfl, hb⟩; haveI : Stp _ w3 := ⟨hb⟩; clear hb))
            go_ret
            exact ⟨ret_b (by simp), blw⟩
        · go_enter Try.func41, Try.ntmps41
          go_wp2_with (first | (go_at_call 71; (with_reducible refine (T1.out _).mono ?_); rintro e w1 ⟨rfl, hb⟩; haveI : Stp _ w1 := ⟨hb⟩; clear hb) | (go_at_call 75; (with_reducible refine (T2.out _).mono ?_); rintro e w2 ⟨rfl, hb⟩; haveI : Stp _ w2 := ⟨hb⟩; clear hb) | (go_at_call 76; (with_reducible refine (T3.out _ HC.out.tc).mono ?_); rintro e w3 ⟨rfl, hb⟩; haveI : Stp _ w3 := ⟨hb⟩; clear hb))
          go_ret
          exact ⟨ret_b (by simp), blw⟩
      · go_enter Try.func41, Try.ntmps41
        go_wp2_with (first | (go_at_call 71; (with_reducible refine (T1.out _).mono ?_); rintro e w1 ⟨rfl, hb⟩; haveI : Stp _ w1 := ⟨hb⟩; clear hb) | (go_at_call 75; (with_reducible refine (T2.out _).mono ?_); rintro e w2 ⟨rfl, hb⟩; haveI : Stp _ w2 := ⟨hb⟩; clear hb) | (go_at_call 76; (with_reducible refine (T3.out _ HC.out.tc).mono ?_); rintro e w3 ⟨rfl, hb⟩; haveI : Stp _ w3 := ⟨hb⟩; clear hb))
        go_ret
        exact ⟨ret_b (by simp), blw⟩
set_option maxRecDepth 100000 in
set_option maxHeartbeats 4000000 in
theorem lprog9_s (k fn fi r sn si n : Int) (BA : Option Addr) (bs : List Int) (bc : Nat) (cid : Int) (CA : Option Addr) (cs : List Int) (cc : Nat) (wt : Bool) (w : World) (h : Ul w CA cs) (hl : cs.length ≤ 1000000) (hk : k = 9) :
    Calls Try.prog 41 #[LtV k fn fi r sn si n BA bs.length bc cid CA cs.length cc wt] w (RetB w (mayB fn fi && (mayIdB r sn si && lprog9 n bs cid cs wt))) := by
  have k7 : (k == 7) = false := by rw [hk]; rfl
  have m7 : (k != 7) = true := by rw [hk]; rfl
  have k8 : (k == 8) = false := by rw [hk]; rfl
  have m8 : (k != 8) = true := by rw [hk]; rfl
  have k9 : (k == 9) = true := by rw [hk]; rfl
  have m9 : (k != 9) = false := by rw [hk]; rfl
  clear hk
  have T1 := hide (fun W => may_b fn fi W)
  have T2 := hide (fun W => mayId_s r sn si W)
  have T3 := hide (fun W (h : Ul W CA cs) => mayCut_s CA cc cs W h hl)
  have HC := hide h
  clear h
  unfold lprog9
  cases q1 : mayB fn fi
  · rw [q1] at T1
    go_enter Try.func41, Try.ntmps41
    go_wp2_with (first | (go_at_call 71; (with_reducible refine (T1.out _).mono ?_); rintro e w1 ⟨rfl, hb⟩; haveI : Stp _ w1 := ⟨hb⟩; clear hb) | (go_at_call 75; (with_reducible refine (T2.out _).mono ?_); rintro e w2 ⟨rfl, hb⟩; haveI : Stp _ w2 := ⟨hb⟩; clear hb) | (go_at_call 76; (with_reducible refine (T3.out _ HC.out.tc).mono ?_); rintro e w3 ⟨rfl, hb⟩; haveI : Stp _ w3 := ⟨hb⟩; clear hb))
    go_ret
    exact ⟨ret_b (by simp), blw⟩
  · rw [q1] at T1
    cases q2 : mayIdB r sn si
    · rw [q2] at T2
      go_enter Try.func41, Try.ntmps41
      go_wp2_with (first | (go_at_call 71; (with_reducible refine (T1.out _).mono ?_); rintro e w1 ⟨rfl, hb⟩; haveI : Stp _ w1 := ⟨hb⟩; clear hb) | (go_at_call 75; (with_reducible refine (T2.out _).mono ?_); rintro e w2 ⟨rfl, hb⟩; haveI : Stp _ w2 := ⟨hb⟩; clear hb) | (go_at_call 76; (with_reducible refine (T3.out _ HC.out.tc).mono ?_); rintro e w3 ⟨rfl, hb⟩; haveI : Stp _ w3 := ⟨hb⟩; clear hb))
      go_ret
      exact ⟨ret_b (by simp), blw⟩
    · rw [q2] at T2
      cases f1 : ((n : Int) != 0)
      · cases f2 : ((bs.length : Int) != 0)
        · cases f3 : ((cid : Int) != 0)
          · cases f4 : cutB cs
            · rw [f4] at T3
              go_enter Try.func41, Try.ntmps41
              go_wp2_with (first | (go_at_call 71; (with_reducible refine (T1.out _).mono ?_); rintro e w1 ⟨rfl, hb⟩; haveI : Stp _ w1 := ⟨hb⟩; clear hb) | (go_at_call 75; (with_reducible refine (T2.out _).mono ?_); rintro e w2 ⟨rfl, hb⟩; haveI : Stp _ w2 := ⟨hb⟩; clear hb) | (go_at_call 76; (with_reducible refine (T3.out _ HC.out.tc).mono ?_); rintro e w3 ⟨rfl, hb⟩; haveI : Stp _ w3 := ⟨hb⟩; clear hb))
              go_ret
              exact ⟨ret_b (by simp), blw⟩
            · rw [f4] at T3
              go_enter Try.func41, Try.ntmps41
              go_wp2_with (first | (go_at_call 71; (with_reducible refine (T1.out _).mono ?_); rintro e w1 ⟨rfl, hb⟩; haveI : Stp _ w1 := ⟨hb⟩; clear hb) | (go_at_call 75; (with_reducible refine (T2.out _).mono ?_); rintro e w2 ⟨rfl, hb⟩; haveI : Stp _ w2 := ⟨hb⟩; clear hb) | (go_at_call 76; (with_reducible refine (T3.out _ HC.out.tc).mono ?_); rintro e w3 ⟨rfl, hb⟩; haveI : Stp _ w3 := ⟨hb⟩; clear hb))
              go_ret
              exact ⟨ret_b (by simp), blw⟩
          · go_enter Try.func41, Try.ntmps41
            go_wp2_with (first | (go_at_call 71; (with_reducible refine (T1.out _).mono ?_); rintro e w1 ⟨rfl, hb⟩; haveI : Stp _ w1 := ⟨hb⟩; clear hb) | (go_at_call 75; (with_reducible refine (T2.out _).mono ?_); rintro e w2 ⟨rfl, hb⟩; haveI : Stp _ w2 := ⟨hb⟩; clear hb) | (go_at_call 76; (with_reducible refine (T3.out _ HC.out.tc).mono ?_); rintro e w3 ⟨rfl, hb⟩; haveI : Stp _ w3 := ⟨hb⟩; clear hb))
            go_ret
            exact ⟨ret_b (by simp), blw⟩
        · go_enter Try.func41, Try.ntmps41
          go_wp2_with (first | (go_at_call 71; (with_reducible refine (T1.out _).mono ?_); rintro e w1 ⟨rfl, hb⟩; haveI : Stp _ w1 := ⟨hb⟩; clear hb) | (go_at_call 75; (with_reducible refine (T2.out _).mono ?_); rintro e w2 ⟨rfl, hb⟩; haveI : Stp _ w2 := ⟨hb⟩; clear hb) | (go_at_call 76; (with_reducible refine (T3.out _ HC.out.tc).mono ?_); rintro e w3 ⟨rfl, hb⟩; haveI : Stp _ w3 := ⟨hb⟩; clear hb))
          go_ret
          exact ⟨ret_b (by simp), blw⟩
      · go_enter Try.func41, Try.ntmps41
        go_wp2_with (first | (go_at_call 71; (with_reducible refine (T1.out _).mono ?_); rintro e w1 ⟨rfl, hb⟩; haveI : Stp _ w1 := ⟨hb⟩; clear hb) | (go_at_call 75; (with_reducible refine (T2.out _).mono ?_); rintro e w2 ⟨rfl, hb⟩; haveI : Stp _ w2 := ⟨hb⟩; clear hb) | (go_at_call 76; (with_reducible refine (T3.out _ HC.out.tc).mono ?_); rintro e w3 ⟨rfl, hb⟩; haveI : Stp _ w3 := ⟨hb⟩; clear hb))
        go_ret
        exact ⟨ret_b (by simp), blw⟩
set_option maxRecDepth 100000 in
set_option maxHeartbeats 4000000 in
theorem lprog0_s (k fn fi r sn si n : Int) (BA : Option Addr) (bs : List Int) (bc : Nat) (cid : Int) (CA : Option Addr) (cs : List Int) (cc : Nat) (wt : Bool) (w : World) (h : Ul w CA cs) (hl : cs.length ≤ 1000000) (h7 : ¬ k = 7) (h8 : ¬ k = 8) (h9 : ¬ k = 9) :
    Calls Try.prog 41 #[LtV k fn fi r sn si n BA bs.length bc cid CA cs.length cc wt] w (RetB w (mayB fn fi && (mayIdB r sn si && lprog0 n bs cid cs wt))) := by
  have k7 : (k == 7) = false := by simpa using h7
  have m7 : (k != 7) = true := by simpa using h7
  have k8 : (k == 8) = false := by simpa using h8
  have m8 : (k != 8) = true := by simpa using h8
  have k9 : (k == 9) = false := by simpa using h9
  have m9 : (k != 9) = true := by simpa using h9
  clear h7 h8 h9
  have T1 := hide (fun W => may_b fn fi W)
  have T2 := hide (fun W => mayId_s r sn si W)
  have T3 := hide (fun W (h : Ul W CA cs) => mayCut_s CA cc cs W h hl)
  have HC := hide h
  clear h
  unfold lprog0
  cases q1 : mayB fn fi
  · rw [q1] at T1
    go_enter Try.func41, Try.ntmps41
    go_wp2_with (first | (go_at_call 71; (with_reducible refine (T1.out _).mono ?_); rintro e w1 ⟨rfl, hb⟩; haveI : Stp _ w1 := ⟨hb⟩; clear hb) | (go_at_call 75; (with_reducible refine (T2.out _).mono ?_); rintro e w2 ⟨rfl, hb⟩; haveI : Stp _ w2 := ⟨hb⟩; clear hb) | (go_at_call 76; (with_reducible refine (T3.out _ HC.out.tc).mono ?_); rintro e w3 ⟨rfl, hb⟩; haveI : Stp _ w3 := ⟨hb⟩; clear hb))
    go_ret
    exact ⟨ret_b (by simp), blw⟩
  · rw [q1] at T1
    cases q2 : mayIdB r sn si
    · rw [q2] at T2
      go_enter Try.func41, Try.ntmps41
      go_wp2_with (first | (go_at_call 71; (with_reducible refine (T1.out _).mono ?_); rintro e w1 ⟨rfl, hb⟩; haveI : Stp _ w1 := ⟨hb⟩; clear hb) | (go_at_call 75; (with_reducible refine (T2.out _).mono ?_); rintro e w2 ⟨rfl, hb⟩; haveI : Stp _ w2 := ⟨hb⟩; clear hb) | (go_at_call 76; (with_reducible refine (T3.out _ HC.out.tc).mono ?_); rintro e w3 ⟨rfl, hb⟩; haveI : Stp _ w3 := ⟨hb⟩; clear hb))
      go_ret
      exact ⟨ret_b (by simp), blw⟩
    · rw [q2] at T2
      cases f1 : ((n : Int) != 0)
      · cases f2 : ((bs.length : Int) != 0)
        · cases f3 : ((cid : Int) != 0)
          · cases f4 : wt
            · go_enter Try.func41, Try.ntmps41
              go_wp2_with (first | (go_at_call 71; (with_reducible refine (T1.out _).mono ?_); rintro e w1 ⟨rfl, hb⟩; haveI : Stp _ w1 := ⟨hb⟩; clear hb) | (go_at_call 75; (with_reducible refine (T2.out _).mono ?_); rintro e w2 ⟨rfl, hb⟩; haveI : Stp _ w2 := ⟨hb⟩; clear hb) | (go_at_call 76; (with_reducible refine (T3.out _ HC.out.tc).mono ?_); rintro e w3 ⟨rfl, hb⟩; haveI : Stp _ w3 := ⟨hb⟩; clear hb))
              go_ret
              exact ⟨ret_b (by simp), blw⟩
            · go_enter Try.func41, Try.ntmps41
              go_wp2_with (first | (go_at_call 71; (with_reducible refine (T1.out _).mono ?_); rintro e w1 ⟨rfl, hb⟩; haveI : Stp _ w1 := ⟨hb⟩; clear hb) | (go_at_call 75; (with_reducible refine (T2.out _).mono ?_); rintro e w2 ⟨rfl, hb⟩; haveI : Stp _ w2 := ⟨hb⟩; clear hb) | (go_at_call 76; (with_reducible refine (T3.out _ HC.out.tc).mono ?_); rintro e w3 ⟨rfl, hb⟩; haveI : Stp _ w3 := ⟨hb⟩; clear hb))
              go_ret
              exact ⟨ret_b (by simp), blw⟩
          · go_enter Try.func41, Try.ntmps41
            go_wp2_with (first | (go_at_call 71; (with_reducible refine (T1.out _).mono ?_); rintro e w1 ⟨rfl, hb⟩; haveI : Stp _ w1 := ⟨hb⟩; clear hb) | (go_at_call 75; (with_reducible refine (T2.out _).mono ?_); rintro e w2 ⟨rfl, hb⟩; haveI : Stp _ w2 := ⟨hb⟩; clear hb) | (go_at_call 76; (with_reducible refine (T3.out _ HC.out.tc).mono ?_); rintro e w3 ⟨rfl, hb⟩; haveI : Stp _ w3 := ⟨hb⟩; clear hb))
            go_ret
            exact ⟨ret_b (by simp), blw⟩
        · go_enter Try.func41, Try.ntmps41
          go_wp2_with (first | (go_at_call 71; (with_reducible refine (T1.out _).mono ?_); rintro e w1 ⟨rfl, hb⟩; haveI : Stp _ w1 := ⟨hb⟩; clear hb) | (go_at_call 75; (with_reducible refine (T2.out _).mono ?_); rintro e w2 ⟨rfl, hb⟩; haveI : Stp _ w2 := ⟨hb⟩; clear hb) | (go_at_call 76; (with_reducible refine (T3.out _ HC.out.tc).mono ?_); rintro e w3 ⟨rfl, hb⟩; haveI : Stp _ w3 := ⟨hb⟩; clear hb))
          go_ret
          exact ⟨ret_b (by simp), blw⟩
      · go_enter Try.func41, Try.ntmps41
        go_wp2_with (first | (go_at_call 71; (with_reducible refine (T1.out _).mono ?_); rintro e w1 ⟨rfl, hb⟩; haveI : Stp _ w1 := ⟨hb⟩; clear hb) | (go_at_call 75; (with_reducible refine (T2.out _).mono ?_); rintro e w2 ⟨rfl, hb⟩; haveI : Stp _ w2 := ⟨hb⟩; clear hb) | (go_at_call 76; (with_reducible refine (T3.out _ HC.out.tc).mono ?_); rintro e w3 ⟨rfl, hb⟩; haveI : Stp _ w3 := ⟨hb⟩; clear hb))
        go_ret
        exact ⟨ret_b (by simp), blw⟩
def lref7 (n : Int) (bs : List Int) (cid : Int) (cs : List Int) (wt : Bool) : Bool := (decide (1 ≤ n) && (decide (n ≤ 16) && (decide ((bs.length : Int) ≤ 64) && (((cid : Int) == 0) && (((cs.length : Int) == 0) && !wt)))))
def lref8 (n : Int) (bs : List Int) (cid : Int) (cs : List Int) (wt : Bool) : Bool := (((n : Int) == 0) && (((bs.length : Int) == 0) && (decide (0 < cid) && (cutB cs && !wt))))
def lref9 (n : Int) (bs : List Int) (cid : Int) (cs : List Int) (wt : Bool) : Bool := (((n : Int) == 0) && (((bs.length : Int) == 0) && (((cid : Int) == 0) && cutB cs)))
def lref0 (n : Int) (bs : List Int) (cid : Int) (cs : List Int) (wt : Bool) : Bool := false
set_option maxRecDepth 100000 in
set_option maxHeartbeats 4000000 in
theorem lref7_s (k fn fi r sn si n : Int) (BA : Option Addr) (bs : List Int) (bc : Nat) (cid : Int) (CA : Option Addr) (cs : List Int) (cc : Nat) (wt : Bool) (w : World) (h : Ul w CA cs) (hl : cs.length ≤ 1000000) (hfi : 0 ≤ fi) (hsi : 0 ≤ si) (hk : k = 7) :
    Calls Try.prog 88 #[LtV k fn fi r sn si n BA bs.length bc cid CA cs.length cc wt] w (RetB w (mayB fn fi && (mayIdB r sn si && lref7 n bs cid cs wt))) := by
  have k7 : (k == 7) = true := by rw [hk]; rfl
  have m7 : (k != 7) = false := by rw [hk]; rfl
  have k8 : (k == 8) = false := by rw [hk]; rfl
  have m8 : (k != 8) = true := by rw [hk]; rfl
  have k9 : (k == 9) = false := by rw [hk]; rfl
  have m9 : (k != 9) = true := by rw [hk]; rfl
  clear hk
  have T1 := hide (fun W => refMay_b fn fi W hfi)
  have T2 := hide (fun W => refMayId_s r sn si W hsi)
  have T3 := hide (fun W (h : Ul W CA cs) => cut10_s CA cc cs W h hl)
  have HC := hide h
  clear h hfi hsi
  unfold lref7
  cases q1 : mayB fn fi
  · rw [q1] at T1
    go_enter Try.func88, Try.ntmps88
    go_wp2_with (first | (go_at_call 118; (with_reducible refine (T1.out _).mono ?_); rintro e w1 ⟨rfl, hb⟩; haveI : Stp _ w1 := ⟨hb⟩; clear hb) | (go_at_call 119; (with_reducible refine (T2.out _).mono ?_); rintro e w2 ⟨rfl, hb⟩; haveI : Stp _ w2 := ⟨hb⟩; clear hb) | (go_at_call 120; (with_reducible refine (T3.out _ HC.out.tc).mono ?_); rintro e w3 ⟨rfl, hb⟩; haveI : Stp _ w3 := ⟨hb⟩; clear hb))
    go_ret
    exact ⟨ret_b (by simp), blw⟩
  · rw [q1] at T1
    cases q2 : mayIdB r sn si
    · rw [q2] at T2
      go_enter Try.func88, Try.ntmps88
      go_wp2_with (first | (go_at_call 118; (with_reducible refine (T1.out _).mono ?_); rintro e w1 ⟨rfl, hb⟩; haveI : Stp _ w1 := ⟨hb⟩; clear hb) | (go_at_call 119; (with_reducible refine (T2.out _).mono ?_); rintro e w2 ⟨rfl, hb⟩; haveI : Stp _ w2 := ⟨hb⟩; clear hb) | (go_at_call 120; (with_reducible refine (T3.out _ HC.out.tc).mono ?_); rintro e w3 ⟨rfl, hb⟩; haveI : Stp _ w3 := ⟨hb⟩; clear hb))
      go_ret
      exact ⟨ret_b (by simp), blw⟩
    · rw [q2] at T2
      cases f1 : decide (1 ≤ n)
      · go_enter Try.func88, Try.ntmps88
        go_wp2_with (first | (go_at_call 118; (with_reducible refine (T1.out _).mono ?_); rintro e w1 ⟨rfl, hb⟩; haveI : Stp _ w1 := ⟨hb⟩; clear hb) | (go_at_call 119; (with_reducible refine (T2.out _).mono ?_); rintro e w2 ⟨rfl, hb⟩; haveI : Stp _ w2 := ⟨hb⟩; clear hb) | (go_at_call 120; (with_reducible refine (T3.out _ HC.out.tc).mono ?_); rintro e w3 ⟨rfl, hb⟩; haveI : Stp _ w3 := ⟨hb⟩; clear hb))
        go_ret
        exact ⟨ret_b (by simp), blw⟩
      · cases f2 : decide (n ≤ 16)
        · go_enter Try.func88, Try.ntmps88
          go_wp2_with (first | (go_at_call 118; (with_reducible refine (T1.out _).mono ?_); rintro e w1 ⟨rfl, hb⟩; haveI : Stp _ w1 := ⟨hb⟩; clear hb) | (go_at_call 119; (with_reducible refine (T2.out _).mono ?_); rintro e w2 ⟨rfl, hb⟩; haveI : Stp _ w2 := ⟨hb⟩; clear hb) | (go_at_call 120; (with_reducible refine (T3.out _ HC.out.tc).mono ?_); rintro e w3 ⟨rfl, hb⟩; haveI : Stp _ w3 := ⟨hb⟩; clear hb))
          go_ret
          exact ⟨ret_b (by simp), blw⟩
        · cases f3 : decide ((bs.length : Int) ≤ 64)
          · go_enter Try.func88, Try.ntmps88
            go_wp2_with (first | (go_at_call 118; (with_reducible refine (T1.out _).mono ?_); rintro e w1 ⟨rfl, hb⟩; haveI : Stp _ w1 := ⟨hb⟩; clear hb) | (go_at_call 119; (with_reducible refine (T2.out _).mono ?_); rintro e w2 ⟨rfl, hb⟩; haveI : Stp _ w2 := ⟨hb⟩; clear hb) | (go_at_call 120; (with_reducible refine (T3.out _ HC.out.tc).mono ?_); rintro e w3 ⟨rfl, hb⟩; haveI : Stp _ w3 := ⟨hb⟩; clear hb))
            go_ret
            exact ⟨ret_b (by simp), blw⟩
          · cases f4 : ((cid : Int) == 0)
            · go_enter Try.func88, Try.ntmps88
              go_wp2_with (first | (go_at_call 118; (with_reducible refine (T1.out _).mono ?_); rintro e w1 ⟨rfl, hb⟩; haveI : Stp _ w1 := ⟨hb⟩; clear hb) | (go_at_call 119; (with_reducible refine (T2.out _).mono ?_); rintro e w2 ⟨rfl, hb⟩; haveI : Stp _ w2 := ⟨hb⟩; clear hb) | (go_at_call 120; (with_reducible refine (T3.out _ HC.out.tc).mono ?_); rintro e w3 ⟨rfl, hb⟩; haveI : Stp _ w3 := ⟨hb⟩; clear hb))
              go_ret
              exact ⟨ret_b (by simp), blw⟩
            · cases f5 : ((cs.length : Int) == 0)
              · go_enter Try.func88, Try.ntmps88
                go_wp2_with (first | (go_at_call 118; (with_reducible refine (T1.out _).mono ?_); rintro e w1 ⟨rfl, hb⟩; haveI : Stp _ w1 := ⟨hb⟩; clear hb) | (go_at_call 119; (with_reducible refine (T2.out _).mono ?_); rintro e w2 ⟨rfl, hb⟩; haveI : Stp _ w2 := ⟨hb⟩; clear hb) | (go_at_call 120; (with_reducible refine (T3.out _ HC.out.tc).mono ?_); rintro e w3 ⟨rfl, hb⟩; haveI : Stp _ w3 := ⟨hb⟩; clear hb))
                go_ret
                exact ⟨ret_b (by simp), blw⟩
              · cases f6 : wt
                · go_enter Try.func88, Try.ntmps88
                  go_wp2_with (first | (go_at_call 118; (with_reducible refine (T1.out _).mono ?_); rintro e w1 ⟨rfl, hb⟩; haveI : Stp _ w1 := ⟨hb⟩; clear hb) | (go_at_call 119; (with_reducible refine (T2.out _).mono ?_); rintro e w2 ⟨rfl, hb⟩; haveI : Stp _ w2 := ⟨hb⟩; clear hb) | (go_at_call 120; (with_reducible refine (T3.out _ HC.out.tc).mono ?_); rintro e w3 ⟨rfl, hb⟩; haveI : Stp _ w3 := ⟨hb⟩; clear hb))
                  go_ret
                  exact ⟨ret_b (by simp), blw⟩
                · go_enter Try.func88, Try.ntmps88
                  go_wp2_with (first | (go_at_call 118; (with_reducible refine (T1.out _).mono ?_); rintro e w1 ⟨rfl, hb⟩; haveI : Stp _ w1 := ⟨hb⟩; clear hb) | (go_at_call 119; (with_reducible refine (T2.out _).mono ?_); rintro e w2 ⟨rfl, hb⟩; haveI : Stp _ w2 := ⟨hb⟩; clear hb) | (go_at_call 120; (with_reducible refine (T3.out _ HC.out.tc).mono ?_); rintro e w3 ⟨rfl, hb⟩; haveI : Stp _ w3 := ⟨hb⟩; clear hb))
                  go_ret
                  exact ⟨ret_b (by simp), blw⟩
set_option maxRecDepth 100000 in
set_option maxHeartbeats 4000000 in
theorem lref8_s (k fn fi r sn si n : Int) (BA : Option Addr) (bs : List Int) (bc : Nat) (cid : Int) (CA : Option Addr) (cs : List Int) (cc : Nat) (wt : Bool) (w : World) (h : Ul w CA cs) (hl : cs.length ≤ 1000000) (hfi : 0 ≤ fi) (hsi : 0 ≤ si) (hk : k = 8) :
    Calls Try.prog 88 #[LtV k fn fi r sn si n BA bs.length bc cid CA cs.length cc wt] w (RetB w (mayB fn fi && (mayIdB r sn si && lref8 n bs cid cs wt))) := by
  have k7 : (k == 7) = false := by rw [hk]; rfl
  have m7 : (k != 7) = true := by rw [hk]; rfl
  have k8 : (k == 8) = true := by rw [hk]; rfl
  have m8 : (k != 8) = false := by rw [hk]; rfl
  have k9 : (k == 9) = false := by rw [hk]; rfl
  have m9 : (k != 9) = true := by rw [hk]; rfl
  clear hk
  have T1 := hide (fun W => refMay_b fn fi W hfi)
  have T2 := hide (fun W => refMayId_s r sn si W hsi)
  have T3 := hide (fun W (h : Ul W CA cs) => cut10_s CA cc cs W h hl)
  have HC := hide h
  clear h hfi hsi
  unfold lref8
  cases q1 : mayB fn fi
  · rw [q1] at T1
    go_enter Try.func88, Try.ntmps88
    go_wp2_with (first | (go_at_call 118; (with_reducible refine (T1.out _).mono ?_); rintro e w1 ⟨rfl, hb⟩; haveI : Stp _ w1 := ⟨hb⟩; clear hb) | (go_at_call 119; (with_reducible refine (T2.out _).mono ?_); rintro e w2 ⟨rfl, hb⟩; haveI : Stp _ w2 := ⟨hb⟩; clear hb) | (go_at_call 120; (with_reducible refine (T3.out _ HC.out.tc).mono ?_); rintro e w3 ⟨rfl, hb⟩; haveI : Stp _ w3 := ⟨hb⟩; clear hb))
    go_ret
    exact ⟨ret_b (by simp), blw⟩
  · rw [q1] at T1
    cases q2 : mayIdB r sn si
    · rw [q2] at T2
      go_enter Try.func88, Try.ntmps88
      go_wp2_with (first | (go_at_call 118; (with_reducible refine (T1.out _).mono ?_); rintro e w1 ⟨rfl, hb⟩; haveI : Stp _ w1 := ⟨hb⟩; clear hb) | (go_at_call 119; (with_reducible refine (T2.out _).mono ?_); rintro e w2 ⟨rfl, hb⟩; haveI : Stp _ w2 := ⟨hb⟩; clear hb) | (go_at_call 120; (with_reducible refine (T3.out _ HC.out.tc).mono ?_); rintro e w3 ⟨rfl, hb⟩; haveI : Stp _ w3 := ⟨hb⟩; clear hb))
      go_ret
      exact ⟨ret_b (by simp), blw⟩
    · rw [q2] at T2
      cases f1 : ((n : Int) == 0)
      · go_enter Try.func88, Try.ntmps88
        go_wp2_with (first | (go_at_call 118; (with_reducible refine (T1.out _).mono ?_); rintro e w1 ⟨rfl, hb⟩; haveI : Stp _ w1 := ⟨hb⟩; clear hb) | (go_at_call 119; (with_reducible refine (T2.out _).mono ?_); rintro e w2 ⟨rfl, hb⟩; haveI : Stp _ w2 := ⟨hb⟩; clear hb) | (go_at_call 120; (with_reducible refine (T3.out _ HC.out.tc).mono ?_); rintro e w3 ⟨rfl, hb⟩; haveI : Stp _ w3 := ⟨hb⟩; clear hb))
        go_ret
        exact ⟨ret_b (by simp), blw⟩
      · cases f2 : ((bs.length : Int) == 0)
        · go_enter Try.func88, Try.ntmps88
          go_wp2_with (first | (go_at_call 118; (with_reducible refine (T1.out _).mono ?_); rintro e w1 ⟨rfl, hb⟩; haveI : Stp _ w1 := ⟨hb⟩; clear hb) | (go_at_call 119; (with_reducible refine (T2.out _).mono ?_); rintro e w2 ⟨rfl, hb⟩; haveI : Stp _ w2 := ⟨hb⟩; clear hb) | (go_at_call 120; (with_reducible refine (T3.out _ HC.out.tc).mono ?_); rintro e w3 ⟨rfl, hb⟩; haveI : Stp _ w3 := ⟨hb⟩; clear hb))
          go_ret
          exact ⟨ret_b (by simp), blw⟩
        · cases f3 : decide (0 < cid)
          · go_enter Try.func88, Try.ntmps88
            go_wp2_with (first | (go_at_call 118; (with_reducible refine (T1.out _).mono ?_); rintro e w1 ⟨rfl, hb⟩; haveI : Stp _ w1 := ⟨hb⟩; clear hb) | (go_at_call 119; (with_reducible refine (T2.out _).mono ?_); rintro e w2 ⟨rfl, hb⟩; haveI : Stp _ w2 := ⟨hb⟩; clear hb) | (go_at_call 120; (with_reducible refine (T3.out _ HC.out.tc).mono ?_); rintro e w3 ⟨rfl, hb⟩; haveI : Stp _ w3 := ⟨hb⟩; clear hb))
            go_ret
            exact ⟨ret_b (by simp), blw⟩
          · cases f4 : cutB cs
            · rw [f4] at T3
              go_enter Try.func88, Try.ntmps88
              go_wp2_with (first | (go_at_call 118; (with_reducible refine (T1.out _).mono ?_); rintro e w1 ⟨rfl, hb⟩; haveI : Stp _ w1 := ⟨hb⟩; clear hb) | (go_at_call 119; (with_reducible refine (T2.out _).mono ?_); rintro e w2 ⟨rfl, hb⟩; haveI : Stp _ w2 := ⟨hb⟩; clear hb) | (go_at_call 120; (with_reducible refine (T3.out _ HC.out.tc).mono ?_); rintro e w3 ⟨rfl, hb⟩; haveI : Stp _ w3 := ⟨hb⟩; clear hb))
              go_ret
              exact ⟨ret_b (by simp), blw⟩
            · rw [f4] at T3
              cases f5 : wt
              · go_enter Try.func88, Try.ntmps88
                go_wp2_with (first | (go_at_call 118; (with_reducible refine (T1.out _).mono ?_); rintro e w1 ⟨rfl, hb⟩; haveI : Stp _ w1 := ⟨hb⟩; clear hb) | (go_at_call 119; (with_reducible refine (T2.out _).mono ?_); rintro e w2 ⟨rfl, hb⟩; haveI : Stp _ w2 := ⟨hb⟩; clear hb) | (go_at_call 120; (with_reducible refine (T3.out _ HC.out.tc).mono ?_); rintro e w3 ⟨rfl, hb⟩; haveI : Stp _ w3 := ⟨hb⟩; clear hb))
                go_ret
                exact ⟨ret_b (by simp), blw⟩
              · go_enter Try.func88, Try.ntmps88
                go_wp2_with (first | (go_at_call 118; (with_reducible refine (T1.out _).mono ?_); rintro e w1 ⟨rfl, hb⟩; haveI : Stp _ w1 := ⟨hb⟩; clear hb) | (go_at_call 119; (with_reducible refine (T2.out _).mono ?_); rintro e w2 ⟨rfl, hb⟩; haveI : Stp _ w2 := ⟨hb⟩; clear hb) | (go_at_call 120; (with_reducible refine (T3.out _ HC.out.tc).mono ?_); rintro e w3 ⟨rfl, hb⟩; haveI : Stp _ w3 := ⟨hb⟩; clear hb))
                go_ret
                exact ⟨ret_b (by simp), blw⟩
set_option maxRecDepth 100000 in
set_option maxHeartbeats 4000000 in
theorem lref9_s (k fn fi r sn si n : Int) (BA : Option Addr) (bs : List Int) (bc : Nat) (cid : Int) (CA : Option Addr) (cs : List Int) (cc : Nat) (wt : Bool) (w : World) (h : Ul w CA cs) (hl : cs.length ≤ 1000000) (hfi : 0 ≤ fi) (hsi : 0 ≤ si) (hk : k = 9) :
    Calls Try.prog 88 #[LtV k fn fi r sn si n BA bs.length bc cid CA cs.length cc wt] w (RetB w (mayB fn fi && (mayIdB r sn si && lref9 n bs cid cs wt))) := by
  have k7 : (k == 7) = false := by rw [hk]; rfl
  have m7 : (k != 7) = true := by rw [hk]; rfl
  have k8 : (k == 8) = false := by rw [hk]; rfl
  have m8 : (k != 8) = true := by rw [hk]; rfl
  have k9 : (k == 9) = true := by rw [hk]; rfl
  have m9 : (k != 9) = false := by rw [hk]; rfl
  clear hk
  have T1 := hide (fun W => refMay_b fn fi W hfi)
  have T2 := hide (fun W => refMayId_s r sn si W hsi)
  have T3 := hide (fun W (h : Ul W CA cs) => cut10_s CA cc cs W h hl)
  have HC := hide h
  clear h hfi hsi
  unfold lref9
  cases q1 : mayB fn fi
  · rw [q1] at T1
    go_enter Try.func88, Try.ntmps88
    go_wp2_with (first | (go_at_call 118; (with_reducible refine (T1.out _).mono ?_); rintro e w1 ⟨rfl, hb⟩; haveI : Stp _ w1 := ⟨hb⟩; clear hb) | (go_at_call 119; (with_reducible refine (T2.out _).mono ?_); rintro e w2 ⟨rfl, hb⟩; haveI : Stp _ w2 := ⟨hb⟩; clear hb) | (go_at_call 120; (with_reducible refine (T3.out _ HC.out.tc).mono ?_); rintro e w3 ⟨rfl, hb⟩; haveI : Stp _ w3 := ⟨hb⟩; clear hb))
    go_ret
    exact ⟨ret_b (by simp), blw⟩
  · rw [q1] at T1
    cases q2 : mayIdB r sn si
    · rw [q2] at T2
      go_enter Try.func88, Try.ntmps88
      go_wp2_with (first | (go_at_call 118; (with_reducible refine (T1.out _).mono ?_); rintro e w1 ⟨rfl, hb⟩; haveI : Stp _ w1 := ⟨hb⟩; clear hb) | (go_at_call 119; (with_reducible refine (T2.out _).mono ?_); rintro e w2 ⟨rfl, hb⟩; haveI : Stp _ w2 := ⟨hb⟩; clear hb) | (go_at_call 120; (with_reducible refine (T3.out _ HC.out.tc).mono ?_); rintro e w3 ⟨rfl, hb⟩; haveI : Stp _ w3 := ⟨hb⟩; clear hb))
      go_ret
      exact ⟨ret_b (by simp), blw⟩
    · rw [q2] at T2
      cases f1 : ((n : Int) == 0)
      · go_enter Try.func88, Try.ntmps88
        go_wp2_with (first | (go_at_call 118; (with_reducible refine (T1.out _).mono ?_); rintro e w1 ⟨rfl, hb⟩; haveI : Stp _ w1 := ⟨hb⟩; clear hb) | (go_at_call 119; (with_reducible refine (T2.out _).mono ?_); rintro e w2 ⟨rfl, hb⟩; haveI : Stp _ w2 := ⟨hb⟩; clear hb) | (go_at_call 120; (with_reducible refine (T3.out _ HC.out.tc).mono ?_); rintro e w3 ⟨rfl, hb⟩; haveI : Stp _ w3 := ⟨hb⟩; clear hb))
        go_ret
        exact ⟨ret_b (by simp), blw⟩
      · cases f2 : ((bs.length : Int) == 0)
        · go_enter Try.func88, Try.ntmps88
          go_wp2_with (first | (go_at_call 118; (with_reducible refine (T1.out _).mono ?_); rintro e w1 ⟨rfl, hb⟩; haveI : Stp _ w1 := ⟨hb⟩; clear hb) | (go_at_call 119; (with_reducible refine (T2.out _).mono ?_); rintro e w2 ⟨rfl, hb⟩; haveI : Stp _ w2 := ⟨hb⟩; clear hb) | (go_at_call 120; (with_reducible refine (T3.out _ HC.out.tc).mono ?_); rintro e w3 ⟨rfl, hb⟩; haveI : Stp _ w3 := ⟨hb⟩; clear hb))
          go_ret
          exact ⟨ret_b (by simp), blw⟩
        · cases f3 : ((cid : Int) == 0)
          · go_enter Try.func88, Try.ntmps88
            go_wp2_with (first | (go_at_call 118; (with_reducible refine (T1.out _).mono ?_); rintro e w1 ⟨rfl, hb⟩; haveI : Stp _ w1 := ⟨hb⟩; clear hb) | (go_at_call 119; (with_reducible refine (T2.out _).mono ?_); rintro e w2 ⟨rfl, hb⟩; haveI : Stp _ w2 := ⟨hb⟩; clear hb) | (go_at_call 120; (with_reducible refine (T3.out _ HC.out.tc).mono ?_); rintro e w3 ⟨rfl, hb⟩; haveI : Stp _ w3 := ⟨hb⟩; clear hb))
            go_ret
            exact ⟨ret_b (by simp), blw⟩
          · cases f4 : cutB cs
            · rw [f4] at T3
              go_enter Try.func88, Try.ntmps88
              go_wp2_with (first | (go_at_call 118; (with_reducible refine (T1.out _).mono ?_); rintro e w1 ⟨rfl, hb⟩; haveI : Stp _ w1 := ⟨hb⟩; clear hb) | (go_at_call 119; (with_reducible refine (T2.out _).mono ?_); rintro e w2 ⟨rfl, hb⟩; haveI : Stp _ w2 := ⟨hb⟩; clear hb) | (go_at_call 120; (with_reducible refine (T3.out _ HC.out.tc).mono ?_); rintro e w3 ⟨rfl, hb⟩; haveI : Stp _ w3 := ⟨hb⟩; clear hb))
              go_ret
              exact ⟨ret_b (by simp), blw⟩
            · rw [f4] at T3
              go_enter Try.func88, Try.ntmps88
              go_wp2_with (first | (go_at_call 118; (with_reducible refine (T1.out _).mono ?_); rintro e w1 ⟨rfl, hb⟩; haveI : Stp _ w1 := ⟨hb⟩; clear hb) | (go_at_call 119; (with_reducible refine (T2.out _).mono ?_); rintro e w2 ⟨rfl, hb⟩; haveI : Stp _ w2 := ⟨hb⟩; clear hb) | (go_at_call 120; (with_reducible refine (T3.out _ HC.out.tc).mono ?_); rintro e w3 ⟨rfl, hb⟩; haveI : Stp _ w3 := ⟨hb⟩; clear hb))
              go_ret
              exact ⟨ret_b (by simp), blw⟩
set_option maxRecDepth 100000 in
set_option maxHeartbeats 4000000 in
theorem lref0_s (k fn fi r sn si n : Int) (BA : Option Addr) (bs : List Int) (bc : Nat) (cid : Int) (CA : Option Addr) (cs : List Int) (cc : Nat) (wt : Bool) (w : World) (h : Ul w CA cs) (hl : cs.length ≤ 1000000) (hfi : 0 ≤ fi) (hsi : 0 ≤ si) (h7 : ¬ k = 7) (h8 : ¬ k = 8) (h9 : ¬ k = 9) :
    Calls Try.prog 88 #[LtV k fn fi r sn si n BA bs.length bc cid CA cs.length cc wt] w (RetB w (mayB fn fi && (mayIdB r sn si && lref0 n bs cid cs wt))) := by
  have k7 : (k == 7) = false := by simpa using h7
  have m7 : (k != 7) = true := by simpa using h7
  have k8 : (k == 8) = false := by simpa using h8
  have m8 : (k != 8) = true := by simpa using h8
  have k9 : (k == 9) = false := by simpa using h9
  have m9 : (k != 9) = true := by simpa using h9
  clear h7 h8 h9
  have T1 := hide (fun W => refMay_b fn fi W hfi)
  have T2 := hide (fun W => refMayId_s r sn si W hsi)
  have T3 := hide (fun W (h : Ul W CA cs) => cut10_s CA cc cs W h hl)
  have HC := hide h
  clear h hfi hsi
  unfold lref0
  cases q1 : mayB fn fi
  · rw [q1] at T1
    go_enter Try.func88, Try.ntmps88
    go_wp2_with (first | (go_at_call 118; (with_reducible refine (T1.out _).mono ?_); rintro e w1 ⟨rfl, hb⟩; haveI : Stp _ w1 := ⟨hb⟩; clear hb) | (go_at_call 119; (with_reducible refine (T2.out _).mono ?_); rintro e w2 ⟨rfl, hb⟩; haveI : Stp _ w2 := ⟨hb⟩; clear hb) | (go_at_call 120; (with_reducible refine (T3.out _ HC.out.tc).mono ?_); rintro e w3 ⟨rfl, hb⟩; haveI : Stp _ w3 := ⟨hb⟩; clear hb))
    go_ret
    exact ⟨ret_b (by simp), blw⟩
  · rw [q1] at T1
    cases q2 : mayIdB r sn si
    · rw [q2] at T2
      go_enter Try.func88, Try.ntmps88
      go_wp2_with (first | (go_at_call 118; (with_reducible refine (T1.out _).mono ?_); rintro e w1 ⟨rfl, hb⟩; haveI : Stp _ w1 := ⟨hb⟩; clear hb) | (go_at_call 119; (with_reducible refine (T2.out _).mono ?_); rintro e w2 ⟨rfl, hb⟩; haveI : Stp _ w2 := ⟨hb⟩; clear hb) | (go_at_call 120; (with_reducible refine (T3.out _ HC.out.tc).mono ?_); rintro e w3 ⟨rfl, hb⟩; haveI : Stp _ w3 := ⟨hb⟩; clear hb))
      go_ret
      exact ⟨ret_b (by simp), blw⟩
    · rw [q2] at T2
      go_enter Try.func88, Try.ntmps88
      go_wp2_with (first | (go_at_call 118; (with_reducible refine (T1.out _).mono ?_); rintro e w1 ⟨rfl, hb⟩; haveI : Stp _ w1 := ⟨hb⟩; clear hb) | (go_at_call 119; (with_reducible refine (T2.out _).mono ?_); rintro e w2 ⟨rfl, hb⟩; haveI : Stp _ w2 := ⟨hb⟩; clear hb) | (go_at_call 120; (with_reducible refine (T3.out _ HC.out.tc).mono ?_); rintro e w3 ⟨rfl, hb⟩; haveI : Stp _ w3 := ⟨hb⟩; clear hb))
      go_ret
      exact ⟨ret_b (by simp), blw⟩
end Go.Proofs.Ytmleeohaaipdcaa
