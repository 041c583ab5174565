/-
  Contracts: cmp.Compare at int and uint64, proc.May, proc.Compare, the reference's May, Before, Compare, for every input.
-/
import Derived.Test.YtniogmefbjfoaaaGreatBase
namespace Go.Proofs.YtniogmefbjfoaaaGreat
set_option linter.unusedSimpArgs false
set_option linter.unusedVariables false
set_option linter.unusedSectionVars false
open Go.RowKit

/-- the three-way order of two integers -/
def cmpI (a b : Int) : Int := if a < b then -1 else if b < a then 1 else 0
theorem cmpI_lt {a b : Int} (h : a < b) : cmpI a b = -1 := by simp [cmpI, h]
theorem cmpI_gt {a b : Int} (h : b < a) : cmpI a b = 1 := by simp only [cmpI]; rw [if_neg (by omega), if_pos h]
theorem cmpI_eq {a b : Int} (h : a = b) : cmpI a b = 0 := by subst h; simp [cmpI]

set_option maxHeartbeats 400000 in
theorem isNaN_int (a : Int) (w : World) : Calls Tryz.prog 107 #[.int .i64 a] w fun e w' => e = .returned (.bool false) ∧ w = w' := by
  go_enter Tryz.func107, Tryz.ntmps107
  go_wp2
  go_ret
  simp

set_option maxHeartbeats 400000 in
theorem cmp_int (a b : Int) (w : World) : Calls Tryz.prog 110 #[.int .i64 a, .int .i64 b] w fun e w' => e = .returned (.int .i64 (cmpI a b)) ∧ w = w' := by
  rcases Int.lt_trichotomy a b with h | h | h
  · have H := hide (cmpI_lt h)
    go_enter Tryz.func110, Tryz.ntmps110
    go_wp2_with (go_at_call 107; refine (isNaN_int _ _).mono ?_; rintro e w' ⟨rfl, rfl⟩)
    go_ret
    exact ⟨ret_i H.out.symm, rfl⟩
  · subst h
    have H := hide (cmpI_eq (rfl : a = a))
    go_enter Tryz.func110, Tryz.ntmps110
    go_wp2_with (go_at_call 107; refine (isNaN_int _ _).mono ?_; rintro e w' ⟨rfl, rfl⟩)
    go_ret
    exact ⟨ret_i H.out.symm, rfl⟩
  · have H := hide (cmpI_gt h)
    go_enter Tryz.func110, Tryz.ntmps110
    go_wp2_with (go_at_call 107; refine (isNaN_int _ _).mono ?_; rintro e w' ⟨rfl, rfl⟩)
    go_ret
    exact ⟨ret_i H.out.symm, rfl⟩

set_option maxHeartbeats 400000 in
theorem isNaN_u64 (a : Int) (w : World) : Calls Tryz.prog 114 #[.int .u64 a] w fun e w' => e = .returned (.bool false) ∧ w = w' := by
  go_enter Tryz.func114, Tryz.ntmps114
  go_wp2
  go_ret
  simp

set_option maxHeartbeats 400000 in
theorem cmp_u64 (a b : Int) (w : World) : Calls Tryz.prog 112 #[.int .u64 a, .int .u64 b] w fun e w' => e = .returned (.int .i64 (cmpI a b)) ∧ w = w' := by
  rcases Int.lt_trichotomy a b with h | h | h
  · have H := hide (cmpI_lt h)
    go_enter Tryz.func112, Tryz.ntmps112
    go_wp2_with (go_at_call 114; refine (isNaN_u64 _ _).mono ?_; rintro e w' ⟨rfl, rfl⟩)
    go_ret
    exact ⟨ret_i H.out.symm, rfl⟩
  · subst h
    have H := hide (cmpI_eq (rfl : a = a))
    go_enter Tryz.func112, Tryz.ntmps112
    go_wp2_with (go_at_call 114; refine (isNaN_u64 _ _).mono ?_; rintro e w' ⟨rfl, rfl⟩)
    go_ret
    exact ⟨ret_i H.out.symm, rfl⟩
  · have H := hide (cmpI_gt h)
    go_enter Tryz.func112, Tryz.ntmps112
    go_wp2_with (go_at_call 114; refine (isNaN_u64 _ _).mono ?_; rintro e w' ⟨rfl, rfl⟩)
    go_ret
    exact ⟨ret_i H.out.symm, rfl⟩

/-- may a life be? -/
def mayB (n i : Int) : Bool := decide (1 ≤ n ∧ n ≤ 10 ∧ 0 < i)
/-- its two boxes -/
abbrev bx (n i : Int) : Obj := .cells #[.int .i64 n, .int .u64 i] 24

set_option maxHeartbeats 400000 in
theorem may_any (n i : Int) (w : World) : Calls Tryz.prog 16 #[.agg #[.int .i64 n, .int .u64 i]] w fun e w' => e = .returned (.bool (mayB n i)) ∧ w.alloc (bx n i) = w' := by
  by_cases h1 : 1 ≤ n
  · by_cases h2 : n ≤ 10
    · by_cases h3 : 0 < i
      · have H := hide (show mayB n i = true by simp [mayB, h1, h2, h3])
        go_enter Tryz.func16, Tryz.ntmps16
        go_wp2
        go_ret
        exact ⟨ret_b H.out.symm, rfl⟩
      · have H := hide (show mayB n i = false by simp [mayB]; omega)
        go_enter Tryz.func16, Tryz.ntmps16
        go_wp2
        go_ret
        exact ⟨ret_b H.out.symm, rfl⟩
    · have H := hide (show mayB n i = false by simp [mayB]; omega)
      go_enter Tryz.func16, Tryz.ntmps16
      go_wp2
      go_ret
      exact ⟨ret_b H.out.symm, rfl⟩
  · have H := hide (show mayB n i = false by simp [mayB]; omega)
    go_enter Tryz.func16, Tryz.ntmps16
    go_wp2
    go_ret
    exact ⟨ret_b H.out.symm, rfl⟩

set_option maxHeartbeats 400000 in
theorem refMay_any (n i : Int) (w : World) (h0 : 0 ≤ i) : Calls Tryz.prog 17 #[.agg #[.int .i64 n, .int .u64 i]] w fun e w' => e = .returned (.bool (mayB n i)) ∧ w.alloc (bx n i) = w' := by
  by_cases h1 : 1 ≤ n
  · by_cases h2 : n ≤ 10
    · by_cases h3 : 0 < i
      · have H := hide (show mayB n i = true by simp [mayB, h1, h2, h3])
        have hb : (i != 0) = true := by simp; omega
        go_enter Tryz.func17, Tryz.ntmps17
        go_wp2
        go_ret
        exact ⟨ret_b H.out.symm, rfl⟩
      · have H := hide (show mayB n i = false by simp [mayB]; omega)
        have hb : (i != 0) = false := by simp; omega
        go_enter Tryz.func17, Tryz.ntmps17
        go_wp2
        go_ret
        exact ⟨ret_b H.out.symm, rfl⟩
    · have H := hide (show mayB n i = false by simp [mayB]; omega)
      go_enter Tryz.func17, Tryz.ntmps17
      go_wp2
      go_ret
      exact ⟨ret_b H.out.symm, rfl⟩
  · have H := hide (show mayB n i = false by simp [mayB]; omega)
    go_enter Tryz.func17, Tryz.ntmps17
    go_wp2
    go_ret
    exact ⟨ret_b H.out.symm, rfl⟩

/-- the order of two lives -/
def cmpP (a b : Int × Int) : Int := if cmpI a.1 b.1 = 0 then cmpI a.2 b.2 else cmpI a.1 b.1

set_option maxHeartbeats 400000 in
theorem compare_any (a b c d : Int) (w : World) : Calls Tryz.prog 99 #[.agg #[.int .i64 a, .int .u64 b], .agg #[.int .i64 c, .int .u64 d]] w fun e w' => e = .returned (.int .i64 (cmpP (a, b) (c, d))) ∧ (w.alloc (bx a b)).alloc (bx c d) = w' := by
  by_cases h : cmpI a c = 0
  · have H := hide (show cmpP (a, b) (c, d) = cmpI b d by simp [cmpP, h])
    have hb : (cmpI a c != 0) = false := by simp [h]
    clear h
    go_enter Tryz.func99, Tryz.ntmps99
    go_wp2_with (first | (go_at_call 110; refine (cmp_int _ _ _).mono ?_; rintro e w' ⟨rfl, rfl⟩) | (go_at_call 112; refine (cmp_u64 _ _ _).mono ?_; rintro e w' ⟨rfl, rfl⟩) | go_in)
    go_ret
    exact ⟨ret_i H.out.symm, rfl⟩
  · have H := hide (show cmpP (a, b) (c, d) = cmpI a c by simp [cmpP, h])
    have hb : (cmpI a c != 0) = true := by simp [h]
    clear h
    go_enter Tryz.func99, Tryz.ntmps99
    go_wp2_with (first | (go_at_call 110; refine (cmp_int _ _ _).mono ?_; rintro e w' ⟨rfl, rfl⟩) | (go_at_call 112; refine (cmp_u64 _ _ _).mono ?_; rintro e w' ⟨rfl, rfl⟩) | go_in)
    go_ret
    exact ⟨ret_i H.out.symm, rfl⟩

/-! ### '==' on lives -/
theorem Tryz.stoodP : Tryz.prog.stoodInHeld 24 = false := by kernel_rfl
theorem Tryz.guardP : Tryz.prog.eqGuardType Tryz.prog.depth 24 = false := by kernel_rfl
def eqP (a b c d : Int) : Bool := decide (a = c ∧ b = d)
theorem eqP_run (a b c d : Int) : (if (!(a == c)) = true then false else if (!(b == d)) = true then false else true) = eqP a b c d := by
  unfold eqP
  by_cases h1 : a = c <;> by_cases h2 : b = d <;> simp [h1, h2]
theorem equalInP (a b c d : Int) (w : World) : (Op.equalIn 10000 24 (.agg #[.int .i64 a, .int .u64 b]) (.agg #[.int .i64 c, .int .u64 d])).run Tryz.prog w = .ok (eqP a b c d) w := by
  rw [← eqP_run]
  have hu := Tryz.underlying24
  have hs := Tryz.stoodP
  by_cases h1 : a = c <;> by_cases h2 : b = d <;> simp [go_sem, hs, h1, h2]
@[go_sem ↓] theorem eqlP (a b c d : Int) (w : World) : (binOp .eql 24 (.agg #[.int .i64 a, .int .u64 b]) (.agg #[.int .i64 c, .int .u64 d])).run Tryz.prog w = .ok (.bool (eqP a b c d)) w := by
  rw [run_eql_struct, equalInP]; rfl
@[go_sem ↓] theorem neqP (a b c d : Int) (w : World) : (binOp .neq 24 (.agg #[.int .i64 a, .int .u64 b]) (.agg #[.int .i64 c, .int .u64 d])).run Tryz.prog w = .ok (.bool (!eqP a b c d)) w := by
  rw [run_neq_struct, equalInP]; rfl
@[go_sem ↓] theorem eqGuardP (op : BinOp) (x y : Operand) (xs ys : Array Value) (w : World) : (eqGuard op 24 x y (.agg xs) (.agg ys)).run Tryz.prog w = .ok () w := run_eqGuard_agg w op _ x y xs ys Tryz.guardP

theorem Tryz.okP : ElemOk Tryz.prog 39 24 2 16 := elemOk_of (.agg #[.int .i64 0, .int .u64 0]) Tryz.underlying39 (by kernel_rfl) rfl (by omega)

/-! ### the reference's order -/
def befB (a b c d : Int) : Bool := decide (a < c ∨ a = c ∧ b < d)
set_option maxHeartbeats 400000 in
theorem before_any (a b c d : Int) (w : World) : Calls Tryz.prog 108 #[.agg #[.int .i64 a, .int .u64 b], .agg #[.int .i64 c, .int .u64 d]] w fun e w' => e = .returned (.bool (befB a b c d)) ∧ (w.alloc (bx a b)).alloc (bx c d) = w' := by
  by_cases h1 : a < c
  · have H := hide (show befB a b c d = true by simp [befB, h1])
    go_enter Tryz.func108, Tryz.ntmps108
    go_wp2
    go_ret
    exact ⟨ret_b H.out.symm, rfl⟩
  · by_cases h2 : a = c
    · subst h2
      by_cases h3 : b < d
      · have H := hide (show befB a b a d = true by simp [befB, h3])
        go_enter Tryz.func108, Tryz.ntmps108
        go_wp2
        go_ret
        exact ⟨ret_b H.out.symm, rfl⟩
      · have H := hide (show befB a b a d = false by simp [befB]; omega)
        go_enter Tryz.func108, Tryz.ntmps108
        go_wp2
        go_ret
        exact ⟨ret_b H.out.symm, rfl⟩
    · have H := hide (show befB a b c d = false by simp [befB]; omega)
      have hb : (a == c) = false := by simp [h2]
      clear h2
      go_enter Tryz.func108, Tryz.ntmps108
      go_wp2
      go_ret
      exact ⟨ret_b H.out.symm, rfl⟩
theorem befB_cmp (a b c d : Int) : befB a b c d = decide (cmpP (a, b) (c, d) < 0) := by
  unfold befB cmpP cmpI
  by_cases h1 : a < c <;> by_cases h2 : c < a <;> by_cases h3 : b < d <;> by_cases h4 : d < b <;> simp [h1, h2, h3, h4] <;> omega
end Go.Proofs.YtniogmefbjfoaaaGreat

namespace Go.Proofs.YtniogmefbjfoaaaGreat
set_option linter.unusedSimpArgs false
set_option linter.unusedVariables false
set_option linter.unusedSectionVars false
open Go.RowKit

theorem eqP_iff {a b c d : Int} : eqP a b c d = true ↔ ((a, b) : Int × Int) = (c, d) := by simp [eqP]
theorem take_succ_of {α : Type} {l : List α} {k : Nat} {p : α} (h : l[k]? = some p) : l.take (k + 1) = l.take k ++ [p] := by
  have hl : k < l.length := (List.getElem?_eq_some_iff.1 h).1
  rw [List.take_succ_eq_append_getElem hl]
  rw [List.getElem?_eq_getElem hl] at h
  injection h with h; rw [h]

set_option maxHeartbeats 400000 in
theorem refEqual_any (A A' : Option Addr) (c c' : Nat) (l m : List (Int × Int)) (w : World) (hR : Reads w w.heap.size 2 A l.length (pcs l)) (hR' : Reads w w.heap.size 2 A' m.length (pcs m)) (hn : l.length ≤ 1000000) (hm : m.length ≤ 1000000) :
    Calls Tryz.prog 75 #[.slice A l.length c, .slice A' m.length c'] w fun e w' => e = .returned (.bool (decide (l = m))) ∧ Below w.heap.size w w' := by
  by_cases hlen : l.length = m.length
  · have hb : (((l.length : Nat) : Int) != ((m.length : Nat) : Int)) = false := by simp [hlen]
    have HL := hide hlen
    clear hlen
    go_enter Tryz.func75, Tryz.ntmps75
    go_wp2
    go_loopw [5] (fun i wr => ∃ k q : Nat, k ≤ l.length ∧ i = .int .i64 k ∧ wr = w.drewN q ∧ l.take k = m.take k) (fun i _ => l.length - (intOf i).toNat)
    case atStart => exact ⟨0, 0, Nat.zero_le _, rfl, rfl, by simp⟩
    case round =>
      obtain ⟨k, q, hk, rfl, rfl, hnot⟩ := hrel
      have HN := hide hnot
      clear hnot
      by_cases hlt : k < l.length
      · obtain ⟨b, off, ⟨pn, pi⟩, rfl, hb1, hp, g1, g2⟩ := hR.at2 hlt
        have hlt' : k < m.length := by rw [← HL.out]; exact hlt
        obtain ⟨b', off', ⟨pn', pi'⟩, rfl, hb2, hp', g1', g2'⟩ := hR'.at2 hlt'
        have HP := hide hp
        have HP' := hide hp'
        clear hp hR hp' hR'
        simp only at g1 g2 g1' g2'
        have i0 : (0 : Int) ≤ (k : Int) := by omega
        have i1 : (k : Int) < (l.length : Int) := by omega
        have i2 : (k : Int) < (m.length : Int) := by omega
        cases he : eqP pn pi pn' pi'
        · have H := hide (show ¬ l = m by
            intro h; subst h
            have := HP.out.symm.trans HP'.out
            injection this with this
            rw [Prod.mk.injEq] at this
            simp [eqP, this.1, this.2] at he)
          go_wp2
          go_quiet (fail)
          go_wp2
          go_ret
          exact ⟨ret_b (by simp [H.out]), (by repeat (first | exact Below.refl _ _ | assumption | refine below_drewN ?_ _ | refine Below.drew ?_ | refine Below.alloc ?_ (by simp <;> omega) _))⟩
        · have H := hide (show l.take (k + 1) = m.take (k + 1) by
            rw [take_succ_of HP.out, take_succ_of HP'.out, HN.out]
            rw [eqP_iff] at he; rw [he])
          go_wp2
          go_quiet (fail)
          go_wp2
          go_roundw
          case rel => exact ⟨k + 1, _, by omega, by go_num, rfl, H.out⟩
          case measure => simp [intOf]; omega
      · have H := hide (show l = m by
          have := HN.out; have h2 := HL.out
          rwa [List.take_of_length_le (by omega), List.take_of_length_le (by omega)] at this)
        go_wp2
        go_ret
        exact ⟨ret_b (by simp [H.out]), (by repeat (first | exact Below.refl _ _ | assumption | refine below_drewN ?_ _ | refine Below.drew ?_ | refine Below.alloc ?_ (by simp <;> omega) _))⟩
  · have hb : (((l.length : Nat) : Int) != ((m.length : Nat) : Int)) = true := by simp; omega
    have H := hide (show ¬ l = m by intro h; exact hlen (by rw [h]))
    clear hlen
    go_enter Tryz.func75, Tryz.ntmps75
    go_wp2
    go_ret
    exact ⟨ret_b (by simp [H.out]), (by repeat (first | exact Below.refl _ _ | assumption | refine below_drewN ?_ _ | refine Below.drew ?_ | refine Below.alloc ?_ (by simp <;> omega) _))⟩

/-! ### is a list a set? -/
def okAt (l : List (Int × Int)) (i : Nat) : Bool := mayB (l.getD i (0, 0)).1 (l.getD i (0, 0)).2 && (decide (i = 0) || decide (cmpP (l.getD (i - 1) (0, 0)) (l.getD i (0, 0)) < 0))
def setB (l : List (Int × Int)) : Bool := (List.range l.length).all (okAt l)

theorem may_b (n i : Int) (w : World) : Calls Tryz.prog 16 #[.agg #[.int .i64 n, .int .u64 i]] w fun e w' => e = .returned (.bool (mayB n i)) ∧ Below w.heap.size w w' :=
  (may_any n i w).mono fun _ _ ⟨h, h'⟩ => ⟨h, by subst h'; exact below_alloc _ _⟩
theorem compare_b (a b c d : Int) (w : World) : Calls Tryz.prog 99 #[.agg #[.int .i64 a, .int .u64 b], .agg #[.int .i64 c, .int .u64 d]] w fun e w' => e = .returned (.int .i64 (cmpP (a, b) (c, d))) ∧ Below w.heap.size w w' :=
  (compare_any a b c d w).mono fun _ _ ⟨h, h'⟩ => ⟨h, by subst h'; exact below_step (below_alloc _ _) (below_alloc _ _)⟩
theorem refMay_b (n i : Int) (w : World) (h0 : 0 ≤ i) : Calls Tryz.prog 17 #[.agg #[.int .i64 n, .int .u64 i]] w fun e w' => e = .returned (.bool (mayB n i)) ∧ Below w.heap.size w w' :=
  (refMay_any n i w h0).mono fun _ _ ⟨h, h'⟩ => ⟨h, by subst h'; exact below_alloc _ _⟩
theorem getD_of {l : List (Int × Int)} {k : Nat} {p : Int × Int} (h : l[k]? = some p) : l.getD k (0, 0) = p := by simp [List.getD, h]
theorem okAt_may {l : List (Int × Int)} {k : Nat} {p : Int × Int} (h : l[k]? = some p) (hm : mayB p.1 p.2 = false) : okAt l k = false := by unfold okAt; rw [getD_of h, hm]; rfl
theorem okAt_zero {l : List (Int × Int)} {p : Int × Int} (h : l[0]? = some p) (hm : mayB p.1 p.2 = true) : okAt l 0 = true := by unfold okAt; rw [getD_of h, hm]; rfl
theorem okAt_succ {l : List (Int × Int)} {k : Nat} {p q : Int × Int} (h : l[k]? = some p) (h' : l[k - 1]? = some q) (hk : k ≠ 0) (hm : mayB p.1 p.2 = true) : okAt l k = decide (cmpP q p < 0) := by
  unfold okAt; rw [getD_of h, getD_of h', hm]; simp [hk]
theorem gwb {w wr : World} (h : Below w.heap.size w wr) (o : Obj) (d : Nat) (os : Array Obj) : Below w.heap.size w (gw (wr.alloc o) d os) :=
  below_step (below_step h (below_alloc wr o)) (below_gw _ _ _)
theorem all_succ (f : Nat → Bool) (k : Nat) : (List.range (k + 1)).all f = ((List.range k).all f && f k) := by rw [List.range_succ, List.all_append]; simp
theorem setB_false {l : List (Int × Int)} {k : Nat} (hk : k < l.length) (h : okAt l k = false) : setB l = false := by
  unfold setB; rw [List.all_eq_false]; exact ⟨k, List.mem_range.2 hk, by simp [h]⟩

set_option maxHeartbeats 1000000 in
theorem set_any (A : Option Addr) (c : Nat) (l : List (Int × Int)) (w : World) (hR : Reads w w.heap.size 2 A l.length (pcs l)) (hn : l.length ≤ 1000000) :
    Calls Tryz.prog 78 #[.slice A l.length c] w fun e w' => e = .returned (.bool (setB l)) ∧ Below w.heap.size w w' := by
  go_enter Tryz.func78, Tryz.ntmps78
  go_wp2
  go_loopw [7] (fun i wr => ∃ k : Nat, k ≤ l.length ∧ i = .int .i64 k ∧ Below w.heap.size w wr ∧ (List.range k).all (okAt l) = true) (fun i _ => l.length - (intOf i).toNat)
  case atStart => exact ⟨0, Nat.zero_le _, rfl, Below.refl _ _, by simp⟩
  case round =>
    obtain ⟨k, hk, rfl, hbw, hall⟩ := hrel
    have HN := hide hall
    clear hall
    by_cases hlt : k < l.length
    · have hRw := hR.below hbw
      have hsz := hbw.size
      obtain ⟨b, off, ⟨pn, pi⟩, rfl, hb, hp, g1, g2⟩ := hRw.at2 hlt
      have HP := hide hp
      have HR := hide hRw
      clear hp hRw hR
      simp only at g1 g2
      have i0 : (0 : Int) ≤ (k : Int) := by omega
      have i1 : (k : Int) < (l.length : Int) := by omega
      have q1 : ∀ d os, (gw (wr.alloc (bx pn pi)) d os).cell? ⟨wr.heap.size, 0, none⟩ = some (.int .i64 pn) := fun d os => cell_gw (by simp) (by simp) d os
      have q2 : ∀ d os, (gw (wr.alloc (bx pn pi)) d os).cell? ⟨wr.heap.size, 1, none⟩ = some (.int .u64 pi) := fun d os => cell_gw (by simp) (by simp) d os
      cases hm : mayB pn pi
      · have H := hide (setB_false hlt (okAt_may HP.out hm))
        go_wp2
        (refine wp_region_gw (by kernel_rfl) (by kernel_rfl) ?_; (repeat (go_big_quiet_step ((go_at_call 16; exact calls_gw (may_b _ _ _))))); refine wpQuiet_nil ?_; intro _ hw'; obtain ⟨⟨dq, osq⟩, hw''⟩ := hw'; subst hw'')
        go_wp2
        go_ret
        exact ⟨ret_b H.out.symm, gwb hbw _ _ _⟩
      · by_cases hk0 : k = 0
        · have H := hide (show (List.range (k + 1)).all (okAt l) = true by rw [all_succ, HN.out]; subst hk0; rw [okAt_zero HP.out hm]; rfl)
          have hk1 : decide (0 < k) = false := by simp; omega
          clear hk0
          go_wp2
          (refine wp_region_gw (by kernel_rfl) (by kernel_rfl) ?_; (repeat (go_big_quiet_step ((go_at_call 16; exact calls_gw (may_b _ _ _))))); refine wpQuiet_nil ?_; intro _ hw'; obtain ⟨⟨dq, osq⟩, hw''⟩ := hw'; subst hw'')
          go_wp2
          go_roundw
          case rel => exact ⟨k + 1, by omega, by go_num, gwb hbw _ _ _, H.out⟩
          case measure => simp [intOf]; omega
        · obtain ⟨b', off', ⟨pn', pi'⟩, he, hb', hp', g1', g2'⟩ := HR.out.at2 (k := k - 1) (by omega)
          injection he with he
          injection he with he1 he2
          subst he1 he2
          have HP' := hide hp'
          clear hp'
          simp only at g1' g2'
          have q1' : ∀ d os, (gw (wr.alloc (bx pn pi)) d os).cell? ⟨b, off + (k - 1) * 2, none⟩ = some (.int .i64 pn') := fun d os => cell_gw (by simp; omega) (by rw [World.cell?_alloc_lt _ _ _ (by show b < _; omega)]; exact g1') d os
          have q2' : ∀ d os, (gw (wr.alloc (bx pn pi)) d os).cell? ⟨b, off + (k - 1) * 2 + 1, none⟩ = some (.int .u64 pi') := fun d os => cell_gw (by simp; omega) (by rw [World.cell?_alloc_lt _ _ _ (by show b < _; omega)]; exact g2') d os
          have j0 : (0 : Int) < (k : Int) := by omega
          have hk1 : decide (0 < k) = true := by simp; omega
          have j1 : (0 : Int) ≤ (k : Int) - 1 := by omega
          have j2 : (k : Int) - 1 < (l.length : Int) := by omega
          have j3 : ((k : Int) - 1).toNat = k - 1 := by omega
          by_cases hc : cmpP (pn', pi') (pn, pi) < 0
          · have H := hide (show (List.range (k + 1)).all (okAt l) = true by rw [all_succ, HN.out, okAt_succ HP.out HP'.out hk0 hm]; simp [hc])
            have hcb : decide (0 ≤ cmpP (pn', pi') (pn, pi)) = false := by simp; omega
            go_wp2
            (refine wp_region_gw (by kernel_rfl) (by kernel_rfl) ?_; (repeat (go_big_quiet_step ((first | (go_at_call 16; exact calls_gw (may_b _ _ _)) | (go_at_call 99; exact calls_gw (compare_b _ _ _ _ _)))))); refine wpQuiet_nil ?_; intro _ hw'; obtain ⟨⟨dq, osq⟩, hw''⟩ := hw'; subst hw'')
            go_wp2
            go_roundw
            case rel => exact ⟨k + 1, by omega, by go_num, gwb hbw _ _ _, H.out⟩
            case measure => simp [intOf]; omega
          · have H := hide (setB_false hlt (show okAt l k = false by rw [okAt_succ HP.out HP'.out hk0 hm]; simp; omega))
            have hcb : decide (0 ≤ cmpP (pn', pi') (pn, pi)) = true := by simp; omega
            go_wp2
            (refine wp_region_gw (by kernel_rfl) (by kernel_rfl) ?_; (repeat (go_big_quiet_step ((first | (go_at_call 16; exact calls_gw (may_b _ _ _)) | (go_at_call 99; exact calls_gw (compare_b _ _ _ _ _)))))); refine wpQuiet_nil ?_; intro _ hw'; obtain ⟨⟨dq, osq⟩, hw''⟩ := hw'; subst hw'')
            go_wp2
            go_ret
            exact ⟨ret_b H.out.symm, gwb hbw _ _ _⟩
    · have H := hide (show setB l = true by
        have : k = l.length := by omega
        subst this; exact HN.out)
      go_wp2
      go_ret
      exact ⟨ret_b H.out.symm, hbw⟩

end Go.Proofs.YtniogmefbjfoaaaGreat
