/-
  Contracts: cmp.Compare at int and uint64, proc.May, proc.Compare, the reference's May, Before, Compare, for every input.
-/
import Derived.Test.YtgpmcpinnaggmaaBase
namespace Go.Proofs.Ytgpmcpinnaggmaa
set_option linter.unusedSimpArgs false
set_option linter.unusedVariables false
set_option linter.unusedSectionVars false
open Go.RowKit

/-- the three-way order of two integers -/
def cmpI (a b : Int) : Int := if a < b then -1 else if b < a then 1 else 0
theorem cmpI_lt {a b : Int} (h : a < b) : cmpI a b = -1 := by simp [cmpI, h]
theorem cmpI_gt {a b : Int} (h : b < a) : cmpI a b = 1 := by simp only [cmpI]; rw [if_neg (by omega), if_pos h]
theorem cmpI_eq {a b : Int} (h : a = b) : cmpI a b = 0 := by subst h; simp [cmpI]

set_option maxHeartbeats 400000 in
theorem isNaN_int (a : Int) (w : World) : Calls Try.prog 142 #[.int .i64 a] w fun e w' => e = .returned (.bool false) ∧ w = w' := by
  go_enter Try.func142, Try.ntmps142
  go_wp2
  go_ret
  simp

set_option maxHeartbeats 400000 in
theorem cmp_int (a b : Int) (w : World) : Calls Try.prog 120 #[.int .i64 a, .int .i64 b] w fun e w' => e = .returned (.int .i64 (cmpI a b)) ∧ w = w' := by
  rcases Int.lt_trichotomy a b with h | h | h
  · have H := hide (cmpI_lt h)
    go_enter Try.func120, Try.ntmps120
    go_wp2_with (go_at_call 142; refine (isNaN_int _ _).mono ?_; rintro e w' ⟨rfl, rfl⟩)
    go_ret
    exact ⟨ret_i H.out.symm, rfl⟩
  · subst h
    have H := hide (cmpI_eq (rfl : a = a))
    go_enter Try.func120, Try.ntmps120
    go_wp2_with (go_at_call 142; refine (isNaN_int _ _).mono ?_; rintro e w' ⟨rfl, rfl⟩)
    go_ret
    exact ⟨ret_i H.out.symm, rfl⟩
  · have H := hide (cmpI_gt h)
    go_enter Try.func120, Try.ntmps120
    go_wp2_with (go_at_call 142; refine (isNaN_int _ _).mono ?_; rintro e w' ⟨rfl, rfl⟩)
    go_ret
    exact ⟨ret_i H.out.symm, rfl⟩

set_option maxHeartbeats 400000 in
theorem isNaN_u64 (a : Int) (w : World) : Calls Try.prog 143 #[.int .u64 a] w fun e w' => e = .returned (.bool false) ∧ w = w' := by
  go_enter Try.func143, Try.ntmps143
  go_wp2
  go_ret
  simp

set_option maxHeartbeats 400000 in
theorem cmp_u64 (a b : Int) (w : World) : Calls Try.prog 122 #[.int .u64 a, .int .u64 b] w fun e w' => e = .returned (.int .i64 (cmpI a b)) ∧ w = w' := by
  rcases Int.lt_trichotomy a b with h | h | h
  · have H := hide (cmpI_lt h)
    go_enter Try.func122, Try.ntmps122
    go_wp2_with (go_at_call 143; refine (isNaN_u64 _ _).mono ?_; rintro e w' ⟨rfl, rfl⟩)
    go_ret
    exact ⟨ret_i H.out.symm, rfl⟩
  · subst h
    have H := hide (cmpI_eq (rfl : a = a))
    go_enter Try.func122, Try.ntmps122
    go_wp2_with (go_at_call 143; refine (isNaN_u64 _ _).mono ?_; rintro e w' ⟨rfl, rfl⟩)
    go_ret
    exact ⟨ret_i H.out.symm, rfl⟩
  · have H := hide (cmpI_gt h)
    go_enter Try.func122, Try.ntmps122
    go_wp2_with (go_at_call 143; refine (isNaN_u64 _ _).mono ?_; rintro e w' ⟨rfl, rfl⟩)
    go_ret
    exact ⟨ret_i H.out.symm, rfl⟩

/-- may a life be? -/
def mayB (n i : Int) : Bool := decide (1 ≤ n ∧ n ≤ 10 ∧ 0 < i)
/-- its two boxes -/
abbrev bx (n i : Int) : Obj := .cells #[.int .i64 n, .int .u64 i] 26

set_option maxHeartbeats 400000 in
theorem may_any (n i : Int) (w : World) : Calls Try.prog 86 #[.agg #[.int .i64 n, .int .u64 i]] w fun e w' => e = .returned (.bool (mayB n i)) ∧ w.alloc (bx n i) = w' := by
  by_cases h1 : 1 ≤ n
  · by_cases h2 : n ≤ 10
    · by_cases h3 : 0 < i
      · have H := hide (show mayB n i = true by simp [mayB, h1, h2, h3])
        go_enter Try.func86, Try.ntmps86
        go_wp2
        go_ret
        exact ⟨ret_b H.out.symm, rfl⟩
      · have H := hide (show mayB n i = false by simp [mayB]; omega)
        go_enter Try.func86, Try.ntmps86
        go_wp2
        go_ret
        exact ⟨ret_b H.out.symm, rfl⟩
    · have H := hide (show mayB n i = false by simp [mayB]; omega)
      go_enter Try.func86, Try.ntmps86
      go_wp2
      go_ret
      exact ⟨ret_b H.out.symm, rfl⟩
  · have H := hide (show mayB n i = false by simp [mayB]; omega)
    go_enter Try.func86, Try.ntmps86
    go_wp2
    go_ret
    exact ⟨ret_b H.out.symm, rfl⟩

set_option maxHeartbeats 400000 in
theorem refMay_any (n i : Int) (w : World) (h0 : 0 ≤ i) : Calls Try.prog 98 #[.agg #[.int .i64 n, .int .u64 i]] w fun e w' => e = .returned (.bool (mayB n i)) ∧ w.alloc (bx n i) = w' := by
  by_cases h1 : 1 ≤ n
  · by_cases h2 : n ≤ 10
    · by_cases h3 : 0 < i
      · have H := hide (show mayB n i = true by simp [mayB, h1, h2, h3])
        have hb : (i != 0) = true := by simp; omega
        go_enter Try.func98, Try.ntmps98
        go_wp2
        go_ret
        exact ⟨ret_b H.out.symm, rfl⟩
      · have H := hide (show mayB n i = false by simp [mayB]; omega)
        have hb : (i != 0) = false := by simp; omega
        go_enter Try.func98, Try.ntmps98
        go_wp2
        go_ret
        exact ⟨ret_b H.out.symm, rfl⟩
    · have H := hide (show mayB n i = false by simp [mayB]; omega)
      go_enter Try.func98, Try.ntmps98
      go_wp2
      go_ret
      exact ⟨ret_b H.out.symm, rfl⟩
  · have H := hide (show mayB n i = false by simp [mayB]; omega)
    go_enter Try.func98, Try.ntmps98
    go_wp2
    go_ret
    exact ⟨ret_b H.out.symm, rfl⟩

/-- the order of two lives -/
def cmpP (a b : Int × Int) : Int := if cmpI a.1 b.1 = 0 then cmpI a.2 b.2 else cmpI a.1 b.1

set_option maxHeartbeats 400000 in
theorem compare_any (a b c d : Int) (w : World) : Calls Try.prog 107 #[.agg #[.int .i64 a, .int .u64 b], .agg #[.int .i64 c, .int .u64 d]] w fun e w' => e = .returned (.int .i64 (cmpP (a, b) (c, d))) ∧ (w.alloc (bx a b)).alloc (bx c d) = w' := by
  by_cases h : cmpI a c = 0
  · have H := hide (show cmpP (a, b) (c, d) = cmpI b d by simp [cmpP, h])
    have hb : (cmpI a c != 0) = false := by simp [h]
    clear h
    go_enter Try.func107, Try.ntmps107
    go_wp2_with (first | (go_at_call 120; refine (cmp_int _ _ _).mono ?_; rintro e w' ⟨rfl, rfl⟩) | (go_at_call 122; refine (cmp_u64 _ _ _).mono ?_; rintro e w' ⟨rfl, rfl⟩) | go_in)
    go_ret
    exact ⟨ret_i H.out.symm, rfl⟩
  · have H := hide (show cmpP (a, b) (c, d) = cmpI a c by simp [cmpP, h])
    have hb : (cmpI a c != 0) = true := by simp [h]
    clear h
    go_enter Try.func107, Try.ntmps107
    go_wp2_with (first | (go_at_call 120; refine (cmp_int _ _ _).mono ?_; rintro e w' ⟨rfl, rfl⟩) | (go_at_call 122; refine (cmp_u64 _ _ _).mono ?_; rintro e w' ⟨rfl, rfl⟩) | go_in)
    go_ret
    exact ⟨ret_i H.out.symm, rfl⟩

/-! ### '==' on lives -/
theorem Try.stoodP : Try.prog.stoodInHeld 26 = false := by kernel_rfl
theorem Try.guardP : Try.prog.eqGuardType Try.prog.depth 26 = false := by kernel_rfl
def eqP (a b c d : Int) : Bool := decide (a = c ∧ b = d)
theorem eqP_run (a b c d : Int) : (if (!(a == c)) = true then false else if (!(b == d)) = true then false else true) = eqP a b c d := by
  unfold eqP
  by_cases h1 : a = c <;> by_cases h2 : b = d <;> simp [h1, h2]
theorem equalInP (a b c d : Int) (w : World) : (Op.equalIn 10000 26 (.agg #[.int .i64 a, .int .u64 b]) (.agg #[.int .i64 c, .int .u64 d])).run Try.prog w = .ok (eqP a b c d) w := by
  rw [← eqP_run]
  have hu := Try.underlying26
  have hs := Try.stoodP
  by_cases h1 : a = c <;> by_cases h2 : b = d <;> simp [go_sem, hs, h1, h2]
@[go_sem ↓] theorem eqlP (a b c d : Int) (w : World) : (binOp .eql 26 (.agg #[.int .i64 a, .int .u64 b]) (.agg #[.int .i64 c, .int .u64 d])).run Try.prog w = .ok (.bool (eqP a b c d)) w := by
  rw [run_eql_struct, equalInP]; rfl
@[go_sem ↓] theorem neqP (a b c d : Int) (w : World) : (binOp .neq 26 (.agg #[.int .i64 a, .int .u64 b]) (.agg #[.int .i64 c, .int .u64 d])).run Try.prog w = .ok (.bool (!eqP a b c d)) w := by
  rw [run_neq_struct, equalInP]; rfl
@[go_sem ↓] theorem eqGuardP (op : BinOp) (x y : Operand) (xs ys : Array Value) (w : World) : (eqGuard op 26 x y (.agg xs) (.agg ys)).run Try.prog w = .ok () w := run_eqGuard_agg w op _ x y xs ys Try.guardP

theorem Try.okP : ElemOk Try.prog 27 26 2 16 := elemOk_of (.agg #[.int .i64 0, .int .u64 0]) Try.underlying27 (by kernel_rfl) rfl (by omega)

/-! ### the reference's order -/
def befB (a b c d : Int) : Bool := decide (a < c ∨ a = c ∧ b < d)
set_option maxHeartbeats 400000 in
theorem before_any (a b c d : Int) (w : World) : Calls Try.prog 110 #[.agg #[.int .i64 a, .int .u64 b], .agg #[.int .i64 c, .int .u64 d]] w fun e w' => e = .returned (.bool (befB a b c d)) ∧ (w.alloc (bx a b)).alloc (bx c d) = w' := by
  by_cases h1 : a < c
  · have H := hide (show befB a b c d = true by simp [befB, h1])
    go_enter Try.func110, Try.ntmps110
    go_wp2
    go_ret
    exact ⟨ret_b H.out.symm, rfl⟩
  · by_cases h2 : a = c
    · subst h2
      by_cases h3 : b < d
      · have H := hide (show befB a b a d = true by simp [befB, h3])
        go_enter Try.func110, Try.ntmps110
        go_wp2
        go_ret
        exact ⟨ret_b H.out.symm, rfl⟩
      · have H := hide (show befB a b a d = false by simp [befB]; omega)
        go_enter Try.func110, Try.ntmps110
        go_wp2
        go_ret
        exact ⟨ret_b H.out.symm, rfl⟩
    · have H := hide (show befB a b c d = false by simp [befB]; omega)
      have hb : (a == c) = false := by simp [h2]
      clear h2
      go_enter Try.func110, Try.ntmps110
      go_wp2
      go_ret
      exact ⟨ret_b H.out.symm, rfl⟩
theorem befB_cmp (a b c d : Int) : befB a b c d = decide (cmpP (a, b) (c, d) < 0) := by
  unfold befB cmpP cmpI
  by_cases h1 : a < c <;> by_cases h2 : c < a <;> by_cases h3 : b < d <;> by_cases h4 : d < b <;> simp [h1, h2, h3, h4] <;> omega
end Go.Proofs.Ytgpmcpinnaggmaa
