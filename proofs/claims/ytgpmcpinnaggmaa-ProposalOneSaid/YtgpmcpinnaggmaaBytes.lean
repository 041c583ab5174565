/-
  Plain lists of bytes: short numbers, there and back; a list of bytes in memory. Nothing here depends on the translated code.
-/
import Derived.Test.YtgpmcpinnaggmaaBase
namespace Go.Proofs.Ytgpmcpinnaggmaa
set_option linter.unusedSimpArgs false
set_option linter.unusedVariables false
set_option linter.unusedSectionVars false
open Go.RowKit

def bcs (l : List Int) : List Value := l.map (Value.int .u8)
theorem bcs_len (l : List Int) : (bcs l).length = l.length * 1 := by simp [bcs]
theorem bcs_app (l m : List Int) : bcs (l ++ m) = bcs l ++ bcs m := List.map_append
theorem bcs_one (l : List Int) : ∀ u ∈ bcs l, u.oneCell' = true := by
  intro u hu
  obtain ⟨p, _, rfl⟩ := List.mem_map.1 hu
  rfl
theorem bcs_take (l : List Int) (n : Nat) : (bcs l).take (n * 1) = bcs (l.take n) := by rw [Nat.mul_one, bcs, ← List.map_take]; rfl
theorem bcs_drop (l : List Int) (n : Nat) : (bcs l).drop (n * 1) = bcs (l.drop n) := by rw [Nat.mul_one, bcs, ← List.map_drop]; rfl
theorem bcs_inj {l m : List Int} (h : bcs l = bcs m) : l = m := by
  induction l generalizing m with
  | nil => cases m with
    | nil => rfl
    | cons y m => simp [bcs] at h
  | cons x l ih => cases m with
    | nil => simp [bcs] at h
    | cons y m =>
      simp only [bcs, List.map_cons, List.cons.injEq, Value.int.injEq, true_and] at h
      rw [h.1, ih h.2]
theorem Reads.atB {w : World} {B : Nat} {A : Option Addr} {n k : Nat} {xs : List Int} (h : Reads w B 1 A n (bcs xs)) (hk : k < n) :
    ∃ b off x, A = some ⟨b, off, none⟩ ∧ b < B ∧ xs[k]? = some x ∧ w.cell? ⟨b, off + k, none⟩ = some (.int .u8 x) := by
  obtain ⟨b, off, rfl, hb, hc⟩ := h.2 (by omega)
  have hl : k < xs.length := by have := h.1; rw [bcs_len] at this; omega
  exact ⟨b, off, xs[k], rfl, hb, List.getElem?_eq_getElem hl, hc k _ (by simp [bcs, hl])⟩
/-- bytes fit -/
def bOK (l : List Int) : Prop := ∀ b ∈ l, 0 ≤ b ∧ b < 256
theorem bOK.app {l m : List Int} (h : bOK l) (k : bOK m) : bOK (l ++ m) := fun b hb => (List.mem_append.1 hb).elim (h b) (k b)
theorem bOK.drop {l : List Int} (h : bOK l) (n : Nat) : bOK (l.drop n) := fun b hb => h b (List.mem_of_mem_drop hb)
theorem bOK.get {l : List Int} (h : bOK l) {k : Nat} {x : Int} (hx : l[k]? = some x) : 0 ≤ x ∧ x < 256 := h x (List.mem_of_getElem? hx)
theorem bOK.nil : bOK [] := fun b hb => by simp at hb

/-! ### short numbers -/
def uintF : Nat → Int → List Int
  | 0, x => [x]
  | f + 1, x => if x < 128 then [x] else (x % 128 + 128) :: uintF f (x / 128)
/-- a number's bytes, seven bits each, the lowest first -/
def uintB (x : Int) : List Int := uintF 9 x
/-- reading on at place i, with x read so far: the number and how many bytes it has; none: 0 bytes -/
def numGo : Nat → Int → List Int → Int × Nat
  | _, _, [] => (0, 0)
  | i, x, c :: cs =>
    if i = 9 ∧ 1 < c then (0, 0)
    else if c < 128 then (if c = 0 ∧ 0 < i then (0, 0) else (x + c % 128 * 128 ^ i, i + 1))
    else numGo (i + 1) (x + c % 128 * 128 ^ i) cs
theorem uintF_pos (f : Nat) (x : Int) : 0 < (uintF f x).length := by
  cases f with
  | zero => simp [uintF]
  | succ f => rw [uintF]; split <;> simp
theorem uintF_len : ∀ (f : Nat) (x : Int), (uintF f x).length ≤ f + 1 := by
  intro f
  induction f with
  | zero => intro x; simp [uintF]
  | succ f ih => intro x; rw [uintF]; split <;> simp; exact ih _
theorem uintB_pos (x : Int) : 0 < (uintB x).length := uintF_pos 9 x
theorem uintB_len (x : Int) : (uintB x).length ≤ 10 := uintF_len 9 x
theorem div_lt_pow {x : Int} {f : Nat} (h : x < 128 ^ (f + 1) * 2) : x / 128 < 128 ^ f * 2 := by
  rw [Int.pow_succ] at h
  generalize (128 : Int) ^ f = p at h ⊢
  omega
theorem uintF_ok : ∀ (f : Nat) (x : Int), 0 ≤ x → x < 128 ^ f * 2 → bOK (uintF f x) := by
  intro f
  induction f with
  | zero => intro x h0 h b hb; simp [uintF] at hb; subst hb; simp at h; omega
  | succ f ih =>
    intro x h0 h b hb
    rw [uintF] at hb
    split at hb
    · simp at hb; omega
    · rcases List.mem_cons.1 hb with rfl | hb
      · omega
      · exact ih (x / 128) (by omega) (div_lt_pow h) b hb
theorem uintB_ok (x : Int) (h0 : 0 ≤ x) (h : x ≤ 18446744073709551615) : bOK (uintB x) := uintF_ok 9 x h0 (by omega)
theorem numGo_uintF : ∀ (f i : Nat) (x y : Int) (rest : List Int), i + f = 9 → 0 ≤ y → y < 128 ^ f * 2 → (0 < i → 0 < y) → numGo i x (uintF f y ++ rest) = (x + y * 128 ^ i, i + (uintF f y).length) := by
  intro f
  induction f with
  | zero =>
    intro i x y rest hi hy0 hy h0
    simp at hy
    simp only [uintF, List.cons_append, numGo]
    rw [if_neg (by omega), if_pos (by omega), if_neg (by intro h; have := h0 h.2; omega)]
    rw [Int.emod_eq_of_lt hy0 (by omega)]
    rfl
  | succ f ih =>
    intro i x y rest hi hy0 hy h0
    rw [uintF]
    by_cases h : y < 128
    · rw [if_pos h]
      simp only [List.cons_append, numGo]
      rw [if_neg (by omega), if_pos h, if_neg (by intro h'; have := h0 h'.2; omega), Int.emod_eq_of_lt hy0 h]
      rfl
    · rw [if_neg h]
      simp only [List.cons_append, numGo]
      rw [if_neg (by omega), if_neg (by omega), ih (i + 1) _ (y / 128) rest (by omega) (by omega) (div_lt_pow hy) (by omega)]
      refine Prod.ext ?_ ?_
      · show x + (y % 128 + 128) % 128 * 128 ^ i + y / 128 * 128 ^ (i + 1) = x + y * 128 ^ i
        have e1 : (y % 128 + 128) % 128 = y % 128 := by omega
        have e2 : y * 128 ^ i = y % 128 * 128 ^ i + y / 128 * 128 ^ (i + 1) := by
          rw [Int.pow_succ, Int.mul_comm (128 ^ i) 128, ← Int.mul_assoc, ← Int.add_mul]
          congr 1; omega
        rw [e1, e2]; omega
      · show i + 1 + _ = i + _
        simp; omega
theorem numGo_uintB (y : Int) (rest : List Int) (h0 : 0 ≤ y) (h : y ≤ 18446744073709551615) : numGo 0 0 (uintB y ++ rest) = (y, (uintB y).length) := by
  have := numGo_uintF 9 0 0 y rest rfl h0 (by omega) (by omega)
  simpa [uintB] using this
/-- what is read has at most that many bytes -/
theorem numGo_le : ∀ (bs : List Int) (i : Nat) (x : Int), (numGo i x bs).2 ≤ i + bs.length := by
  intro bs
  induction bs with
  | nil => intro i x; simp [numGo]
  | cons c cs ih =>
    intro i x
    rw [numGo]
    split
    · simp
    · split
      · split
        · simp
        · simp <;> omega
      · have := ih (i + 1) (x + c % 128 * 128 ^ i)
        simp <;> omega

end Go.Proofs.Ytgpmcpinnaggmaa
