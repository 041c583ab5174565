/-
  Plain: whatever is read was written: numbers, lives, sets of lives. No code.
-/
import Derived.Test.YtgpmcpinnaggmaaBack
namespace Go.Proofs.Ytgpmcpinnaggmaa
set_option linter.unusedSimpArgs false
set_option linter.unusedVariables false
set_option linter.unusedSectionVars false
open Go.RowKit

theorem bOK.tail {b : Int} {l : List Int} (h : bOK (b :: l)) : bOK l := fun x hx => h x (by simp [hx])
theorem bOK.right {l m : List Int} (h : bOK (l ++ m)) : bOK m := fun x hx => h x (by simp [hx])
theorem bOK.left {l m : List Int} (h : bOK (l ++ m)) : bOK l := fun x hx => h x (by simp [hx])
theorem numGo_inv : ∀ (f i : Nat) (X : Int) (bs : List Int) (y : Int) (n : Nat), i + f = 9 → bOK bs → numGo i X bs = (y, n) → n ≠ 0 →
    ∃ z rest, 0 ≤ z ∧ z < 128 ^ f * 2 ∧ (0 < i → 0 < z) ∧ y = X + z * 128 ^ i ∧ bs = uintF f z ++ rest ∧ n = i + (uintF f z).length := by
  intro f
  induction f with
  | zero =>
    intro i X bs y n hi hok h hn
    obtain rfl : i = 9 := by omega
    cases bs with
    | nil => simp [numGo] at h; omega
    | cons c cs =>
      obtain ⟨c0, c1⟩ := hok c (by simp)
      rw [numGo] at h
      split at h
      · injection h with h1 h2; omega
      · rename_i h9
        split at h
        · split at h
          · injection h with h1 h2; omega
          · rename_i h3 h4
            injection h with h1 h2
            have e : c % 128 = c := by omega
            have hc : c = 1 := by omega
            refine ⟨c, cs, c0, by simp; omega, fun _ => by omega, by rw [← h1, e], by simp [uintF], by simp [uintF]; omega⟩
        · omega
  | succ f ih =>
    intro i X bs y n hi hok h hn
    cases bs with
    | nil => simp [numGo] at h; omega
    | cons c cs =>
      obtain ⟨c0, c1⟩ := hok c (by simp)
      rw [numGo] at h
      rw [if_neg (by omega)] at h
      by_cases hc : c < 128
      · rw [if_pos hc] at h
        split at h
        · injection h with h1 h2; omega
        · rename_i h4
          injection h with h1 h2
          have e : c % 128 = c := by omega
          have hp : (1 : Int) ≤ 128 ^ f := by
            have : 1 ≤ 128 ^ f := Nat.one_le_pow _ _ (by omega)
            exact_mod_cast this
          refine ⟨c, cs, c0, by rw [Int.pow_succ]; omega, fun _ => by omega, by rw [← h1, e], by simp [uintF, hc], by simp [uintF, hc]; omega⟩
      · rw [if_neg hc] at h
        obtain ⟨z, rest, z0, z1, z2, z3, z4, z5⟩ := ih (i + 1) _ cs y n (by omega) hok.tail h hn
        have hz := z2 (by omega)
        refine ⟨z * 128 + c % 128, rest, by omega, by rw [Int.pow_succ]; omega, fun _ => by omega, ?_, ?_, ?_⟩
        · rw [z3, Int.pow_succ, Int.add_mul]; 
          rw [show z * (128 ^ i * 128) = z * 128 * 128 ^ i by rw [Int.mul_comm (128 ^ i) 128, Int.mul_assoc]]
          omega
        · rw [uintF, if_neg (by omega), z4, show (z * 128 + c % 128) / 128 = z by omega, show (z * 128 + c % 128) % 128 = c % 128 by omega, show c % 128 + 128 = c by omega]; rfl
        · rw [z5, uintF, if_neg (by omega), show (z * 128 + c % 128) / 128 = z by omega]; simp; omega
theorem rUint_inv {bs : List Int} {x : Int} {rest : List Int} (hok : bOK bs) (h : rUint (bs, false) = (x, (rest, false))) : bs = uintB x ++ rest ∧ wfU64 x := by
  unfold rUint at h
  have e : numV bs false = numGo 0 0 bs := rfl
  simp only [e] at h
  split at h
  · injection h with h1 h2; injection h2 with h3 h4; cases h4
  · rename_i hn
    injection h with h1 h2
    injection h2 with h3 h4
    obtain ⟨z, r, z0, z1, z2, z3, z4, z5⟩ := numGo_inv 9 0 0 bs (numGo 0 0 bs).1 (numGo 0 0 bs).2 rfl hok rfl hn
    have hz : z = x := by rw [← h1, z3]; simp
    subst hz
    have hl : (numGo 0 0 bs).2 = (uintB z).length := by rw [z5]; simp [uintB]
    have z4' : bs = uintB z ++ r := z4
    rw [hl, z4', List.drop_left] at h3
    subst h3
    exact ⟨z4', z0, by omega⟩
theorem rU8_inv {bs : List Int} {x : Int} {rest : List Int} (h : rU8 (bs, false) = (x, (rest, false))) : bs = x :: rest := by
  cases bs with
  | nil => simp [rU8] at h
  | cons b bs => rw [rU8_cons] at h; injection h with h1 h2; injection h2 with h3; rw [h1, h3]
theorem rU8_bad (bs : List Int) : rU8 (bs, true) = (0, (bs, true)) := by cases bs <;> rfl
theorem rUint_bad (bs : List Int) : rUint (bs, true) = (0, (bs, true)) := by unfold rUint; simp [numV]
theorem rU8_ok {s : RS} (h : (rU8 s).2.2 = false) : s.2 = false := by
  obtain ⟨bs, bad⟩ := s
  cases bad
  · rfl
  · rw [rU8_bad] at h; exact h
theorem rUint_ok {s : RS} (h : (rUint s).2.2 = false) : s.2 = false := by
  obtain ⟨bs, bad⟩ := s
  cases bad
  · rfl
  · rw [rUint_bad] at h; exact h
theorem rs_mk {α : Type} {r : α × RS} (h : r.2.2 = false) : r = (r.1, (r.2.1, false)) := by obtain ⟨a, b, c⟩ := r; simp only at h; subst h; rfl
/-- a state that is no fault -/
theorem rs_eta {s : RS} (h : s.2 = false) : s = (s.1, false) := by obtain ⟨a, b⟩ := s; simp only at h; subst h; rfl
theorem rGet_ok {s : RS} (h : (rGet s).2.2 = false) : s.2 = false := by
  unfold rGet at h
  split at h
  · cases h
  · exact rU8_ok (rUint_ok h)
theorem rGet_inv {s : RS} (hok : bOK s.1) (h : (rGet s).2.2 = false) : s.1 = procB (rGet s).1 ++ (rGet s).2.1 ∧ mayB (rGet s).1.1 (rGet s).1.2 = true ∧ wfU64 (rGet s).1.2 := by
  have hs := rGet_ok h
  unfold rGet at h ⊢
  split at h
  · cases h
  · rename_i hn
    rw [if_neg hn]
    have h2 : (rUint (rU8 s).2).2.2 = false := h
    have h1 := rUint_ok h2
    have hm : mayB (rU8 s).1 (rUint (rU8 s).2).1 = true := by
      cases hx : mayB (rU8 s).1 (rUint (rU8 s).2).1
      · exact absurd (.inr hx) hn
      · rfl
    obtain ⟨bs, bad⟩ := s
    simp only at hs; subst hs
    have e1 := rU8_inv (bs := bs) (x := (rU8 (bs, false)).1) (rest := (rU8 (bs, false)).2.1) (rs_mk h1)
    generalize rU8 (bs, false) = r1 at *
    obtain ⟨x1, b1, bad1⟩ := r1
    simp only at *
    subst h1 e1
    have hk := hok.tail
    have e2 := rUint_inv (x := (rUint (b1, false)).1) (rest := (rUint (b1, false)).2.1) hk (rs_mk h2)
    obtain ⟨m1, m2, m3⟩ := (mayB_iff _ _).1 hm
    refine ⟨?_, hm, e2.2⟩
    rw [procB]; simp only
    rw [show x1 % 256 = x1 by omega, List.cons_append, ← e2.1]
theorem rRun_inv : ∀ (k : Nat) (s : RS) (acc : List Pr), bOK s.1 → (rRun k s acc).2.2 = false → ∃ m, (rRun k s acc).1 = acc ++ m ∧ m.length = k ∧ s.2 = false ∧ s.1 = procsB m ++ (rRun k s acc).2.1 ∧ ∀ p ∈ m, mayB p.1 p.2 = true ∧ wfU64 p.2 := by
  intro k
  induction k with
  | zero => intro s acc _ h; exact ⟨[], by simp [rRun], rfl, h, by simp [rRun, procsB], by simp⟩
  | succ k ih =>
    intro s acc hok h
    rw [rRun] at h ⊢
    by_cases hb : (rGet s).2.2 = true
    · rw [if_pos hb] at h; rw [h] at hb; cases hb
    · rw [if_neg hb] at h ⊢
      have hb' : (rGet s).2.2 = false := by simpa using hb
      obtain ⟨g1, g2, g3⟩ := rGet_inv hok hb'
      obtain ⟨m, m1, m2, m3, m4, m5⟩ := ih (rGet s).2 (acc ++ [(rGet s).1]) (by rw [g1] at hok; exact hok.right) h
      refine ⟨(rGet s).1 :: m, by rw [m1]; simp, by simp [m2], rGet_ok hb', ?_, ?_⟩
      · rw [g1]
        conv => lhs; rw [m4]
        simp [procsB]
      · intro p hp
        rcases List.mem_cons.1 hp with rfl | hp
        · exact ⟨g2, g3⟩
        · exact m5 p hp
theorem rGetSet_ok {most : Nat} {s : RS} (h : (rGetSet most s).2.2 = false) : s.2 = false := by
  rw [rGetSet_eq] at h
  split at h
  · cases h
  · rename_i hn
    exact rU8_ok (by simpa using (not_or.1 hn).1)
theorem rGetSet_inv {most : Nat} {s : RS} (hok : bOK s.1) (h : (rGetSet most s).2.2 = false) :
    s.1 = ((rGetSet most s).1.length : Int) % 256 :: (procsB (rGetSet most s).1 ++ (rGetSet most s).2.1) ∧ (rGetSet most s).1.length ≤ most ∧ (rGetSet most s).1.length < 256 ∧ setB (rGetSet most s).1 = true ∧ ∀ p ∈ (rGetSet most s).1, mayB p.1 p.2 = true ∧ wfU64 p.2 := by
  have hs := rGetSet_ok h
  have hr := rU8_range hok
  rw [rGetSet_eq] at h ⊢
  by_cases h1 : (rU8 s).2.2 = true ∨ (most : Int) < (rU8 s).1
  · rw [if_pos h1] at h; cases h
  · rw [if_neg h1] at h ⊢
    have h1a : (rU8 s).2.2 = false := by simpa using (not_or.1 h1).1
    have h1b := (not_or.1 h1).2
    by_cases h2 : (rRun (rU8 s).1.toNat (rU8 s).2 []).2.2 = true
    · rw [if_pos h2] at h; rw [h] at h2; cases h2
    · rw [if_neg h2] at h ⊢
      by_cases h3 : setB (rRun (rU8 s).1.toNat (rU8 s).2 []).1 = true
      · rw [if_pos h3] at h ⊢
        obtain ⟨bs, bad⟩ := s
        simp only at hs; subst hs
        have e1 := rU8_inv (bs := bs) (x := (rU8 (bs, false)).1) (rest := (rU8 (bs, false)).2.1) (rs_mk h1a)
        have hk : bOK (rU8 (bs, false)).2.1 := by rw [e1] at hok; exact hok.tail
        obtain ⟨m, m1, m2, m3, m4, m5⟩ := rRun_inv (rU8 (bs, false)).1.toNat (rU8 (bs, false)).2 [] hk h
        rw [List.nil_append] at m1
        rw [m1] at h3 ⊢
        refine ⟨?_, by omega, by omega, h3, m5⟩
        conv => lhs; rw [show (bs, false).1 = bs from rfl, e1, m4]
        rw [m2, show (((rU8 (bs, false)).1.toNat : Nat) : Int) % 256 = (rU8 (bs, false)).1 by omega]
      · rw [if_neg h3] at h; cases h
end Go.Proofs.Ytgpmcpinnaggmaa
