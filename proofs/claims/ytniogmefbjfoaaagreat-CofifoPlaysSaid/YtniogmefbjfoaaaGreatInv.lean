/-
  Plain: whatever is read was written: numbers, lives, sets of lives. No code.
-/
import Derived.Test.YtniogmefbjfoaaaGreatBack
import Derived.Test.YtniogmefbjfoaaaGreatVget
namespace Go.Proofs.YtniogmefbjfoaaaGreat
set_option linter.unusedSimpArgs false
set_option linter.unusedVariables false
set_option linter.unusedSectionVars false
open Go.RowKit

theorem bOK.tail {b : Int} {l : List Int} (h : bOK (b :: l)) : bOK l := fun x hx => h x (by simp [hx])
theorem bOK.right {l m : List Int} (h : bOK (l ++ m)) : bOK m := fun x hx => h x (by simp [hx])
theorem bOK.left {l m : List Int} (h : bOK (l ++ m)) : bOK l := fun x hx => h x (by simp [hx])
theorem numGo_inv : ∀ (f i : Nat) (X : Int) (bs : List Int) (y : Int) (n : Nat), i + f = 9 → bOK bs → numGo i X bs = (y, n) → n ≠ 0 →
    ∃ z rest, 0 ≤ z ∧ z < 128 ^ f * 2 ∧ (0 < i → 0 < z) ∧ y = X + z * 128 ^ i ∧ bs = uintF f z ++ rest ∧ n = i + (uintF f z).length := by
  intro f
  induction f with
  | zero =>
    intro i X bs y n hi hok h hn
    obtain rfl : i = 9 := by omega
    cases bs with
    | nil => simp [numGo] at h; omega
    | cons c cs =>
      obtain ⟨c0, c1⟩ := hok c (by simp)
      rw [numGo] at h
      split at h
      · injection h with h1 h2; omega
      · rename_i h9
        split at h
        · split at h
          · injection h with h1 h2; omega
          · rename_i h3 h4
            injection h with h1 h2
            have e : c % 128 = c := by omega
            have hc : c = 1 := by omega
            refine ⟨c, cs, c0, by simp; omega, fun _ => by omega, by rw [← h1, e], by simp [uintF], by simp [uintF]; omega⟩
        · omega
  | succ f ih =>
    intro i X bs y n hi hok h hn
    cases bs with
    | nil => simp [numGo] at h; omega
    | cons c cs =>
      obtain ⟨c0, c1⟩ := hok c (by simp)
      rw [numGo] at h
      rw [if_neg (by omega)] at h
      by_cases hc : c < 128
      · rw [if_pos hc] at h
        split at h
        · injection h with h1 h2; omega
        · rename_i h4
          injection h with h1 h2
          have e : c % 128 = c := by omega
          have hp : (1 : Int) ≤ 128 ^ f := by
            have : 1 ≤ 128 ^ f := Nat.one_le_pow _ _ (by omega)
            exact_mod_cast this
          refine ⟨c, cs, c0, by rw [Int.pow_succ]; omega, fun _ => by omega, by rw [← h1, e], by simp [uintF, hc], by simp [uintF, hc]; omega⟩
      · rw [if_neg hc] at h
        obtain ⟨z, rest, z0, z1, z2, z3, z4, z5⟩ := ih (i + 1) _ cs y n (by omega) hok.tail h hn
        have hz := z2 (by omega)
        refine ⟨z * 128 + c % 128, rest, by omega, by rw [Int.pow_succ]; omega, fun _ => by omega, ?_, ?_, ?_⟩
        · rw [z3, Int.pow_succ, Int.add_mul]; 
          rw [show z * (128 ^ i * 128) = z * 128 * 128 ^ i by rw [Int.mul_comm (128 ^ i) 128, Int.mul_assoc]]
          omega
        · rw [uintF, if_neg (by omega), z4, show (z * 128 + c % 128) / 128 = z by omega, show (z * 128 + c % 128) % 128 = c % 128 by omega, show c % 128 + 128 = c by omega]; rfl
        · rw [z5, uintF, if_neg (by omega), show (z * 128 + c % 128) / 128 = z by omega]; simp; omega
theorem rUint_inv {bs : List Int} {x : Int} {rest : List Int} (hok : bOK bs) (h : rUint (bs, false) = (x, (rest, false))) : bs = uintB x ++ rest ∧ wfU64 x := by
  unfold rUint at h
  have e : numV bs false = numGo 0 0 bs := rfl
  simp only [e] at h
  split at h
  · injection h with h1 h2; injection h2 with h3 h4; cases h4
  · rename_i hn
    injection h with h1 h2
    injection h2 with h3 h4
    obtain ⟨z, r, z0, z1, z2, z3, z4, z5⟩ := numGo_inv 9 0 0 bs (numGo 0 0 bs).1 (numGo 0 0 bs).2 rfl hok rfl hn
    have hz : z = x := by rw [← h1, z3]; simp
    subst hz
    have hl : (numGo 0 0 bs).2 = (uintB z).length := by rw [z5]; simp [uintB]
    have z4' : bs = uintB z ++ r := z4
    rw [hl, z4', List.drop_left] at h3
    subst h3
    exact ⟨z4', z0, by omega⟩
theorem rU8_inv {bs : List Int} {x : Int} {rest : List Int} (h : rU8 (bs, false) = (x, (rest, false))) : bs = x :: rest := by
  cases bs with
  | nil => simp [rU8] at h
  | cons b bs => rw [rU8_cons] at h; injection h with h1 h2; injection h2 with h3; rw [h1, h3]
theorem rU8_bad (bs : List Int) : rU8 (bs, true) = (0, (bs, true)) := by cases bs <;> rfl
theorem rUint_bad (bs : List Int) : rUint (bs, true) = (0, (bs, true)) := by unfold rUint; simp [numV]
theorem rU8_ok {s : RS} (h : (rU8 s).2.2 = false) : s.2 = false := by
  obtain ⟨bs, bad⟩ := s
  cases bad
  · rfl
  · rw [rU8_bad] at h; exact h
theorem rUint_ok {s : RS} (h : (rUint s).2.2 = false) : s.2 = false := by
  obtain ⟨bs, bad⟩ := s
  cases bad
  · rfl
  · rw [rUint_bad] at h; exact h
theorem rs_mk {α : Type} {r : α × RS} (h : r.2.2 = false) : r = (r.1, (r.2.1, false)) := by obtain ⟨a, b, c⟩ := r; simp only at h; subst h; rfl
/-- a state that is no fault -/
theorem rs_eta {s : RS} (h : s.2 = false) : s = (s.1, false) := by obtain ⟨a, b⟩ := s; simp only at h; subst h; rfl
theorem rGet_ok {s : RS} (h : (rGet s).2.2 = false) : s.2 = false := by
  unfold rGet at h
  split at h
  · cases h
  · exact rU8_ok (rUint_ok h)
theorem rGet_inv {s : RS} (hok : bOK s.1) (h : (rGet s).2.2 = false) : s.1 = procB (rGet s).1 ++ (rGet s).2.1 ∧ mayB (rGet s).1.1 (rGet s).1.2 = true ∧ wfU64 (rGet s).1.2 := by
  have hs := rGet_ok h
  unfold rGet at h ⊢
  split at h
  · cases h
  · rename_i hn
    rw [if_neg hn]
    have h2 : (rUint (rU8 s).2).2.2 = false := h
    have h1 := rUint_ok h2
    have hm : mayB (rU8 s).1 (rUint (rU8 s).2).1 = true := by
      cases hx : mayB (rU8 s).1 (rUint (rU8 s).2).1
      · exact absurd (.inr hx) hn
      · rfl
    obtain ⟨bs, bad⟩ := s
    simp only at hs; subst hs
    have e1 := rU8_inv (bs := bs) (x := (rU8 (bs, false)).1) (rest := (rU8 (bs, false)).2.1) (rs_mk h1)
    generalize rU8 (bs, false) = r1 at *
    obtain ⟨x1, b1, bad1⟩ := r1
    simp only at *
    subst h1 e1
    have hk := hok.tail
    have e2 := rUint_inv (x := (rUint (b1, false)).1) (rest := (rUint (b1, false)).2.1) hk (rs_mk h2)
    obtain ⟨m1, m2, m3⟩ := (mayB_iff _ _).1 hm
    refine ⟨?_, hm, e2.2⟩
    rw [procB]; simp only
    rw [show x1 % 256 = x1 by omega, List.cons_append, ← e2.1]
theorem rRun_inv : ∀ (k : Nat) (s : RS) (acc : List Pr), bOK s.1 → (rRun k s acc).2.2 = false → ∃ m, (rRun k s acc).1 = acc ++ m ∧ m.length = k ∧ s.2 = false ∧ s.1 = procsB m ++ (rRun k s acc).2.1 ∧ ∀ p ∈ m, mayB p.1 p.2 = true ∧ wfU64 p.2 := by
  intro k
  induction k with
  | zero => intro s acc _ h; exact ⟨[], by simp [rRun], rfl, h, by simp [rRun, procsB], by simp⟩
  | succ k ih =>
    intro s acc hok h
    rw [rRun] at h ⊢
    by_cases hb : (rGet s).2.2 = true
    · rw [if_pos hb] at h; rw [h] at hb; cases hb
    · rw [if_neg hb] at h ⊢
      have hb' : (rGet s).2.2 = false := by simpa using hb
      obtain ⟨g1, g2, g3⟩ := rGet_inv hok hb'
      obtain ⟨m, m1, m2, m3, m4, m5⟩ := ih (rGet s).2 (acc ++ [(rGet s).1]) (by rw [g1] at hok; exact hok.right) h
      refine ⟨(rGet s).1 :: m, by rw [m1]; simp, by simp [m2], rGet_ok hb', ?_, ?_⟩
      · rw [g1]
        conv => lhs; rw [m4]
        simp [procsB]
      · intro p hp
        rcases List.mem_cons.1 hp with rfl | hp
        · exact ⟨g2, g3⟩
        · exact m5 p hp
theorem rGetSet_ok {most : Nat} {s : RS} (h : (rGetSet most s).2.2 = false) : s.2 = false := by
  rw [rGetSet_eq] at h
  split at h
  · cases h
  · rename_i hn
    exact rU8_ok (by simpa using (not_or.1 hn).1)
theorem rGetSet_inv {most : Nat} {s : RS} (hok : bOK s.1) (h : (rGetSet most s).2.2 = false) :
    s.1 = ((rGetSet most s).1.length : Int) % 256 :: (procsB (rGetSet most s).1 ++ (rGetSet most s).2.1) ∧ (rGetSet most s).1.length ≤ most ∧ (rGetSet most s).1.length < 256 ∧ setB (rGetSet most s).1 = true ∧ ∀ p ∈ (rGetSet most s).1, mayB p.1 p.2 = true ∧ wfU64 p.2 := by
  have hs := rGetSet_ok h
  have hr := rU8_range hok
  rw [rGetSet_eq] at h ⊢
  by_cases h1 : (rU8 s).2.2 = true ∨ (most : Int) < (rU8 s).1
  · rw [if_pos h1] at h; cases h
  · rw [if_neg h1] at h ⊢
    have h1a : (rU8 s).2.2 = false := by simpa using (not_or.1 h1).1
    have h1b := (not_or.1 h1).2
    by_cases h2 : (rRun (rU8 s).1.toNat (rU8 s).2 []).2.2 = true
    · rw [if_pos h2] at h; rw [h] at h2; cases h2
    · rw [if_neg h2] at h ⊢
      by_cases h3 : setB (rRun (rU8 s).1.toNat (rU8 s).2 []).1 = true
      · rw [if_pos h3] at h ⊢
        obtain ⟨bs, bad⟩ := s
        simp only at hs; subst hs
        have e1 := rU8_inv (bs := bs) (x := (rU8 (bs, false)).1) (rest := (rU8 (bs, false)).2.1) (rs_mk h1a)
        have hk : bOK (rU8 (bs, false)).2.1 := by rw [e1] at hok; exact hok.tail
        obtain ⟨m, m1, m2, m3, m4, m5⟩ := rRun_inv (rU8 (bs, false)).1.toNat (rU8 (bs, false)).2 [] hk h
        rw [List.nil_append] at m1
        rw [m1] at h3 ⊢
        refine ⟨?_, by omega, by omega, h3, m5⟩
        conv => lhs; rw [show (bs, false).1 = bs from rfl, e1, m4]
        rw [m2, show (((rU8 (bs, false)).1.toNat : Nat) : Int) % 256 = (rU8 (bs, false)).1 by omega]
      · rw [if_neg h3] at h; cases h
end Go.Proofs.YtniogmefbjfoaaaGreat

namespace Go.Proofs.YtniogmefbjfoaaaGreat
set_option linter.unusedSimpArgs false
set_option linter.unusedVariables false
set_option linter.unusedSectionVars false
open Go.RowKit

theorem rId_ok {s : RS} (h : (rId s).2.2 = false) : s.2 = false := by
  unfold rId at h
  split at h
  · cases h
  · exact rUint_ok (rGet_ok h)
theorem rId_inv {s : RS} (hok : bOK s.1) (h : (rId s).2.2 = false) : s.1 = vidB (rId s).1.1 (rId s).1.2.1 (rId s).1.2.2 ++ (rId s).2.1 ∧ mayIdB (rId s).1.1 (rId s).1.2.1 (rId s).1.2.2 = true ∧ wfU64 (rId s).1.1 ∧ wfU64 (rId s).1.2.2 := by
  have hs := rId_ok h
  unfold rId at h ⊢
  split at h
  · cases h
  · rename_i hn
    rw [if_neg hn]
    have h2 : (rGet (rUint s).2).2.2 = false := h
    have h1 := rGet_ok h2
    have hm : mayIdB (rUint s).1 (rGet (rUint s).2).1.1 (rGet (rUint s).2).1.2 = true := by
      cases hx : mayIdB (rUint s).1 (rGet (rUint s).2).1.1 (rGet (rUint s).2).1.2
      · exact absurd (.inr hx) hn
      · rfl
    obtain ⟨bs, bad⟩ := s
    simp only at hs; subst hs
    have e1 := rUint_inv (x := (rUint (bs, false)).1) (rest := (rUint (bs, false)).2.1) hok (rs_mk h1)
    have hk : bOK (rUint (bs, false)).2.1 := by have := hok; rw [e1.1] at this; exact this.right
    have e2 := rGet_inv hk h2
    refine ⟨?_, hm, e1.2, e2.2.2⟩
    conv => lhs; rw [e1.1, e2.1]
    simp [vidB]
theorem rId_back (r n i : Int) (rest : List Int) (hm : mayIdB r n i = true) (hr : wfU64 r) (hi : i ≤ 18446744073709551615) : rId (vidB r n i ++ rest, false) = ((r, n, i), (rest, false)) := by
  have hp : mayB n i = true := by unfold mayIdB at hm; simp at hm; exact hm.1
  have e1 : rUint (vidB r n i ++ rest, false) = (r, (procB (n, i) ++ rest, false)) := by rw [vidB, List.append_assoc]; exact rUint_back r _ hr.1 hr.2
  unfold rId
  rw [e1]
  simp only
  rw [rGet_back (n, i) rest hp hi]
  simp [hm]
theorem rUints_ok : ∀ (k : Nat) (s : RS) (acc : List Int), (rUints k s acc).2.2 = false → s.2 = false := by
  intro k
  induction k with
  | zero => intro s acc h; exact h
  | succ k ih => intro s acc h; exact rUint_ok (ih _ _ h)
theorem rUints_inv : ∀ (k : Nat) (s : RS) (acc : List Int), bOK s.1 → (rUints k s acc).2.2 = false → ∃ m, (rUints k s acc).1 = acc ++ m ∧ m.length = k ∧ s.1 = uintsB m ++ (rUints k s acc).2.1 ∧ ∀ x ∈ m, wfU64 x := by
  intro k
  induction k with
  | zero => intro s acc _ h; exact ⟨[], by simp [rUints], rfl, by simp [rUints, uintsB], by simp⟩
  | succ k ih =>
    intro s acc hok h
    have h2 := rUints_ok (k + 1) s acc h
    rw [rUints] at h ⊢
    have h1 := rUints_ok k _ _ h
    obtain ⟨bs, bad⟩ := s
    simp only at h2; subst h2
    have e1 := rUint_inv (x := (rUint (bs, false)).1) (rest := (rUint (bs, false)).2.1) hok (rs_mk h1)
    have hk : bOK (rUint (bs, false)).2.1 := by have := hok; rw [e1.1] at this; exact this.right
    obtain ⟨m, m1, m2, m3, m4⟩ := ih (rUint (bs, false)).2 (acc ++ [(rUint (bs, false)).1]) hk h
    refine ⟨(rUint (bs, false)).1 :: m, by rw [m1]; simp, by simp [m2], ?_, ?_⟩
    · conv => lhs; rw [e1.1, m3]
      simp [uintsB]
    · intro x hx
      rcases List.mem_cons.1 hx with rfl | hx
      · exact e1.2
      · exact m4 x hx
theorem rUints_back : ∀ (l acc : List Int) (rest : List Int), (∀ x ∈ l, wfU64 x) → rUints l.length (uintsB l ++ rest, false) acc = (acc ++ l, (rest, false)) := by
  intro l
  induction l with
  | nil => intro acc rest _; simp [rUints, uintsB]
  | cons x l ih =>
    intro acc rest h
    have hx := h x (by simp)
    have e : uintsB (x :: l) ++ rest = uintB x ++ (uintsB l ++ rest) := by simp [uintsB]
    rw [List.length_cons, rUints, e, rUint_back x _ hx.1 hx.2]
    rw [ih _ rest (fun y hy => h y (by simp [hy]))]
    simp
/-- what is asked of a view's numbers -/
structure VwF (x : (Int × Int × Int) × List Pr × List Int) : Prop where
  r : wfU64 x.1.1
  i : wfU64 x.1.2.2
  ms : ∀ p ∈ x.2.1, wfU64 p.2
  us : ∀ y ∈ x.2.2, wfU64 y
/-- may it be? -/
def mayT (x : (Int × Int × Int) × List Pr × List Int) : Bool := Vw.mayB ⟨x.1.1, x.1.2.1, x.1.2.2, none, 0, x.2.1, none, 0, x.2.2⟩
def viewT (x : (Int × Int × Int) × List Pr × List Int) : List Int := viewB x.1.1 x.1.2.1 x.1.2.2 x.2.1 x.2.2
theorem setB_may {l : List Pr} (h : setB l = true) : ∀ p ∈ l, mayB p.1 p.2 = true := by
  intro p hp
  obtain ⟨i, hi, rfl⟩ := List.mem_iff_getElem.1 hp
  unfold setB at h
  rw [List.all_eq_true] at h
  have hh := h i (List.mem_range.2 hi)
  cases hm : mayB (l[i]).1 (l[i]).2
  · rw [okAt_may (List.getElem?_eq_getElem hi) hm] at hh; cases hh
  · rfl
theorem rView_ok {s : RS} (h : (rView s).2.2 = false) : s.2 = false := by
  rw [rView_eq] at h
  split at h
  · cases h
  · exact rId_ok (rGetSet_ok (rUints_ok _ _ _ h))
/-- whatever is read was written -/
theorem rView_inv {s : RS} (hok : bOK s.1) (h : (rView s).2.2 = false) : s.1 = viewT (rView s).1 ++ (rView s).2.1 ∧ mayT (rView s).1 = true ∧ VwF (rView s).1 := by
  rw [rView_eq] at h ⊢
  split at h
  · cases h
  · rename_i hn
    rw [if_neg hn]
    have h3 : (rUints (rGetSet 6 (rId s).2).1.length (rGetSet 6 (rId s).2).2 []).2.2 = false := h
    have h2 := rUints_ok _ _ _ h3
    have h1 := rGetSet_ok h2
    obtain ⟨a1, a2, a3, a4⟩ := rId_inv hok h1
    have k1 : bOK (rId s).2.1 := by have := hok; rw [a1] at this; exact this.right
    obtain ⟨b1, b2, b3, b4, b5⟩ := rGetSet_inv k1 h2
    have k2 : bOK (rGetSet 6 (rId s).2).2.1 := by have := k1; rw [b1] at this; exact this.tail.right
    obtain ⟨m, c1, c2, c3, c4⟩ := rUints_inv _ _ _ k2 h3
    rw [List.nil_append] at c1
    rw [c1] at hn ⊢
    refine ⟨?_, ?_, ⟨a3, a4, fun p hp => (b5 p hp).2, c4⟩⟩
    · conv => lhs; rw [a1, b1, c3]
      simp [viewT, viewB]
    · cases hx : mayT ((rId s).1, (rGetSet 6 (rId s).2).1, m)
      · exact absurd (.inr hx) hn
      · rfl
theorem rView_bad {s : RS} (h : (rView s).2.2 = true) : (rView s).1 = ((0, 0, 0), [], []) := by
  rw [rView_eq] at h ⊢
  split at h
  · rename_i hn; rw [if_pos hn]
  · rename_i hn; exact absurd (.inl h) hn
theorem uintsB_ok {l : List Int} (h : ∀ x ∈ l, wfU64 x) : bOK (uintsB l) := by
  intro b hb
  obtain ⟨x, hx, hb⟩ := List.mem_flatMap.1 hb
  exact uintB_ok x (h x hx).1 (h x hx).2 b hb
theorem viewT_ok {x : (Int × Int × Int) × List Pr × List Int} (h : VwF x) : bOK (viewT x) := by
  obtain ⟨⟨r, n, i⟩, ms, us⟩ := x
  obtain ⟨w1, w2, w3, w4⟩ := h
  unfold viewT viewB vidB
  refine (((((uintB_ok r w1.1 w1.2).app (procB_ok w2.1 w2.2)).app ?_).app (procsB_ok w3)).app (uintsB_ok w4))
  intro b hb
  simp at hb; omega
theorem viewT_pos (x : (Int × Int × Int) × List Pr × List Int) : 0 < (viewT x).length := by
  have := uintB_pos x.1.1
  simp [viewT, viewB, vidB]; omega
end Go.Proofs.YtniogmefbjfoaaaGreat
