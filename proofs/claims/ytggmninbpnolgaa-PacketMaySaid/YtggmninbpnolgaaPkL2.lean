/-
  Layer 6: plain laws: what is read was written.
-/
import Derived.Test.YtggmninbpnolgaaPkL
namespace Go.Proofs.Ytggmninbpnolgaa
set_option linter.unusedSimpArgs false
set_option linter.unusedVariables false
set_option linter.unusedSectionVars false
open Go.RowKit

theorem rU8_step {s : RS} (h : (rU8 s).2.2 = false) : s.2 = false ∧ s.1 = (rU8 s).1 :: (rU8 s).2.1 := by
  have h1 := rU8_ok h
  obtain ⟨bs, bad⟩ := s
  simp only at h1
  subst h1
  refine ⟨rfl, ?_⟩
  generalize hr : rU8 (bs, false) = r at h
  obtain ⟨x, rest, b⟩ := r
  simp only at h
  subst h
  exact rU8_inv hr
theorem rUint_step {s : RS} (hok : bOK s.1) (h : (rUint s).2.2 = false) : s.2 = false ∧ s.1 = uintB (rUint s).1 ++ (rUint s).2.1 ∧ wfU64 (rUint s).1 := by
  have h1 := rUint_ok h
  obtain ⟨bs, bad⟩ := s
  simp only at h1 hok
  subst h1
  refine ⟨rfl, ?_⟩
  generalize hr : rUint (bs, false) = r at h
  obtain ⟨x, rest, b⟩ := r
  simp only at h
  subst h
  exact rUint_inv hok hr
theorem rLvs_inv : ∀ (k : Nat) (s : RS) (acc : List Pr), bOK s.1 → (rLvs k s acc).2.2 = false → ∃ m, (rLvs k s acc).1 = acc ++ m ∧ m.length = k ∧ s.2 = false ∧ s.1 = m.flatMap procB ++ (rLvs k s acc).2.1 ∧ ∀ p ∈ m, wfU64 p.2
  | 0, s, acc, _, h => ⟨[], by simp [rLvs], rfl, h, by simp [rLvs], by simp⟩
  | k + 1, s, acc, hok, h => by
    rw [rLvs] at h ⊢
    obtain ⟨m, m1, m2, m3, m4, m5⟩ := rLvs_inv k (rGet s).2 (acc ++ [(rGet s).1]) (rGet_bk hok) h
    obtain ⟨g1, g2, g3⟩ := rGet_inv hok m3
    refine ⟨(rGet s).1 :: m, by rw [m1]; simp, by simp [m2], rGet_ok m3, ?_, ?_⟩
    · rw [List.flatMap_cons, List.append_assoc, ← m4]; exact g1
    · intro p hp
      rcases List.mem_cons.1 hp with rfl | hp
      · exact g3
      · exact m5 p hp
theorem rLives_inv {s : RS} (hok : bOK s.1) (h : (rLives s).2.2 = false) : s.2 = false ∧ s.1 = lsB procB (rLives s).1 ++ (rLives s).2.1 ∧ ∀ p ∈ (rLives s).1, wfU64 p.2 := by
  unfold rLives at h ⊢
  obtain ⟨m, m1, m2, m3, m4, m5⟩ := rLvs_inv _ _ _ (rU8_bk hok) h
  obtain ⟨u1, u2⟩ := rU8_step m3
  have hr := rU8_range hok
  rw [List.nil_append] at m1
  rw [m1]
  refine ⟨u1, ?_, m5⟩
  rw [u2, lsB, m2, List.cons_append, ← m4, Int.toNat_of_nonneg hr.1]
theorem rHds_inv (ack : Bool) (f : Hd → List Int) (P : Hd → Prop) (hf : ∀ s : RS, bOK s.1 → (rHd ack s).2.2 = false → s.2 = false ∧ s.1 = f (rHd ack s).1 ++ (rHd ack s).2.1 ∧ P (rHd ack s).1) :
    ∀ (k : Nat) (s : RS) (acc : List Hd), bOK s.1 → (rHds ack k s acc).2.2 = false → ∃ m, (rHds ack k s acc).1 = acc ++ m ∧ m.length = k ∧ s.2 = false ∧ s.1 = m.flatMap f ++ (rHds ack k s acc).2.1 ∧ ∀ p ∈ m, P p
  | 0, s, acc, _, h => ⟨[], by simp [rHds], rfl, h, by simp [rHds], by simp⟩
  | k + 1, s, acc, hok, h => by
    rw [rHds] at h ⊢
    obtain ⟨m, m1, m2, m3, m4, m5⟩ := rHds_inv ack f P hf k (rHd ack s).2 (acc ++ [(rHd ack s).1]) (rHd_bk ack hok) h
    obtain ⟨g1, g2, g3⟩ := hf s hok m3
    refine ⟨(rHd ack s).1 :: m, by rw [m1]; simp, by simp [m2], g1, ?_, ?_⟩
    · rw [List.flatMap_cons, List.append_assoc, ← m4]; exact g2
    · intro p hp
      rcases List.mem_cons.1 hp with rfl | hp
      · exact g3
      · exact m5 p hp
theorem rHeads_inv (ack : Bool) (f : Hd → List Int) (P : Hd → Prop) (hf : ∀ s : RS, bOK s.1 → (rHd ack s).2.2 = false → s.2 = false ∧ s.1 = f (rHd ack s).1 ++ (rHd ack s).2.1 ∧ P (rHd ack s).1) {s : RS} (hok : bOK s.1) (h : (rHeads ack s).2.2 = false) :
    s.2 = false ∧ s.1 = lsB f (rHeads ack s).1 ++ (rHeads ack s).2.1 ∧ ∀ p ∈ (rHeads ack s).1, P p := by
  unfold rHeads at h ⊢
  obtain ⟨m, m1, m2, m3, m4, m5⟩ := rHds_inv ack f P hf _ _ _ (rU8_bk hok) h
  obtain ⟨u1, u2⟩ := rU8_step m3
  have hr := rU8_range hok
  rw [List.nil_append] at m1
  rw [m1]
  refine ⟨u1, ?_, m5⟩
  rw [u2, lsB, m2, List.cons_append, ← m4, Int.toNat_of_nonneg hr.1]
def HdW (h : Hd) : Prop := wfU64 h.c ∧ wfU64 h.s ∧ wfU64 h.i
theorem rHd_invF (s : RS) (hok : bOK s.1) (h : (rHd false s).2.2 = false) : s.2 = false ∧ s.1 = hdB (rHd false s).1 ++ (rHd false s).2.1 ∧ HdW (rHd false s).1 := by
  have e : (rHd false s) = (⟨(rU8 s).1, (rUint (rU8 s).2).1, (rUint (rUint (rU8 s).2).2).1, 0⟩, (rUint (rUint (rU8 s).2).2).2) := by simp [rHd]
  rw [e] at h ⊢
  simp only at h ⊢
  obtain ⟨c1, c2, c3⟩ := rUint_step (rUint_bk (rU8_bk hok)) h
  obtain ⟨b1, b2, b3⟩ := rUint_step (rU8_bk hok) c1
  obtain ⟨a1, a2⟩ := rU8_step b1
  refine ⟨a1, ?_, b3, c3, ⟨by simp, by simp⟩⟩
  rw [a2, hdB]
  simp only [List.cons_append, List.append_assoc]
  rw [← c2, ← b2]
theorem rHd_invT (s : RS) (hok : bOK s.1) (h : (rHd true s).2.2 = false) : s.2 = false ∧ s.1 = haB (rHd true s).1 ++ (rHd true s).2.1 ∧ HdW (rHd true s).1 := by
  have e : (rHd true s) = (⟨(rU8 s).1, (rUint (rU8 s).2).1, (rUint (rUint (rU8 s).2).2).1, (rUint (rUint (rUint (rU8 s).2).2).2).1⟩, (rUint (rUint (rUint (rU8 s).2).2).2).2) := by simp [rHd]
  rw [e] at h ⊢
  simp only at h ⊢
  obtain ⟨d1, d2, d3⟩ := rUint_step (rUint_bk (rUint_bk (rU8_bk hok))) h
  obtain ⟨c1, c2, c3⟩ := rUint_step (rUint_bk (rU8_bk hok)) d1
  obtain ⟨b1, b2, b3⟩ := rUint_step (rU8_bk hok) c1
  obtain ⟨a1, a2⟩ := rU8_step b1
  refine ⟨a1, ?_, b3, c3, d3⟩
  rw [a2, haB]
  simp only [List.cons_append, List.append_assoc]
  rw [← d2, ← c2, ← b2]
theorem rText_inv {most : Nat} {s : RS} (hok : bOK s.1) (h : (rText most s).2.2 = false) : s.2 = false ∧ s.1 = txtB (rText most s).1 ++ (rText most s).2.1 := by
  obtain ⟨bs, bad⟩ := s
  simp only at hok ⊢
  unfold rText at h ⊢
  simp only at h ⊢
  by_cases hc : (numV bs bad).2 = 0 ∨ (most : Int) < (numV bs bad).1 ∨ ((bs.length : Int) - ((numV bs bad).2 : Int)) < (numV bs bad).1
  · rw [if_pos hc] at h; cases h
  · rw [if_neg hc] at h ⊢
    have hb : bad = false := by
      cases bad
      · rfl
      · exact absurd (Or.inl rfl) hc
    subst hb
    refine ⟨rfl, ?_⟩
    generalize hr : numV bs false = r at hc ⊢
    obtain ⟨x, n⟩ := r
    simp only at hc ⊢
    have hr' : numGo 0 0 bs = (x, n) := by unfold numV at hr; rw [if_neg (by simp)] at hr; exact hr
    obtain ⟨z, rest, z0, z1, _, z3, z4, z5⟩ := numGo_inv 9 0 0 bs x n (by omega) hok hr' (by omega)
    have hzx : z = x := by rw [z3]; simp
    subst hzx
    have hbs : bs = uintB z ++ rest := z4
    have hn : n = (uintB z).length := by rw [z5]; simp [uintB]
    subst hn
    have hl : bs.length = (uintB z).length + rest.length := by rw [hbs]; simp
    have hd : bs.drop (uintB z).length = rest := by rw [hbs, List.drop_left]
    rw [hd]
    have ht : ((rest.take z.toNat).length : Int) = z := by rw [List.length_take]; omega
    rw [txtB, ht, List.append_assoc, List.take_append_drop]
    exact hbs
theorem finK_some {x y : Pk} {s : RS} (h : finK x s = some y) : s.2 = false ∧ s.1 = [] ∧ x.mayB = true ∧ x = y := by
  unfold finK at h
  by_cases h1 : s.2 = true ∨ 0 < s.1.length
  · rw [if_pos h1] at h; cases h
  · rw [if_neg h1] at h
    by_cases h2 : x.mayB = false
    · rw [if_pos h2] at h; cases h
    · rw [if_neg h2] at h
      injection h with h
      refine ⟨by cases hs : s.2; rfl; exact absurd (Or.inl hs) h1, List.eq_nil_of_length_eq_zero (by omega), by simpa using h2, h⟩
theorem decK_inv {bs : List Int} {y : Pk} (hok : bOK bs) (h : decK bs = some y) : y.mayB = true ∧ y.enc = bs ∧ PkF y := by
  unfold decK at h
  simp only at h
  have hz : wfU64 0 := ⟨by omega, by omega⟩
  by_cases h1 : (rU8 (bs, false)).1 = 1
  · rw [if_pos h1] at h
    obtain ⟨f1, f2, f3, rfl⟩ := finK_some h
    obtain ⟨d1, d2, d3⟩ := rLives_inv (rUint_bk (rGet_bk (rU8_bk hok))) f1
    obtain ⟨c1, c2, c3⟩ := rUint_step (rGet_bk (rU8_bk hok)) d1
    obtain ⟨b2, b3, b4⟩ := rGet_inv (rU8_bk hok) c1
    obtain ⟨a1, a2⟩ := rU8_step (rGet_ok c1)
    refine ⟨f3, ?_, ⟨hz, b4, c3, by simp, bOK.nil, d3⟩⟩
    rw [f2, List.append_nil] at d2
    simp only [Pk.enc, if_true, advE]
    simp only at a2
    exact (a2.trans (by rw [h1, b2, c2, d2])).symm
  · rw [if_neg h1] at h
    by_cases h2 : (rU8 (bs, false)).1 = 2
    · rw [if_pos h2] at h
      obtain ⟨f1, f2, f3, rfl⟩ := finK_some h
      have ok3 := rU8_bk (rGet_bk (rU8_bk (s := (bs, false)) hok))
      obtain ⟨e1, e2⟩ := rText_inv (rHeads_bk false ok3) f1
      obtain ⟨d1, d2, d3⟩ := rHeads_inv false hdB HdW rHd_invF ok3 e1
      obtain ⟨c1, c2⟩ := rU8_step d1
      obtain ⟨b2, b3, b4⟩ := rGet_inv (rU8_bk (s := (bs, false)) hok) c1
      obtain ⟨a1, a2⟩ := rU8_step (rGet_ok c1)
      refine ⟨f3, ?_, ⟨b4, hz, hz, d3, (rText_bk 320 (rHeads_bk false ok3)).1, by simp⟩⟩
      rw [f2, List.append_nil] at e2
      have hne : (2 : Int) ≠ 1 := by decide
      simp only [Pk.enc, if_neg hne, if_true, datE, topB]
      simp only at a2
      exact (a2.trans (by rw [h2, b2, c2, d2, e2]; simp only [List.append_assoc, List.singleton_append])).symm
    · rw [if_neg h2] at h
      by_cases h3 : (rU8 (bs, false)).1 = 3
      · rw [if_pos h3] at h
        obtain ⟨f1, f2, f3, rfl⟩ := finK_some h
        have ok3 := rU8_bk (rGet_bk (rU8_bk (s := (bs, false)) hok))
        obtain ⟨d1, d2, d3⟩ := rHeads_inv true haB HdW rHd_invT ok3 f1
        obtain ⟨c1, c2⟩ := rU8_step d1
        obtain ⟨b2, b3, b4⟩ := rGet_inv (rU8_bk (s := (bs, false)) hok) c1
        obtain ⟨a1, a2⟩ := rU8_step (rGet_ok c1)
        refine ⟨f3, ?_, ⟨b4, hz, hz, d3, bOK.nil, by simp⟩⟩
        rw [f2, List.append_nil] at d2
        have hne : (3 : Int) ≠ 1 := by decide
        have hne2 : (3 : Int) ≠ 2 := by decide
        simp only [Pk.enc, if_neg hne, if_neg hne2, ackE, topB]
        simp only at a2
        exact (a2.trans (by rw [h3, b2, c2, d2]; simp only [List.append_assoc, List.singleton_append])).symm
      · rw [if_neg h3] at h; cases h
/-! ### one form -/
theorem finK_ok {x : Pk} (hm : x.mayB = true) : finK x ([], false) = some x := by
  unfold finK; rw [if_neg (by simp), if_neg (by rw [hm]; simp)]
theorem decK_back (x : Pk) (hm : x.mayB = true) (hf : PkF x) : decK x.enc = some x := by
  have := decK_app x [] hm hf
  rw [List.append_nil, finK_ok hm] at this; exact this
theorem decK_more (x : Pk) (more : List Int) (hm : x.mayB = true) (hf : PkF x) (h : more ≠ []) : decK (x.enc ++ more) = none := by
  rw [decK_app x more hm hf]
  exact if_pos (.inr (List.length_pos_iff.2 h))
theorem decK_cut (x : Pk) (k : Nat) (hk : k < x.enc.length) (hm : x.mayB = true) (hf : PkF x) (hok : bOK x.enc) : decK (x.enc.take k) = none := by
  cases hd : decK (x.enc.take k) with
  | none => rfl
  | some y =>
    obtain ⟨y1, y2, y3⟩ := decK_inv (fun b hb => hok b (List.mem_of_mem_take hb)) hd
    have e : x.enc = y.enc ++ x.enc.drop k := by rw [y2, List.take_append_drop]
    have h2 := decK_back x hm hf
    rw [e, decK_more y _ y1 y3 (by intro hn; have := congrArg List.length hn; simp at this; omega)] at h2
    cases h2
end Go.Proofs.Ytggmninbpnolgaa
