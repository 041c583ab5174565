/-
  Plain: notices there and back. No code.
-/
import Derived.Test.YtdmjopokclljlaaGreatDec
namespace Go.Proofs.YtdmjopokclljlaaGreat
set_option linter.unusedSimpArgs false
set_option linter.unusedVariables false
set_option linter.unusedSectionVars false
open Go.RowKit

def Nt.bare (x : Nt) : Nt := x.at none 0 none 0 none 0
/-- what is asked of the numbers -/
structure NtF (x : Nt) : Prop where
  i : wfU64 x.i
  rd : wfU64 x.rd
  cd : wfU64 x.cd
  st : ∀ p ∈ x.st, wfU64 p.2
  v : VwF ((x.vw.r, x.vw.n, x.vw.i), x.vw.ms, x.vw.us)
theorem nil_facts {x : Vw} (h : x.nilB = true) : x.r = 0 ∧ x.n = 0 ∧ x.i = 0 ∧ x.ms = [] ∧ x.us = [] := by
  unfold Vw.nilB Vw.eqB at h
  simpa using h
/-- what kinds there are, and what they have -/
theorem may_kinds {x : Nt} (h : x.mayB = true) :
    ((x.k = 1 ∨ x.k = 3) ∧ mayB x.n x.i = true ∧ x.vw.nilB = true ∧ x.st.length ≤ 1 ∧ setB x.st = true) ∨
    (x.k = 2 ∧ mayB x.n x.i = true ∧ x.vw.nilB = true ∧ x.rd = 0 ∧ x.cd = 0 ∧ x.st = []) ∨
    (x.k = 4 ∧ mayB x.n x.i = true ∧ x.vw.nilB = true ∧ x.rd = 0 ∧ x.st.length ≤ 6 ∧ setB x.st = true) ∨
    (x.k = 5 ∧ x.n = 0 ∧ x.i = 0 ∧ x.rd = 0 ∧ x.cd = 0 ∧ x.st = [] ∧ x.vw.mayB = true) := by
  unfold Nt.mayB at h
  by_cases k5 : x.k = 5
  · rw [if_pos k5] at h
    simp [eqP] at h
    exact .inr (.inr (.inr ⟨k5, h.1.1, h.1.2, h.2.1, h.2.2.1, h.2.2.2.1, h.2.2.2.2.2⟩))
  · rw [if_neg k5, Bool.and_eq_true] at h
    obtain ⟨h0, h⟩ := h
    by_cases k1 : x.k = 1 ∨ x.k = 3
    · rw [if_pos k1, Bool.and_eq_true] at h
      refine .inl ⟨k1, h.1, h0, ?_⟩
      have h2 := h.2
      rcases hst : x.st with _ | ⟨p, _ | ⟨q, l⟩⟩
      · exact ⟨by simp, by simp [setB]⟩
      · rw [hst] at h2
        simp [serverB] at h2
        exact ⟨by simp, by rw [setB_one]; exact h2.1⟩
      · rw [hst] at h2
        have e1 : (((p :: q :: l).length : Int) == 0) = false := by rw [beq_eq_false_iff_ne]; simp; omega
        have e2 : (((p :: q :: l).length : Int) == 1) = false := by rw [beq_eq_false_iff_ne]; simp; omega
        rw [e1, e2] at h2; simp at h2
    · rw [if_neg k1] at h
      by_cases k2 : x.k = 2
      · rw [if_pos k2] at h
        simp at h
        exact .inr (.inl ⟨k2, h.1, h0, h.2.1, h.2.2.1, h.2.2.2⟩)
      · rw [if_neg k2] at h
        by_cases k4 : x.k = 4
        · rw [if_pos k4] at h
          simp [serverB] at h
          exact .inr (.inr (.inl ⟨k4, h.1.1, h0, h.2.1, by omega, h.2.2.2.2.2.1⟩))
        · rw [if_neg k4] at h; cases h
theorem setBy_back (l : List Pr) (rest : List Int) (hl : l.length ≤ 6) (hs : setB l = true) (hw : ∀ p ∈ l, wfU64 p.2) : rGetSet 6 (setBy l ++ rest, false) = (l, (rest, false)) := by
  have := rGetSet_back l rest 6 (by omega) hl hs (fun p hp => ⟨setB_may hs p hp, (hw p hp).2⟩)
  exact this
theorem rNt_back (x : Nt) (rest : List Int) (hm : x.mayB = true) (hf : NtF x) : rNt (x.enc ++ rest) = (x.bare, (rest, false)) := by
  obtain ⟨k, n, i, rd, cd, SA, sc, st, ⟨r, vn, vi, MA, mc, ms, UA, uc, us⟩⟩ := x
  obtain ⟨f1, f2, f3, f4, f5⟩ := hf
  simp only at f1 f2 f3 f4 f5
  rcases may_kinds hm with ⟨h1, h2, h3, h4, h5⟩ | ⟨h1, h2, h3, h4, h5, h6⟩ | ⟨h1, h2, h3, h4, h5, h6⟩ | ⟨h1, h2, h3, h4, h5, h6, h7⟩
  · obtain ⟨v1, v2, v3, v4, v5⟩ := nil_facts h3
    simp only at h1 h2 h4 h5 v1 v2 v3 v4 v5
    subst v1 v2 v3 v4 v5
    have e0 : rU8 (Nt.enc ⟨k, n, i, rd, cd, SA, sc, st, ⟨0, 0, 0, MA, mc, [], UA, uc, []⟩⟩ ++ rest, false) = (k, (procB (n, i) ++ (uintB rd ++ (uintB cd ++ (setBy st ++ rest))), false)) := by
      rcases h1 with rfl | rfl <;> simp [Nt.enc, rU8_cons, List.append_assoc]
    unfold rNt
    simp only [e0]
    rw [if_pos h1, rGet_back (n, i) _ h2 f1.2]
    simp only
    rw [rUint_back rd _ f2.1 f2.2]
    simp only
    rw [rUint_back cd _ f3.1 f3.2]
    simp only
    rw [setBy_back st rest (by omega) h5 f4]
    rfl
  · obtain ⟨v1, v2, v3, v4, v5⟩ := nil_facts h3
    simp only at h1 h2 h4 h5 h6 v1 v2 v3 v4 v5
    subst v1 v2 v3 v4 v5 h1 h4 h5 h6
    have e0 : rU8 (Nt.enc ⟨2, n, i, 0, 0, SA, sc, [], ⟨0, 0, 0, MA, mc, [], UA, uc, []⟩⟩ ++ rest, false) = (2, (procB (n, i) ++ rest, false)) := by
      simp [Nt.enc, rU8_cons]
    unfold rNt
    simp only [e0]
    rw [if_neg (by omega), if_pos trivial, rGet_back (n, i) _ h2 f1.2]
    rfl
  · obtain ⟨v1, v2, v3, v4, v5⟩ := nil_facts h3
    simp only at h1 h2 h4 h5 h6 v1 v2 v3 v4 v5
    subst v1 v2 v3 v4 v5 h1 h4
    have e0 : rU8 (Nt.enc ⟨4, n, i, 0, cd, SA, sc, st, ⟨0, 0, 0, MA, mc, [], UA, uc, []⟩⟩ ++ rest, false) = (4, (procB (n, i) ++ (uintB cd ++ (setBy st ++ rest)), false)) := by
      simp [Nt.enc, rU8_cons, List.append_assoc]
    unfold rNt
    simp only [e0]
    rw [if_neg (by omega), if_neg (by omega), if_pos trivial, rGet_back (n, i) _ h2 f1.2]
    simp only
    rw [rUint_back cd _ f3.1 f3.2]
    simp only
    rw [setBy_back st rest h5 h6 f4]
    rfl
  · simp only at h1 h2 h3 h4 h5 h6 h7
    subst h1 h2 h3 h4 h5 h6
    have e0 : rU8 (Nt.enc ⟨5, 0, 0, 0, 0, SA, sc, [], ⟨r, vn, vi, MA, mc, ms, UA, uc, us⟩⟩ ++ rest, false) = (5, (viewT ((r, vn, vi), ms, us) ++ rest, false)) := by
      simp [Nt.enc, rU8_cons, viewT]
    unfold rNt
    simp only [e0]
    rw [if_neg (by omega), if_neg (by omega), if_neg (by omega), if_pos trivial, rView_back ((r, vn, vi), ms, us) rest h7 f5]
    rfl
theorem bare_may (x : Nt) : x.bare.mayB = x.mayB := rfl
theorem bare_enc (x : Nt) : x.bare.enc = x.enc := rfl
theorem decN_back (x : Nt) (hm : x.mayB = true) (hf : NtF x) : decN x.enc = some x.bare := by
  have := rNt_back x [] hm hf
  rw [List.append_nil] at this
  unfold decN finN
  rw [this]
  simp [bare_may, hm]
theorem decN_more (x : Nt) (more : List Int) (hm : x.mayB = true) (hf : NtF x) (h : more ≠ []) : decN (x.enc ++ more) = none := by
  unfold decN finN
  rw [rNt_back x more hm hf]
  rw [if_pos]
  right
  exact List.length_pos_iff.2 h
/-- whatever is read was written -/
theorem rNt_inv {bs : List Int} (hok : bOK bs) (h : (rNt bs).2.2 = false) (hm : (rNt bs).1.mayB = true) : bs = (rNt bs).1.enc ++ (rNt bs).2.1 ∧ NtF (rNt bs).1 := by
  have w0 : wfU64 0 := ⟨by omega, by omega⟩
  have v0 : VwF ((0, 0, 0), [], []) := ⟨w0, w0, by simp, by simp⟩
  unfold rNt at h hm ⊢
  have hu := @rU8_inv bs (rU8 (bs, false)).1 (rU8 (bs, false)).2.1
  have hu2 : (rU8 (bs, false)).2.2 = false → bs = (rU8 (bs, false)).1 :: (rU8 (bs, false)).2.1 := fun h => hu (rs_mk h)
  clear hu
  generalize rU8 (bs, false) = a at *
  obtain ⟨k, s⟩ := a
  simp only at *
  have hk : s.2 = false → bOK s.1 := fun h => by have := hu2 h; rw [this] at hok; exact hok.tail
  by_cases k1 : k = 1 ∨ k = 3
  · rw [if_pos k1] at h hm ⊢
    simp only at h hm ⊢
    have g4 : (rGetSet 6 (rUint (rUint (rGet s).2).2).2).2.2 = false := h
    have g3 := rGetSet_ok g4
    have g2 := rUint_ok g3
    have g1 := rUint_ok g2
    have g0 := rGet_ok g1
    obtain ⟨a1, a2, a3⟩ := rGet_inv (hk g0) g1
    have b1 : bOK (rGet s).2.1 := by have := hk g0; rw [a1] at this; exact this.right
    have c1 := rUint_inv (x := (rUint (rGet s).2).1) (rest := (rUint (rGet s).2).2.1) b1 (by rw [rs_eta g1] at g2 ⊢; exact rs_mk g2)
    have b2 : bOK (rUint (rGet s).2).2.1 := by have := b1; rw [c1.1] at this; exact this.right
    have c2 := rUint_inv (x := (rUint (rUint (rGet s).2).2).1) (rest := (rUint (rUint (rGet s).2).2).2.1) b2 (by rw [rs_eta g2] at g3 ⊢; exact rs_mk g3)
    have b3 : bOK (rUint (rUint (rGet s).2).2).2.1 := by have := b2; rw [c2.1] at this; exact this.right
    obtain ⟨d1, d2, d3, d4, d5⟩ := rGetSet_inv b3 g4
    refine ⟨?_, ⟨a3, c1.2, c2.2, fun p hp => (d5 p hp).2, v0⟩⟩
    rw [hu2 g0, a1]
    conv => lhs; rw [c1.1, c2.1, d1]
    rcases k1 with rfl | rfl <;> simp [Nt.enc, setBy, List.append_assoc]
  · rw [if_neg k1] at h hm ⊢
    by_cases k2 : k = 2
    · subst k2
      rw [if_pos rfl] at h hm ⊢
      simp only at h hm ⊢
      have g1 : (rGet s).2.2 = false := h
      have g0 := rGet_ok g1
      obtain ⟨a1, a2, a3⟩ := rGet_inv (hk g0) g1
      refine ⟨?_, ⟨a3, w0, w0, by simp, v0⟩⟩
      rw [hu2 g0, a1]
      simp [Nt.enc]
    · rw [if_neg k2] at h hm ⊢
      by_cases k4 : k = 4
      · subst k4
        rw [if_pos rfl] at h hm ⊢
        simp only at h hm ⊢
        have g4 : (rGetSet 6 (rUint (rGet s).2).2).2.2 = false := h
        have g2 := rGetSet_ok g4
        have g1 := rUint_ok g2
        have g0 := rGet_ok g1
        obtain ⟨a1, a2, a3⟩ := rGet_inv (hk g0) g1
        have b1 : bOK (rGet s).2.1 := by have := hk g0; rw [a1] at this; exact this.right
        have c1 := rUint_inv (x := (rUint (rGet s).2).1) (rest := (rUint (rGet s).2).2.1) b1 (by rw [rs_eta g1] at g2 ⊢; exact rs_mk g2)
        have b2 : bOK (rUint (rGet s).2).2.1 := by have := b1; rw [c1.1] at this; exact this.right
        obtain ⟨d1, d2, d3, d4, d5⟩ := rGetSet_inv b2 g4
        refine ⟨?_, ⟨a3, w0, c1.2, fun p hp => (d5 p hp).2, v0⟩⟩
        rw [hu2 g0, a1]
        conv => lhs; rw [c1.1, d1]
        simp [Nt.enc, setBy, List.append_assoc]
      · rw [if_neg k4] at h hm ⊢
        by_cases k5 : k = 5
        · subst k5
          rw [if_pos rfl] at h hm ⊢
          simp only at h hm ⊢
          have g1 : (rView s).2.2 = false := h
          have g0 := rView_ok g1
          obtain ⟨a1, a2, a3⟩ := rView_inv (hk g0) g1
          refine ⟨?_, ⟨w0, w0, w0, by simp, a3⟩⟩
          rw [hu2 g0, a1]
          simp [Nt.enc, viewT]
        · rw [if_neg k5] at hm
          exfalso
          rcases may_kinds hm with ⟨h1, _⟩ | ⟨h1, _⟩ | ⟨h1, _⟩ | ⟨h1, _⟩ <;> (simp only at h1; omega)
theorem decN_inv {bs : List Int} {y : Nt} (hok : bOK bs) (h : decN bs = some y) : y.mayB = true ∧ y.enc = bs ∧ NtF y ∧ y.bare = y := by
  unfold decN finN at h
  split at h
  · cases h
  · rename_i h1
    split at h
    · cases h
    · rename_i h2
      injection h with h
      have hm : (rNt bs).1.mayB = true := by simpa using h2
      have hb : (rNt bs).2.2 = false := by simpa using (not_or.1 h1).1
      have hl : (rNt bs).2.1 = [] := by
        have := (not_or.1 h1).2
        exact List.eq_nil_of_length_eq_zero (by omega)
      obtain ⟨a, b⟩ := rNt_inv hok hb hm
      rw [hl, List.append_nil] at a
      subst h
      refine ⟨hm, a.symm, b, ?_⟩
      unfold rNt
      generalize rU8 (bs, false) = q
      simp only
      split
      · rfl
      · split
        · rfl
        · split
          · rfl
          · split <;> rfl
theorem enc_len (x : Nt) (hm : x.mayB = true) : x.enc.length ≤ 320 ∧ 0 < x.enc.length := by
  obtain ⟨k, n, i, rd, cd, SA, sc, st, ⟨r, vn, vi, MA, mc, ms, UA, uc, us⟩⟩ := x
  have q1 := uintB_len i
  have q2 := uintB_len rd
  have q3 := uintB_len cd
  have q4 := procsB_len st
  have q5 := viewB_len r vn vi ms us
  rcases may_kinds hm with ⟨h1, h2, h3, h4, h5⟩ | ⟨h1, h2, h3, h4, h5, h6⟩ | ⟨h1, h2, h3, h4, h5, h6⟩ | ⟨h1, h2, h3, h4, h5, h6, h7⟩
  · simp only at h1 h4
    rcases h1 with rfl | rfl <;> (simp [Nt.enc, procB, setBy]; omega)
  · simp only at h1 h6
    subst h1 h6
    simp [Nt.enc, procB]; omega
  · simp only at h1 h5
    subst h1
    simp [Nt.enc, procB, setBy]; omega
  · simp only at h1
    have f := mayT_facts (x := ((r, vn, vi), ms, us)) h7
    simp only at f
    subst h1
    simp [Nt.enc]; omega
theorem enc_ok (x : Nt) (hm : x.mayB = true) (hf : NtF x) : bOK x.enc := by
  obtain ⟨k, n, i, rd, cd, SA, sc, st, ⟨r, vn, vi, MA, mc, ms, UA, uc, us⟩⟩ := x
  obtain ⟨f1, f2, f3, f4, f5⟩ := hf
  simp only at f1 f2 f3 f4 f5
  have b1 : bOK (procB (n, i)) := procB_ok f1.1 f1.2
  have b2 := uintB_ok rd f2.1 f2.2
  have b3 := uintB_ok cd f3.1 f3.2
  have b4 : bOK (setBy st) := by
    intro b hb
    rcases List.mem_cons.1 hb with rfl | hb
    · omega
    · exact procsB_ok f4 b hb
  have cons : ∀ (a : Int) (l : List Int), 0 ≤ a → a < 256 → bOK l → bOK (a :: l) := fun a l h0 h1 h b hb => by
    rcases List.mem_cons.1 hb with rfl | hb
    · exact ⟨h0, h1⟩
    · exact h b hb
  rcases may_kinds hm with ⟨h1, _⟩ | ⟨h1, _⟩ | ⟨h1, _⟩ | ⟨h1, _⟩ <;> simp only at h1
  · rcases h1 with rfl | rfl
    · show bOK (1 :: (procB (n, i) ++ (uintB rd ++ uintB cd) ++ setBy st))
      exact cons _ _ (by omega) (by omega) ((b1.app (b2.app b3)).app b4)
    · show bOK (3 :: (procB (n, i) ++ (uintB rd ++ uintB cd) ++ setBy st))
      exact cons _ _ (by omega) (by omega) ((b1.app (b2.app b3)).app b4)
  · subst h1
    show bOK (2 :: procB (n, i))
    exact cons _ _ (by omega) (by omega) b1
  · subst h1
    show bOK (4 :: (procB (n, i) ++ uintB cd ++ setBy st))
    exact cons _ _ (by omega) (by omega) ((b1.app b3).app b4)
  · subst h1
    show bOK (5 :: viewT ((r, vn, vi), ms, us))
    exact cons _ _ (by omega) (by omega) (viewT_ok f5)
/-- of a beginning there is none -/
theorem decN_cut (x : Nt) (k : Nat) (hk : k < x.enc.length) (hm : x.mayB = true) (hf : NtF x) : decN (x.enc.take k) = none := by
  cases h : decN (x.enc.take k) with
  | none => rfl
  | some y =>
    exfalso
    have hok : bOK (x.enc.take k) := fun b hb => enc_ok x hm hf b (List.mem_of_mem_take hb)
    obtain ⟨a1, a2, a3, _⟩ := decN_inv hok h
    have e1 := rNt_back y (x.enc.drop k) a1 a3
    rw [a2, List.take_append_drop] at e1
    have e2 := rNt_back x [] hm hf
    rw [List.append_nil, e1] at e2
    have e3 : x.enc.drop k = [] := by injection e2 with _ e2; injection e2
    have := congrArg List.length e3
    simp at this; omega
theorem bare_eqB (x : Nt) (SA : Option Addr) (sc : Nat) (MA : Option Addr) (mc : Nat) (UA : Option Addr) (uc : Nat) : Nt.eqB (x.bare.at SA sc MA mc UA uc) x = true := by
  simp [Nt.eqB, Nt.bare, Nt.at, eqP, Vw.eqB]
/-- its bytes, if it may be -/
theorem encode_s (x : Nt) (w : World) (hx : x.Ok w) (hf : NtF x) (hh : x.st.length ≤ 300 ∧ x.vw.ms.length ≤ 300 ∧ x.vw.us.length ≤ 300) (hm : x.mayB = true) : Calls Tryz.prog 8 #[x.v] w (RetE w x.enc) := by
  obtain ⟨k, n, i, rd, cd, SA, sc, st, ⟨r, vn, vi, MA, mc, ms, UA, uc, us⟩⟩ := x
  obtain ⟨f1, f2, f3, f4, f5⟩ := hf
  simp only at f1 f2 f3 f4 f5 hh
  rcases may_kinds hm with ⟨h1, _⟩ | ⟨h1, _⟩ | ⟨h1, _⟩ | ⟨h1, _⟩ <;> simp only at h1
  · rcases h1 with rfl | rfl
    · exact encode1 n i rd cd SA sc st r vn vi MA mc ms UA uc us w hx hh.1 f1 f2 f3 f4 hm
    · exact encode3 n i rd cd SA sc st r vn vi MA mc ms UA uc us w hx hh.1 f1 f2 f3 f4 hm
  · subst h1; exact encode2 n i rd cd SA sc st r vn vi MA mc ms UA uc us w hx hh.1 f1 f2 f3 f4 hm
  · subst h1; exact encode4 n i rd cd SA sc st r vn vi MA mc ms UA uc us w hx hh.1 f1 f2 f3 f4 hm
  · subst h1; exact encode5 n i rd cd SA sc st r vn vi MA mc ms UA uc us w hx hh.1 f1 f2 f3 f4 hh.2.1 hh.2.2 f5.r f5.i f5.ms f5.us hm
end Go.Proofs.YtdmjopokclljlaaGreat
