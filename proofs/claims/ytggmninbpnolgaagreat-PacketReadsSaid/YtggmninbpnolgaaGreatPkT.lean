/-
  Layer 2: contract: (*code.Reader).Text.
-/
import Derived.Test.YtggmninbpnolgaaGreatTcG
import Derived.Test.YtggmninbpnolgaaGreatTcL
import Derived.Test.YtggmninbpnolgaaGreatRdr
namespace Go.Proofs.YtggmninbpnolgaaGreat
set_option linter.unusedSimpArgs false
set_option linter.unusedVariables false
set_option linter.unusedSectionVars false
open Go.RowKit

theorem numGo_nn : ∀ (bs : List Int) (i : Nat) (X : Int), 0 ≤ X → 0 ≤ (numGo i X bs).1 := by
  intro bs
  induction bs with
  | nil => intro i X _; simp [numGo]
  | cons c cs ih =>
    intro i X hX
    have hp : (0 : Int) ≤ 128 ^ i := Int.pow_nonneg (by omega)
    have hn : 0 ≤ c % 128 * 128 ^ i := Int.mul_nonneg (by omega) hp
    rw [numGo]
    split
    · simp
    · split
      · split
        · simp
        · simp only; omega
      · exact ih _ _ (by omega)
theorem numV_nonneg (bs : List Int) (bad : Bool) : 0 ≤ (numV bs bad).1 := by
  unfold numV
  split
  · simp
  · exact numGo_nn bs 0 0 (Int.le_refl _)
/-- a text is read -/
def rText (most : Nat) (s : RS) : List Int × RS :=
  if (numV s.1 s.2).2 = 0 ∨ (most : Int) < (numV s.1 s.2).1 ∨ ((s.1.length : Int) - ((numV s.1 s.2).2 : Int)) < (numV s.1 s.2).1 then ([], (s.1, true))
  else ((s.1.drop (numV s.1 s.2).2).take (numV s.1 s.2).1.toNat, ((s.1.drop (numV s.1 s.2).2).drop (numV s.1 s.2).1.toNat, false))
def RetTx (g B : Nat) (w : World) (r : List Int × RS) (e : Ending) (w' : World) : Prop := e = .returned (.string (strOfNums r.1)) ∧ Rds w' g B r.2.1 r.2.2 ∧ w.grownBy w' (some g)
theorem take_ok (g B : Nat) (bs : List Int) (n : Nat) (w : World) (h : Rds w g B bs false) (hn : n ≤ 1000000) (hl : n ≤ bs.length) :
    Calls Tryz.prog 63 #[.pointer (some ⟨g, 0, none⟩), .int .i64 n] w fun e w' => ∃ A, e = .returned (.slice A n n) ∧ Reads w' w'.heap.size 1 A n (bcs (bs.take n)) ∧ Rds w' g B (bs.drop n) false ∧ w.grownBy w' (some g) := by
  refine (take_s g B bs false n w h hn).mono fun e w' hp => ?_
  rcases hp with ⟨_, _, A, h1, h2, h3, h4, _⟩ | ⟨h1, _⟩
  · exact ⟨A, h1, h2, h3, h4⟩
  · rcases h1 with h1 | h1
    · cases h1
    · omega
set_option maxRecDepth 100000 in
set_option maxHeartbeats 4000000 in
theorem textR_s (g B most : Nat) (s : RS) (w : World) (h : Rds w g B s.1 s.2) (hn : s.1.length ≤ 1000000) (hm : most ≤ 1000) :
    Calls Tryz.prog 32 #[.pointer (some ⟨g, 0, none⟩), .int .i64 most] w (RetTx g B w (rText most s)) := by
  obtain ⟨bs, bad⟩ := s
  simp only at h hn
  have TN := hide (number_s g B bs bad w h hn)
  have hnl := numV_le bs bad
  have hnb := numV_bad bs bad
  have HQ : Hid (rText most (bs, bad) = if (numV bs bad).2 = 0 ∨ (most : Int) < (numV bs bad).1 ∨ ((bs.length : Int) - ((numV bs bad).2 : Int)) < (numV bs bad).1 then ([], (bs, true)) else ((bs.drop (numV bs bad).2).take (numV bs bad).1.toNat, ((bs.drop (numV bs bad).2).drop (numV bs bad).1.toNat, false))) := hide rfl
  have hx0 := numV_nonneg bs bad
  generalize rText most (bs, bad) = Q at HQ ⊢
  generalize numV bs bad = r at TN hnl hnb HQ hx0
  obtain ⟨x, n⟩ := r
  simp only at TN hnl hnb HQ hx0
  have hR := hide h
  obtain ⟨A, c, hd⟩ := h
  haveI := hd.boxAt
  have hmax := hd.max
  have hcap := hd.cap
  have hff := hide (hd.fail)
  clear hd
  by_cases hbad : n = 0 ∨ (most : Int) < x ∨ ((bs.length : Int) - (n : Int)) < x
  · have HF := hide (HQ.out.trans (if_pos hbad))
    have key : ((n : Int) == 0) = true ∨ (((n : Int) == 0) = false ∧ decide ((most : Int) < x) = true) ∨ (((n : Int) == 0) = false ∧ decide ((most : Int) < x) = false ∧ decide ((bs.length : Int) - (n : Int) < x) = true) := by
      by_cases h1 : n = 0
      · left; simp [h1]
      · right
        have e1 : ((n : Int) == 0) = false := by simp; exact h1
        by_cases h2 : (most : Int) < x
        · left; exact ⟨e1, decide_eq_true h2⟩
        · right; exact ⟨e1, decide_eq_false h2, decide_eq_true (by omega)⟩
    have m0 : decide ((most : Int) < 0) = false := decide_eq_false (by omega)
    clear hbad HQ hnb
    rcases key with k1 | ⟨k1, k2⟩ | ⟨k1, k2, k3⟩
    all_goals
      go_enter Tryz.func32, Tryz.ntmps32
      go_wp2_with fail
      (with_reducible refine TN.out.mono ?_)
      rintro e w1 ⟨rfl, rfl⟩
      clear TN
      go_wp2
      go_ret
      exact ⟨by rw [HF.out]; rfl, by rw [HF.out]; exact ⟨A, c, hff.out⟩, grown_setCell _ _ _ _⟩
  · have HF := hide (HQ.out.trans (if_neg hbad))
    have k1 : ((n : Int) == 0) = false := by simp; omega
    have k2 : decide ((most : Int) < x) = false := decide_eq_false (by omega)
    have k3 : decide ((bs.length : Int) - (n : Int) < x) = false := decide_eq_false (by omega)
    have m0 : decide ((most : Int) < 0) = false := decide_eq_false (by omega)
    obtain ⟨m, rfl⟩ := Int.eq_ofNat_of_zero_le hx0
    have hfalse : bad = false := by cases bad; rfl; exfalso; have := hnb rfl; omega
    subst hfalse
    have T1 := hide (take_ok g B bs n w hR.out (by omega) hnl)
    have T2 := hide (fun W (hW : Rds W g B (bs.drop n) false) => take_ok g B (bs.drop n) m W hW (by omega) (by rw [List.length_drop]; omega))
    have hmb : m ≤ 1000 := by omega
    simp only [Int.toNat_natCast] at HF
    have k2' : decide (most < m) = false := decide_eq_false (by omega)
    have k3' : ¬ (bs.length : Int) - (n : Int) < (m : Int) := by omega
    clear hbad HQ hnb hx0
    go_enter Tryz.func32, Tryz.ntmps32
    go_wp2_with fail
    (with_reducible refine TN.out.mono ?_)
    rintro e w1 ⟨rfl, rfl⟩
    clear TN
    go_wp2_with fail
    (with_reducible refine T1.out.mono ?_)
    rintro e w2 ⟨A2, rfl, _, hR2, hG2⟩
    go_wp2_with fail
    (with_reducible refine (T2.out _ hR2).mono ?_)
    rintro e w3 ⟨A3, rfl, hrd, hR3, hG3⟩
    haveI : RdY w3 A3 m ((bs.drop n).take m) := ⟨hrd⟩
    have HR3 := hide hR3
    have HG := hide (grown_trans hG2 hG3)
    clear hrd hR3 hG2 hG3 hR2
    go_wp2
    go_ret
    exact ⟨by rw [HF.out]; rfl, by rw [HF.out]; exact HR3.out, HG.out⟩
end Go.Proofs.YtggmninbpnolgaaGreat
