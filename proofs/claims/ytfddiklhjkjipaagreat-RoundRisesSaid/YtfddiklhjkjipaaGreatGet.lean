/-
  Contract: proc.GetSet.
-/
import Derived.Test.YtfddiklhjkjipaaGreatRdr
import Derived.Test.YtfddiklhjkjipaaGreatMeet
namespace Go.Proofs.YtfddiklhjkjipaaGreat
set_option linter.unusedSimpArgs false
set_option linter.unusedVariables false
set_option linter.unusedSectionVars false
open Go.RowKit

/-- so many lives are read, one behind the other -/
def rRun : Nat → RS → List Pr → List Pr × RS
  | 0, s, acc => (acc, s)
  | k + 1, s, acc => if (rGet s).2.2 = true then ([], (rGet s).2) else rRun k (rGet s).2 (acc ++ [(rGet s).1])
/-- a set of at most so many lives is read -/
def rGetSet (most : Nat) (s : RS) : List Pr × RS :=
  if (rU8 s).2.2 = true ∨ (most : Int) < (rU8 s).1 then ([], ((rU8 s).2.1, true)) else
    let r := rRun (rU8 s).1.toNat (rU8 s).2 []
    if r.2.2 = true then ([], r.2) else if setB r.1 = true then r else ([], (r.2.1, true))
theorem rGetSet_eq (most : Nat) (s : RS) : rGetSet most s = if (rU8 s).2.2 = true ∨ (most : Int) < (rU8 s).1 then ([], ((rU8 s).2.1, true)) else
    (if (rRun (rU8 s).1.toNat (rU8 s).2 []).2.2 = true then ([], (rRun (rU8 s).1.toNat (rU8 s).2 []).2) else if setB (rRun (rU8 s).1.toNat (rU8 s).2 []).1 = true then rRun (rU8 s).1.toNat (rU8 s).2 [] else ([], ((rRun (rU8 s).1.toNat (rU8 s).2 []).2.1, true))) := rfl
theorem rRun_len : ∀ (k : Nat) (s : RS) (acc : List Pr), (rRun k s acc).2.1.length ≤ s.1.length ∧ (rRun k s acc).1.length ≤ acc.length + k := by
  intro k
  induction k with
  | zero => intro s acc; simp [rRun]
  | succ k ih =>
    intro s acc
    have h1 := rGet_len s
    rw [rRun]
    split
    · exact ⟨h1, by simp⟩
    · obtain ⟨h2, h3⟩ := ih (rGet s).2 (acc ++ [(rGet s).1])
      refine ⟨by omega, ?_⟩
      simp at h3 ⊢; omega
theorem rGetSet_len (most : Nat) (s : RS) : (rGetSet most s).2.1.length ≤ s.1.length := by
  have h1 := rU8_len s
  have h2 := (rRun_len (rU8 s).1.toNat (rU8 s).2 []).1
  rw [rGetSet_eq]
  split
  · exact h1
  · split
    · exact Nat.le_trans h2 h1
    · split <;> exact Nat.le_trans h2 h1
/-- lives are read into new memory -/
def RetRP (g B : Nat) (w : World) (l : List Pr) (s : RS) (e : Ending) (w' : World) : Prop := ∃ v, e = .returned v ∧ OwnP w' w.heap.size v l ∧ Rds w' g B s.1 s.2 ∧ w.grownBy w' (some g)
theorem own_nilP (w : World) (base : Nat) : OwnP w base (.slice none 0 0) [] := World.ownsRow_nil _ _ _ _
theorem grown_keep {w w1 w2 : World} {g base : Nat} {v : Value} {n : Nat} {xs : List Value} {e : TypeId} {k : Nat} (h : w.grownBy w1 (some g)) (h2 : w1.grownBy w2 v.ownBlock) (ho : w1.ownsRow base e k v n xs) (hb : w.heap.size ≤ base) (hg : g < base) : w.grownBy w2 (some g) ∧ ∀ i, i < base → i < w1.heap.size → w2.heap[i]? = w1.heap[i]? := by
  have key : ∀ i, i < base → i < w1.heap.size → w2.heap[i]? = w1.heap[i]? := fun i hi hi1 => h2.block i hi1 (fun e => by have := (ho.lt i e.symm).1; omega)
  exact ⟨⟨h2.os.trans h.os, h2.tape.trans h.tape, h2.output.trans h.output, Nat.le_trans h.size h2.size, fun i hi hr => (key i (by omega) (Nat.lt_of_lt_of_le hi h.size)).trans (h.block i hi hr)⟩, key⟩
set_option maxHeartbeats 1000000 in
set_option maxRecDepth 100000 in
theorem getSet_s (g B most : Nat) (s : RS) (w : World) (h : Rds w g B s.1 s.2) (hn : s.1.length ≤ 1000000) (hmost : most ≤ 1000000) :
    Calls Tryz.prog 196 #[.pointer (some ⟨g, 0, none⟩), .int .i64 most] w (RetRP g B w (rGetSet most s).1 (rGetSet most s).2) := by
  have hle := h.le
  have htop := h.top
  have T1 := hide (u8R_s g B s w h)
  have hr := rU8_range h.ok
  have hl1 := rU8_len s
  have HQ := hide (rGetSet_eq most s)
  obtain ⟨hr0, hr1⟩ := hr
  generalize rU8 s = r1 at T1 hr0 hr1 hl1 HQ
  generalize rGetSet most s = Q at HQ ⊢
  obtain ⟨x1, bs1, bad1⟩ := r1
  simp only at T1 hr0 hr1 hl1 HQ
  have T2 := hide (fun W (hW : Rds W g B bs1 bad1) => err_s g B bs1 bad1 W hW)
  have T3 := hide (fun W (hW : Rds W g B bs1 bad1) => failR_s g B (bs1, bad1) W hW)
  clear h
  by_cases hb : bad1 = true ∨ (most : Int) < x1
  · replace HQ := hide (HQ.out.trans (if_pos hb))
    have hbb : (bad1 = true) ∨ (bad1 = false ∧ decide ((most : Int) < x1) = true) := by
      cases bad1
      · right; simpa using hb
      · exact .inl rfl
    clear hb
    rcases hbb with rfl | ⟨rfl, hmx⟩
    · simp only [if_true] at T2
      go_enter Tryz.func196, Tryz.ntmps196
      go_wp2_with fail
      (with_reducible refine T1.out.mono ?_)
      rintro e w1 ⟨rfl, hR, hG⟩
      go_wp2_with fail
      (with_reducible refine (T2.out _ hR).mono ?_)
      rintro e w1' ⟨rfl, rfl⟩
      go_wp2_with fail
      (with_reducible refine (T3.out _ hR).mono ?_)
      rintro e w2 ⟨rfl, hR2, hG2⟩
      have HR2 := hide hR2
      have HG2 := hide (grown_trans hG hG2)
      clear hR hG hR2 hG2
      go_wp2
      go_ret
      rw [HQ.out]
      exact ⟨_, rfl, own_nilP _ _, HR2.out, HG2.out⟩
    · simp only [Bool.false_eq_true, if_false] at T2
      go_enter Tryz.func196, Tryz.ntmps196
      go_wp2_with fail
      (with_reducible refine T1.out.mono ?_)
      rintro e w1 ⟨rfl, hR, hG⟩
      go_wp2_with fail
      (with_reducible refine (T2.out _ hR).mono ?_)
      rintro e w1' ⟨rfl, rfl⟩
      go_wp2_with fail
      (with_reducible refine (T3.out _ hR).mono ?_)
      rintro e w2 ⟨rfl, hR2, hG2⟩
      have HR2 := hide hR2
      have HG2 := hide (grown_trans hG hG2)
      clear hR hG hR2 hG2
      go_wp2
      go_ret
      rw [HQ.out]
      exact ⟨_, rfl, own_nilP _ _, HR2.out, HG2.out⟩
  · replace HQ := hide (HQ.out.trans (if_neg hb))
    obtain rfl : bad1 = false := by cases bad1; rfl; exact absurd (.inl rfl) hb
    have hmx : decide ((most : Int) < x1) = false := decide_eq_false (fun h => hb (.inr h))
    simp only [Bool.false_eq_true, if_false] at T2
    obtain ⟨n, rfl⟩ := Int.eq_ofNat_of_zero_le hr0
    replace hmx : decide (most < n) = false := decide_eq_false (fun h => hb (.inr (by omega)))
    clear hb T3
    simp only [Int.toNat_natCast] at HQ
    go_enter Tryz.func196, Tryz.ntmps196
    go_wp2_with fail
    (with_reducible refine T1.out.mono ?_)
    rintro e w1 ⟨rfl, hR, hG⟩
    have HR := hide hR
    have HG := hide hG
    go_wp2_with fail
    (with_reducible refine (T2.out _ hR).mono ?_)
    rintro e w1' ⟨rfl, rfl⟩
    clear hR hG T1 T2
    go_wp2
    go_loopw [6, 21] (fun v i wr => ∃ (k : Nat) (L : List Pr) (bk : List Int), k ≤ n ∧ i = .int .i64 k ∧ L.length = k ∧ bk.length ≤ 1000000 ∧ rRun n (bs1, false) [] = rRun (n - k) (bk, false) L ∧ OwnP wr w.heap.size v L ∧ Rds wr g B bk false ∧ w.grownBy wr (some g)) (fun _ i _ => n - (intOf i).toNat)
    case atStart => exact ⟨0, [], bs1, Nat.zero_le _, rfl, rfl, by omega, by rw [Nat.sub_zero], own_nilP _ _, HR.out, HG.out⟩
    case round =>
      obtain ⟨k, L, bk, hk, rfl, hL, hbk, hrun, hown, hR, hG⟩ := hrel
      have HRUN := hide hrun
      have HO := hide hown
      have HG1 := hide hG
      have HL := hide hL
      have hszw := hG.size
      clear HR HG hrun
      by_cases hlt : k < n
      · have T4 := hide (getP_s g B (bk, false) wr hR hbk)
        have hlen := rGet_len (bk, false)
        have hstep : Hid (rRun (n - k) (bk, false) L = if (rGet (bk, false)).2.2 = true then ([], (rGet (bk, false)).2) else rRun (n - (k + 1)) (rGet (bk, false)).2 (L ++ [(rGet (bk, false)).1])) := by
          rw [show n - k = (n - (k + 1)) + 1 by omega, rRun]; exact hide rfl
        generalize rGet (bk, false) = r4 at T4 hstep hlen
        obtain ⟨⟨pn, pi⟩, b4, bad4⟩ := r4
        simp only at T4 hstep hlen
        have T5 := hide (fun W (hW : Rds W g B b4 bad4) => err_s g B b4 bad4 W hW)
        clear hown hG hL hR
        cases bad4
        · simp only [Bool.false_eq_true, if_false] at T5 hstep
          go_wp2_with fail
          (with_reducible refine T4.out.mono ?_)
          rintro e w4 ⟨rfl, hR4, hG4⟩
          have HO4 := hide (own_grown HO.out hG4 (by omega))
          have HG4 := hide (grown_trans HG1.out hG4)
          have HR4 := hide hR4
          have hsz4 := HG4.out.size
          clear hR4 hG4 HO HG1 T4
          go_wp2_with (first
            | (go_at_call 253; (with_reducible refine (T5.out _ HR5.out).mono ?_); rintro e w6 ⟨rfl, rfl⟩)
            | (at_builtin; refine wpList_append_any _ Tryz.okP (by rfl) (.tmp 23) (.tmp 26) (by rfl) w.heap.size _ _ (pcs L) (by rfl) (HO4.out.alloc _) (w4.heap.size + 1) (some ⟨w4.heap.size, 0, none⟩) 1 1 (pcs [(pn, pi)]) (by rfl) (reads_one w4 pn pi) (pc_one _) (by unfold maxLen; have := HL.out; omega) (by have := HL.out; omega) (by simp; omega) ?_; intro v1 w5 hown1 hg1 hnil1 hat1; have hk5 := grown_keep (grown_trans HG4.out (grown_below (below_alloc _ _))) hg1 (HO4.out.alloc _) (Nat.le_refl _) (by omega); have HR5 := hide ((HR4.out.step (below_alloc _ _)).keepB (fun i hi => hk5.2 i (by omega) (by simp; omega)) (by have := hg1.size; simp at this; omega)); have HG5 := hide hk5.1; have HO5 := hide hown1; obtain ⟨A1, c1, rfl, _, _⟩ := own_slice hown1; clear hown1 hg1 hnil1 hat1 hk5))
          go_roundw
          case rel =>
            refine ⟨k + 1, L ++ [(pn, pi)], b4, by omega, by go_num, by have := HL.out; simp; omega, by omega, HRUN.out.trans hstep.out, ?_, HR5.out, HG5.out⟩
            rw [OwnP, List.length_append, pcs_app]; exact HO5.out
          case measure => simp [intOf]; omega
        · simp only [if_true] at T5 hstep
          replace HQ := hide (by have := HQ.out; rw [HRUN.out, hstep.out] at this; exact this : Q = ([], (b4, true)))
          go_wp2_with fail
          (with_reducible refine T4.out.mono ?_)
          rintro e w4 ⟨rfl, hR4, hG4⟩
          have HO4 := hide (own_grown HO.out hG4 (by omega))
          have HG4 := hide (grown_trans HG1.out hG4)
          have HR4 := hide hR4
          have hsz4 := HG4.out.size
          clear hR4 hG4 HO HG1 T4
          go_wp2_with (first
            | (go_at_call 253; (with_reducible refine (T5.out _ HR5.out).mono ?_); rintro e w6 ⟨rfl, rfl⟩)
            | (at_builtin; refine wpList_append_any _ Tryz.okP (by rfl) (.tmp 23) (.tmp 26) (by rfl) w.heap.size _ _ (pcs L) (by rfl) (HO4.out.alloc _) (w4.heap.size + 1) (some ⟨w4.heap.size, 0, none⟩) 1 1 (pcs [(pn, pi)]) (by rfl) (reads_one w4 pn pi) (pc_one _) (by unfold maxLen; have := HL.out; omega) (by have := HL.out; omega) (by simp; omega) ?_; intro v1 w5 hown1 hg1 hnil1 hat1; have hk5 := grown_keep (grown_trans HG4.out (grown_below (below_alloc _ _))) hg1 (HO4.out.alloc _) (Nat.le_refl _) (by omega); have HR5 := hide ((HR4.out.step (below_alloc _ _)).keepB (fun i hi => hk5.2 i (by omega) (by simp; omega)) (by have := hg1.size; simp at this; omega)); have HG5 := hide hk5.1; obtain ⟨A1, c1, rfl, _, _⟩ := own_slice hown1; clear hown1 hg1 hnil1 hat1 hk5))
          go_ret
          rw [HQ.out]
          exact ⟨_, rfl, own_nilP _ _, HR5.out, HG5.out⟩
      · obtain rfl : k = n := by omega
        have HQ2 : Hid (Q = if setB L = true then (L, (bk, false)) else ([], (bk, true))) := by
          have := HQ.out
          rw [HRUN.out, Nat.sub_self, rRun] at this
          refine hide ?_
          simpa using this
        obtain ⟨A1, c1, rfl, _, _⟩ := own_slice hown
        have T6 := hide (set_any A1 c1 L wr (Reads.of_own hown) (by omega))
        have T7 := hide (fun W (hW : Rds W g B bk false) => failR_s g B (bk, false) W hW)
        have HR := hide hR
        clear hown hG hR HQ HRUN
        cases hset : setB L
        · rw [hset] at T6
          replace HQ2 := hide (HQ2.out.trans (if_neg (by rw [hset]; simp)))
          clear hset hL
          go_wp2_with fail
          (with_reducible refine T6.out.mono ?_)
          rintro e w4 ⟨rfl, hb4⟩
          have HR4 := hide (HR.out.step hb4)
          have HG4 := hide (grown_gw HG1.out hb4)
          clear hb4
          go_wp2_with fail
          (with_reducible refine (T7.out _ HR4.out).mono ?_)
          rintro e w5 ⟨rfl, hR5, hG5⟩
          have HR5 := hide hR5
          have HG5 := hide (grown_trans HG4.out hG5)
          clear hR5 hG5
          go_wp2
          go_ret
          rw [HQ2.out]
          exact ⟨_, rfl, own_nilP _ _, HR5.out, HG5.out⟩
        · rw [hset] at T6
          replace HQ2 := hide (HQ2.out.trans (if_pos hset))
          clear hset hL
          go_wp2_with fail
          (with_reducible refine T6.out.mono ?_)
          rintro e w4 ⟨rfl, hb4⟩
          have HR4 := hide (HR.out.step hb4)
          have HG4 := hide (grown_gw HG1.out hb4)
          have HO4 := hide (own_below HO.out hb4 (Nat.le_refl _))
          clear hb4
          go_wp2
          go_ret
          rw [HQ2.out]
          exact ⟨_, rfl, HO4.out, HR4.out, HG4.out⟩
end Go.Proofs.YtfddiklhjkjipaaGreat
