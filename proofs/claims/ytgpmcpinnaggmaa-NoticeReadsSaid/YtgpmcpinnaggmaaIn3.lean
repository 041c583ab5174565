/-
  The reference's reader: contracts: its Procs; layer 4's ReadId.
-/
import Derived.Test.YtgpmcpinnaggmaaIn2
import Derived.Test.YtgpmcpinnaggmaaGet
import Derived.Test.YtgpmcpinnaggmaaRef4b
import Derived.Test.YtgpmcpinnaggmaaVget
namespace Go.Proofs.Ytgpmcpinnaggmaa
set_option linter.unusedSimpArgs false
set_option linter.unusedVariables false
set_option linter.unusedSectionVars false
open Go.RowKit

theorem rGet_nonneg (s : RS) : 0 ≤ (rGet s).1.2 := by
  unfold rGet
  split
  · simp
  · exact rUint_nonneg _
theorem rGet_badS (bs : List Int) : rGet (bs, true) = ((0, 0), (bs, true)) := by
  have e0 : rU8 (bs, true) = (0, (bs, true)) := by cases bs <;> rfl
  unfold rGet
  rw [e0]
  have e1 : rUint (bs, true) = (0, (bs, true)) := by unfold rUint; simp [numV]
  simp [e1]
/-- lives are read into new memory -/
def RetJP (g B : Nat) (w : World) (l : List Pr) (s : RS) (e : Ending) (w' : World) : Prop := ∃ v, e = .returned v ∧ OwnP w' w.heap.size v l ∧ RI w' g B s ∧ w.grownBy w' (some g)
set_option maxHeartbeats 2000000 in
set_option maxRecDepth 100000 in
theorem procsI_s (g B most : Nat) (s : RS) (w : World) (h : RI w g B s) (hmost : most ≤ 1000000) :
    Calls Try.prog 53 #[.pointer (some ⟨g, 0, none⟩), .int .i64 most] w (RetJP g B w (rGetSet most s).1 (rGetSet most s).2) := by
  have hle := h.le
  have htop := h.top
  have T1 := hide (u8I_s g B s w h)
  have hr : 0 ≤ (rU8 s).1 ∧ (rU8 s).1 < 256 := by
    obtain ⟨bs, bad⟩ := s
    cases bad
    · exact rU8_range (h.ok rfl)
    · rw [show rU8 (bs, true) = (0, (bs, true)) by cases bs <;> rfl]; simp
  have HQ := hide (rGetSet_eq most s)
  obtain ⟨hr0, hr1⟩ := hr
  generalize rU8 s = r1 at T1 hr0 hr1 HQ
  generalize rGetSet most s = Q at HQ ⊢
  obtain ⟨x1, bs1, bad1⟩ := r1
  simp only at T1 hr0 hr1 HQ
  clear h
  obtain ⟨n, rfl⟩ := Int.eq_ofNat_of_zero_le hr0
  by_cases hmx : (most : Int) < (n : Int)
  · replace HQ := hide (HQ.out.trans (if_pos (.inr hmx)))
    have hd : decide (most < n) = true := decide_eq_true (by omega)
    have hn0 : 0 < n := by omega
    have hn0' : decide ((0 : Int) < (n : Int)) = true := decide_eq_true (by omega)
    clear hmx
    go_enter Try.func53, Try.ntmps53
    go_wp2_with fail
    (with_reducible refine T1.out.mono ?_)
    rintro e w1 ⟨rfl, hR, hG⟩
    obtain ⟨v1, hbx⟩ := hR.box
    simp only at hbx
    haveI := hbx
    have hF := hR.fail bs1
    obtain ⟨w2, hw2⟩ : ∃ w2, w2 = w1.setCell ⟨g, 1, none⟩ (.bool true) := ⟨_, rfl⟩
    have hG2 := grown_trans hG (grown_setCell w1 g 1 (.bool true))
    rw [← hw2] at hF hG2
    have HW2 := hide hw2
    have HF := hide hF
    have HG2 := hide hG2
    clear hR hG hF hG2 T1 hw2
    go_wp2
    rw [← HW2.out]
    clear HW2
    obtain ⟨v2, hbx2⟩ := HF.out.box
    simp only at hbx2
    haveI := hbx2
    have HF3 := hide (HF.out.fail bs1)
    have HG3 := hide (grown_trans HG2.out (grown_setCell w2 g 1 (.bool true)))
    refine wp_loop_rounds 1 ?_
    rw [rounds_succ]
    go_wp2
    go_ret
    rw [HQ.out]
    exact ⟨_, rfl, own_nilP _ _, HF3.out, HG3.out⟩
  · have hd : decide (most < n) = false := decide_eq_false (by omega)
    have HQ2 : Hid (∀ (L : List Pr) (sk : RS), rRun n (bs1, bad1) [] = (L, sk) → (bad1 = true → sk.2 = true) → Q.1 = (if sk.2 = true then [] else if setB L = true then L else []) ∧ (sk.2 = true → Q.2.2 = true) ∧ (sk.2 = false → setB L = true → Q.2 = sk) ∧ (sk.2 = false → setB L = false → Q.2.2 = true)) := hide (fun L sk hrun hbad => by
      have := HQ.out
      by_cases hb : bad1 = true
      · rw [if_pos (.inl hb)] at this
        rw [this]
        have := hbad hb
        rw [this]; simp
      · rw [if_neg (fun h => h.elim hb hmx)] at this
        simp only [Int.toNat_natCast] at this
        rw [hrun] at this
        rw [this]
        cases hk : sk.2 <;> cases hs : setB L <;> simp [hk])
    clear hmx HQ
    go_enter Try.func53, Try.ntmps53
    go_wp2_with fail
    (with_reducible refine T1.out.mono ?_)
    rintro e w1 ⟨rfl, hR, hG⟩
    have HR := hide hR
    have HG := hide hG
    clear hR hG T1
    go_wp2
    go_loopw [6, 7] (fun v i wr => ∃ (k : Nat) (L : List Pr) (sk : RS), k ≤ n ∧ i = .int .i64 k ∧ L.length = k ∧ (∀ p ∈ L, 0 ≤ p.2) ∧ ((sk.2 = false ∧ rRun n (bs1, bad1) [] = rRun (n - k) sk L) ∨ (sk.2 = true ∧ ((rRun n (bs1, bad1) []).2.2 = true ∨ bad1 = true))) ∧ (bad1 = true → sk.2 = true) ∧ OwnP wr w.heap.size v L ∧ RI wr g B sk ∧ w.grownBy wr (some g)) (fun _ i _ => n - (intOf i).toNat)
    case atStart =>
      refine ⟨0, [], (bs1, bad1), Nat.zero_le _, rfl, rfl, by simp, ?_, fun h => h, own_nilP _ _, HR.out, HG.out⟩
      cases bad1
      · exact .inl ⟨rfl, by rw [Nat.sub_zero]⟩
      · exact .inr ⟨rfl, .inr rfl⟩
    case round =>
      obtain ⟨k, L, sk, hk, rfl, hL, hnn, hst, hbb, hown, hR, hG⟩ := hrel
      have HL := hide hL
      have HNN := hide hnn
      have HST := hide hst
      have HBB := hide hbb
      have HO := hide hown
      have HG1 := hide hG
      have hszw := hG.size
      obtain ⟨vb, hbx⟩ := hR.box
      haveI := hbx
      have HR := hide hR
      obtain ⟨bk, badk⟩ := sk
      simp only at hbx HST HBB
      clear hL hnn hst hbb hG HG
      cases badk
      · by_cases hlt : k < n
        · have T4 := hide (procI_s g B (bk, false) wr hR)
          have hp2 := rGet_nonneg (bk, false)
          have hstep : Hid (rRun (n - k) (bk, false) L = if (rGet (bk, false)).2.2 = true then ([], (rGet (bk, false)).2) else rRun (n - (k + 1)) (rGet (bk, false)).2 (L ++ [(rGet (bk, false)).1])) := by
            rw [show n - k = (n - (k + 1)) + 1 by omega, rRun]; exact hide rfl
          generalize rGet (bk, false) = r4 at T4 hstep hp2
          obtain ⟨⟨pn, pi⟩, s4⟩ := r4
          simp only at T4 hstep hp2
          clear hown hR
          go_wp2_with fail
          (with_reducible refine T4.out.mono ?_)
          rintro e w4 ⟨rfl, hR4, hG4⟩
          have HO4 := hide (own_grown HO.out hG4 (by omega))
          have HG4 := hide (grown_trans HG1.out hG4)
          have HR4 := hide hR4
          have hsz4 := HG4.out.size
          clear hR4 hG4 HO HG1 T4
          go_wp2_with (at_builtin; refine wpList_append_any _ Try.okP (by rfl) (.tmp 28) (.tmp 31) (by rfl) w.heap.size _ _ (pcs L) (by rfl) (HO4.out.alloc _) (w4.heap.size + 1) (some ⟨w4.heap.size, 0, none⟩) 1 1 (pcs [(pn, pi)]) (by rfl) (reads_one w4 pn pi) (pc_one _) (by unfold maxLen; have := HL.out; omega) (by have := HL.out; omega) (by simp; omega) ?_; intro v1 w5 hown1 hg1 hnil1 hat1; have hk5 := grown_keep (grown_trans HG4.out (grown_below (below_alloc _ _))) hg1 (HO4.out.alloc _) (Nat.le_refl _) (by omega); have HR5 := hide ((HR4.out.step (below_alloc _ _)).keepB (fun i hi => hk5.2 i (by omega) (by simp; omega)) (by have := hg1.size; simp at this; omega)); have HG5 := hide hk5.1; have HO5 := hide hown1; obtain ⟨A1, c1, rfl, _, _⟩ := own_slice hown1; clear hown1 hg1 hnil1 hat1 hk5)
          go_roundw
          case rel =>
            refine ⟨k + 1, L ++ [(pn, pi)], s4, by omega, by go_num, by have := HL.out; simp; omega, ?_, ?_, ?_, ?_, HR5.out, HG5.out⟩
            · intro p hp
              rcases List.mem_append.1 hp with hp | hp
              · exact HNN.out p hp
              · simp at hp; subst hp; exact hp2
            · have h0 := HST.out
              rcases h0 with ⟨_, h0⟩ | ⟨h0, _⟩
              · cases hb4 : s4.2
                · left
                  refine ⟨rfl, ?_⟩
                  rw [h0, hstep.out, hb4]; simp
                · right
                  refine ⟨rfl, .inl ?_⟩
                  rw [h0, hstep.out, hb4]; simp [hb4]
              · cases h0
            · intro hb; have := HBB.out hb; cases this
            · rw [OwnP, List.length_append, pcs_app]; exact HO5.out
          case measure => simp [intOf]; omega
        · obtain rfl : k = n := by omega
          obtain ⟨A1, c1, rfl, _, _⟩ := own_slice hown
          have T6 := hide (refSet_b A1 c1 L wr (Reads.of_own hown) (by have := HL.out; omega) HNN.out)
          have hrun : rRun k (bs1, bad1) [] = (L, (bk, false)) := by
            rcases HST.out with ⟨_, h0⟩ | ⟨h0, _⟩
            · rw [h0, Nat.sub_self, rRun]
            · cases h0
          have HQ3 := hide (HQ2.out L (bk, false) hrun HBB.out)
          clear hown hR HST HQ2 hrun
          cases hset : setB L
          · rw [hset] at T6
            obtain ⟨q1, _, _, q4⟩ := HQ3.out
            have Q1 := hide (show Q.1 = [] by rw [q1, hset]; rfl)
            have Q4 := hide (q4 rfl hset)
            clear q1 q4 hset HQ3
            go_wp2_with fail
            (with_reducible refine T6.out.mono ?_)
            rintro e w4 ⟨rfl, hb4⟩
            have hR4 := HR.out.step hb4
            have HG4 := hide (grown_trans (grown_gw HG1.out hb4) (grown_setCell w4 g 1 (.bool true)))
            obtain ⟨v4, hbx4⟩ := hR4.box
            simp only at hbx4
            haveI := hbx4
            have HF := hide (hR4.fail Q.2.1)
            clear hb4 hR4
            go_wp2
            go_ret
            refine ⟨_, rfl, ?_, ?_, HG4.out⟩
            · rw [Q1.out]; exact own_nilP _ _
            · rw [show Q.2 = (Q.2.1, true) by rw [← Q4.out]]; exact HF.out
          · rw [hset] at T6
            obtain ⟨q1, _, q3, _⟩ := HQ3.out
            have Q1 := hide (show Q.1 = L by rw [q1, hset]; rfl)
            have Q3 := hide (q3 rfl hset)
            clear q1 q3 hset HQ3
            go_wp2_with fail
            (with_reducible refine T6.out.mono ?_)
            rintro e w4 ⟨rfl, hb4⟩
            have HR4 := hide (HR.out.step hb4)
            have HG4 := hide (grown_gw HG1.out hb4)
            have HO4 := hide (own_below HO.out hb4 (Nat.le_refl _))
            clear hb4
            go_wp2
            go_ret
            refine ⟨_, rfl, ?_, ?_, HG4.out⟩
            · rw [Q1.out]; exact HO4.out
            · rw [Q3.out]; exact HR4.out
      · have HQ3 : Hid (Q.1 = [] ∧ Q.2.2 = true) := hide (by
          rcases HST.out with ⟨h0, _⟩ | ⟨_, h0⟩
          · cases h0
          · rcases h0 with h0 | h0
            · obtain ⟨q1, q2, _⟩ := HQ2.out (rRun n (bs1, bad1) []).1 (rRun n (bs1, bad1) []).2 rfl (fun _ => h0)
              rw [h0] at q1
              exact ⟨q1, q2 h0⟩
            · have hrb : (rRun n (bs1, bad1) []).2.2 = true := by
                subst h0
                cases n with
                | zero => rfl
                | succ n => rw [rRun, rGet_badS]; rfl
              obtain ⟨q1, q2, _⟩ := HQ2.out (rRun n (bs1, bad1) []).1 (rRun n (bs1, bad1) []).2 rfl (fun _ => hrb)
              rw [hrb] at q1
              exact ⟨q1, q2 hrb⟩)
        have HF := hide (HR.out.fail Q.2.1)
        have HG4 := hide (grown_trans HG1.out (grown_setCell wr g 1 (.bool true)))
        obtain ⟨A1, c1, rfl, _, _⟩ := own_slice hown
        clear hown hR HST HQ2
        by_cases hlt : k < n
        all_goals
          go_wp2
          go_ret
          refine ⟨_, rfl, ?_, ?_, HG4.out⟩
          · rw [HQ3.out.1]; exact own_nilP _ _
          · rw [show Q.2 = (Q.2.1, true) by rw [← HQ3.out.2]]; exact HF.out
end Go.Proofs.Ytgpmcpinnaggmaa
