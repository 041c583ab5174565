/-
  Layer 6: contracts of the reference: Heads.
-/
import Derived.Test.YtggmninbpnolgaaGreatRefK
namespace Go.Proofs.YtggmninbpnolgaaGreat
set_option linter.unusedSimpArgs false
set_option linter.unusedVariables false
set_option linter.unusedSectionVars false
open Go.RowKit

def rheadB (k n : Int) (h : Hd) : Bool := (decide (1 ≤ h.d) && decide (h.d ≤ 10)) && (!(h.d == n) && (!(h.c == 0) && (decide (h.c < 34359738368) && (decide (h.s < 34359738368) && (decide (h.i < 34359738368) && !((k == 2) && ((h.s == 0) || (h.i != 0)) || ((k == 3) && (h.i == 0))))))))
def rokH (k n : Int) (hs : List Hd) (m : Nat) : Bool := rheadB k n (hs.getD m default) && (decide (m = 0) || !decide ((hs.getD m default).d ≤ (hs.getD (m - 1) default).d))
def rheadsB (k n : Int) (hs : List Hd) : Bool := (List.range hs.length).all (rokH k n hs)
theorem rheadsB_false {k n : Int} {hs : List Hd} {m : Nat} (hk : m < hs.length) (h : rokH k n hs m = false) : rheadsB k n hs = false := by
  unfold rheadsB
  rw [List.all_eq_false]
  exact ⟨m, List.mem_range.2 hk, by rw [h]; simp⟩
section
variable (k n i hp : Int) (HA : Option Addr) (hcp : Nat) (hs : List Hd) (BA : Option Addr) (bcp : Nat) (bs : List Int) (an ai sq : Int) (PA : Option Addr) (pcp : Nat) (ps : List Pr)
set_option maxRecDepth 100000 in
set_option maxHeartbeats 4000000 in
theorem rheads_s (w : World) (h : Reads w w.heap.size 4 HA hs.length (hcs hs)) (hl : hs.length ≤ 1000000) : Calls Tryz.prog 21 #[PkV k n i hp HA hs.length hcp BA bs.length bcp an ai sq PA ps.length pcp] w (RetB w (rheadsB k n hs && decide (1 ≤ (hs.length : Int)))) := by
  have T0 := hide (fun d W => rnode_s d W)
  have T1 := hide (fun c W => rcount_s c W)
  haveI : Src w HA hs.length 4 (hcs hs) := ⟨h⟩
  have hun : ∀ b, (some undef = some (Value.bool b)) = False := fun b => by simp [undef]
  clear h
  go_enter Tryz.func21, Tryz.ntmps21
  go_wp2_with fail
  go_loopw [3] (fun j wr => ∃ m : Nat, m ≤ hs.length ∧ j = .int .i64 m ∧ Below w.heap.size w wr ∧ BoxAt wr w.heap.size (csK k n i hp HA hs.length hcp BA bs.length bcp an ai sq PA ps.length pcp) 31 ∧ (List.range m).all (rokH k n hs) = true) (fun j _ => hs.length - (intOf j).toNat)
  case atStart => exact ⟨0, Nat.zero_le _, rfl, blw, inferInstance, by simp⟩
  case round =>
    obtain ⟨m, hm, rfl, hB, hbx, hall⟩ := hrel
    haveI : Blw w wr := ⟨hB⟩
    haveI := hbx
    have HN := hide hall
    clear hall hB
    by_cases hlt : m < hs.length
    · have HR : Hid (Reads wr w.heap.size 4 HA hs.length (hcs hs)) := hide srcB
      obtain ⟨b, off, p, rfl, hb, hp', g1, g2, g3, g4⟩ := HR.out.at4 hlt
      have HP := hide hp'
      haveI : InW b wr := ⟨Nat.lt_of_lt_of_le hb (Blw.h (a := w) (W := wr)).size⟩
      have i0 : (0 : Int) ≤ (m : Int) := by omega
      have i1 : (m : Int) < (hs.length : Int) := by omega
      have TN := hide (fun W => T0.out p.d W)
      have TA := hide (fun W => T1.out p.c W)
      have TB := hide (fun W => T1.out p.s W)
      have TD := hide (fun W => T1.out p.i W)
      clear hp'
      cases q1 : (decide (1 ≤ p.d) && decide (p.d ≤ 10))
      · rw [q1] at TN
        have H := hide (rheadsB_false (k := k) (n := n) hlt (show rokH k n hs m = false by unfold rokH rheadB; rw [getH HP.out]; simp [q1]))
        go_wp2_with fail
        go_quiet ((go_at_call 54; exact Calls.quiet_of_same ((TN.out _).mono (fun _ _ h => ⟨h.1, h.2.symm⟩))))
        go_wp2_with (go_at_call 49; (first | (with_reducible refine (TA.out _).mono ?_) | (with_reducible refine (TB.out _).mono ?_) | (with_reducible refine (TD.out _).mono ?_)); rintro e w2 ⟨rfl, rfl⟩)
        go_ret
        exact ⟨ret_b (by simp [H.out]), blw⟩
      · rw [q1] at TN
        cases q2 : (p.d == n)
        · by_cases hk0 : m = 0
          · have hk1 : decide (0 < m) = false := by simp; omega
            have HK0 := hide hk0
            clear hk0
            cases q3 : (p.c == 0)
            · cases q4 : decide (p.c < 34359738368)
              · rw [q4] at TA
                have H := hide (rheadsB_false (k := k) (n := n) hlt (show rokH k n hs m = false by unfold rokH rheadB; rw [getH HP.out]; simp [q1, q2, HK0.out, q3, q4]))
                go_wp2_with fail
                go_quiet ((go_at_call 54; exact Calls.quiet_of_same ((TN.out _).mono (fun _ _ h => ⟨h.1, h.2.symm⟩))))
                go_wp2_with (go_at_call 49; (first | (with_reducible refine (TA.out _).mono ?_) | (with_reducible refine (TB.out _).mono ?_) | (with_reducible refine (TD.out _).mono ?_)); rintro e w2 ⟨rfl, rfl⟩)
                go_ret
                exact ⟨ret_b (by simp [H.out]), blw⟩
              · rw [q4] at TA
                cases q5 : decide (p.s < 34359738368)
                · rw [q5] at TB
                  have H := hide (rheadsB_false (k := k) (n := n) hlt (show rokH k n hs m = false by unfold rokH rheadB; rw [getH HP.out]; simp [q1, q2, HK0.out, q3, q4, q5]))
                  go_wp2_with fail
                  go_quiet ((go_at_call 54; exact Calls.quiet_of_same ((TN.out _).mono (fun _ _ h => ⟨h.1, h.2.symm⟩))))
                  go_wp2_with (go_at_call 49; (first | (with_reducible refine (TA.out _).mono ?_) | (with_reducible refine (TB.out _).mono ?_) | (with_reducible refine (TD.out _).mono ?_)); rintro e w2 ⟨rfl, rfl⟩)
                  go_ret
                  exact ⟨ret_b (by simp [H.out]), blw⟩
                · rw [q5] at TB
                  cases q6 : decide (p.i < 34359738368)
                  · rw [q6] at TD
                    have H := hide (rheadsB_false (k := k) (n := n) hlt (show rokH k n hs m = false by unfold rokH rheadB; rw [getH HP.out]; simp [q1, q2, HK0.out, q3, q4, q5, q6]))
                    go_wp2_with fail
                    go_quiet ((go_at_call 54; exact Calls.quiet_of_same ((TN.out _).mono (fun _ _ h => ⟨h.1, h.2.symm⟩))))
                    go_wp2_with (go_at_call 49; (first | (with_reducible refine (TA.out _).mono ?_) | (with_reducible refine (TB.out _).mono ?_) | (with_reducible refine (TD.out _).mono ?_)); rintro e w2 ⟨rfl, rfl⟩)
                    go_ret
                    exact ⟨ret_b (by simp [H.out]), blw⟩
                  · rw [q6] at TD
                    cases k2 : (k == 2)
                    · cases k3 : (k == 3)
                      · have H := hide (show (List.range (m + 1)).all (rokH k n hs) = true by rw [all_succ, HN.out]; unfold rokH rheadB; rw [getH HP.out]; simp [q1, q2, HK0.out, q3, q4, q5, q6, k2, k3])
                        go_wp2_with fail
                        go_quiet ((go_at_call 54; exact Calls.quiet_of_same ((TN.out _).mono (fun _ _ h => ⟨h.1, h.2.symm⟩))))
                        go_wp2_with (go_at_call 49; (first | (with_reducible refine (TA.out _).mono ?_) | (with_reducible refine (TB.out _).mono ?_) | (with_reducible refine (TD.out _).mono ?_)); rintro e w2 ⟨rfl, rfl⟩)
                        go_roundw
                        case rel => exact ⟨m + 1, by omega, by go_num, blw, inferInstance, H.out⟩
                        case measure => simp [intOf]; omega
                      · cases q7 : (p.i == 0)
                        · have H := hide (show (List.range (m + 1)).all (rokH k n hs) = true by rw [all_succ, HN.out]; unfold rokH rheadB; rw [getH HP.out]; simp [q1, q2, HK0.out, q3, q4, q5, q6, k2, k3, q7])
                          go_wp2_with fail
                          go_quiet ((go_at_call 54; exact Calls.quiet_of_same ((TN.out _).mono (fun _ _ h => ⟨h.1, h.2.symm⟩))))
                          go_wp2_with (go_at_call 49; (first | (with_reducible refine (TA.out _).mono ?_) | (with_reducible refine (TB.out _).mono ?_) | (with_reducible refine (TD.out _).mono ?_)); rintro e w2 ⟨rfl, rfl⟩)
                          go_roundw
                          case rel => exact ⟨m + 1, by omega, by go_num, blw, inferInstance, H.out⟩
                          case measure => simp [intOf]; omega
                        · have H := hide (rheadsB_false (k := k) (n := n) hlt (show rokH k n hs m = false by unfold rokH rheadB; rw [getH HP.out]; simp [q1, q2, HK0.out, q3, q4, q5, q6, k2, k3, q7]))
                          go_wp2_with fail
                          go_quiet ((go_at_call 54; exact Calls.quiet_of_same ((TN.out _).mono (fun _ _ h => ⟨h.1, h.2.symm⟩))))
                          go_wp2_with (go_at_call 49; (first | (with_reducible refine (TA.out _).mono ?_) | (with_reducible refine (TB.out _).mono ?_) | (with_reducible refine (TD.out _).mono ?_)); rintro e w2 ⟨rfl, rfl⟩)
                          go_ret
                          exact ⟨ret_b (by simp [H.out]), blw⟩
                    · have k3 : (k == 3) = false := by have := k2; simp at this; subst this; rfl
                      cases q7 : (p.s == 0)
                      · cases q8 : (p.i != 0)
                        · have H := hide (show (List.range (m + 1)).all (rokH k n hs) = true by rw [all_succ, HN.out]; unfold rokH rheadB; rw [getH HP.out]; simp [q1, q2, HK0.out, q3, q4, q5, q6, k2, k3, q7, q8])
                          go_wp2_with fail
                          go_quiet ((go_at_call 54; exact Calls.quiet_of_same ((TN.out _).mono (fun _ _ h => ⟨h.1, h.2.symm⟩))))
                          go_wp2_with (go_at_call 49; (first | (with_reducible refine (TA.out _).mono ?_) | (with_reducible refine (TB.out _).mono ?_) | (with_reducible refine (TD.out _).mono ?_)); rintro e w2 ⟨rfl, rfl⟩)
                          go_roundw
                          case rel => exact ⟨m + 1, by omega, by go_num, blw, inferInstance, H.out⟩
                          case measure => simp [intOf]; omega
                        · have H := hide (rheadsB_false (k := k) (n := n) hlt (show rokH k n hs m = false by unfold rokH rheadB; rw [getH HP.out]; simp [q1, q2, HK0.out, q3, q4, q5, q6, k2, k3, q7, q8]))
                          go_wp2_with fail
                          go_quiet ((go_at_call 54; exact Calls.quiet_of_same ((TN.out _).mono (fun _ _ h => ⟨h.1, h.2.symm⟩))))
                          go_wp2_with (go_at_call 49; (first | (with_reducible refine (TA.out _).mono ?_) | (with_reducible refine (TB.out _).mono ?_) | (with_reducible refine (TD.out _).mono ?_)); rintro e w2 ⟨rfl, rfl⟩)
                          go_ret
                          exact ⟨ret_b (by simp [H.out]), blw⟩
                      · have H := hide (rheadsB_false (k := k) (n := n) hlt (show rokH k n hs m = false by unfold rokH rheadB; rw [getH HP.out]; simp [q1, q2, HK0.out, q3, q4, q5, q6, k2, k3, q7]))
                        go_wp2_with fail
                        go_quiet ((go_at_call 54; exact Calls.quiet_of_same ((TN.out _).mono (fun _ _ h => ⟨h.1, h.2.symm⟩))))
                        go_wp2_with (go_at_call 49; (first | (with_reducible refine (TA.out _).mono ?_) | (with_reducible refine (TB.out _).mono ?_) | (with_reducible refine (TD.out _).mono ?_)); rintro e w2 ⟨rfl, rfl⟩)
                        go_ret
                        exact ⟨ret_b (by simp [H.out]), blw⟩
            · have H := hide (rheadsB_false (k := k) (n := n) hlt (show rokH k n hs m = false by unfold rokH rheadB; rw [getH HP.out]; simp [q1, q2, HK0.out, q3]))
              go_wp2_with fail
              go_quiet ((go_at_call 54; exact Calls.quiet_of_same ((TN.out _).mono (fun _ _ h => ⟨h.1, h.2.symm⟩))))
              go_wp2_with (go_at_call 49; (first | (with_reducible refine (TA.out _).mono ?_) | (with_reducible refine (TB.out _).mono ?_) | (with_reducible refine (TD.out _).mono ?_)); rintro e w2 ⟨rfl, rfl⟩)
              go_ret
              exact ⟨ret_b (by simp [H.out]), blw⟩
          · obtain ⟨b', off', p', he, hb', hq', e1, e2, e3, e4⟩ := HR.out.at4 (k := m - 1) (by omega)
            injection he with he
            injection he with he1 he2
            subst he1 he2
            have HP' := hide hq'
            clear hq'
            have j0 : (0 : Int) < (m : Int) := by omega
            have hk1 : decide (0 < m) = true := by simp; omega
            have j1 : (0 : Int) ≤ (m : Int) - 1 := by omega
            have j2 : (m : Int) - 1 < (hs.length : Int) := by omega
            have j3 : ((m : Int) - 1).toNat = m - 1 := by omega
            cases q9 : decide (p.d ≤ p'.d)
            · cases q3 : (p.c == 0)
              · cases q4 : decide (p.c < 34359738368)
                · rw [q4] at TA
                  have H := hide (rheadsB_false (k := k) (n := n) hlt (show rokH k n hs m = false by unfold rokH rheadB; rw [getH HP.out, getH HP'.out]; simp [q1, q2, q9, q3, q4]))
                  go_wp2_with fail
                  go_quiet ((go_at_call 54; exact Calls.quiet_of_same ((TN.out _).mono (fun _ _ h => ⟨h.1, h.2.symm⟩))))
                  go_wp2_with (go_at_call 49; (first | (with_reducible refine (TA.out _).mono ?_) | (with_reducible refine (TB.out _).mono ?_) | (with_reducible refine (TD.out _).mono ?_)); rintro e w2 ⟨rfl, rfl⟩)
                  go_ret
                  exact ⟨ret_b (by simp [H.out]), blw⟩
                · rw [q4] at TA
                  cases q5 : decide (p.s < 34359738368)
                  · rw [q5] at TB
                    have H := hide (rheadsB_false (k := k) (n := n) hlt (show rokH k n hs m = false by unfold rokH rheadB; rw [getH HP.out, getH HP'.out]; simp [q1, q2, q9, q3, q4, q5]))
                    go_wp2_with fail
                    go_quiet ((go_at_call 54; exact Calls.quiet_of_same ((TN.out _).mono (fun _ _ h => ⟨h.1, h.2.symm⟩))))
                    go_wp2_with (go_at_call 49; (first | (with_reducible refine (TA.out _).mono ?_) | (with_reducible refine (TB.out _).mono ?_) | (with_reducible refine (TD.out _).mono ?_)); rintro e w2 ⟨rfl, rfl⟩)
                    go_ret
                    exact ⟨ret_b (by simp [H.out]), blw⟩
                  · rw [q5] at TB
                    cases q6 : decide (p.i < 34359738368)
                    · rw [q6] at TD
                      have H := hide (rheadsB_false (k := k) (n := n) hlt (show rokH k n hs m = false by unfold rokH rheadB; rw [getH HP.out, getH HP'.out]; simp [q1, q2, q9, q3, q4, q5, q6]))
                      go_wp2_with fail
                      go_quiet ((go_at_call 54; exact Calls.quiet_of_same ((TN.out _).mono (fun _ _ h => ⟨h.1, h.2.symm⟩))))
                      go_wp2_with (go_at_call 49; (first | (with_reducible refine (TA.out _).mono ?_) | (with_reducible refine (TB.out _).mono ?_) | (with_reducible refine (TD.out _).mono ?_)); rintro e w2 ⟨rfl, rfl⟩)
                      go_ret
                      exact ⟨ret_b (by simp [H.out]), blw⟩
                    · rw [q6] at TD
                      cases k2 : (k == 2)
                      · cases k3 : (k == 3)
                        · have H := hide (show (List.range (m + 1)).all (rokH k n hs) = true by rw [all_succ, HN.out]; unfold rokH rheadB; rw [getH HP.out, getH HP'.out]; simp [q1, q2, q9, q3, q4, q5, q6, k2, k3])
                          go_wp2_with fail
                          go_quiet ((go_at_call 54; exact Calls.quiet_of_same ((TN.out _).mono (fun _ _ h => ⟨h.1, h.2.symm⟩))))
                          go_wp2_with (go_at_call 49; (first | (with_reducible refine (TA.out _).mono ?_) | (with_reducible refine (TB.out _).mono ?_) | (with_reducible refine (TD.out _).mono ?_)); rintro e w2 ⟨rfl, rfl⟩)
                          go_roundw
                          case rel => exact ⟨m + 1, by omega, by go_num, blw, inferInstance, H.out⟩
                          case measure => simp [intOf]; omega
                        · cases q7 : (p.i == 0)
                          · have H := hide (show (List.range (m + 1)).all (rokH k n hs) = true by rw [all_succ, HN.out]; unfold rokH rheadB; rw [getH HP.out, getH HP'.out]; simp [q1, q2, q9, q3, q4, q5, q6, k2, k3, q7])
                            go_wp2_with fail
                            go_quiet ((go_at_call 54; exact Calls.quiet_of_same ((TN.out _).mono (fun _ _ h => ⟨h.1, h.2.symm⟩))))
                            go_wp2_with (go_at_call 49; (first | (with_reducible refine (TA.out _).mono ?_) | (with_reducible refine (TB.out _).mono ?_) | (with_reducible refine (TD.out _).mono ?_)); rintro e w2 ⟨rfl, rfl⟩)
                            go_roundw
                            case rel => exact ⟨m + 1, by omega, by go_num, blw, inferInstance, H.out⟩
                            case measure => simp [intOf]; omega
                          · have H := hide (rheadsB_false (k := k) (n := n) hlt (show rokH k n hs m = false by unfold rokH rheadB; rw [getH HP.out, getH HP'.out]; simp [q1, q2, q9, q3, q4, q5, q6, k2, k3, q7]))
                            go_wp2_with fail
                            go_quiet ((go_at_call 54; exact Calls.quiet_of_same ((TN.out _).mono (fun _ _ h => ⟨h.1, h.2.symm⟩))))
                            go_wp2_with (go_at_call 49; (first | (with_reducible refine (TA.out _).mono ?_) | (with_reducible refine (TB.out _).mono ?_) | (with_reducible refine (TD.out _).mono ?_)); rintro e w2 ⟨rfl, rfl⟩)
                            go_ret
                            exact ⟨ret_b (by simp [H.out]), blw⟩
                      · have k3 : (k == 3) = false := by have := k2; simp at this; subst this; rfl
                        cases q7 : (p.s == 0)
                        · cases q8 : (p.i != 0)
                          · have H := hide (show (List.range (m + 1)).all (rokH k n hs) = true by rw [all_succ, HN.out]; unfold rokH rheadB; rw [getH HP.out, getH HP'.out]; simp [q1, q2, q9, q3, q4, q5, q6, k2, k3, q7, q8])
                            go_wp2_with fail
                            go_quiet ((go_at_call 54; exact Calls.quiet_of_same ((TN.out _).mono (fun _ _ h => ⟨h.1, h.2.symm⟩))))
                            go_wp2_with (go_at_call 49; (first | (with_reducible refine (TA.out _).mono ?_) | (with_reducible refine (TB.out _).mono ?_) | (with_reducible refine (TD.out _).mono ?_)); rintro e w2 ⟨rfl, rfl⟩)
                            go_roundw
                            case rel => exact ⟨m + 1, by omega, by go_num, blw, inferInstance, H.out⟩
                            case measure => simp [intOf]; omega
                          · have H := hide (rheadsB_false (k := k) (n := n) hlt (show rokH k n hs m = false by unfold rokH rheadB; rw [getH HP.out, getH HP'.out]; simp [q1, q2, q9, q3, q4, q5, q6, k2, k3, q7, q8]))
                            go_wp2_with fail
                            go_quiet ((go_at_call 54; exact Calls.quiet_of_same ((TN.out _).mono (fun _ _ h => ⟨h.1, h.2.symm⟩))))
                            go_wp2_with (go_at_call 49; (first | (with_reducible refine (TA.out _).mono ?_) | (with_reducible refine (TB.out _).mono ?_) | (with_reducible refine (TD.out _).mono ?_)); rintro e w2 ⟨rfl, rfl⟩)
                            go_ret
                            exact ⟨ret_b (by simp [H.out]), blw⟩
                        · have H := hide (rheadsB_false (k := k) (n := n) hlt (show rokH k n hs m = false by unfold rokH rheadB; rw [getH HP.out, getH HP'.out]; simp [q1, q2, q9, q3, q4, q5, q6, k2, k3, q7]))
                          go_wp2_with fail
                          go_quiet ((go_at_call 54; exact Calls.quiet_of_same ((TN.out _).mono (fun _ _ h => ⟨h.1, h.2.symm⟩))))
                          go_wp2_with (go_at_call 49; (first | (with_reducible refine (TA.out _).mono ?_) | (with_reducible refine (TB.out _).mono ?_) | (with_reducible refine (TD.out _).mono ?_)); rintro e w2 ⟨rfl, rfl⟩)
                          go_ret
                          exact ⟨ret_b (by simp [H.out]), blw⟩
              · have H := hide (rheadsB_false (k := k) (n := n) hlt (show rokH k n hs m = false by unfold rokH rheadB; rw [getH HP.out, getH HP'.out]; simp [q1, q2, q9, q3]))
                go_wp2_with fail
                go_quiet ((go_at_call 54; exact Calls.quiet_of_same ((TN.out _).mono (fun _ _ h => ⟨h.1, h.2.symm⟩))))
                go_wp2_with (go_at_call 49; (first | (with_reducible refine (TA.out _).mono ?_) | (with_reducible refine (TB.out _).mono ?_) | (with_reducible refine (TD.out _).mono ?_)); rintro e w2 ⟨rfl, rfl⟩)
                go_ret
                exact ⟨ret_b (by simp [H.out]), blw⟩
            · have H := hide (rheadsB_false (k := k) (n := n) hlt (show rokH k n hs m = false by unfold rokH rheadB; rw [getH HP.out, getH HP'.out]; simp [q9, hk0]))
              go_wp2_with fail
              go_quiet ((go_at_call 54; exact Calls.quiet_of_same ((TN.out _).mono (fun _ _ h => ⟨h.1, h.2.symm⟩))))
              go_wp2_with (go_at_call 49; (first | (with_reducible refine (TA.out _).mono ?_) | (with_reducible refine (TB.out _).mono ?_) | (with_reducible refine (TD.out _).mono ?_)); rintro e w2 ⟨rfl, rfl⟩)
              go_ret
              exact ⟨ret_b (by simp [H.out]), blw⟩
        · have H := hide (rheadsB_false (k := k) (n := n) hlt (show rokH k n hs m = false by unfold rokH rheadB; rw [getH HP.out]; simp [q1, q2]))
          go_wp2_with fail
          go_quiet ((go_at_call 54; exact Calls.quiet_of_same ((TN.out _).mono (fun _ _ h => ⟨h.1, h.2.symm⟩))))
          go_wp2_with (go_at_call 49; (first | (with_reducible refine (TA.out _).mono ?_) | (with_reducible refine (TB.out _).mono ?_) | (with_reducible refine (TD.out _).mono ?_)); rintro e w2 ⟨rfl, rfl⟩)
          go_ret
          exact ⟨ret_b (by simp [H.out]), blw⟩
    · have H := hide (show rheadsB k n hs = true by
        have : m = hs.length := by omega
        subst this; exact HN.out)
      go_wp2
      go_ret
      exact ⟨ret_b (by simp [H.out]), blw⟩
end
end Go.Proofs.YtggmninbpnolgaaGreat
