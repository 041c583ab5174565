/-
  Layer 6: contracts: sent, mayData, mayAck.
-/
import Derived.Test.YthkkadbgggaenaaPk
namespace Go.Proofs.Ythkkadbgggaenaa
set_option linter.unusedSimpArgs false
set_option linter.unusedVariables false
set_option linter.unusedSectionVars false
open Go.RowKit

abbrev PkV (k n i hp : Int) (HA : Option Addr) (hl hcp : Nat) (BA : Option Addr) (bl bcp : Nat) (an ai sq : Int) (PA : Option Addr) (pl pcp : Nat) : Value := .agg #[.int .i64 k, .int .i64 n, .int .u64 i, .int .i64 hp, .slice HA hl hcp, .slice BA bl bcp, .int .i64 an, .int .u64 ai, .int .u64 sq, .slice PA pl pcp]
abbrev csK (k n i hp : Int) (HA : Option Addr) (hl hcp : Nat) (BA : Option Addr) (bl bcp : Nat) (an ai sq : Int) (PA : Option Addr) (pl pcp : Nat) : Array Value := #[.int .i64 k, .int .i64 n, .int .u64 i, .int .i64 hp, .slice HA hl hcp, .slice BA bl bcp, .int .i64 an, .int .u64 ai, .int .u64 sq, .slice PA pl pcp]
def headB (n : Int) (h : Hd) : Bool := !decide (h.d < 1) && (!decide (10 < h.d) && (!(h.d == n) && countB h.c 1))
def okH (n : Int) (hs : List Hd) (k : Nat) : Bool := headB n (hs.getD k default) && (decide (k = 0) || !decide ((hs.getD k default).d ≤ (hs.getD (k - 1) default).d))
def headsB (n : Int) (hs : List Hd) : Bool := (List.range hs.length).all (okH n hs)
theorem headsB_false {n : Int} {hs : List Hd} {k : Nat} (hk : k < hs.length) (h : okH n hs k = false) : headsB n hs = false := by
  unfold headsB
  rw [List.all_eq_false]
  exact ⟨k, List.mem_range.2 hk, by rw [h]; simp⟩
theorem getH {l : List Hd} {k : Nat} {p : Hd} (h : l[k]? = some p) : l.getD k default = p := by simp [List.getD, h]
def sentB (n i hp : Int) (hs : List Hd) (an ai sq : Int) (ps : List Pr) : Bool :=
  lifeB n i && (!decide (hp < 0) && (!decide (8 < hp) && (!((hs.length : Int) == 0) && (eqP an ai 0 0 && (!(sq != 0) && (!((ps.length : Int) != 0) && headsB n hs))))))
section
variable (k n i hp : Int) (HA : Option Addr) (hcp : Nat) (hs : List Hd) (BA : Option Addr) (bcp : Nat) (bs : List Int) (an ai sq : Int) (PA : Option Addr) (pcp : Nat) (ps : List Pr)
set_option maxRecDepth 100000 in
set_option maxHeartbeats 4000000 in
theorem sent_s (w : World) (h : Reads w w.heap.size 4 HA hs.length (hcs hs)) (hl : hs.length ≤ 1000000) : Calls Try.prog 152 #[PkV k n i hp HA hs.length hcp BA bs.length bcp an ai sq PA ps.length pcp] w (RetB w (sentB n i hp hs an ai sq ps)) := by
  have TL := hide (fun W => life_s n i W)
  have TC := hide (fun c W => count_s c 1 W)
  haveI : Src w HA hs.length 4 (hcs hs) := ⟨h⟩
  unfold sentB
  clear h
  cases f1 : lifeB n i
  · rw [f1] at TL
    go_enter Try.func152, Try.ntmps152
    go_wp2_with (go_at_call 175; (with_reducible refine (TL.out _).mono ?_); rintro e w1 ⟨rfl, hb1⟩; haveI : Stp _ w1 := ⟨hb1⟩; clear hb1)
    go_ret
    exact ⟨ret_b (by simp), blw⟩
  · rw [f1] at TL
    cases f2 : decide (hp < 0)
    · cases f3 : decide (8 < hp)
      · cases f4 : ((hs.length : Int) == 0)
        · cases f5 : eqP an ai 0 0
          · go_enter Try.func152, Try.ntmps152
            go_wp2_with (go_at_call 175; (with_reducible refine (TL.out _).mono ?_); rintro e w1 ⟨rfl, hb1⟩; haveI : Stp _ w1 := ⟨hb1⟩; clear hb1)
            go_ret
            exact ⟨ret_b (by simp), blw⟩
          · cases f6 : (sq != 0)
            · cases f7 : ((ps.length : Int) != 0)
              · go_enter Try.func152, Try.ntmps152
                go_wp2_with (go_at_call 175; (with_reducible refine (TL.out _).mono ?_); rintro e w1 ⟨rfl, hb1⟩; haveI : Stp _ w1 := ⟨hb1⟩; clear hb1)
                go_loopw [46] (fun j wr => ∃ m : Nat, m ≤ hs.length ∧ j = .int .i64 m ∧ Below w.heap.size w wr ∧ BoxAt wr w.heap.size (csK k n i hp HA hs.length hcp BA bs.length bcp an ai sq PA ps.length pcp) 68 ∧ (List.range m).all (okH n hs) = true) (fun j _ => hs.length - (intOf j).toNat)
                case atStart => exact ⟨0, Nat.zero_le _, rfl, blw, inferInstance, by simp⟩
                case round =>
                  obtain ⟨m, hm, rfl, hB, hbx, hall⟩ := hrel
                  haveI : Blw w wr := ⟨hB⟩
                  haveI := hbx
                  have HN := hide hall
                  clear hall hB
                  by_cases hlt : m < hs.length
                  · have HR : Hid (Reads wr w.heap.size 4 HA hs.length (hcs hs)) := hide srcB
                    obtain ⟨b, off, p, rfl, hb, hp, g1, g2, g3, g4⟩ := HR.out.at4 hlt
                    have HP := hide hp
                    haveI : InW b wr := ⟨Nat.lt_of_lt_of_le hb (Blw.h (a := w) (W := wr)).size⟩
                    have i0 : (0 : Int) ≤ (m : Int) := by omega
                    have i1 : (m : Int) < (hs.length : Int) := by omega
                    have TC2 := hide (fun W => TC.out p.c W)
                    clear hp
                    cases q1 : decide (p.d < 1)
                    · cases q2 : decide (10 < p.d)
                      · cases q3 : (p.d == n)
                        · cases q4 : countB p.c 1
                          · rw [q4] at TC2
                            have H := hide (headsB_false (n := n) hlt (show okH n hs m = false by unfold okH headB; rw [getH HP.out]; simp [q1, q2, q3, q4]))
                            go_wp2_with (go_at_call 149; (with_reducible refine (TC2.out _).mono ?_); rintro e w2 ⟨rfl, rfl⟩)
                            go_ret
                            exact ⟨ret_b (by simp [H.out]), blw⟩
                          · rw [q4] at TC2
                            by_cases hk0 : m = 0
                            · have H := hide (show (List.range (m + 1)).all (okH n hs) = true by rw [all_succ, HN.out]; unfold okH headB; rw [getH HP.out]; simp [q1, q2, q3, q4, hk0])
                              have hk1 : decide (0 < m) = false := by simp; omega
                              clear hk0
                              go_wp2_with (go_at_call 149; (with_reducible refine (TC2.out _).mono ?_); rintro e w2 ⟨rfl, rfl⟩)
                              go_quiet (fail)
                              go_wp2
                              go_roundw
                              case rel => exact ⟨m + 1, by omega, by go_num, blw, inferInstance, H.out⟩
                              case measure => simp [intOf]; omega
                            · obtain ⟨b', off', p', he, hb', hp', e1, e2, e3, e4⟩ := HR.out.at4 (k := m - 1) (by omega)
                              injection he with he
                              injection he with he1 he2
                              subst he1 he2
                              have HP' := hide hp'
                              clear hp'
                              have j0 : (0 : Int) < (m : Int) := by omega
                              have hk1 : decide (0 < m) = true := by simp; omega
                              have j1 : (0 : Int) ≤ (m : Int) - 1 := by omega
                              have j2 : (m : Int) - 1 < (hs.length : Int) := by omega
                              have j3 : ((m : Int) - 1).toNat = m - 1 := by omega
                              cases q5 : decide (p.d ≤ p'.d)
                              · have H := hide (show (List.range (m + 1)).all (okH n hs) = true by rw [all_succ, HN.out]; unfold okH headB; rw [getH HP.out, getH HP'.out]; simp [q1, q2, q3, q4, q5])
                                go_wp2_with (go_at_call 149; (with_reducible refine (TC2.out _).mono ?_); rintro e w2 ⟨rfl, rfl⟩)
                                go_quiet (fail)
                                go_wp2
                                go_roundw
                                case rel => exact ⟨m + 1, by omega, by go_num, blw, inferInstance, H.out⟩
                                case measure => simp [intOf]; omega
                              · have H := hide (headsB_false (n := n) hlt (show okH n hs m = false by unfold okH headB; rw [getH HP.out, getH HP'.out]; simp [q5, hk0]))
                                go_wp2_with (go_at_call 149; (with_reducible refine (TC2.out _).mono ?_); rintro e w2 ⟨rfl, rfl⟩)
                                go_quiet (fail)
                                go_wp2
                                go_ret
                                exact ⟨ret_b (by simp [H.out]), blw⟩
                        · have H := hide (headsB_false (n := n) hlt (show okH n hs m = false by unfold okH headB; rw [getH HP.out]; simp [q1, q2, q3]))
                          go_wp2_with (go_at_call 149; (with_reducible refine (TC2.out _).mono ?_); rintro e w2 ⟨rfl, rfl⟩)
                          go_ret
                          exact ⟨ret_b (by simp [H.out]), blw⟩
                      · have H := hide (headsB_false (n := n) hlt (show okH n hs m = false by unfold okH headB; rw [getH HP.out]; simp [q1, q2]))
                        go_wp2_with (go_at_call 149; (with_reducible refine (TC2.out _).mono ?_); rintro e w2 ⟨rfl, rfl⟩)
                        go_ret
                        exact ⟨ret_b (by simp [H.out]), blw⟩
                    · have H := hide (headsB_false (n := n) hlt (show okH n hs m = false by unfold okH headB; rw [getH HP.out]; simp [q1]))
                      go_wp2_with (go_at_call 149; (with_reducible refine (TC2.out _).mono ?_); rintro e w2 ⟨rfl, rfl⟩)
                      go_ret
                      exact ⟨ret_b (by simp [H.out]), blw⟩
                  · have H := hide (show headsB n hs = true by
                      have : m = hs.length := by omega
                      subst this; exact HN.out)
                    go_wp2
                    go_ret
                    exact ⟨ret_b (by simp [H.out]), blw⟩
              · go_enter Try.func152, Try.ntmps152
                go_wp2_with (go_at_call 175; (with_reducible refine (TL.out _).mono ?_); rintro e w1 ⟨rfl, hb1⟩; haveI : Stp _ w1 := ⟨hb1⟩; clear hb1)
                go_ret
                exact ⟨ret_b (by simp), blw⟩
            · go_enter Try.func152, Try.ntmps152
              go_wp2_with (go_at_call 175; (with_reducible refine (TL.out _).mono ?_); rintro e w1 ⟨rfl, hb1⟩; haveI : Stp _ w1 := ⟨hb1⟩; clear hb1)
              go_ret
              exact ⟨ret_b (by simp), blw⟩
        · go_enter Try.func152, Try.ntmps152
          go_wp2_with (go_at_call 175; (with_reducible refine (TL.out _).mono ?_); rintro e w1 ⟨rfl, hb1⟩; haveI : Stp _ w1 := ⟨hb1⟩; clear hb1)
          go_ret
          exact ⟨ret_b (by simp), blw⟩
      · go_enter Try.func152, Try.ntmps152
        go_wp2_with (go_at_call 175; (with_reducible refine (TL.out _).mono ?_); rintro e w1 ⟨rfl, hb1⟩; haveI : Stp _ w1 := ⟨hb1⟩; clear hb1)
        go_ret
        exact ⟨ret_b (by simp), blw⟩
    · go_enter Try.func152, Try.ntmps152
      go_wp2_with (go_at_call 175; (with_reducible refine (TL.out _).mono ?_); rintro e w1 ⟨rfl, hb1⟩; haveI : Stp _ w1 := ⟨hb1⟩; clear hb1)
      go_ret
      exact ⟨ret_b (by simp), blw⟩
end
end Go.Proofs.Ythkkadbgggaenaa
