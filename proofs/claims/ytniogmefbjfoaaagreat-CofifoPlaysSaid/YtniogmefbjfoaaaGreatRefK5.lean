/-
  Layer 6: contracts of the reference: Count, Node, Life, Server, servers.
-/
import Derived.Test.YtniogmefbjfoaaaGreatPk3
import Derived.Test.YtniogmefbjfoaaaGreatTcG
import Derived.Test.YtniogmefbjfoaaaGreatPkL
import Derived.Deep.DeepCutAuto
namespace Go.Proofs.YtniogmefbjfoaaaGreat
set_option linter.unusedSimpArgs false
set_option linter.unusedVariables false
set_option linter.unusedSectionVars false
open Go.RowKit

theorem rcount_s (x : Int) (w : World) : Calls Tryz.prog 18 #[.int .u64 x] w fun e w' => e = .returned (.bool (decide (x < 34359738368))) ∧ w = w' := by
  by_cases h1 : x < 34359738368
  · have H := hide (show decide (x < 34359738368) = true from decide_eq_true h1)
    go_enter Tryz.func18, Tryz.ntmps18
    go_wp2
    go_ret
    exact ⟨ret_b H.out.symm, rfl⟩
  · have H := hide (show decide (x < 34359738368) = false from decide_eq_false h1)
    go_enter Tryz.func18, Tryz.ntmps18
    go_wp2
    go_ret
    exact ⟨ret_b H.out.symm, rfl⟩
theorem rnode_s (x : Int) (w : World) : Calls Tryz.prog 66 #[.int .i64 x] w fun e w' => e = .returned (.bool (decide (1 ≤ x) && decide (x ≤ 10))) ∧ w = w' := by
  cases h1 : decide (1 ≤ x)
  · go_enter Tryz.func66, Tryz.ntmps66
    go_wp2
    go_ret
    exact ⟨rfl, rfl⟩
  · go_enter Tryz.func66, Tryz.ntmps66
    go_wp2
    go_ret
    exact ⟨ret_b (by simp), rfl⟩
theorem lifeB_eq (n i : Int) (h0 : 0 ≤ i) : lifeB n i = (mayB n i && decide (i < 34359738368)) := by
  cases hm : mayB n i
  · simp [lifeB, hm]
  · have h1 : 1 ≤ i := by simp [mayB] at hm; omega
    rw [lifeB, hm, countB, decide_eq_true h1, Bool.true_and, Bool.true_and, Bool.true_and]
    exact decide_eq_decide.2 ⟨fun h => by omega, fun h => by omega⟩
theorem rlife_s (n i : Int) (w : World) (h0 : 0 ≤ i) : Calls Tryz.prog 71 #[.agg #[.int .i64 n, .int .u64 i]] w (RetB w (lifeB n i)) := by
  have TM := hide (fun W => refMay_b n i W h0)
  have TC := hide (fun W => rcount_s i W)
  rw [lifeB_eq n i h0]
  clear h0
  cases hm : mayB n i with
  | false =>
    rw [hm] at TM
    clear hm
    go_enter Tryz.func71, Tryz.ntmps71
    go_wp2_with (go_at_call 17; (with_reducible refine (TM.out _).mono ?_); rintro e w1 ⟨rfl, hb⟩; haveI : Stp _ w1 := ⟨hb⟩; clear hb)
    go_ret
    exact ⟨rfl, blw⟩
  | true =>
    rw [hm] at TM
    clear hm
    cases hc : decide (i < 34359738368) with
    | _ =>
      rw [hc] at TC
      clear hc
      go_enter Tryz.func71, Tryz.ntmps71
      go_wp2_with (first
        | (go_at_call 17; (with_reducible refine (TM.out _).mono ?_); rintro e w1 ⟨rfl, hb⟩; haveI : Stp _ w1 := ⟨hb⟩; clear hb)
        | (go_at_call 18; (with_reducible refine (TC.out _).mono ?_); rintro e w2 ⟨rfl, rfl⟩))
      go_ret
      exact ⟨rfl, blw⟩
set_option maxHeartbeats 400000 in
theorem rserv_s (n i : Int) (w : World) (h0 : 0 ≤ i) : Calls Tryz.prog 94 #[.agg #[.int .i64 n, .int .u64 i]] w (RetB w (servB n i)) := by
  have TM := hide (fun W => rlife_s n i W h0)
  unfold servB
  clear h0
  cases hm : lifeB n i with
  | false =>
    rw [hm] at TM
    clear hm
    go_enter Tryz.func94, Tryz.ntmps94
    go_wp2_with (go_at_call 71; (with_reducible refine (TM.out _).mono ?_); rintro e w1 ⟨rfl, hb⟩; haveI : Stp _ w1 := ⟨hb⟩; clear hb)
    go_ret
    exact ⟨rfl, blw⟩
  | true =>
    rw [hm] at TM
    clear hm
    go_enter Tryz.func94, Tryz.ntmps94
    go_wp2_with (go_at_call 71; (with_reducible refine (TM.out _).mono ?_); rintro e w1 ⟨rfl, hb⟩; haveI : Stp _ w1 := ⟨hb⟩; clear hb)
    go_ret
    exact ⟨ret_b (by simp), blw⟩
end Go.Proofs.YtniogmefbjfoaaaGreat

namespace Go.Proofs.YtniogmefbjfoaaaGreat
set_option linter.unusedSimpArgs false
set_option linter.unusedVariables false
set_option linter.unusedSectionVars false
open Go.RowKit

set_option maxHeartbeats 1000000 in
theorem rservers_s (A : Option Addr) (c : Nat) (l : List Pr) (w : World) (h : Sl w A l) (hn : l.length ≤ 1000000) (h0 : ∀ p ∈ l, 0 ≤ p.2) : Calls Tryz.prog 96 #[.slice A l.length c] w (RetB w (l.all fun p => servB p.1 p.2)) := by
  have H0 := hide h0
  haveI : Src w A l.length 2 (pcs l) := ⟨h⟩
  clear h h0
  go_enter Tryz.func96, Tryz.ntmps96
  go_wp2
  go_loopw [3] (fun j wr => ∃ m : Nat, m ≤ l.length ∧ j = .int .i64 m ∧ Below w.heap.size w wr ∧ (l.take m).all (fun p => servB p.1 p.2) = true) (fun j _ => l.length - (intOf j).toNat)
  case atStart => exact ⟨0, Nat.zero_le _, rfl, blw, rfl⟩
  case round =>
    obtain ⟨m, hm, rfl, hB, htk⟩ := hrel
    haveI : Blw w wr := ⟨hB⟩
    have HN := hide htk
    clear htk hB
    by_cases hlt : m < l.length
    · obtain ⟨b, off, ⟨pn, pi⟩, rfl, hb, hp, g1, g2⟩ := (show Sl wr A l from src).at2 hlt
      have HP := hide hp
      have T := hide (fun W => rserv_s pn pi W (H0.out (pn, pi) (List.mem_of_getElem? hp)))
      haveI : InW b wr := ⟨hb⟩
      have i1 : (m : Int) < (l.length : Int) := by omega
      simp only at g1 g2
      clear hp
      cases hs : servB pn pi with
      | false =>
        rw [hs] at T
        have H := hide (show (l.all fun p => servB p.1 p.2) = false by
          rw [List.all_eq_false]
          exact ⟨(pn, pi), List.mem_of_getElem? HP.out, by simp [hs]⟩)
        clear hs
        go_wp2_with fail
        (with_reducible refine (T.out _).mono ?_)
        rintro e w1 ⟨rfl, hb1⟩
        haveI : Stp _ w1 := ⟨hb1⟩
        clear hb1
        go_wp2
        go_ret
        exact ⟨ret_b H.out.symm, blw⟩
      | true =>
        rw [hs] at T
        have H := hide (show (l.take (m + 1)).all (fun p => servB p.1 p.2) = true by
          rw [take_succ_of HP.out, List.all_append, HN.out]
          simp [hs])
        clear hs
        go_wp2_with fail
        (with_reducible refine (T.out _).mono ?_)
        rintro e w1 ⟨rfl, hb1⟩
        haveI : Stp _ w1 := ⟨hb1⟩
        clear hb1
        go_wp2
        go_roundw
        case rel => exact ⟨m + 1, by omega, by go_num, blw, H.out⟩
        case measure => simp [intOf]; omega
    · have H := hide (show (l.all fun p => servB p.1 p.2) = true by
        have := HN.out
        rwa [List.take_of_length_le (by omega)] at this)
      obtain rfl : m = l.length := by omega
      go_wp2
      go_ret
      exact ⟨ret_b H.out.symm, blw⟩
end Go.Proofs.YtniogmefbjfoaaaGreat

namespace Go.Proofs.YtniogmefbjfoaaaGreat
set_option linter.unusedSimpArgs false
set_option linter.unusedVariables false
set_option linter.unusedSectionVars false
open Go.RowKit

theorem wpList_append_g {P : Program} {w : World} {ops : Array Oper} {rest : List Oper} {o : Oper} {a : Act} {Q : Exit → Act → World → Prop} {t e : TypeId} {k bytes : Nat} (E : ElemOk P t e k bytes) (hgd : Region.wanted o (yielded ops a.tmps) = true) (s x : Operand)
    (ho : o.op = .call { callee := .builtin .append, args := #[s, x], argTypes := #[t, t] }) (base : Nat)
    (v : Value) (n : Nat) (xs : List Value) (m : Nat) (news : List Value) (hs : a.eval s = v) (hown : w.ownsRow base e k v n xs)
    (hx : ∃ A c, a.eval x = .slice A m c ∧ Reads w w.heap.size k A m news) (h1 : ∀ u ∈ news, u.oneCell' = true)
    (h63 : n + m ≤ maxLen) (hbytes : (n + m) * bytes ≤ 140737488355328) (hbase : base ≤ w.heap.size)
    (h : ∀ v' w', w'.ownsRow base e k v' (n + m) (xs ++ news) → w.grownBy w' v.ownBlock → wpList P ops Q rest (a.put o.dst v') w') : wpList P ops Q (o :: rest) a w := by
  obtain ⟨A, c, hx, hr⟩ := hx
  exact wpList_step fun K hK => by
    rw [if_pos hgd]
    exact wp_append_any w E s x ho base v n xs hs hown _ A m c news hx hr h1 h63 hbytes hbase fun v' w' h2 h3 _ _ => hK _ _ (h v' w' h2 h3)
def radvB (an ai sq : Int) (ps : List Pr) : Bool := servB an ai && (!(sq == 0) && (decide (sq < 34359738368) && (setB ps && ((ps.all fun p => servB p.1 p.2) && livesB ((an, ai) :: ps)))))
set_option maxRecDepth 100000 in
set_option maxHeartbeats 2000000 in
theorem radv_s (an ai sq : Int) (PA : Option Addr) (pcp : Nat) (ps : List Pr) (w : World) (h : Sl w PA ps) (hl : ps.length ≤ 999999) (h0 : 0 ≤ ai) (hps : ∀ p ∈ ps, 0 ≤ p.2) : Calls Tryz.prog 70 #[.agg #[.int .i64 an, .int .u64 ai, .int .u64 sq, .slice PA ps.length pcp]] w (RetB w (radvB an ai sq ps)) := by
  have T1 := hide (fun W => rserv_s an ai W h0)
  have T2 := hide (fun W => rcount_s sq W)
  have T3 := hide (fun W (h : Sl W PA ps) => refSet_b PA pcp ps W h (by omega) hps)
  have T4 := hide (fun W (h : Sl W PA ps) => rservers_s PA pcp ps W h (by omega) hps)
  have T5 : Hid (∀ A c W, Reads W W.heap.size 2 A (1 + ps.length) (pcs [(an, ai)] ++ pcs ps) → Calls Tryz.prog 97 #[.slice A (1 + ps.length) c] W (RetB W (livesB ((an, ai) :: ps)))) := hide (fun A c W h => by
    have hl' : ((an, ai) :: ps).length = 1 + ps.length := by simp; omega
    have := lives_s A c ((an, ai) :: ps) W (by show Reads W W.heap.size 2 A ((an, ai) :: ps).length (pcs ((an, ai) :: ps)); rw [hl']; exact h) (by rw [hl']; omega)
    rw [hl'] at this; exact this)
  have HS := hide h
  haveI : Src w PA ps.length 2 (pcs ps) := ⟨h⟩
  unfold radvB
  clear h h0 hps
  cases f1 : servB an ai
  · rw [f1] at T1
    go_enter Tryz.func70, Tryz.ntmps70
    go_wp2_with (go_at_call 94; (with_reducible refine (T1.out _).mono ?_); rintro e w1 ⟨rfl, hb1⟩; haveI : Stp _ w1 := ⟨hb1⟩; clear hb1)
    go_ret
    exact ⟨ret_b (by simp), blw⟩
  · rw [f1] at T1
    cases f2 : (sq == 0)
    · cases f3 : decide (sq < 34359738368)
      · rw [f3] at T2
        go_enter Tryz.func70, Tryz.ntmps70
        go_wp2_with (first | (go_at_call 94; (with_reducible refine (T1.out _).mono ?_); rintro e w1 ⟨rfl, hb1⟩; haveI : Stp _ w1 := ⟨hb1⟩; clear hb1) | (go_at_call 18; (with_reducible refine (T2.out _).mono ?_); rintro e w2 ⟨rfl, rfl⟩))
        go_ret
        exact ⟨ret_b (by simp), blw⟩
      · rw [f3] at T2
        cases f4 : setB ps
        · rw [f4] at T3
          go_enter Tryz.func70, Tryz.ntmps70
          go_wp2_with (first | (go_at_call 94; (with_reducible refine (T1.out _).mono ?_); rintro e w1 ⟨rfl, hb1⟩; haveI : Stp _ w1 := ⟨hb1⟩; clear hb1) | (go_at_call 18; (with_reducible refine (T2.out _).mono ?_); rintro e w2 ⟨rfl, rfl⟩) | (go_at_call 95; (with_reducible refine (T3.out _ HS.out.tc).mono ?_); rintro e w3 ⟨rfl, hb3⟩; haveI : Stp _ w3 := ⟨hb3⟩; clear hb3))
          go_ret
          exact ⟨ret_b (by simp), blw⟩
        · rw [f4] at T3
          cases f5 : ps.all fun p => servB p.1 p.2
          · rw [f5] at T4
            go_enter Tryz.func70, Tryz.ntmps70
            go_wp2_with (first | (go_at_call 94; (with_reducible refine (T1.out _).mono ?_); rintro e w1 ⟨rfl, hb1⟩; haveI : Stp _ w1 := ⟨hb1⟩; clear hb1) | (go_at_call 18; (with_reducible refine (T2.out _).mono ?_); rintro e w2 ⟨rfl, rfl⟩) | (go_at_call 95; (with_reducible refine (T3.out _ HS.out.tc).mono ?_); rintro e w3 ⟨rfl, hb3⟩; haveI : Stp _ w3 := ⟨hb3⟩; clear hb3) | (go_at_call 96; (with_reducible refine (T4.out _ HS.out.tc).mono ?_); rintro e w4 ⟨rfl, hb4⟩; haveI : Stp _ w4 := ⟨hb4⟩; clear hb4))
            go_ret
            exact ⟨ret_b (by simp), blw⟩
          · rw [f5] at T4
            cases f6 : livesB ((an, ai) :: ps)
            all_goals
              rw [f6] at T5
              go_enter Tryz.func70, Tryz.ntmps70
              go_wp2_with (first | (go_at_call 94; (with_reducible refine (T1.out _).mono ?_); rintro e w1 ⟨rfl, hb1⟩; haveI : Stp _ w1 := ⟨hb1⟩; clear hb1) | (go_at_call 18; (with_reducible refine (T2.out _).mono ?_); rintro e w2 ⟨rfl, rfl⟩) | (go_at_call 95; (with_reducible refine (T3.out _ HS.out.tc).mono ?_); rintro e w3 ⟨rfl, hb3⟩; haveI : Stp _ w3 := ⟨hb3⟩; clear hb3) | (go_at_call 96; (with_reducible refine (T4.out _ HS.out.tc).mono ?_); rintro e w4 ⟨rfl, hb4⟩; haveI : Stp _ w4 := ⟨hb4⟩; clear hb4) | (at_builtin; go_must (refine wpList_append_g Tryz.okP (by rfl) (.tmp 30) (.tmp 32) (by rfl) w4.heap.size (.slice (some ⟨w4.heap.size, 0, none⟩) 1 1) 1 (pcs [(an, ai)]) ps.length (pcs ps) (by rfl) (World.ownsRow_lit w4 #[.int .i64 an, .int .u64 ai] 1 (Nat.le_refl _) (by unfold maxLen; omega) rfl) ⟨PA, pcp, by rfl, src⟩ (pc_one _) (by unfold maxLen; omega) (by omega) (by simp) ?_); intro v5 w5 ho5 hg5; haveI : StpB w4.heap.size _ w5 := ⟨grown_belowT hg5 (by simp) (fun k hk => by have e : w4.heap.size = k := Option.some.inj hk; omega)⟩; obtain ⟨A5, c5, rfl, _, _⟩ := own_slice ho5; have R5 := hide (T5.out A5 c5 _ (Reads.of_own ho5)); clear ho5 hg5) | (go_at_call 97; (with_reducible refine R5.out.mono ?_); rintro e w6 ⟨rfl, hb6⟩; haveI : Stp _ w6 := ⟨hb6⟩; clear hb6))
              haveI : LeN w.heap.size w4.heap.size := ⟨Blw.size (a := w) (W := w4) inferInstance⟩
              go_ret
              exact ⟨ret_b (by simp), blw⟩
    · go_enter Tryz.func70, Tryz.ntmps70
      go_wp2_with (go_at_call 94; (with_reducible refine (T1.out _).mono ?_); rintro e w1 ⟨rfl, hb1⟩; haveI : Stp _ w1 := ⟨hb1⟩; clear hb1)
      go_ret
      exact ⟨ret_b (by simp), blw⟩
end Go.Proofs.YtniogmefbjfoaaaGreat

namespace Go.Proofs.YtniogmefbjfoaaaGreat
set_option linter.unusedSimpArgs false
set_option linter.unusedVariables false
set_option linter.unusedSectionVars false
open Go.RowKit

def rheadB (k n : Int) (h : Hd) : Bool := (decide (1 ≤ h.d) && decide (h.d ≤ 10)) && (!(h.d == n) && (!(h.c == 0) && (decide (h.c < 34359738368) && (decide (h.s < 34359738368) && (decide (h.i < 34359738368) && !((k == 2) && ((h.s == 0) || (h.i != 0)) || ((k == 3) && (h.i == 0))))))))
def rokH (k n : Int) (hs : List Hd) (m : Nat) : Bool := rheadB k n (hs.getD m default) && (decide (m = 0) || !decide ((hs.getD m default).d ≤ (hs.getD (m - 1) default).d))
def rheadsB (k n : Int) (hs : List Hd) : Bool := (List.range hs.length).all (rokH k n hs)
theorem rheadsB_false {k n : Int} {hs : List Hd} {m : Nat} (hk : m < hs.length) (h : rokH k n hs m = false) : rheadsB k n hs = false := by
  unfold rheadsB
  rw [List.all_eq_false]
  exact ⟨m, List.mem_range.2 hk, by rw [h]; simp⟩
section
variable (k n i hp : Int) (HA : Option Addr) (hcp : Nat) (hs : List Hd) (BA : Option Addr) (bcp : Nat) (bs : List Int) (an ai sq : Int) (PA : Option Addr) (pcp : Nat) (ps : List Pr)
set_option maxRecDepth 100000 in
set_option maxHeartbeats 4000000 in
theorem rheads_s (w : World) (h : Reads w w.heap.size 4 HA hs.length (hcs hs)) (hl : hs.length ≤ 1000000) : Calls Tryz.prog 72 #[PkV k n i hp HA hs.length hcp BA bs.length bcp an ai sq PA ps.length pcp] w (RetB w (rheadsB k n hs && decide (1 ≤ (hs.length : Int)))) := by
  have T0 := hide (fun d W => rnode_s d W)
  have T1 := hide (fun c W => rcount_s c W)
  haveI : Src w HA hs.length 4 (hcs hs) := ⟨h⟩
  have hun : ∀ b, (some undef = some (Value.bool b)) = False := fun b => by simp [undef]
  clear h
  go_enter Tryz.func72, Tryz.ntmps72
  go_wp2_with fail
  go_loopw [3] (fun j wr => ∃ m : Nat, m ≤ hs.length ∧ j = .int .i64 m ∧ Below w.heap.size w wr ∧ BoxAt wr w.heap.size (csK k n i hp HA hs.length hcp BA bs.length bcp an ai sq PA ps.length pcp) 43 ∧ (List.range m).all (rokH k n hs) = true) (fun j _ => hs.length - (intOf j).toNat)
  case atStart => exact ⟨0, Nat.zero_le _, rfl, blw, inferInstance, by simp⟩
  case round =>
    obtain ⟨m, hm, rfl, hB, hbx, hall⟩ := hrel
    haveI : Blw w wr := ⟨hB⟩
    haveI := hbx
    have HN := hide hall
    clear hall hB
    by_cases hlt : m < hs.length
    · have HR : Hid (Reads wr w.heap.size 4 HA hs.length (hcs hs)) := hide srcB
      obtain ⟨b, off, p, rfl, hb, hp', g1, g2, g3, g4⟩ := HR.out.at4 hlt
      have HP := hide hp'
      haveI : InW b wr := ⟨Nat.lt_of_lt_of_le hb (Blw.h (a := w) (W := wr)).size⟩
      have i0 : (0 : Int) ≤ (m : Int) := by omega
      have i1 : (m : Int) < (hs.length : Int) := by omega
      have TN := hide (fun W => T0.out p.d W)
      have TA := hide (fun W => T1.out p.c W)
      have TB := hide (fun W => T1.out p.s W)
      have TD := hide (fun W => T1.out p.i W)
      clear hp'
      cases q1 : (decide (1 ≤ p.d) && decide (p.d ≤ 10))
      · rw [q1] at TN
        have H := hide (rheadsB_false (k := k) (n := n) hlt (show rokH k n hs m = false by unfold rokH rheadB; rw [getH HP.out]; simp [q1]))
        go_wp2_with fail
        go_quiet ((go_at_call 66; exact Calls.quiet_of_same ((TN.out _).mono (fun _ _ h => ⟨h.1, h.2.symm⟩))))
        go_wp2_with (go_at_call 18; (first | (with_reducible refine (TA.out _).mono ?_) | (with_reducible refine (TB.out _).mono ?_) | (with_reducible refine (TD.out _).mono ?_)); rintro e w2 ⟨rfl, rfl⟩)
        go_ret
        exact ⟨ret_b (by simp [H.out]), blw⟩
      · rw [q1] at TN
        cases q2 : (p.d == n)
        · by_cases hk0 : m = 0
          · have hk1 : decide (0 < m) = false := by simp; omega
            have HK0 := hide hk0
            clear hk0
            cases q3 : (p.c == 0)
            · cases q4 : decide (p.c < 34359738368)
              · rw [q4] at TA
                have H := hide (rheadsB_false (k := k) (n := n) hlt (show rokH k n hs m = false by unfold rokH rheadB; rw [getH HP.out]; simp [q1, q2, HK0.out, q3, q4]))
                go_wp2_with fail
                go_quiet ((go_at_call 66; exact Calls.quiet_of_same ((TN.out _).mono (fun _ _ h => ⟨h.1, h.2.symm⟩))))
                go_wp2_with (go_at_call 18; (first | (with_reducible refine (TA.out _).mono ?_) | (with_reducible refine (TB.out _).mono ?_) | (with_reducible refine (TD.out _).mono ?_)); rintro e w2 ⟨rfl, rfl⟩)
                go_ret
                exact ⟨ret_b (by simp [H.out]), blw⟩
              · rw [q4] at TA
                cases q5 : decide (p.s < 34359738368)
                · rw [q5] at TB
                  have H := hide (rheadsB_false (k := k) (n := n) hlt (show rokH k n hs m = false by unfold rokH rheadB; rw [getH HP.out]; simp [q1, q2, HK0.out, q3, q4, q5]))
                  go_wp2_with fail
                  go_quiet ((go_at_call 66; exact Calls.quiet_of_same ((TN.out _).mono (fun _ _ h => ⟨h.1, h.2.symm⟩))))
                  go_wp2_with (go_at_call 18; (first | (with_reducible refine (TA.out _).mono ?_) | (with_reducible refine (TB.out _).mono ?_) | (with_reducible refine (TD.out _).mono ?_)); rintro e w2 ⟨rfl, rfl⟩)
                  go_ret
                  exact ⟨ret_b (by simp [H.out]), blw⟩
                · rw [q5] at TB
                  cases q6 : decide (p.i < 34359738368)
                  · rw [q6] at TD
                    have H := hide (rheadsB_false (k := k) (n := n) hlt (show rokH k n hs m = false by unfold rokH rheadB; rw [getH HP.out]; simp [q1, q2, HK0.out, q3, q4, q5, q6]))
                    go_wp2_with fail
                    go_quiet ((go_at_call 66; exact Calls.quiet_of_same ((TN.out _).mono (fun _ _ h => ⟨h.1, h.2.symm⟩))))
                    go_wp2_with (go_at_call 18; (first | (with_reducible refine (TA.out _).mono ?_) | (with_reducible refine (TB.out _).mono ?_) | (with_reducible refine (TD.out _).mono ?_)); rintro e w2 ⟨rfl, rfl⟩)
                    go_ret
                    exact ⟨ret_b (by simp [H.out]), blw⟩
                  · rw [q6] at TD
                    cases k2 : (k == 2)
                    · cases k3 : (k == 3)
                      · have H := hide (show (List.range (m + 1)).all (rokH k n hs) = true by rw [all_succ, HN.out]; unfold rokH rheadB; rw [getH HP.out]; simp [q1, q2, HK0.out, q3, q4, q5, q6, k2, k3])
                        go_wp2_with fail
                        go_quiet ((go_at_call 66; exact Calls.quiet_of_same ((TN.out _).mono (fun _ _ h => ⟨h.1, h.2.symm⟩))))
                        go_wp2_with (go_at_call 18; (first | (with_reducible refine (TA.out _).mono ?_) | (with_reducible refine (TB.out _).mono ?_) | (with_reducible refine (TD.out _).mono ?_)); rintro e w2 ⟨rfl, rfl⟩)
                        go_roundw
                        case rel => exact ⟨m + 1, by omega, by go_num, blw, inferInstance, H.out⟩
                        case measure => simp [intOf]; omega
                      · cases q7 : (p.i == 0)
                        · have H := hide (show (List.range (m + 1)).all (rokH k n hs) = true by rw [all_succ, HN.out]; unfold rokH rheadB; rw [getH HP.out]; simp [q1, q2, HK0.out, q3, q4, q5, q6, k2, k3, q7])
                          go_wp2_with fail
                          go_quiet ((go_at_call 66; exact Calls.quiet_of_same ((TN.out _).mono (fun _ _ h => ⟨h.1, h.2.symm⟩))))
                          go_wp2_with (go_at_call 18; (first | (with_reducible refine (TA.out _).mono ?_) | (with_reducible refine (TB.out _).mono ?_) | (with_reducible refine (TD.out _).mono ?_)); rintro e w2 ⟨rfl, rfl⟩)
                          go_roundw
                          case rel => exact ⟨m + 1, by omega, by go_num, blw, inferInstance, H.out⟩
                          case measure => simp [intOf]; omega
                        · have H := hide (rheadsB_false (k := k) (n := n) hlt (show rokH k n hs m = false by unfold rokH rheadB; rw [getH HP.out]; simp [q1, q2, HK0.out, q3, q4, q5, q6, k2, k3, q7]))
                          go_wp2_with fail
                          go_quiet ((go_at_call 66; exact Calls.quiet_of_same ((TN.out _).mono (fun _ _ h => ⟨h.1, h.2.symm⟩))))
                          go_wp2_with (go_at_call 18; (first | (with_reducible refine (TA.out _).mono ?_) | (with_reducible refine (TB.out _).mono ?_) | (with_reducible refine (TD.out _).mono ?_)); rintro e w2 ⟨rfl, rfl⟩)
                          go_ret
                          exact ⟨ret_b (by simp [H.out]), blw⟩
                    · have k3 : (k == 3) = false := by have := k2; simp at this; subst this; rfl
                      cases q7 : (p.s == 0)
                      · cases q8 : (p.i != 0)
                        · have H := hide (show (List.range (m + 1)).all (rokH k n hs) = true by rw [all_succ, HN.out]; unfold rokH rheadB; rw [getH HP.out]; simp [q1, q2, HK0.out, q3, q4, q5, q6, k2, k3, q7, q8])
                          go_wp2_with fail
                          go_quiet ((go_at_call 66; exact Calls.quiet_of_same ((TN.out _).mono (fun _ _ h => ⟨h.1, h.2.symm⟩))))
                          go_wp2_with (go_at_call 18; (first | (with_reducible refine (TA.out _).mono ?_) | (with_reducible refine (TB.out _).mono ?_) | (with_reducible refine (TD.out _).mono ?_)); rintro e w2 ⟨rfl, rfl⟩)
                          go_roundw
                          case rel => exact ⟨m + 1, by omega, by go_num, blw, inferInstance, H.out⟩
                          case measure => simp [intOf]; omega
                        · have H := hide (rheadsB_false (k := k) (n := n) hlt (show rokH k n hs m = false by unfold rokH rheadB; rw [getH HP.out]; simp [q1, q2, HK0.out, q3, q4, q5, q6, k2, k3, q7, q8]))
                          go_wp2_with fail
                          go_quiet ((go_at_call 66; exact Calls.quiet_of_same ((TN.out _).mono (fun _ _ h => ⟨h.1, h.2.symm⟩))))
                          go_wp2_with (go_at_call 18; (first | (with_reducible refine (TA.out _).mono ?_) | (with_reducible refine (TB.out _).mono ?_) | (with_reducible refine (TD.out _).mono ?_)); rintro e w2 ⟨rfl, rfl⟩)
                          go_ret
                          exact ⟨ret_b (by simp [H.out]), blw⟩
                      · have H := hide (rheadsB_false (k := k) (n := n) hlt (show rokH k n hs m = false by unfold rokH rheadB; rw [getH HP.out]; simp [q1, q2, HK0.out, q3, q4, q5, q6, k2, k3, q7]))
                        go_wp2_with fail
                        go_quiet ((go_at_call 66; exact Calls.quiet_of_same ((TN.out _).mono (fun _ _ h => ⟨h.1, h.2.symm⟩))))
                        go_wp2_with (go_at_call 18; (first | (with_reducible refine (TA.out _).mono ?_) | (with_reducible refine (TB.out _).mono ?_) | (with_reducible refine (TD.out _).mono ?_)); rintro e w2 ⟨rfl, rfl⟩)
                        go_ret
                        exact ⟨ret_b (by simp [H.out]), blw⟩
            · have H := hide (rheadsB_false (k := k) (n := n) hlt (show rokH k n hs m = false by unfold rokH rheadB; rw [getH HP.out]; simp [q1, q2, HK0.out, q3]))
              go_wp2_with fail
              go_quiet ((go_at_call 66; exact Calls.quiet_of_same ((TN.out _).mono (fun _ _ h => ⟨h.1, h.2.symm⟩))))
              go_wp2_with (go_at_call 18; (first | (with_reducible refine (TA.out _).mono ?_) | (with_reducible refine (TB.out _).mono ?_) | (with_reducible refine (TD.out _).mono ?_)); rintro e w2 ⟨rfl, rfl⟩)
              go_ret
              exact ⟨ret_b (by simp [H.out]), blw⟩
          · obtain ⟨b', off', p', he, hb', hq', e1, e2, e3, e4⟩ := HR.out.at4 (k := m - 1) (by omega)
            injection he with he
            injection he with he1 he2
            subst he1 he2
            have HP' := hide hq'
            clear hq'
            have j0 : (0 : Int) < (m : Int) := by omega
            have hk1 : decide (0 < m) = true := by simp; omega
            have j1 : (0 : Int) ≤ (m : Int) - 1 := by omega
            have j2 : (m : Int) - 1 < (hs.length : Int) := by omega
            have j3 : ((m : Int) - 1).toNat = m - 1 := by omega
            cases q9 : decide (p.d ≤ p'.d)
            · cases q3 : (p.c == 0)
              · cases q4 : decide (p.c < 34359738368)
                · rw [q4] at TA
                  have H := hide (rheadsB_false (k := k) (n := n) hlt (show rokH k n hs m = false by unfold rokH rheadB; rw [getH HP.out, getH HP'.out]; simp [q1, q2, q9, q3, q4]))
                  go_wp2_with fail
                  go_quiet ((go_at_call 66; exact Calls.quiet_of_same ((TN.out _).mono (fun _ _ h => ⟨h.1, h.2.symm⟩))))
                  go_wp2_with (go_at_call 18; (first | (with_reducible refine (TA.out _).mono ?_) | (with_reducible refine (TB.out _).mono ?_) | (with_reducible refine (TD.out _).mono ?_)); rintro e w2 ⟨rfl, rfl⟩)
                  go_ret
                  exact ⟨ret_b (by simp [H.out]), blw⟩
                · rw [q4] at TA
                  cases q5 : decide (p.s < 34359738368)
                  · rw [q5] at TB
                    have H := hide (rheadsB_false (k := k) (n := n) hlt (show rokH k n hs m = false by unfold rokH rheadB; rw [getH HP.out, getH HP'.out]; simp [q1, q2, q9, q3, q4, q5]))
                    go_wp2_with fail
                    go_quiet ((go_at_call 66; exact Calls.quiet_of_same ((TN.out _).mono (fun _ _ h => ⟨h.1, h.2.symm⟩))))
                    go_wp2_with (go_at_call 18; (first | (with_reducible refine (TA.out _).mono ?_) | (with_reducible refine (TB.out _).mono ?_) | (with_reducible refine (TD.out _).mono ?_)); rintro e w2 ⟨rfl, rfl⟩)
                    go_ret
                    exact ⟨ret_b (by simp [H.out]), blw⟩
                  · rw [q5] at TB
                    cases q6 : decide (p.i < 34359738368)
                    · rw [q6] at TD
                      have H := hide (rheadsB_false (k := k) (n := n) hlt (show rokH k n hs m = false by unfold rokH rheadB; rw [getH HP.out, getH HP'.out]; simp [q1, q2, q9, q3, q4, q5, q6]))
                      go_wp2_with fail
                      go_quiet ((go_at_call 66; exact Calls.quiet_of_same ((TN.out _).mono (fun _ _ h => ⟨h.1, h.2.symm⟩))))
                      go_wp2_with (go_at_call 18; (first | (with_reducible refine (TA.out _).mono ?_) | (with_reducible refine (TB.out _).mono ?_) | (with_reducible refine (TD.out _).mono ?_)); rintro e w2 ⟨rfl, rfl⟩)
                      go_ret
                      exact ⟨ret_b (by simp [H.out]), blw⟩
                    · rw [q6] at TD
                      cases k2 : (k == 2)
                      · cases k3 : (k == 3)
                        · have H := hide (show (List.range (m + 1)).all (rokH k n hs) = true by rw [all_succ, HN.out]; unfold rokH rheadB; rw [getH HP.out, getH HP'.out]; simp [q1, q2, q9, q3, q4, q5, q6, k2, k3])
                          go_wp2_with fail
                          go_quiet ((go_at_call 66; exact Calls.quiet_of_same ((TN.out _).mono (fun _ _ h => ⟨h.1, h.2.symm⟩))))
                          go_wp2_with (go_at_call 18; (first | (with_reducible refine (TA.out _).mono ?_) | (with_reducible refine (TB.out _).mono ?_) | (with_reducible refine (TD.out _).mono ?_)); rintro e w2 ⟨rfl, rfl⟩)
                          go_roundw
                          case rel => exact ⟨m + 1, by omega, by go_num, blw, inferInstance, H.out⟩
                          case measure => simp [intOf]; omega
                        · cases q7 : (p.i == 0)
                          · have H := hide (show (List.range (m + 1)).all (rokH k n hs) = true by rw [all_succ, HN.out]; unfold rokH rheadB; rw [getH HP.out, getH HP'.out]; simp [q1, q2, q9, q3, q4, q5, q6, k2, k3, q7])
                            go_wp2_with fail
                            go_quiet ((go_at_call 66; exact Calls.quiet_of_same ((TN.out _).mono (fun _ _ h => ⟨h.1, h.2.symm⟩))))
                            go_wp2_with (go_at_call 18; (first | (with_reducible refine (TA.out _).mono ?_) | (with_reducible refine (TB.out _).mono ?_) | (with_reducible refine (TD.out _).mono ?_)); rintro e w2 ⟨rfl, rfl⟩)
                            go_roundw
                            case rel => exact ⟨m + 1, by omega, by go_num, blw, inferInstance, H.out⟩
                            case measure => simp [intOf]; omega
                          · have H := hide (rheadsB_false (k := k) (n := n) hlt (show rokH k n hs m = false by unfold rokH rheadB; rw [getH HP.out, getH HP'.out]; simp [q1, q2, q9, q3, q4, q5, q6, k2, k3, q7]))
                            go_wp2_with fail
                            go_quiet ((go_at_call 66; exact Calls.quiet_of_same ((TN.out _).mono (fun _ _ h => ⟨h.1, h.2.symm⟩))))
                            go_wp2_with (go_at_call 18; (first | (with_reducible refine (TA.out _).mono ?_) | (with_reducible refine (TB.out _).mono ?_) | (with_reducible refine (TD.out _).mono ?_)); rintro e w2 ⟨rfl, rfl⟩)
                            go_ret
                            exact ⟨ret_b (by simp [H.out]), blw⟩
                      · have k3 : (k == 3) = false := by have := k2; simp at this; subst this; rfl
                        cases q7 : (p.s == 0)
                        · cases q8 : (p.i != 0)
                          · have H := hide (show (List.range (m + 1)).all (rokH k n hs) = true by rw [all_succ, HN.out]; unfold rokH rheadB; rw [getH HP.out, getH HP'.out]; simp [q1, q2, q9, q3, q4, q5, q6, k2, k3, q7, q8])
                            go_wp2_with fail
                            go_quiet ((go_at_call 66; exact Calls.quiet_of_same ((TN.out _).mono (fun _ _ h => ⟨h.1, h.2.symm⟩))))
                            go_wp2_with (go_at_call 18; (first | (with_reducible refine (TA.out _).mono ?_) | (with_reducible refine (TB.out _).mono ?_) | (with_reducible refine (TD.out _).mono ?_)); rintro e w2 ⟨rfl, rfl⟩)
                            go_roundw
                            case rel => exact ⟨m + 1, by omega, by go_num, blw, inferInstance, H.out⟩
                            case measure => simp [intOf]; omega
                          · have H := hide (rheadsB_false (k := k) (n := n) hlt (show rokH k n hs m = false by unfold rokH rheadB; rw [getH HP.out, getH HP'.out]; simp [q1, q2, q9, q3, q4, q5, q6, k2, k3, q7, q8]))
                            go_wp2_with fail
                            go_quiet ((go_at_call 66; exact Calls.quiet_of_same ((TN.out _).mono (fun _ _ h => ⟨h.1, h.2.symm⟩))))
                            go_wp2_with (go_at_call 18; (first | (with_reducible refine (TA.out _).mono ?_) | (with_reducible refine (TB.out _).mono ?_) | (with_reducible refine (TD.out _).mono ?_)); rintro e w2 ⟨rfl, rfl⟩)
                            go_ret
                            exact ⟨ret_b (by simp [H.out]), blw⟩
                        · have H := hide (rheadsB_false (k := k) (n := n) hlt (show rokH k n hs m = false by unfold rokH rheadB; rw [getH HP.out, getH HP'.out]; simp [q1, q2, q9, q3, q4, q5, q6, k2, k3, q7]))
                          go_wp2_with fail
                          go_quiet ((go_at_call 66; exact Calls.quiet_of_same ((TN.out _).mono (fun _ _ h => ⟨h.1, h.2.symm⟩))))
                          go_wp2_with (go_at_call 18; (first | (with_reducible refine (TA.out _).mono ?_) | (with_reducible refine (TB.out _).mono ?_) | (with_reducible refine (TD.out _).mono ?_)); rintro e w2 ⟨rfl, rfl⟩)
                          go_ret
                          exact ⟨ret_b (by simp [H.out]), blw⟩
              · have H := hide (rheadsB_false (k := k) (n := n) hlt (show rokH k n hs m = false by unfold rokH rheadB; rw [getH HP.out, getH HP'.out]; simp [q1, q2, q9, q3]))
                go_wp2_with fail
                go_quiet ((go_at_call 66; exact Calls.quiet_of_same ((TN.out _).mono (fun _ _ h => ⟨h.1, h.2.symm⟩))))
                go_wp2_with (go_at_call 18; (first | (with_reducible refine (TA.out _).mono ?_) | (with_reducible refine (TB.out _).mono ?_) | (with_reducible refine (TD.out _).mono ?_)); rintro e w2 ⟨rfl, rfl⟩)
                go_ret
                exact ⟨ret_b (by simp [H.out]), blw⟩
            · have H := hide (rheadsB_false (k := k) (n := n) hlt (show rokH k n hs m = false by unfold rokH rheadB; rw [getH HP.out, getH HP'.out]; simp [q9, hk0]))
              go_wp2_with fail
              go_quiet ((go_at_call 66; exact Calls.quiet_of_same ((TN.out _).mono (fun _ _ h => ⟨h.1, h.2.symm⟩))))
              go_wp2_with (go_at_call 18; (first | (with_reducible refine (TA.out _).mono ?_) | (with_reducible refine (TB.out _).mono ?_) | (with_reducible refine (TD.out _).mono ?_)); rintro e w2 ⟨rfl, rfl⟩)
              go_ret
              exact ⟨ret_b (by simp [H.out]), blw⟩
        · have H := hide (rheadsB_false (k := k) (n := n) hlt (show rokH k n hs m = false by unfold rokH rheadB; rw [getH HP.out]; simp [q1, q2]))
          go_wp2_with fail
          go_quiet ((go_at_call 66; exact Calls.quiet_of_same ((TN.out _).mono (fun _ _ h => ⟨h.1, h.2.symm⟩))))
          go_wp2_with (go_at_call 18; (first | (with_reducible refine (TA.out _).mono ?_) | (with_reducible refine (TB.out _).mono ?_) | (with_reducible refine (TD.out _).mono ?_)); rintro e w2 ⟨rfl, rfl⟩)
          go_ret
          exact ⟨ret_b (by simp [H.out]), blw⟩
    · have H := hide (show rheadsB k n hs = true by
        have : m = hs.length := by omega
        subst this; exact HN.out)
      go_wp2
      go_ret
      exact ⟨ret_b (by simp [H.out]), blw⟩
end
end Go.Proofs.YtniogmefbjfoaaaGreat

namespace Go.Proofs.YtniogmefbjfoaaaGreat
set_option linter.unusedSimpArgs false
set_option linter.unusedVariables false
set_option linter.unusedSectionVars false
open Go.RowKit

/-! ### plain -/
theorem serv_node {n i : Int} (h : servB n i = true) : 1 ≤ n ∧ n ≤ 4 := by
  simp [servB, lifeB, mayB] at h
  omega
theorem radvB_eq (an ai sq : Int) (ps : List Pr) (h0 : 0 ≤ sq) : radvB an ai sq ps = advB an ai sq ps := by
  unfold radvB advB
  rw [lives_nodes, Bool.eq_iff_iff]
  simp only [Bool.and_eq_true, Bool.not_eq_true', decide_eq_false_iff_not, decide_eq_true_eq, beq_eq_false_iff_ne, ne_eq, countB, List.all_eq_true, livesB, List.map_cons, List.nodup_cons, advP]
  constructor
  · rintro ⟨h1, h2, h3, h4, h5, h6, h7⟩
    refine ⟨h1, ⟨by omega, by omega⟩, ?_, h4, fun p hp => ⟨h5 p hp, fun e => h6 (e ▸ List.mem_map_of_mem hp)⟩, h7⟩
    have := nodup_len (an :: ps.map (·.1)) [1, 2, 3, 4] (List.nodup_cons.2 ⟨h6, h7⟩) (by
      intro x hx
      have : 1 ≤ x ∧ x ≤ 4 := by
        rcases List.mem_cons.1 hx with rfl | hx
        · exact serv_node h1
        · obtain ⟨p, hp, rfl⟩ := List.mem_map.1 hx; exact serv_node (h5 p hp)
      simp; omega)
    simp at this; omega
  · rintro ⟨h1, ⟨h2, h3⟩, h4, h5, h6, h7⟩
    refine ⟨h1, by omega, by omega, h5, fun p hp => (h6 p hp).1, fun hm => ?_, h7⟩
    obtain ⟨p, hp, e⟩ := List.mem_map.1 hm
    exact (h6 p hp).2 e
def exH (k : Int) (h : Hd) : Bool := decide (h.s < 34359738368) && (decide (h.i < 34359738368) && !((k == 2) && ((h.s == 0) || (h.i != 0)) || ((k == 3) && (h.i == 0))))
theorem rheadB_eq (k n : Int) (p : Hd) (h0 : 0 ≤ p.c) : rheadB k n p = (headB n p && exH k p) := by
  have e1 : decide (1 ≤ p.d) = !decide (p.d < 1) := by rw [Bool.eq_iff_iff]; simp
  have e2 : decide (p.d ≤ 10) = !decide (10 < p.d) := by rw [Bool.eq_iff_iff]; simp
  have e3 : countB p.c 1 = (!(p.c == 0) && decide (p.c < 34359738368)) := by rw [Bool.eq_iff_iff]; simp [countB]; omega
  unfold rheadB headB exH
  rw [e1, e2, e3]
  simp only [Bool.and_assoc]
theorem rokH_eq (k n : Int) (hs : List Hd) (m : Nat) (h0 : 0 ≤ (hs.getD m default).c) : rokH k n hs m = (okH n hs m && exH k (hs.getD m default)) := by
  unfold rokH okH
  rw [rheadB_eq _ _ _ h0]
  cases headB n (hs.getD m default) <;> cases exH k (hs.getD m default) <;> simp
theorem rheads_eq (k n : Int) (hs : List Hd) (h0 : ∀ p ∈ hs, 0 ≤ p.c) : rheadsB k n hs = (headsB n hs && hs.all (exH k)) := by
  have h1 : ∀ m, m < hs.length → 0 ≤ (hs.getD m default).c := fun m hm => by rw [getH (List.getElem?_eq_getElem hm)]; exact h0 _ (List.getElem_mem hm)
  rw [Bool.eq_iff_iff, Bool.and_eq_true]
  unfold rheadsB headsB
  simp only [List.all_eq_true, List.mem_range]
  constructor
  · intro h
    have h' : ∀ m, m < hs.length → okH n hs m = true ∧ exH k (hs.getD m default) = true := fun m hm => by
      have := h m hm
      rwa [rokH_eq k n hs m (h1 m hm), Bool.and_eq_true] at this
    refine ⟨fun m hm => (h' m hm).1, fun p hp => ?_⟩
    obtain ⟨m, hm, rfl⟩ := List.getElem_of_mem hp
    have := (h' m hm).2
    rwa [getH (List.getElem?_eq_getElem hm)] at this
  · rintro ⟨h2, h3⟩ m hm
    rw [rokH_eq k n hs m (h1 m hm), h2 m hm, getH (List.getElem?_eq_getElem hm), h3 _ (List.getElem_mem hm)]
    rfl
theorem ex_data (h : Hd) (h0 : 0 ≤ h.s) : exH 2 h = dataH h := by
  rw [Bool.eq_iff_iff]; simp [exH, dataH, countB]; omega
theorem ex_ack (h : Hd) (h0 : 0 ≤ h.s) (h1 : 0 ≤ h.i) : exH 3 h = ackH h := by
  rw [Bool.eq_iff_iff]; simp [exH, ackH, countB]; omega
theorem all_congr' {α : Type} {f g : α → Bool} : ∀ {l : List α}, (∀ x ∈ l, f x = g x) → l.all f = l.all g
  | [], _ => rfl
  | a :: l, h => by rw [List.all_cons, List.all_cons, h a (by simp), all_congr' (fun x hx => h x (List.mem_cons_of_mem _ hx))]
def bareB (an ai sq : Int) (ps : List Pr) : Bool := (an == 0) && ((ai == 0) && ((sq == 0) && ((ps.length : Int) == 0)))
def aloneB (n i hp : Int) (hs : List Hd) (bs : List Int) : Bool := (n == 0) && ((i == 0) && ((hp == 0) && (((hs.length : Int) == 0) && ((bs.length : Int) == 0))))
def tailB (k : Int) (hs : List Hd) (bs : List Int) : Bool := if k = 2 then decide (1 ≤ (bs.length : Int)) && decide ((bs.length : Int) ≤ 320) else if k = 3 then ((bs.length : Int) == 0) && ((hs.length : Int) == 1) else false
def rmayB (k n i hp : Int) (hs : List Hd) (bs : List Int) (an ai sq : Int) (ps : List Pr) : Bool :=
  if k = 1 then aloneB n i hp hs bs && radvB an ai sq ps
  else bareB an ai sq ps && (lifeB n i && (!decide (hp < 0) && (!decide (8 < hp) && ((rheadsB k n hs && decide (1 ≤ (hs.length : Int))) && tailB k hs bs))))
theorem rmay_eq (k n i hp : Int) (hs : List Hd) (bs : List Int) (an ai sq : Int) (ps : List Pr) (h0 : 0 ≤ sq) (h1 : ∀ p ∈ hs, 0 ≤ p.c ∧ 0 ≤ p.s ∧ 0 ≤ p.i) : rmayB k n i hp hs bs an ai sq ps = mayKB k n i hp hs bs an ai sq ps := by
  unfold rmayB mayKB
  by_cases k1 : k = 1
  · rw [if_pos k1, if_pos k1, radvB_eq _ _ _ _ h0, Bool.eq_iff_iff]
    simp only [aloneB, eqP, Bool.and_eq_true, decide_eq_true_eq, beq_iff_eq, and_assoc]
  rw [if_neg k1, if_neg k1, rheads_eq k n hs (fun p hp => (h1 p hp).1)]
  by_cases k2 : k = 2
  · subst k2
    rw [if_pos rfl, all_congr' (fun x hx => ex_data x (h1 x hx).2.1), Bool.eq_iff_iff]
    simp only [tailB, if_true, dataB, sentB, bareB, eqP, Bool.and_eq_true, decide_eq_true_eq, beq_iff_eq, Bool.not_eq_true', decide_eq_false_iff_not, beq_eq_false_iff_ne, bne_eq_false_iff_eq, ne_eq]
    constructor
    · rintro ⟨⟨a1, a2, a3, a4⟩, a5, a6, a7, ⟨⟨a8, a9⟩, a10⟩, a11, a12⟩
      exact ⟨⟨a5, a6, a7, by omega, ⟨a1, a2⟩, a3, a4, a8⟩, by omega, by omega, a9⟩
    · rintro ⟨⟨a5, a6, a7, a10, ⟨a1, a2⟩, a3, a4, a8⟩, a11, a12, a9⟩
      exact ⟨⟨a1, a2, a3, a4⟩, a5, a6, a7, ⟨⟨a8, a9⟩, by omega⟩, by omega, by omega⟩
  rw [if_neg k2]
  by_cases k3 : k = 3
  · subst k3
    rw [if_pos rfl, all_congr' (fun x hx => ex_ack x (h1 x hx).2.1 (h1 x hx).2.2), Bool.eq_iff_iff]
    have hone : hs.length = 1 → (hs.all ackH = true ↔ ackH (hs.getD 0 default) = true) := fun h => by
      match hs, h with
      | [x], _ => simp
    simp only [tailB, ackB, sentB, bareB, eqP, Bool.and_eq_true, decide_eq_true_eq, beq_iff_eq, Bool.not_eq_true', decide_eq_false_iff_not, beq_eq_false_iff_ne, bne_eq_false_iff_eq, ne_eq, if_true, show (3 : Int) = 2 ↔ False from by simp, if_false]
    constructor
    · rintro ⟨⟨a1, a2, a3, a4⟩, a5, a6, a7, ⟨⟨a8, a9⟩, a10⟩, a11, a12⟩
      exact ⟨⟨a5, a6, a7, by omega, ⟨a1, a2⟩, a3, a4, a8⟩, a12, a11, (hone (by omega)).1 a9⟩
    · rintro ⟨⟨a5, a6, a7, a10, ⟨a1, a2⟩, a3, a4, a8⟩, a12, a11, a9⟩
      exact ⟨⟨a1, a2, a3, a4⟩, a5, a6, a7, ⟨⟨a8, (hone (by omega)).2 a9⟩, by omega⟩, a11, a12⟩
  · rw [if_neg k3]
    simp [tailB, k2, k3]
end Go.Proofs.YtniogmefbjfoaaaGreat
