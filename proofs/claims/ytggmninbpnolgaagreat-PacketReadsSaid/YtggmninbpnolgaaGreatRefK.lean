/-
  Layer 6: contracts of the reference: Count, Node, Life, Server, servers.
-/
import Derived.Test.YtggmninbpnolgaaGreatPk3
import Derived.Test.YtggmninbpnolgaaGreatTcG
namespace Go.Proofs.YtggmninbpnolgaaGreat
set_option linter.unusedSimpArgs false
set_option linter.unusedVariables false
set_option linter.unusedSectionVars false
open Go.RowKit

theorem rcount_s (x : Int) (w : World) : Calls Tryz.prog 49 #[.int .u64 x] w fun e w' => e = .returned (.bool (decide (x < 34359738368))) ∧ w = w' := by
  by_cases h1 : x < 34359738368
  · have H := hide (show decide (x < 34359738368) = true from decide_eq_true h1)
    go_enter Tryz.func49, Tryz.ntmps49
    go_wp2
    go_ret
    exact ⟨ret_b H.out.symm, rfl⟩
  · have H := hide (show decide (x < 34359738368) = false from decide_eq_false h1)
    go_enter Tryz.func49, Tryz.ntmps49
    go_wp2
    go_ret
    exact ⟨ret_b H.out.symm, rfl⟩
theorem rnode_s (x : Int) (w : World) : Calls Tryz.prog 54 #[.int .i64 x] w fun e w' => e = .returned (.bool (decide (1 ≤ x) && decide (x ≤ 10))) ∧ w = w' := by
  cases h1 : decide (1 ≤ x)
  · go_enter Tryz.func54, Tryz.ntmps54
    go_wp2
    go_ret
    exact ⟨rfl, rfl⟩
  · go_enter Tryz.func54, Tryz.ntmps54
    go_wp2
    go_ret
    exact ⟨ret_b (by simp), rfl⟩
theorem lifeB_eq (n i : Int) (h0 : 0 ≤ i) : lifeB n i = (mayB n i && decide (i < 34359738368)) := by
  cases hm : mayB n i
  · simp [lifeB, hm]
  · have h1 : 1 ≤ i := by simp [mayB] at hm; omega
    rw [lifeB, hm, countB, decide_eq_true h1, Bool.true_and, Bool.true_and, Bool.true_and]
    exact decide_eq_decide.2 ⟨fun h => by omega, fun h => by omega⟩
theorem rlife_s (n i : Int) (w : World) (h0 : 0 ≤ i) : Calls Tryz.prog 20 #[.agg #[.int .i64 n, .int .u64 i]] w (RetB w (lifeB n i)) := by
  have TM := hide (fun W => refMay_b n i W h0)
  have TC := hide (fun W => rcount_s i W)
  rw [lifeB_eq n i h0]
  clear h0
  cases hm : mayB n i with
  | false =>
    rw [hm] at TM
    clear hm
    go_enter Tryz.func20, Tryz.ntmps20
    go_wp2_with (go_at_call 53; (with_reducible refine (TM.out _).mono ?_); rintro e w1 ⟨rfl, hb⟩; haveI : Stp _ w1 := ⟨hb⟩; clear hb)
    go_ret
    exact ⟨rfl, blw⟩
  | true =>
    rw [hm] at TM
    clear hm
    cases hc : decide (i < 34359738368) with
    | _ =>
      rw [hc] at TC
      clear hc
      go_enter Tryz.func20, Tryz.ntmps20
      go_wp2_with (first
        | (go_at_call 53; (with_reducible refine (TM.out _).mono ?_); rintro e w1 ⟨rfl, hb⟩; haveI : Stp _ w1 := ⟨hb⟩; clear hb)
        | (go_at_call 49; (with_reducible refine (TC.out _).mono ?_); rintro e w2 ⟨rfl, rfl⟩))
      go_ret
      exact ⟨rfl, blw⟩
set_option maxHeartbeats 400000 in
theorem rserv_s (n i : Int) (w : World) (h0 : 0 ≤ i) : Calls Tryz.prog 48 #[.agg #[.int .i64 n, .int .u64 i]] w (RetB w (servB n i)) := by
  have TM := hide (fun W => rlife_s n i W h0)
  unfold servB
  clear h0
  cases hm : lifeB n i with
  | false =>
    rw [hm] at TM
    clear hm
    go_enter Tryz.func48, Tryz.ntmps48
    go_wp2_with (go_at_call 20; (with_reducible refine (TM.out _).mono ?_); rintro e w1 ⟨rfl, hb⟩; haveI : Stp _ w1 := ⟨hb⟩; clear hb)
    go_ret
    exact ⟨rfl, blw⟩
  | true =>
    rw [hm] at TM
    clear hm
    go_enter Tryz.func48, Tryz.ntmps48
    go_wp2_with (go_at_call 20; (with_reducible refine (TM.out _).mono ?_); rintro e w1 ⟨rfl, hb⟩; haveI : Stp _ w1 := ⟨hb⟩; clear hb)
    go_ret
    exact ⟨ret_b (by simp), blw⟩
end Go.Proofs.YtggmninbpnolgaaGreat

namespace Go.Proofs.YtggmninbpnolgaaGreat
set_option linter.unusedSimpArgs false
set_option linter.unusedVariables false
set_option linter.unusedSectionVars false
open Go.RowKit

set_option maxHeartbeats 1000000 in
theorem rservers_s (A : Option Addr) (c : Nat) (l : List Pr) (w : World) (h : Sl w A l) (hn : l.length ≤ 1000000) (h0 : ∀ p ∈ l, 0 ≤ p.2) : Calls Tryz.prog 51 #[.slice A l.length c] w (RetB w (l.all fun p => servB p.1 p.2)) := by
  have H0 := hide h0
  haveI : Src w A l.length 2 (pcs l) := ⟨h⟩
  clear h h0
  go_enter Tryz.func51, Tryz.ntmps51
  go_wp2
  go_loopw [3] (fun j wr => ∃ m : Nat, m ≤ l.length ∧ j = .int .i64 m ∧ Below w.heap.size w wr ∧ (l.take m).all (fun p => servB p.1 p.2) = true) (fun j _ => l.length - (intOf j).toNat)
  case atStart => exact ⟨0, Nat.zero_le _, rfl, blw, rfl⟩
  case round =>
    obtain ⟨m, hm, rfl, hB, htk⟩ := hrel
    haveI : Blw w wr := ⟨hB⟩
    have HN := hide htk
    clear htk hB
    by_cases hlt : m < l.length
    · obtain ⟨b, off, ⟨pn, pi⟩, rfl, hb, hp, g1, g2⟩ := (show Sl wr A l from src).at2 hlt
      have HP := hide hp
      have T := hide (fun W => rserv_s pn pi W (H0.out (pn, pi) (List.mem_of_getElem? hp)))
      haveI : InW b wr := ⟨hb⟩
      have i1 : (m : Int) < (l.length : Int) := by omega
      simp only at g1 g2
      clear hp
      cases hs : servB pn pi with
      | false =>
        rw [hs] at T
        have H := hide (show (l.all fun p => servB p.1 p.2) = false by
          rw [List.all_eq_false]
          exact ⟨(pn, pi), List.mem_of_getElem? HP.out, by simp [hs]⟩)
        clear hs
        go_wp2_with fail
        (with_reducible refine (T.out _).mono ?_)
        rintro e w1 ⟨rfl, hb1⟩
        haveI : Stp _ w1 := ⟨hb1⟩
        clear hb1
        go_wp2
        go_ret
        exact ⟨ret_b H.out.symm, blw⟩
      | true =>
        rw [hs] at T
        have H := hide (show (l.take (m + 1)).all (fun p => servB p.1 p.2) = true by
          rw [take_succ_of HP.out, List.all_append, HN.out]
          simp [hs])
        clear hs
        go_wp2_with fail
        (with_reducible refine (T.out _).mono ?_)
        rintro e w1 ⟨rfl, hb1⟩
        haveI : Stp _ w1 := ⟨hb1⟩
        clear hb1
        go_wp2
        go_roundw
        case rel => exact ⟨m + 1, by omega, by go_num, blw, H.out⟩
        case measure => simp [intOf]; omega
    · have H := hide (show (l.all fun p => servB p.1 p.2) = true by
        have := HN.out
        rwa [List.take_of_length_le (by omega)] at this)
      obtain rfl : m = l.length := by omega
      go_wp2
      go_ret
      exact ⟨ret_b H.out.symm, blw⟩
end Go.Proofs.YtggmninbpnolgaaGreat

namespace Go.Proofs.YtggmninbpnolgaaGreat
set_option linter.unusedSimpArgs false
set_option linter.unusedVariables false
set_option linter.unusedSectionVars false
open Go.RowKit

theorem wpList_append_g {P : Program} {w : World} {ops : Array Oper} {rest : List Oper} {o : Oper} {a : Act} {Q : Exit → Act → World → Prop} {t e : TypeId} {k bytes : Nat} (E : ElemOk P t e k bytes) (hgd : Region.wanted o (yielded ops a.tmps) = true) (s x : Operand)
    (ho : o.op = .call { callee := .builtin .append, args := #[s, x], argTypes := #[t, t] }) (base : Nat)
    (v : Value) (n : Nat) (xs : List Value) (m : Nat) (news : List Value) (hs : a.eval s = v) (hown : w.ownsRow base e k v n xs)
    (hx : ∃ A c, a.eval x = .slice A m c ∧ Reads w w.heap.size k A m news) (h1 : ∀ u ∈ news, u.oneCell' = true)
    (h63 : n + m ≤ maxLen) (hbytes : (n + m) * bytes ≤ 140737488355328) (hbase : base ≤ w.heap.size)
    (h : ∀ v' w', w'.ownsRow base e k v' (n + m) (xs ++ news) → w.grownBy w' v.ownBlock → wpList P ops Q rest (a.put o.dst v') w') : wpList P ops Q (o :: rest) a w := by
  obtain ⟨A, c, hx, hr⟩ := hx
  exact wpList_step fun K hK => by
    rw [if_pos hgd]
    exact wp_append_any w E s x ho base v n xs hs hown _ A m c news hx hr h1 h63 hbytes hbase fun v' w' h2 h3 _ _ => hK _ _ (h v' w' h2 h3)
def radvB (an ai sq : Int) (ps : List Pr) : Bool := servB an ai && (!(sq == 0) && (decide (sq < 34359738368) && (setB ps && ((ps.all fun p => servB p.1 p.2) && livesB ((an, ai) :: ps)))))
set_option maxRecDepth 100000 in
set_option maxHeartbeats 2000000 in
theorem radv_s (an ai sq : Int) (PA : Option Addr) (pcp : Nat) (ps : List Pr) (w : World) (h : Sl w PA ps) (hl : ps.length ≤ 999999) (h0 : 0 ≤ ai) (hps : ∀ p ∈ ps, 0 ≤ p.2) : Calls Tryz.prog 19 #[.agg #[.int .i64 an, .int .u64 ai, .int .u64 sq, .slice PA ps.length pcp]] w (RetB w (radvB an ai sq ps)) := by
  have T1 := hide (fun W => rserv_s an ai W h0)
  have T2 := hide (fun W => rcount_s sq W)
  have T3 := hide (fun W (h : Sl W PA ps) => refSet_b PA pcp ps W h (by omega) hps)
  have T4 := hide (fun W (h : Sl W PA ps) => rservers_s PA pcp ps W h (by omega) hps)
  have T5 : Hid (∀ A c W, Reads W W.heap.size 2 A (1 + ps.length) (pcs [(an, ai)] ++ pcs ps) → Calls Tryz.prog 52 #[.slice A (1 + ps.length) c] W (RetB W (livesB ((an, ai) :: ps)))) := hide (fun A c W h => by
    have hl' : ((an, ai) :: ps).length = 1 + ps.length := by simp; omega
    have := lives_s A c ((an, ai) :: ps) W (by show Reads W W.heap.size 2 A ((an, ai) :: ps).length (pcs ((an, ai) :: ps)); rw [hl']; exact h) (by rw [hl']; omega)
    rw [hl'] at this; exact this)
  have HS := hide h
  haveI : Src w PA ps.length 2 (pcs ps) := ⟨h⟩
  unfold radvB
  clear h h0 hps
  cases f1 : servB an ai
  · rw [f1] at T1
    go_enter Tryz.func19, Tryz.ntmps19
    go_wp2_with (go_at_call 48; (with_reducible refine (T1.out _).mono ?_); rintro e w1 ⟨rfl, hb1⟩; haveI : Stp _ w1 := ⟨hb1⟩; clear hb1)
    go_ret
    exact ⟨ret_b (by simp), blw⟩
  · rw [f1] at T1
    cases f2 : (sq == 0)
    · cases f3 : decide (sq < 34359738368)
      · rw [f3] at T2
        go_enter Tryz.func19, Tryz.ntmps19
        go_wp2_with (first | (go_at_call 48; (with_reducible refine (T1.out _).mono ?_); rintro e w1 ⟨rfl, hb1⟩; haveI : Stp _ w1 := ⟨hb1⟩; clear hb1) | (go_at_call 49; (with_reducible refine (T2.out _).mono ?_); rintro e w2 ⟨rfl, rfl⟩))
        go_ret
        exact ⟨ret_b (by simp), blw⟩
      · rw [f3] at T2
        cases f4 : setB ps
        · rw [f4] at T3
          go_enter Tryz.func19, Tryz.ntmps19
          go_wp2_with (first | (go_at_call 48; (with_reducible refine (T1.out _).mono ?_); rintro e w1 ⟨rfl, hb1⟩; haveI : Stp _ w1 := ⟨hb1⟩; clear hb1) | (go_at_call 49; (with_reducible refine (T2.out _).mono ?_); rintro e w2 ⟨rfl, rfl⟩) | (go_at_call 50; (with_reducible refine (T3.out _ HS.out.tc).mono ?_); rintro e w3 ⟨rfl, hb3⟩; haveI : Stp _ w3 := ⟨hb3⟩; clear hb3))
          go_ret
          exact ⟨ret_b (by simp), blw⟩
        · rw [f4] at T3
          cases f5 : ps.all fun p => servB p.1 p.2
          · rw [f5] at T4
            go_enter Tryz.func19, Tryz.ntmps19
            go_wp2_with (first | (go_at_call 48; (with_reducible refine (T1.out _).mono ?_); rintro e w1 ⟨rfl, hb1⟩; haveI : Stp _ w1 := ⟨hb1⟩; clear hb1) | (go_at_call 49; (with_reducible refine (T2.out _).mono ?_); rintro e w2 ⟨rfl, rfl⟩) | (go_at_call 50; (with_reducible refine (T3.out _ HS.out.tc).mono ?_); rintro e w3 ⟨rfl, hb3⟩; haveI : Stp _ w3 := ⟨hb3⟩; clear hb3) | (go_at_call 51; (with_reducible refine (T4.out _ HS.out.tc).mono ?_); rintro e w4 ⟨rfl, hb4⟩; haveI : Stp _ w4 := ⟨hb4⟩; clear hb4))
            go_ret
            exact ⟨ret_b (by simp), blw⟩
          · rw [f5] at T4
            cases f6 : livesB ((an, ai) :: ps)
            all_goals
              rw [f6] at T5
              go_enter Tryz.func19, Tryz.ntmps19
              go_wp2_with (first | (go_at_call 48; (with_reducible refine (T1.out _).mono ?_); rintro e w1 ⟨rfl, hb1⟩; haveI : Stp _ w1 := ⟨hb1⟩; clear hb1) | (go_at_call 49; (with_reducible refine (T2.out _).mono ?_); rintro e w2 ⟨rfl, rfl⟩) | (go_at_call 50; (with_reducible refine (T3.out _ HS.out.tc).mono ?_); rintro e w3 ⟨rfl, hb3⟩; haveI : Stp _ w3 := ⟨hb3⟩; clear hb3) | (go_at_call 51; (with_reducible refine (T4.out _ HS.out.tc).mono ?_); rintro e w4 ⟨rfl, hb4⟩; haveI : Stp _ w4 := ⟨hb4⟩; clear hb4) | (at_builtin; go_must (refine wpList_append_g Tryz.okP (by rfl) (.tmp 30) (.tmp 32) (by rfl) w4.heap.size (.slice (some ⟨w4.heap.size, 0, none⟩) 1 1) 1 (pcs [(an, ai)]) ps.length (pcs ps) (by rfl) (World.ownsRow_lit w4 #[.int .i64 an, .int .u64 ai] 1 (Nat.le_refl _) (by unfold maxLen; omega) rfl) ⟨PA, pcp, by rfl, src⟩ (pc_one _) (by unfold maxLen; omega) (by omega) (by simp) ?_); intro v5 w5 ho5 hg5; haveI : StpB w4.heap.size _ w5 := ⟨grown_belowT hg5 (by simp) (fun k hk => by have e : w4.heap.size = k := Option.some.inj hk; omega)⟩; obtain ⟨A5, c5, rfl, _, _⟩ := own_slice ho5; have R5 := hide (T5.out A5 c5 _ (Reads.of_own ho5)); clear ho5 hg5) | (go_at_call 52; (with_reducible refine R5.out.mono ?_); rintro e w6 ⟨rfl, hb6⟩; haveI : Stp _ w6 := ⟨hb6⟩; clear hb6))
              haveI : LeN w.heap.size w4.heap.size := ⟨Blw.size (a := w) (W := w4) inferInstance⟩
              go_ret
              exact ⟨ret_b (by simp), blw⟩
    · go_enter Tryz.func19, Tryz.ntmps19
      go_wp2_with (go_at_call 48; (with_reducible refine (T1.out _).mono ?_); rintro e w1 ⟨rfl, hb1⟩; haveI : Stp _ w1 := ⟨hb1⟩; clear hb1)
      go_ret
      exact ⟨ret_b (by simp), blw⟩
end Go.Proofs.YtggmninbpnolgaaGreat
