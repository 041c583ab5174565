/-
  Layer 6: append under a guard that holds.
-/
import Derived.Test.YtggmninbpnolgaaGreatRefK2
import Derived.Test.YtggmninbpnolgaaGreatTcG
namespace Go.Proofs.YtggmninbpnolgaaGreat
set_option linter.unusedSimpArgs false
set_option linter.unusedVariables false
set_option linter.unusedSectionVars false
open Go.RowKit

theorem wpList_append_g {P : Program} {w : World} {ops : Array Oper} {rest : List Oper} {o : Oper} {a : Act} {Q : Exit → Act → World → Prop} {t e : TypeId} {k bytes : Nat} (E : ElemOk P t e k bytes) (hgd : Region.wanted o (yielded ops a.tmps) = true) (s x : Operand)
    (ho : o.op = .call { callee := .builtin .append, args := #[s, x], argTypes := #[t, t] }) (base : Nat)
    (v : Value) (n : Nat) (xs : List Value) (m : Nat) (news : List Value) (hs : a.eval s = v) (hown : w.ownsRow base e k v n xs)
    (hx : ∃ A c, a.eval x = .slice A m c ∧ Reads w w.heap.size k A m news) (h1 : ∀ u ∈ news, u.oneCell' = true)
    (h63 : n + m ≤ maxLen) (hbytes : (n + m) * bytes ≤ 140737488355328) (hbase : base ≤ w.heap.size)
    (h : ∀ v' w', w'.ownsRow base e k v' (n + m) (xs ++ news) → w.grownBy w' v.ownBlock → wpList P ops Q rest (a.put o.dst v') w') : wpList P ops Q (o :: rest) a w := by
  obtain ⟨A, c, hx, hr⟩ := hx
  exact wpList_step fun K hK => by
    rw [if_pos hgd]
    exact wp_append_any w E s x ho base v n xs hs hown _ A m c news hx hr h1 h63 hbytes hbase fun v' w' h2 h3 _ _ => hK _ _ (h v' w' h2 h3)
def radvB (an ai sq : Int) (ps : List Pr) : Bool := servB an ai && (!(sq == 0) && (decide (sq < 34359738368) && (setB ps && ((ps.all fun p => servB p.1 p.2) && livesB ((an, ai) :: ps)))))
set_option maxRecDepth 100000 in
set_option maxHeartbeats 2000000 in
theorem radv_s (an ai sq : Int) (PA : Option Addr) (pcp : Nat) (ps : List Pr) (w : World) (h : Sl w PA ps) (hl : ps.length ≤ 999999) (h0 : 0 ≤ ai) (hps : ∀ p ∈ ps, 0 ≤ p.2) : Calls Tryz.prog 19 #[.agg #[.int .i64 an, .int .u64 ai, .int .u64 sq, .slice PA ps.length pcp]] w (RetB w (radvB an ai sq ps)) := by
  have T1 := hide (fun W => rserv_s an ai W h0)
  have T2 := hide (fun W => rcount_s sq W)
  have T3 := hide (fun W (h : Sl W PA ps) => refSet_b PA pcp ps W h (by omega) hps)
  have T4 := hide (fun W (h : Sl W PA ps) => rservers_s PA pcp ps W h (by omega) hps)
  have T5 : Hid (∀ A c W, Reads W W.heap.size 2 A (1 + ps.length) (pcs [(an, ai)] ++ pcs ps) → Calls Tryz.prog 52 #[.slice A (1 + ps.length) c] W (RetB W (livesB ((an, ai) :: ps)))) := hide (fun A c W h => by
    have hl' : ((an, ai) :: ps).length = 1 + ps.length := by simp; omega
    have := lives_s A c ((an, ai) :: ps) W (by show Reads W W.heap.size 2 A ((an, ai) :: ps).length (pcs ((an, ai) :: ps)); rw [hl']; exact h) (by rw [hl']; omega)
    rw [hl'] at this; exact this)
  have HS := hide h
  haveI : Src w PA ps.length 2 (pcs ps) := ⟨h⟩
  unfold radvB
  clear h h0 hps
  cases f1 : servB an ai
  · rw [f1] at T1
    go_enter Tryz.func19, Tryz.ntmps19
    go_wp2_with (go_at_call 48; (with_reducible refine (T1.out _).mono ?_); rintro e w1 ⟨rfl, hb1⟩; haveI : Stp _ w1 := ⟨hb1⟩; clear hb1)
    go_ret
    exact ⟨ret_b (by simp), blw⟩
  · rw [f1] at T1
    cases f2 : (sq == 0)
    · cases f3 : decide (sq < 34359738368)
      · rw [f3] at T2
        go_enter Tryz.func19, Tryz.ntmps19
        go_wp2_with (first | (go_at_call 48; (with_reducible refine (T1.out _).mono ?_); rintro e w1 ⟨rfl, hb1⟩; haveI : Stp _ w1 := ⟨hb1⟩; clear hb1) | (go_at_call 49; (with_reducible refine (T2.out _).mono ?_); rintro e w2 ⟨rfl, rfl⟩))
        go_ret
        exact ⟨ret_b (by simp), blw⟩
      · rw [f3] at T2
        cases f4 : setB ps
        · rw [f4] at T3
          go_enter Tryz.func19, Tryz.ntmps19
          go_wp2_with (first | (go_at_call 48; (with_reducible refine (T1.out _).mono ?_); rintro e w1 ⟨rfl, hb1⟩; haveI : Stp _ w1 := ⟨hb1⟩; clear hb1) | (go_at_call 49; (with_reducible refine (T2.out _).mono ?_); rintro e w2 ⟨rfl, rfl⟩) | (go_at_call 50; (with_reducible refine (T3.out _ HS.out.tc).mono ?_); rintro e w3 ⟨rfl, hb3⟩; haveI : Stp _ w3 := ⟨hb3⟩; clear hb3))
          go_ret
          exact ⟨ret_b (by simp), blw⟩
        · rw [f4] at T3
          cases f5 : ps.all fun p => servB p.1 p.2
          · rw [f5] at T4
            go_enter Tryz.func19, Tryz.ntmps19
            go_wp2_with (first | (go_at_call 48; (with_reducible refine (T1.out _).mono ?_); rintro e w1 ⟨rfl, hb1⟩; haveI : Stp _ w1 := ⟨hb1⟩; clear hb1) | (go_at_call 49; (with_reducible refine (T2.out _).mono ?_); rintro e w2 ⟨rfl, rfl⟩) | (go_at_call 50; (with_reducible refine (T3.out _ HS.out.tc).mono ?_); rintro e w3 ⟨rfl, hb3⟩; haveI : Stp _ w3 := ⟨hb3⟩; clear hb3) | (go_at_call 51; (with_reducible refine (T4.out _ HS.out.tc).mono ?_); rintro e w4 ⟨rfl, hb4⟩; haveI : Stp _ w4 := ⟨hb4⟩; clear hb4))
            go_ret
            exact ⟨ret_b (by simp), blw⟩
          · rw [f5] at T4
            cases f6 : livesB ((an, ai) :: ps)
            all_goals
              rw [f6] at T5
              go_enter Tryz.func19, Tryz.ntmps19
              go_wp2_with (first | (go_at_call 48; (with_reducible refine (T1.out _).mono ?_); rintro e w1 ⟨rfl, hb1⟩; haveI : Stp _ w1 := ⟨hb1⟩; clear hb1) | (go_at_call 49; (with_reducible refine (T2.out _).mono ?_); rintro e w2 ⟨rfl, rfl⟩) | (go_at_call 50; (with_reducible refine (T3.out _ HS.out.tc).mono ?_); rintro e w3 ⟨rfl, hb3⟩; haveI : Stp _ w3 := ⟨hb3⟩; clear hb3) | (go_at_call 51; (with_reducible refine (T4.out _ HS.out.tc).mono ?_); rintro e w4 ⟨rfl, hb4⟩; haveI : Stp _ w4 := ⟨hb4⟩; clear hb4) | (at_builtin; go_must (refine wpList_append_g Tryz.okP (by rfl) (.tmp 30) (.tmp 32) (by rfl) w4.heap.size (.slice (some ⟨w4.heap.size, 0, none⟩) 1 1) 1 (pcs [(an, ai)]) ps.length (pcs ps) (by rfl) (World.ownsRow_lit w4 #[.int .i64 an, .int .u64 ai] 1 (Nat.le_refl _) (by unfold maxLen; omega) rfl) ⟨PA, pcp, by rfl, src⟩ (pc_one _) (by unfold maxLen; omega) (by omega) (by simp) ?_); intro v5 w5 ho5 hg5; haveI : StpB w4.heap.size _ w5 := ⟨grown_belowT hg5 (by simp) (fun k hk => by have e : w4.heap.size = k := Option.some.inj hk; omega)⟩; obtain ⟨A5, c5, rfl, _, _⟩ := own_slice ho5; have R5 := hide (T5.out A5 c5 _ (Reads.of_own ho5)); clear ho5 hg5) | (go_at_call 52; (with_reducible refine R5.out.mono ?_); rintro e w6 ⟨rfl, hb6⟩; haveI : Stp _ w6 := ⟨hb6⟩; clear hb6))
              haveI : LeN w.heap.size w4.heap.size := ⟨Blw.size (a := w) (W := w4) inferInstance⟩
              go_ret
              exact ⟨ret_b (by simp), blw⟩
    · go_enter Tryz.func19, Tryz.ntmps19
      go_wp2_with (go_at_call 48; (with_reducible refine (T1.out _).mono ?_); rintro e w1 ⟨rfl, hb1⟩; haveI : Stp _ w1 := ⟨hb1⟩; clear hb1)
      go_ret
      exact ⟨ret_b (by simp), blw⟩
end Go.Proofs.YtggmninbpnolgaaGreat
