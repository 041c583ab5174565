/-
  Contracts: slices.Equal of uint64; view.Same, First, May; heavy.
-/
import Derived.Test.YtgpmcpinnaggmaaView
import Derived.Laws.EntriesVeiled
namespace Go.Proofs.Ytgpmcpinnaggmaa
set_option linter.unusedSimpArgs false
set_option linter.unusedVariables false
set_option linter.unusedSectionVars false
open Go.RowKit

set_option maxHeartbeats 400000 in
theorem equalU_s (A A' : Option Addr) (c c' : Nat) (l m : List Int) (w : World) (hR : Ul w A l) (hR' : Ul w A' m) (hn : l.length ≤ 1000000) (hm : m.length ≤ 1000000) :
    Calls Try.prog 76 #[.slice A l.length c, .slice A' m.length c'] w fun e w' => e = .returned (.bool (decide (l = m))) ∧ Below w.heap.size w w' := by
  by_cases hlen : l.length = m.length
  · have hb : (((l.length : Nat) : Int) != ((m.length : Nat) : Int)) = false := by simp [hlen]
    have HL := hide hlen
    clear hlen
    go_enter Try.func76, Try.ntmps76
    go_wp2
    go_loopw [13] (fun i wr => ∃ k q : Nat, k ≤ l.length ∧ i = .int .i64 k ∧ wr = w.drewN q ∧ l.take k = m.take k) (fun i _ => l.length - (intOf i).toNat)
    case atStart => exact ⟨0, 0, Nat.zero_le _, rfl, rfl, by simp⟩
    case round =>
      obtain ⟨k, q, hk, rfl, rfl, hnot⟩ := hrel
      have HN := hide hnot
      clear hnot
      by_cases hlt : k < l.length
      · obtain ⟨b, off, x, rfl, hb1, hp, g1⟩ := hR.atU hlt
        have hlt' : k < m.length := by rw [← HL.out]; exact hlt
        obtain ⟨b', off', y, rfl, hb2, hp', g1'⟩ := hR'.atU hlt'
        have HP := hide hp
        have HP' := hide hp'
        clear hp hR hp' hR'
        have i0 : (0 : Int) ≤ (k : Int) := by omega
        have i1 : (k : Int) < (l.length : Int) := by omega
        have i2 : (k : Int) < (m.length : Int) := by omega
        by_cases he : x = y
        · have H := hide (show l.take (k + 1) = m.take (k + 1) by
            rw [take_succ_of HP.out, take_succ_of HP'.out, HN.out, he])
          have hxy : (x != y) = false := by simp [he]
          clear he
          go_wp2
          go_quiet (fail)
          go_wp2
          go_roundw
          case rel => exact ⟨k + 1, _, by omega, by go_num, rfl, H.out⟩
          case measure => simp [intOf]; omega
        · have H := hide (show ¬ l = m by
            intro h; subst h
            have := HP.out.symm.trans HP'.out
            injection this with this
            exact he this)
          have hxy : (x != y) = true := by simp [he]
          clear he
          go_wp2
          go_quiet (fail)
          go_wp2
          go_ret
          exact ⟨ret_b (by simp [H.out]), (by repeat (first | exact Below.refl _ _ | assumption | refine below_drewN ?_ _ | refine Below.drew ?_ | refine Below.alloc ?_ (by simp <;> omega) _))⟩
      · have H := hide (show l = m by
          have := HN.out; have h2 := HL.out
          rwa [List.take_of_length_le (by omega), List.take_of_length_le (by omega)] at this)
        go_wp2
        go_ret
        exact ⟨ret_b (by simp [H.out]), (by repeat (first | exact Below.refl _ _ | assumption | refine below_drewN ?_ _ | refine Below.drew ?_ | refine Below.alloc ?_ (by simp <;> omega) _))⟩
  · have hb : (((l.length : Nat) : Int) != ((m.length : Nat) : Int)) = true := by simp; omega
    have H := hide (show ¬ l = m by intro h; exact hlen (by rw [h]))
    clear hlen
    go_enter Try.func76, Try.ntmps76
    go_wp2
    go_ret
    exact ⟨ret_b (by simp [H.out]), (by repeat (first | exact Below.refl _ _ | assumption | refine below_drewN ?_ _ | refine Below.drew ?_ | refine Below.alloc ?_ (by simp <;> omega) _))⟩

/-! ### '==' on names of views -/
theorem Try.stoodI : Try.prog.stoodInHeld 29 = false := by kernel_rfl
theorem Try.guardI : Try.prog.eqGuardType Try.prog.depth 29 = false := by kernel_rfl
def eqI (a b c d e f : Int) : Bool := decide (a = d ∧ b = e ∧ c = f)
theorem equalInI (a b c d e f : Int) (w : World) : (Op.equalIn 10000 29 (.agg #[.int .u64 a, .int .i64 b, .int .u64 c]) (.agg #[.int .u64 d, .int .i64 e, .int .u64 f])).run Try.prog w = .ok (eqI a b c d e f) w := by
  have hu := Try.underlying29
  have hs := Try.stoodI
  have hs2 := Try.stoodP
  by_cases h1 : a = d <;> by_cases h2 : b = e <;> by_cases h3 : c = f <;> simp [go_sem, hs, hs2, h1, h2, h3, eqI]
@[go_sem ↓] theorem eqlI (a b c d e f : Int) (w : World) : (binOp .eql 29 (.agg #[.int .u64 a, .int .i64 b, .int .u64 c]) (.agg #[.int .u64 d, .int .i64 e, .int .u64 f])).run Try.prog w = .ok (.bool (eqI a b c d e f)) w := by
  rw [run_eql_struct, equalInI]; rfl
@[go_sem ↓] theorem neqI (a b c d e f : Int) (w : World) : (binOp .neq 29 (.agg #[.int .u64 a, .int .i64 b, .int .u64 c]) (.agg #[.int .u64 d, .int .i64 e, .int .u64 f])).run Try.prog w = .ok (.bool (!eqI a b c d e f)) w := by
  rw [run_neq_struct, equalInI]; rfl
@[go_sem ↓] theorem eqGuardI (op : BinOp) (x y : Operand) (xs ys : Array Value) (w : World) : (eqGuard op 29 x y (.agg xs) (.agg ys)).run Try.prog w = .ok () w := run_eqGuard_agg w op _ x y xs ys Try.guardI

@[go_sem] theorem idxF0 (a b c : Value) (w : World) : (Instr.index 107 (.agg #[a, b, c]) (.int .i64 0)).run Try.prog w = .ok a w := by
  simp [Instr.index, run_underlying Try.underlying107, asIntOf, go_sem, part]
@[go_sem] theorem idxF1 (a b c : Value) (w : World) : (Instr.index 107 (.agg #[a, b, c]) (.int .i64 1)).run Try.prog w = .ok b w := by
  simp [Instr.index, run_underlying Try.underlying107, asIntOf, go_sem, part]
@[go_sem] theorem idxF2 (a b c : Value) (w : World) : (Instr.index 107 (.agg #[a, b, c]) (.int .i64 2)).run Try.prog w = .ok c w := by
  simp [Instr.index, run_underlying Try.underlying107, asIntOf, go_sem, part]
set_option maxRecDepth 100000 in
set_option maxHeartbeats 1000000 in
theorem vsame_s (x y : Vw) (w : World) (h : x.Ok w) (h' : y.Ok w) :
    Calls Try.prog 31 #[x.v, y.v] w fun e w' => e = .returned (.bool (Vw.eqB x y)) ∧ Below w.heap.size w w' := by
  obtain ⟨r, n, i, MA, mc, ms, UA, uc, us⟩ := x
  obtain ⟨r', n', i', MA', mc', ms', UA', uc', us'⟩ := y
  obtain ⟨h1, h2, h3, h4⟩ := h
  obtain ⟨k1, k2, k3, k4⟩ := h'
  simp only at h1 h2 h3 h4 k1 k2 k3 k4
  have TM := hide (fun W (hW : Sl W MA ms) (hW' : Sl W MA' ms') => equal_any MA MA' mc mc' ms ms' W hW hW' h3 k3)
  have TU := hide (fun W (hW : Ul W UA us) (hW' : Ul W UA' us') => equalU_s UA UA' uc uc' us us' W hW hW' h4 k4)
  have H1 := hide h1
  have H2 := hide h2
  have K1 := hide k1
  have K2 := hide k2
  clear h1 h2 k1 k2 h3 h4 k3 k4
  unfold Vw.v Vw.eqB
  simp only
  cases e1 : eqI r n i r' n' i'
  · have E := hide (show decide (r = r' ∧ n = n' ∧ i = i' ∧ ms = ms' ∧ us = us') = false by
      unfold eqI at e1; simp at e1 ⊢; intro a b c; exact absurd c (e1 a b))
    go_enter Try.func31, Try.ntmps31
    go_wp2
    refine wp_loop_rounds 4 ?_
    rw [rounds_succ]
    go_wp2_with go_in
    go_ret
    exact ⟨ret_b E.out.symm, (by repeat (first | exact Below.refl _ _ | assumption | refine bel_al ?_ _ | refine bel_gw ?_ _ _ | refine bel_drew ?_ | refine bel_drewN ?_ _))⟩
  · have e1' : r = r' ∧ n = n' ∧ i = i' := by unfold eqI at e1; simpa using e1
    have E0 := hide (show decide (r = r' ∧ n = n' ∧ i = i' ∧ ms = ms' ∧ us = us') = (decide (ms = ms') && decide (us = us')) by
      simp [e1'])
    clear e1'
    rw [E0.out]
    generalize decide (ms = ms') = bm at TM ⊢
    generalize decide (us = us') = bu at TU ⊢
    clear E0
    cases bm
    · go_enter Try.func31, Try.ntmps31
      go_wp2
      refine wp_loop_rounds 4 ?_
      rw [rounds_succ]
      go_wp2_with go_in
      rw [rounds_succ]
      go_wp2_with (first | (go_at_call 63; (with_reducible refine (TM.out _ (H1.out.step (by repeat (first | exact Below.refl _ _ | assumption | refine bel_al ?_ _ | refine bel_gw ?_ _ _ | refine bel_drew ?_ | refine bel_drewN ?_ _))) (K1.out.step (by repeat (first | exact Below.refl _ _ | assumption | refine bel_al ?_ _ | refine bel_gw ?_ _ _ | refine bel_drew ?_ | refine bel_drewN ?_ _)))).mono ?_); rintro e w1 ⟨rfl, hb⟩; obtain ⟨⟨d1, os1⟩, rfl⟩ := gw_of_below hb; clear hb) | go_in)
      go_ret
      exact ⟨rfl, (by repeat (first | exact Below.refl _ _ | assumption | refine bel_al ?_ _ | refine bel_gw ?_ _ _ | refine bel_drew ?_ | refine bel_drewN ?_ _))⟩
    · go_enter Try.func31, Try.ntmps31
      go_wp2
      refine wp_loop_rounds 4 ?_
      rw [rounds_succ]
      go_wp2_with go_in
      rw [rounds_succ]
      go_wp2_with (first | (go_at_call 63; (with_reducible refine (TM.out _ (H1.out.step (by repeat (first | exact Below.refl _ _ | assumption | refine bel_al ?_ _ | refine bel_gw ?_ _ _ | refine bel_drew ?_ | refine bel_drewN ?_ _))) (K1.out.step (by repeat (first | exact Below.refl _ _ | assumption | refine bel_al ?_ _ | refine bel_gw ?_ _ _ | refine bel_drew ?_ | refine bel_drewN ?_ _)))).mono ?_); rintro e w1 ⟨rfl, hb⟩; obtain ⟨⟨d1, os1⟩, rfl⟩ := gw_of_below hb; clear hb) | go_in)
      rw [rounds_succ]
      cases bu
      · go_wp2_with (first | (go_at_call 76; (with_reducible refine (TU.out _ (H2.out.step (by repeat (first | exact Below.refl _ _ | assumption | refine bel_al ?_ _ | refine bel_gw ?_ _ _ | refine bel_drew ?_ | refine bel_drewN ?_ _))) (K2.out.step (by repeat (first | exact Below.refl _ _ | assumption | refine bel_al ?_ _ | refine bel_gw ?_ _ _ | refine bel_drew ?_ | refine bel_drewN ?_ _)))).mono ?_); rintro e w2 ⟨rfl, hb⟩; obtain ⟨⟨d2, os2⟩, rfl⟩ := gw_more hb; clear hb) | go_in)
        go_ret
        exact ⟨rfl, (by repeat (first | exact Below.refl _ _ | assumption | refine bel_al ?_ _ | refine bel_gw ?_ _ _ | refine bel_drew ?_ | refine bel_drewN ?_ _))⟩
      · go_wp2_with (first | (go_at_call 76; (with_reducible refine (TU.out _ (H2.out.step (by repeat (first | exact Below.refl _ _ | assumption | refine bel_al ?_ _ | refine bel_gw ?_ _ _ | refine bel_drew ?_ | refine bel_drewN ?_ _))) (K2.out.step (by repeat (first | exact Below.refl _ _ | assumption | refine bel_al ?_ _ | refine bel_gw ?_ _ _ | refine bel_drew ?_ | refine bel_drewN ?_ _)))).mono ?_); rintro e w2 ⟨rfl, hb⟩; obtain ⟨⟨d2, os2⟩, rfl⟩ := gw_more hb; clear hb) | go_in)
        rw [rounds_succ]
        go_wp2
        go_ret
        exact ⟨rfl, (by repeat (first | exact Below.refl _ _ | assumption | refine bel_al ?_ _ | refine bel_gw ?_ _ _ | refine bel_drew ?_ | refine bel_drewN ?_ _))⟩

/-- a view is told, in new memory -/
def RetV (w : World) (r n i : Int) (ms : List Pr) (us : List Int) (e : Ending) (w' : World) : Prop :=
  ∃ MA mc UA uc, e = .returned (Vw.v ⟨r, n, i, MA, mc, ms, UA, uc, us⟩) ∧ Vw.Ok w' ⟨r, n, i, MA, mc, ms, UA, uc, us⟩ ∧ Below w.heap.size w w'
theorem reads_oneU (w : World) (a : Int) : Reads (w.alloc (.cells #[.int .u64 a] 24)) (w.heap.size + 1) 1 (some ⟨w.heap.size, 0, none⟩) 1 (ucs [a]) := by
  have := Reads.of_own (World.ownsRow_lit (base := 0) (e := 24) (size := 1) w #[.int .u64 a] 1 (Nat.zero_le _) (by unfold maxLen; omega) rfl)
  simpa [ucs] using this
theorem reads_one_at (w : World) (a b : Int) (k : Nat) (h : w.heap.size = k) : Reads (w.alloc (bx a b)) (k + 1) 2 (some ⟨k, 0, none⟩) 1 (pcs [(a, b)]) := by subst h; exact reads_one w a b
theorem reads_oneU_at (w : World) (a : Int) (k : Nat) (h : w.heap.size = k) : Reads (w.alloc (.cells #[.int .u64 a] 24)) (k + 1) 1 (some ⟨k, 0, none⟩) 1 (ucs [a]) := by subst h; exact reads_oneU w a
set_option maxHeartbeats 400000 in
theorem first_s (n i : Int) (w : World) : Calls Try.prog 83 #[.agg #[.int .i64 n, .int .u64 i]] w (RetV w 0 n i [(n, i)] [0]) := by
  go_enter Try.func83, Try.ntmps83
  go_wp2
  refine bodyPost_ret (v := Vw.v ⟨0, n, i, some ⟨w.heap.size + 1 + 1, 0, none⟩, 1, [(n, i)], some ⟨w.heap.size + 1 + 1 + 1, 0, none⟩, 1, [0]⟩) (by simp [results, Try.results83, go_sem, Vw.v]) rfl ?_
  refine ⟨_, _, _, _, rfl, ⟨?_, ?_, by simp, by simp⟩, (by repeat (first | exact Below.refl _ _ | assumption | refine bel_al ?_ _ | refine bel_gw ?_ _ _ | refine bel_drew ?_ | refine bel_drewN ?_ _))⟩
  · exact ((reads_one_at _ n i _ (by simp)).alloc (by simp) _).more (by simp)
  · exact (reads_oneU_at _ 0 _ (by simp)).more (by simp)
end Go.Proofs.Ytgpmcpinnaggmaa
