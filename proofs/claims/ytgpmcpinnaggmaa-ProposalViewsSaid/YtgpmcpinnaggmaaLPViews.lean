/-
  Layer 9: the law ProposalViews: true for every input.
-/
import Derived.Test.YtgpmcpinnaggmaaLP0
import Derived.Test.YtgpmcpinnaggmaaRv2
namespace Go.Proofs.Ytgpmcpinnaggmaa
set_option linter.unusedSimpArgs false
set_option linter.unusedVariables false
set_option linter.unusedSectionVars false
open Go.RowKit

theorem hvPL_few {l : List Pp} (h : hvPL l = false) : l.length ≤ 20 ∧ ∀ x ∈ l, hvP x = false := by
  unfold hvPL at h
  rw [Bool.or_eq_false_iff, decide_eq_false_iff_not, List.any_eq_false] at h
  exact ⟨by omega, fun x hx => by simpa using h.2 x hx⟩
theorem pl_of {w : World} {A : Option Addr} {l : List Pp} (h : Reads w w.heap.size 6 A l.length (pps l)) (hw : ∀ x ∈ l, x.In w ∧ x.Wf) (hh : hvPL l = false) : Pl w A l := ⟨h, fun x hx => Pp.ok_of (hw x hx).1 ((hvPL_few hh).2 x hx)⟩
set_option maxRecDepth 100000 in
set_option maxHeartbeats 4000000 in
theorem proposalViews_true (A : Option Addr) (c : Nat) (l : List Pp) (w : World) (h : Reads w w.heap.size 6 A l.length (pps l)) (hn : l.length ≤ 9223372036854775807) (hw : ∀ x ∈ l, x.In w ∧ x.Wf) : Calls Try.prog 5 #[.slice A l.length c] w (RetB w true) := by
  have TA := hide (fun W => awake9_t W)
  have TH := hide (heavy9_s A c l w h hn)
  cases hh : hvPL l
  · rw [hh] at TH
    have hpl := pl_of h hw hh
    have hl20 := (hvPL_few hh).1
    have hwf : ∀ x ∈ l, ∀ p ∈ x.cs, wfP p := fun x hx => (hw x hx).2.cs
    have hnn : ∀ x ∈ l, x.Nn := fun x hx => (hw x hx).2.nn
    have hrd : ∀ x ∈ l, 0 ≤ x.rd := fun x hx => (hw x hx).2.rd.1
    have HP := hide hpl
    have T1 := hide (pview_s A c l w hpl (by omega) hwf)
    have T2 := hide (fun W (h : Pl W A l) => refView_s A c l W h (by omega) hnn hrd hwf)
    have T3 := hide (fun W (h : Pl W A l) => agree_s A c l W h (by omega))
    have T4 := hide (fun W (h : Pl W A l) => refAgree_s A c l W h (by omega) hnn hrd)
    have T5 := hide (fun x y W h h' => refVSame_s x y W h h')
    generalize agreeB l = b1 at T3 T4
    have e1 : (b1 == b1) = true := by simp
    clear h hw hh hwf hnn hrd hpl hn hl20
    generalize hv : viewP l = o at T1 T2
    rcases o with _ | ⟨⟨r, vn, vi⟩, ms, us⟩
    · clear hv
      have T6 : Hid (∀ W, Calls Try.prog 25 #[.agg #[.int .u64 0, .int .i64 0, .int .u64 0, .slice none 0 0, .slice none 0 0], .agg #[.int .u64 0, .int .i64 0, .int .u64 0, .slice none 0 0, .slice none 0 0]] W (RetB W true)) := hide (fun W => by
        have := T5.out ⟨0, 0, 0, none, 0, [], none, 0, []⟩ ⟨0, 0, 0, none, 0, [], none, 0, []⟩ W ⟨Reads.none_, Reads.none_, by simp, by simp⟩ ⟨Reads.none_, Reads.none_, by simp, by simp⟩
        rw [show Vw.eqB ⟨0, 0, 0, none, 0, [], none, 0, []⟩ ⟨0, 0, 0, none, 0, [], none, 0, []⟩ = true by simp [Vw.eqB]] at this
        exact this)
      clear T5
      go_enter Try.func5, Try.ntmps5
      go_wp2_with fail
      (with_reducible refine TH.out.mono ?_)
      rintro e w0 ⟨rfl, rfl⟩
      go_wp2_with fail
      (with_reducible refine T1.out.mono ?_)
      rintro e w1 ⟨rfl, hb⟩
      have hB1 := below_step hb (below_alloc w1 (bxV 0 0 0 none 0 0 none 0 0))
      have p1 := boxTop w1 #[.int .u64 0, .int .i64 0, .int .u64 0, .slice none 0 0, .slice none 0 0] 32
      have T2' := hide (T2.out _ (HP.out.step hB1))
      clear hb TH T1 T2
      go_wp2_with fail
      (with_reducible refine T2'.out.mono ?_)
      rintro e w2 ⟨rfl, hb⟩
      have hB2 := below_step (below_step hB1 hb) (below_alloc w2 (bxV 0 0 0 none 0 0 none 0 0))
      have q1 := (p1.step hb).alloc' (bxV 0 0 0 none 0 0 none 0 0)
      have q2 := boxTop w2 #[.int .u64 0, .int .i64 0, .int .u64 0, .slice none 0 0, .slice none 0 0] 32
      have hz := hb.size
      have hn1 : w1.heap.size < w2.heap.size := by simp at hz; omega
      have HB2 := hide hB2
      clear hb hB1 hB2 p1 T2' hz
      go_wp2_with fail
      generalize w2.alloc (bxV 0 0 0 none 0 0 none 0 0) = w3 at q1 q2 HB2 ⊢
      haveI := q1
      haveI := q2
      haveI : InW w1.heap.size w3 := ⟨q1.lt⟩
      haveI : InW w2.heap.size w3 := ⟨q2.lt⟩
      (with_reducible refine (T3.out _ (HP.out.step HB2.out)).mono ?_)
      rintro e w4 ⟨rfl, hb⟩
      replace q1 := q1.step hb
      replace q2 := q2.step hb
      have HB4 := hide (below_step HB2.out hb)
      haveI := q1
      haveI := q2
      clear hb HB2 T3
      go_wp2_with fail
      (with_reducible refine (T4.out _ (HP.out.step HB4.out)).mono ?_)
      rintro e w5 ⟨rfl, hb⟩
      replace q1 := q1.step hb
      replace q2 := q2.step hb
      have HB5 := hide (below_step HB4.out hb)
      haveI := q1
      haveI := q2
      clear hb HB4 T4
      go_wp2_with fail
      (with_reducible refine (T6.out _).mono ?_)
      rintro e w6 ⟨rfl, hb⟩
      have HB6 := hide (below_step HB5.out hb)
      clear hb HB5 T6 q1 q2
      go_wp2_with fail
      (with_reducible refine (TA.out _).mono ?_)
      rintro e w7 ⟨rfl, hb⟩
      have HB7 := hide (below_step HB6.out hb)
      clear hb HB6
      go_wp2
      go_ret
      exact ⟨rfl, HB7.out⟩
    · clear hv
      have T6 : Hid (∀ MA mc UA uc MA' mc' UA' uc' W, Vw.Ok W ⟨r, vn, vi, MA, mc, ms, UA, uc, us⟩ → Vw.Ok W ⟨r, vn, vi, MA', mc', ms, UA', uc', us⟩ → Calls Try.prog 25 #[.agg #[.int .u64 r, .int .i64 vn, .int .u64 vi, .slice MA ms.length mc, .slice UA us.length uc], .agg #[.int .u64 r, .int .i64 vn, .int .u64 vi, .slice MA' ms.length mc', .slice UA' us.length uc']] W (RetB W true)) := hide (fun MA mc UA uc MA' mc' UA' uc' W h h' => by
        have := T5.out _ _ W h h'
        rw [show Vw.eqB ⟨r, vn, vi, MA, mc, ms, UA, uc, us⟩ ⟨r, vn, vi, MA', mc', ms, UA', uc', us⟩ = true by simp [Vw.eqB]] at this
        exact this)
      clear T5
      go_enter Try.func5, Try.ntmps5
      go_wp2_with fail
      (with_reducible refine TH.out.mono ?_)
      rintro e w0 ⟨rfl, rfl⟩
      go_wp2_with fail
      (with_reducible refine T1.out.mono ?_)
      rintro e w1 ⟨MA, mc, UA, uc, rfl, ok1, hb⟩
      simp only at ok1 ⊢
      have hB1 := below_step hb (below_alloc w1 (bxV r vn vi MA ms.length mc UA us.length uc))
      have p1 := boxTop w1 #[.int .u64 r, .int .i64 vn, .int .u64 vi, .slice MA ms.length mc, .slice UA us.length uc] 32
      have T2' := hide (T2.out _ (HP.out.step hB1))
      have ok1' := ok1.step (below_alloc w1 (bxV r vn vi MA ms.length mc UA us.length uc))
      clear hb TH T1 T2 ok1
      go_wp2_with fail
      (with_reducible refine T2'.out.mono ?_)
      rintro e w2 ⟨MA', mc', UA', uc', rfl, ok2, hb⟩
      simp only at ok2 ⊢
      have hbA := below_alloc w2 (bxV r vn vi MA' ms.length mc' UA' us.length uc')
      have hB2 := below_step (below_step hB1 hb) hbA
      have OK1 := hide ((ok1'.step hb).step hbA)
      have OK2 := hide (ok2.step hbA)
      have q1 := (p1.step hb).alloc' (bxV r vn vi MA' ms.length mc' UA' us.length uc')
      have q2 := boxTop w2 #[.int .u64 r, .int .i64 vn, .int .u64 vi, .slice MA' ms.length mc', .slice UA' us.length uc'] 32
      have hz := hb.size
      have hn1 : w1.heap.size < w2.heap.size := by simp at hz; omega
      have HB2 := hide hB2
      clear hb hbA hB1 hB2 p1 T2' hz ok1' ok2
      go_wp2_with fail
      generalize w2.alloc (bxV r vn vi MA' ms.length mc' UA' us.length uc') = w3 at q1 q2 HB2 OK1 OK2 ⊢
      haveI := q1
      haveI := q2
      haveI : InW w1.heap.size w3 := ⟨q1.lt⟩
      haveI : InW w2.heap.size w3 := ⟨q2.lt⟩
      (with_reducible refine (T3.out _ (HP.out.step HB2.out)).mono ?_)
      rintro e w4 ⟨rfl, hb⟩
      replace q1 := q1.step hb
      replace q2 := q2.step hb
      have HB4 := hide (below_step HB2.out hb)
      have OK41 := hide (OK1.out.step hb)
      have OK42 := hide (OK2.out.step hb)
      haveI := q1
      haveI := q2
      clear hb HB2 T3
      go_wp2_with fail
      (with_reducible refine (T4.out _ (HP.out.step HB4.out)).mono ?_)
      rintro e w5 ⟨rfl, hb⟩
      replace q1 := q1.step hb
      replace q2 := q2.step hb
      have HB5 := hide (below_step HB4.out hb)
      have OK51 := hide (OK41.out.step hb)
      have OK52 := hide (OK42.out.step hb)
      haveI := q1
      haveI := q2
      clear hb HB4 T4
      go_wp2_with fail
      (with_reducible refine (T6.out _ _ _ _ _ _ _ _ _ OK51.out OK52.out).mono ?_)
      rintro e w6 ⟨rfl, hb⟩
      have HB6 := hide (below_step HB5.out hb)
      clear hb HB5 T6 q1 q2
      go_wp2_with fail
      (with_reducible refine (TA.out _).mono ?_)
      rintro e w7 ⟨rfl, hb⟩
      have HB7 := hide (below_step HB6.out hb)
      clear hb HB6
      go_wp2
      go_ret
      exact ⟨rfl, HB7.out⟩
  · rw [hh] at TH
    clear h hw hh hn
    go_enter Try.func5, Try.ntmps5
    go_wp2_with fail
    (with_reducible refine TH.out.mono ?_)
    rintro e w0 ⟨rfl, rfl⟩
    go_wp2_with fail
    (with_reducible refine (TA.out _).mono ?_)
    rintro e w3 ⟨rfl, hb⟩
    go_wp2
    go_ret
    exact ⟨rfl, hb⟩
end Go.Proofs.Ytgpmcpinnaggmaa
