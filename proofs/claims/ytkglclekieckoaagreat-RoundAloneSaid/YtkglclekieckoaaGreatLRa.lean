/-
  RoundAlone answers true.
-/
import Derived.Test.YtkglclekieckoaaGreatRaS
import Derived.Test.YtkglclekieckoaaGreatRaT
namespace Go.Proofs.YtkglclekieckoaaGreat
set_option linter.unusedSimpArgs false
set_option linter.unusedVariables false
set_option linter.unusedSectionVars false
open Go.RowKit

theorem alone_view {n i cn ci cid rd : Int} (h1 : togetherB [(n, i)] = true) (h2 : mayB cn ci = true) (h3 : 0 < cid) (h5 : 0 < rd) : viewP [aloneP n i cn ci cid rd] = some ((rd, n, i), [(cn, ci)], [cid]) := by
  have hm2 : mayR [⟨cn, ci, cid, rd, 0, false⟩] = true := by
    rw [mayR_iff]
    refine ⟨by unfold rising; exact List.pairwise_singleton _ _, fun x hx => ?_, by simp⟩
    rw [List.mem_singleton.1 hx]
    exact h2
  have hmay : (aloneP n i cn ci cid rd).mayB = true := by
    have := myP_may (a := ⟨n, i, rd, none, 0, [(n, i)], none, 0, [⟨cn, ci, cid, rd, 0, false⟩], none, 0, [(cn, ci)], none, 0, [], false, false, vw0⟩) h1 (List.mem_singleton.2 rfl) h5 hm2 (fun x hx => by
      obtain ⟨h8, _⟩ := there_gone hx
      rw [List.mem_singleton.1 h8]
      exact h3)
    exact this
  have hag : agreeB [aloneP n i cn ci cid rd] = true := by
    rw [agreeB_iff]
    refine ⟨by simp, by simp, rd, [(n, i)], rfl, fun p hp => ?_, ?_⟩
    · rw [List.mem_singleton.1 hp]; exact ⟨hmay, rfl, rfl⟩
    · exact sorted_one (n, i)
  unfold viewP
  rw [if_neg (by rw [hag]; simp), if_neg (by simp [clsP, aloneP, livesB])]
  have e : clsP [aloneP n i cn ci cid rd] = [(cn, ci)] := by simp [clsP, aloneP]
  rw [e, sorted_one]
  simp [aloneP, prs, lookL]
set_option maxRecDepth 100000 in
set_option maxHeartbeats 16000000 in
set_option synthInstance.maxSize 1000 in
theorem roundAlone_true (cid seen node : Int) (w : World) (hc : 0 ≤ cid ∧ cid ≤ 18446744073709551615) (hs : 0 ≤ seen ∧ seen ≤ 18446744073709551615) (hn : -9223372036854775808 ≤ node ∧ node ≤ 9223372036854775807) : Calls Tryz.prog 3 #[.int .u64 cid, .int .u64 seen, .int .i64 node] w (RetB w true) := by
  have TA := hide (fun W => awake18_t W)
  by_cases q1 : (18446744073709551615 : Int) ≤ cid
  · have d1 : decide ((18446744073709551615 : Int) ≤ cid) = true := decide_eq_true q1
    go_enter Tryz.func3, Tryz.ntmps3
    go_wp2_with fail
    (with_reducible refine (TA.out _).mono ?_)
    rintro e w2 ⟨rfl, hb2⟩
    haveI : Stp _ w2 := ⟨hb2⟩
    go_wp2
    go_ret
    exact ⟨rfl, blw⟩
  by_cases q2 : (18446744073709551614 : Int) ≤ seen
  · have d1 : decide ((18446744073709551615 : Int) ≤ cid) = false := decide_eq_false q1
    have d2 : decide ((18446744073709551614 : Int) ≤ seen) = true := decide_eq_true q2
    go_enter Tryz.func3, Tryz.ntmps3
    go_wp2_with fail
    (with_reducible refine (TA.out _).mono ?_)
    rintro e w2 ⟨rfl, hb2⟩
    haveI : Stp _ w2 := ⟨hb2⟩
    go_wp2
    go_ret
    exact ⟨rfl, blw⟩
  by_cases q3 : node < 5
  · have d1 : decide ((18446744073709551615 : Int) ≤ cid) = false := decide_eq_false q1
    have d2 : decide ((18446744073709551614 : Int) ≤ seen) = false := decide_eq_false q2
    have d3 : decide (node < 5) = true := decide_eq_true q3
    go_enter Tryz.func3, Tryz.ntmps3
    go_wp2_with fail
    (with_reducible refine (TA.out _).mono ?_)
    rintro e w2 ⟨rfl, hb2⟩
    haveI : Stp _ w2 := ⟨hb2⟩
    go_wp2
    go_ret
    exact ⟨rfl, blw⟩
  by_cases q4 : 10 < node
  · have d1 : decide ((18446744073709551615 : Int) ≤ cid) = false := decide_eq_false q1
    have d2 : decide ((18446744073709551614 : Int) ≤ seen) = false := decide_eq_false q2
    have d3 : decide (node < 5) = false := decide_eq_false q3
    have d4 : decide (10 < node) = true := decide_eq_true q4
    go_enter Tryz.func3, Tryz.ntmps3
    go_wp2_with fail
    (with_reducible refine (TA.out _).mono ?_)
    rintro e w2 ⟨rfl, hb2⟩
    haveI : Stp _ w2 := ⟨hb2⟩
    go_wp2
    go_ret
    exact ⟨rfl, blw⟩
  have d1 : decide ((18446744073709551615 : Int) ≤ cid) = false := decide_eq_false q1
  have d2 : decide ((18446744073709551614 : Int) ≤ seen) = false := decide_eq_false q2
  have d3 : decide (node < 5) = false := decide_eq_false q3
  have d4 : decide (10 < node) = false := decide_eq_false q4
  have hmn : mayB node 1 = true := decide_eq_true ⟨by omega, by omega, by decide⟩
  have hcl : clOk [⟨node, 1, cid, seen, 0, false⟩] := fun x hx => by
    rw [List.mem_singleton.1 hx]
    exact ⟨⟨by show -9223372036854775808 ≤ node; omega, by show node ≤ 9223372036854775807; omega, by show (0 : Int) ≤ 1; decide, by show (1 : Int) ≤ 18446744073709551615; decide⟩, hc.1, hc.2, hs.1, hs.2⟩
  have hmr : mayR [⟨node, 1, cid, seen, 0, false⟩] = true := by
    rw [mayR_iff]
    refine ⟨by unfold rising; exact List.pairwise_singleton _ _, fun x hx => ?_, by simp⟩
    rw [List.mem_singleton.1 hx]
    exact hmn
  have HAL := hide (alone_eq (n := 2) (i := 3) (cn := node) (ci := 1) (cid := cid) (rd := seen) (hd := 0) (by decide +kernel) hmr hc.1 (by unfold um; omega) hs.1 (by unfold um; omega) (hcl _ (List.mem_singleton.2 rfl)).1)
  have HVW := hide (alone_view (n := 2) (i := 3) (cn := node) (ci := 1) (cid := cid + 1) (rd := seen + 1) (by decide +kernel) hmn (by omega) (by omega))
  have HWF := hide (hcl _ (List.mem_singleton.2 rfl)).1
  have HCL := hide hcl
  have b1 : cid < 18446744073709551615 := by omega
  have b2 : seen < 18446744073709551614 := by omega
  obtain ⟨c0, c1⟩ := hc
  obtain ⟨s0, s1⟩ := hs
  clear hcl hmr hmn q1 q2 q3 q4 hn
  go_enter Tryz.func3, Tryz.ntmps3
  go_upto_region 4 with (go_at_call 8; (with_reducible refine (life18_s _ _ _).mono ?_); rintro e w9 ⟨rfl, rfl⟩)
  have hfin : ∀ (T : Array Value) (W : World) (D : List Nat) (n8 n9 : Nat) (b : Ag) (u : Tu), T.size = 92 → T[0]? = some (.int .u64 cid) → T[1]? = some (.int .u64 seen) → T[8]? = some (.pointer (some ⟨n8, 0, none⟩)) → T[9]? = some (.pointer (some ⟨n9, 0, none⟩)) → BoxAt W n8 b.cs 38 → BoxAt W n9 u.cs 43 → b.br = (raR node cid seen).1 → u.br = (raR node cid seen).2 → @Tu.Ok (avo D) W u → Below w.heap.size w W → Code.wp Tryz.prog (cdP [true, true, true, true] (Tryz.f3.body.getD .skip)) (bodyPost Tryz.prog Tryz.f3 (RetB w true)) ⟨T, []⟩ W := by
    intro T W D n8 n9 b u hz h0 h1 h8 h9 hk8 hk9 hb hu huo hB
    have hb := hb.trans (congrArg Prod.fst HAL.out)
    have hu := hu.trans (congrArg Prod.snd HAL.out)
    exact ra_tail w W D node cid seen c0 b1 s0 b2 b u n8 n9 T hz h0 h1 h8 h9 hk8 hk9 (congrArg Ag.rd hb) (congrArg Ag.dn hb) (congrArg Tu.md hu) (congrArg Tu.vw hu) (congrArg Tu.pp hu) huo hB HVW.out HWF.out
  have HF := hide hfin
  clear hfin
  refine ra_region _ _ w _ (w.heap.size + 1) _ node cid seen (by rfl) (by rfl) (by rfl) (by rfl) (by rfl) HCL.out inferInstance blw ?_
  intro T W D n8 n9 b u hz h0 h1 h8 h9 hk8 hk9 hb hu huo hB
  repeat (first | (exact HF.out T W D n8 n9 b u hz h0 h1 h8 h9 hk8 hk9 hb hu huo hB) | go_step)
end Go.Proofs.YtkglclekieckoaaGreat
