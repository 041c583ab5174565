/-
  Layer 6: the law's awake.
-/
import Derived.Test.YtggmninbpnolgaaGreatPkS
namespace Go.Proofs.YtggmninbpnolgaaGreat
set_option linter.unusedSimpArgs false
set_option linter.unusedVariables false
set_option linter.unusedSectionVars false
open Go.RowKit

theorem reads_box {W : World} {m k n : Nat} {cs : Array Value} {t : TypeId} (h : BoxAt W m cs t) (hn : cs.size = n * k) : Reads W W.heap.size k (some ⟨m, 0, none⟩) n cs.toList := by
  refine ⟨by simpa using hn, fun _ => ⟨_, _, rfl, h.lt, fun j u hu => ?_⟩⟩
  rw [Nat.zero_add, cell?_box]
  simpa using hu
abbrev pkA : Pk := ⟨1, 0, 0, 0, [], [], 1, 2, 5, [(2, 1), (3, 7)]⟩
abbrev pkC : Pk := ⟨3, 6, 1, 0, [⟨5, 2, 1, 1⟩], [], 0, 0, 0, []⟩
theorem pkA_may : pkA.mayB = true := by
  unfold Pk.mayB mayKB advB
  rw [lives_nodes]
  decide +kernel
theorem pkC_may : pkC.mayB = true := by decide +kernel
theorem pkA_enc : pkA.enc = [1, 1, 2, 5, 2, 2, 1, 3, 7] := by decide +kernel
theorem pkC_enc : pkC.enc = [3, 6, 1, 0, 1, 5, 2, 1, 1] := by decide +kernel
theorem wf64 (n : Nat) (h : n ≤ 100) : wfU64 (n : Int) := ⟨by omega, by omega⟩
theorem pkA_F : PkF pkA := ⟨wf64 0 (by omega), wf64 2 (by omega), wf64 5 (by omega), by simp, bOK.nil, by
  intro p hp
  simp at hp
  rcases hp with rfl | rfl
  · exact wf64 1 (by omega)
  · exact wf64 7 (by omega)⟩
theorem pkC_F : PkF pkC := ⟨wf64 1 (by omega), wf64 0 (by omega), wf64 0 (by omega), by
  intro p hp
  simp at hp
  subst hp
  exact ⟨wf64 2 (by omega), wf64 1 (by omega), wf64 1 (by omega)⟩, bOK.nil, by simp⟩
theorem bOK_C : bOK [3, 6, 1, 0, 1, 5, 2, 1, 1] := by intro b hb; simp at hb; omega
set_option maxRecDepth 100000 in
set_option maxHeartbeats 4000000 in
theorem awake6_t (w : World) : Calls Tryz.prog 6 #[] w (RetB w true) := by
  have T1 : Hid (∀ (m : Nat) W, BoxAt W m #[.int .i64 2, .int .u64 1, .int .i64 3, .int .u64 7] 24 → Calls Tryz.prog 8 #[PkV 1 0 0 0 none 0 0 none 0 0 1 2 5 (some ⟨m, 0, none⟩) 2 2] W (RetKE W [1, 1, 2, 5, 2, 2, 1, 3, 7])) := hide (fun m W h => by
    have := kencode_s pkA none 0 none 0 (some ⟨m, 0, none⟩) 2 W ⟨Reads.none_, Reads.none_, reads_box h rfl, by simp, by simp, by simp⟩ pkA_F pkA_may
    rw [pkA_enc] at this; exact this)
  have T2 : Hid (∀ (m : Nat) W, BoxAt W m #[.int .i64 5, .int .u64 2, .int .u64 1, .int .u64 1] 46 → Calls Tryz.prog 8 #[PkV 3 6 1 0 (some ⟨m, 0, none⟩) 1 1 none 0 0 0 0 0 none 0 0] W (RetKE W [3, 6, 1, 0, 1, 5, 2, 1, 1])) := hide (fun m W h => by
    have := kencode_s pkC (some ⟨m, 0, none⟩) 1 none 0 none 0 W ⟨reads_box h rfl, Reads.none_, sl_nil W, by simp, by simp, by simp⟩ pkC_F pkC_may
    rw [pkC_enc] at this; exact this)
  have T3 : Hid (∀ A c W, Reads W W.heap.size 1 A 9 (bcs [3, 6, 1, 0, 1, 5, 2, 1, 1]) → Calls Tryz.prog 12 #[.slice A 9 c] W (RetPk W pkC 0)) := hide (fun A c W h => by
    have := kdecode_s A c [3, 6, 1, 0, 1, 5, 2, 1, 1] W h (by simp) bOK_C
    rw [← pkC_enc, decK_back pkC pkC_may pkC_F] at this; exact this)
  have T4 : Hid (∀ (m : Nat) W, BoxAt W m #[.int .i64 2, .int .u64 1, .int .i64 3, .int .u64 7] 24 → Calls Tryz.prog 14 #[PkV 1 0 0 0 none 0 0 none 0 0 1 2 5 (some ⟨m, 0, none⟩) 2 2] W (RetB W true)) := hide (fun m W h => by
    have := kmayc_s pkA none 0 none 0 (some ⟨m, 0, none⟩) 2 W ⟨Reads.none_, Reads.none_, reads_box h rfl, by simp, by simp, by simp⟩
    rw [pkA_may] at this; exact this)
  have T5 : Hid (∀ HA hcp BA bcp PA pcp (m : Nat) W, PkIn W pkC HA BA PA → BoxAt W m #[.int .i64 5, .int .u64 2, .int .u64 1, .int .u64 1] 46 → Calls Tryz.prog 11 #[PkV 3 6 1 0 HA 1 hcp BA 0 bcp 0 0 0 PA 0 pcp, PkV 3 6 1 0 (some ⟨m, 0, none⟩) 1 1 none 0 0 0 0 0 none 0 0] W (RetB W true)) := hide (fun HA hcp BA bcp PA pcp m W h hm =>
    ksameP_s pkC pkC HA hcp BA bcp PA pcp (some ⟨m, 0, none⟩) 1 none 0 none 0 W h ⟨reads_box hm rfl, Reads.none_, sl_nil W, by simp, by simp, by simp⟩ bOK.nil bOK.nil true (by simp))
  have hs1 : strOfNums [1, 1, 2, 5, 2, 2, 1, 3, 7] = ⟨#[1, 1, 2, 5, 2, 2, 1, 3, 7]⟩ := rfl
  have hs2 : strOfNums [3, 6, 1, 0, 1, 5, 2, 1, 1] = ⟨#[3, 6, 1, 0, 1, 5, 2, 1, 1]⟩ := rfl
  go_enter Tryz.func6, Tryz.ntmps6
  go_wp2_with fail
  (with_reducible refine (T1.out w.heap.size _ inferInstance).mono ?_)
  rintro e w1 ⟨v1, rfl, ho, hb⟩
  haveI : Stp _ w1 := ⟨hb⟩
  obtain ⟨A1, c1, rfl, _, _⟩ := own_slice ho
  haveI : RdY w1 A1 9 [1, 1, 2, 5, 2, 2, 1, 3, 7] := ⟨Reads.of_own ho⟩
  simp only [List.length_cons, List.length_nil, Nat.zero_add, Nat.reduceAdd]
  clear ho hb T1
  go_wp2_with fail
  (with_reducible refine (T2.out w1.heap.size _ inferInstance).mono ?_)
  rintro e w2 ⟨v2, rfl, ho, hb⟩
  haveI : Stp _ w2 := ⟨hb⟩
  obtain ⟨A2, c2, rfl, _, _⟩ := own_slice ho
  have HR := hide (Reads.of_own ho)
  haveI : RdY w2 A2 9 [3, 6, 1, 0, 1, 5, 2, 1, 1] := ⟨HR.out⟩
  simp only [List.length_cons, List.length_nil, Nat.zero_add, Nat.reduceAdd]
  clear ho hb T2
  go_wp2_with fail
  (with_reducible refine (T3.out A2 c2 _ HR.out).mono ?_)
  rintro e w3 ⟨HA, hcp, BA, bcp, PA, pcp, rfl, hin, hb⟩
  haveI : Stp _ w3 := ⟨hb⟩
  have HIN := hide hin
  simp only [List.length_cons, List.length_nil, Nat.zero_add]
  clear hin hb T3
  go_wp2_with fail
  (with_reducible refine (T4.out w.heap.size _ inferInstance).mono ?_)
  rintro e w4 ⟨rfl, hb⟩
  haveI : Stp _ w4 := ⟨hb⟩
  clear hb T4
  go_wp2_with fail
  (with_reducible refine (T5.out HA hcp BA bcp PA pcp w1.heap.size _ HIN.out.tc inferInstance).mono ?_)
  rintro e w5 ⟨rfl, hb⟩
  haveI : Stp _ w5 := ⟨hb⟩
  clear hb T5
  go_wp2
  go_ret
  exact ⟨rfl, blw⟩
end Go.Proofs.YtggmninbpnolgaaGreat
