/-
  Layer 6: the law PacketOneForm: true for every input.
-/
import Derived.Test.YtmnfiffddeodeaaPkA
import Derived.Test.YtmnfiffddeodeaaPkL3
import Derived.Test.YtmnfiffddeodeaaPkS
import Derived.Test.YtmnfiffddeodeaaTcL
namespace Go.Proofs.Ytmnfiffddeodeaa
set_option linter.unusedSimpArgs false
set_option linter.unusedVariables false
set_option linter.unusedSectionVars false
open Go.RowKit

set_option maxRecDepth 100000 in
set_option maxHeartbeats 4000000 in
theorem packetOneForm_true (A : Option Addr) (c : Nat) (bs : List Int) (w : World) (h : Reads w w.heap.size 1 A bs.length (bcs bs)) (hok : bOK bs) :
    Calls Try.prog 5 #[.slice A bs.length c] w (RetB w true) := by
  have TA := hide (fun W => awake6_t W)
  by_cases hl : bs.length ≤ 65536
  · have TD := hide (fun W (h : Reads W W.heap.size 1 A bs.length (bcs bs)) => kdecode_s A c bs W h (by omega) hok)
    have l1 : decide (65536 < (bs.length : Int)) = false := decide_eq_false (by omega)
    haveI : Src w A bs.length 1 (bcs bs) := ⟨h⟩
    cases hd : decK bs with
    | none =>
      rw [hd] at TD
      have TS := hide (fun W HA hcp BA bcp PA pcp (h : PkIn W pk0 HA BA PA) => ksameP_s pk0 pk0 HA hcp BA bcp PA pcp none 0 none 0 none 0 W h (pk0_in W) bOK.nil bOK.nil true (by simp))
      simp only [RetDecK, RetPk, Pk.at, pk0, List.length_nil] at TD TS
      clear h hok hl hd
      go_enter Try.func5, Try.ntmps5
      go_wp2_with fail
      (with_reducible refine (TD.out _ src).mono ?_)
      rintro e w1 ⟨HA, hcp, BA, bcp, PA, pcp, rfl, hin, hb⟩
      haveI : Stp _ w1 := ⟨hb⟩
      have HIN := hide hin
      clear hb TD hin
      go_wp2_with fail
      (with_reducible refine (TS.out _ HA hcp BA bcp PA pcp HIN.out.tc).mono ?_)
      rintro e w2 ⟨rfl, hb⟩
      haveI : Stp _ w2 := ⟨hb⟩
      clear hb TS
      go_wp2_with fail
      (with_reducible refine (TA.out _).mono ?_)
      rintro e w3 ⟨rfl, hb⟩
      haveI : Stp _ w3 := ⟨hb⟩
      clear hb
      go_wp2
      go_ret
      exact ⟨rfl, blw⟩
    | some x =>
      rw [hd] at TD
      obtain ⟨hm, he, hf⟩ := decK_inv hok hd
      have TE := hide (fun W HA hcp BA bcp PA pcp (h : PkIn W x HA BA PA) => kencode_s x HA hcp BA bcp PA pcp W h hf hm)
      rw [he] at TE
      have TM := hide (fun W HA hcp BA bcp PA pcp (h : PkIn W x HA BA PA) => kmayc_s x HA hcp BA bcp PA pcp W h)
      rw [hm] at TM
      haveI : RdY w A bs.length bs := ⟨h⟩
      obtain ⟨k, n, i, hp, hs, bo, an, ai, sq, ps⟩ := x
      simp only [RetDecK, RetPk, Pk.at] at TD TE TM
      clear h hok hl hd hm he hf
      go_enter Try.func5, Try.ntmps5
      go_wp2_with fail
      (with_reducible refine (TD.out _ src).mono ?_)
      rintro e w1 ⟨HA, hcp, BA, bcp, PA, pcp, rfl, hin, hb⟩
      haveI : Stp _ w1 := ⟨hb⟩
      have HIN := hide hin
      clear hb TD hin
      go_wp2_with fail
      (with_reducible refine (TE.out _ HA hcp BA bcp PA pcp HIN.out.tc).mono ?_)
      rintro e w2 ⟨v2, rfl, ho2, hb⟩
      haveI : Stp _ w2 := ⟨hb⟩
      obtain ⟨A2, c2, rfl, _, _⟩ := own_slice ho2
      haveI : RdY w2 A2 bs.length bs := ⟨Reads.of_own ho2⟩
      clear hb TE ho2
      go_wp2_with fail
      (with_reducible refine (TM.out _ HA hcp BA bcp PA pcp HIN.out.tc).mono ?_)
      rintro e w3 ⟨rfl, hb⟩
      haveI : Stp _ w3 := ⟨hb⟩
      clear hb TM
      go_wp2_with fail
      (with_reducible refine (TA.out _).mono ?_)
      rintro e w4 ⟨rfl, hb⟩
      haveI : Stp _ w4 := ⟨hb⟩
      clear hb
      go_wp2
      go_ret
      exact ⟨rfl, blw⟩
  · have l1 : decide (65536 < (bs.length : Int)) = true := decide_eq_true (by omega)
    clear h hok hl
    go_enter Try.func5, Try.ntmps5
    go_wp2_with fail
    (with_reducible refine (TA.out _).mono ?_)
    rintro e w4 ⟨rfl, hb⟩
    haveI : Stp _ w4 := ⟨hb⟩
    clear hb
    go_wp2
    go_ret
    exact ⟨rfl, blw⟩
end Go.Proofs.Ytmnfiffddeodeaa
