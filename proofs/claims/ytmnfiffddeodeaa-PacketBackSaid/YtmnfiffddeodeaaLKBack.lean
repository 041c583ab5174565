/-
  Layer 6: the law PacketBack: true for every input.
-/
import Derived.Test.YtmnfiffddeodeaaOpenK
import Derived.Test.YtmnfiffddeodeaaPkA
import Derived.Test.YtmnfiffddeodeaaPkB
import Derived.Test.YtmnfiffddeodeaaTcL
namespace Go.Proofs.Ytmnfiffddeodeaa
set_option linter.unusedSimpArgs false
set_option linter.unusedVariables false
set_option linter.unusedSectionVars false
open Go.RowKit

set_option maxRecDepth 100000 in
set_option maxHeartbeats 4000000 in
theorem packetBackY (x : Pk) (HA : Option Addr) (hcp : Nat) (BA : Option Addr) (bcp : Nat) (PA : Option Addr) (pcp : Nat) (w : World) (h : PkIn w x HA BA PA) (hf : PkF x) (hh : longB x = false) (hm : x.mayB = true) :
    Calls Try.prog 4 #[x.at HA hcp BA bcp PA pcp] w (RetB w true) := by
  have hlen := kenc_len x hm
  have l1 : decide ((x.enc.length : Int) ≤ 448) = true := decide_eq_true (by omega)
  have TA := hide (fun W => awake6_t W)
  have TL := hide (fun W => long_s x HA hcp BA bcp PA pcp W)
  rw [hh] at TL
  have TE := hide (fun W (h : PkIn W x HA BA PA) => kencode_s x HA hcp BA bcp PA pcp W h hf hm)
  have TM := hide (fun W (h : PkIn W x HA BA PA) => kmayc_s x HA hcp BA bcp PA pcp W h)
  rw [hm] at TM
  have TD := hide (fun A c W (h : Reads W W.heap.size 1 A x.enc.length (bcs x.enc)) => kdecode_s A c x.enc W h (by omega) (Pk.enc_bOK hf hm))
  rw [decK_back x hm hf] at TD
  have TS := hide (fun W HA' hcp' BA' bcp' PA' pcp' (h : PkIn W x HA BA PA) (h' : PkIn W x HA' BA' PA') => ksameP_s x x HA hcp BA bcp PA pcp HA' hcp' BA' bcp' PA' pcp' W h h' hf.bs hf.bs true (by simp))
  have HX := hide h
  generalize x.enc = en at TE TD l1
  obtain ⟨k, n, i, hp, hs, bo, an, ai, sq, ps⟩ := x
  simp only [RetDecK, RetPk, Pk.at] at TD TE TM TS TL ⊢
  clear h hh hm hf hlen
  go_enter Try.func4, Try.ntmps4
  go_wp2_with fail
  (with_reducible refine (TL.out _).mono ?_)
  rintro e w1 ⟨rfl, hb⟩
  haveI : Stp _ w1 := ⟨hb⟩
  clear hb TL
  go_wp2_with fail
  (with_reducible refine (TE.out _ HX.out.tc).mono ?_)
  rintro e w2 ⟨v2, rfl, ho2, hb⟩
  haveI : Stp _ w2 := ⟨hb⟩
  obtain ⟨A2, c2, rfl, _, _⟩ := own_slice ho2
  haveI : Src w2 A2 en.length 1 (bcs en) := ⟨Reads.of_own ho2⟩
  clear hb TE ho2
  go_wp2_with fail
  (with_reducible refine (TM.out _ HX.out.tc).mono ?_)
  rintro e w3 ⟨rfl, hb⟩
  haveI : Stp _ w3 := ⟨hb⟩
  clear hb TM
  go_wp2_with fail
  (with_reducible refine (TD.out A2 c2 _ src).mono ?_)
  rintro e w4 ⟨HA4, hcp4, BA4, bcp4, PA4, pcp4, rfl, hin, hb⟩
  haveI : Stp _ w4 := ⟨hb⟩
  have HIN := hide hin
  clear hb TD hin
  go_wp2_with fail
  (with_reducible refine (TS.out _ HA4 hcp4 BA4 bcp4 PA4 pcp4 HX.out.tc HIN.out.tc).mono ?_)
  rintro e w5 ⟨rfl, hb⟩
  haveI : Stp _ w5 := ⟨hb⟩
  clear hb TS
  go_wp2_with fail
  (with_reducible refine (TA.out _).mono ?_)
  rintro e w6 ⟨rfl, hb⟩
  haveI : Stp _ w6 := ⟨hb⟩
  clear hb
  go_wp2
  go_ret
  exact ⟨rfl, blw⟩
set_option maxRecDepth 100000 in
set_option maxHeartbeats 4000000 in
theorem packetBackN (x : Pk) (HA : Option Addr) (hcp : Nat) (BA : Option Addr) (bcp : Nat) (PA : Option Addr) (pcp : Nat) (w : World) (h : PkIn w x HA BA PA) (hh : longB x = false) (hm : x.mayB = false) :
    Calls Try.prog 4 #[x.at HA hcp BA bcp PA pcp] w (RetB w true) := by
  have TA := hide (fun W => awake6_t W)
  have TL := hide (fun W => long_s x HA hcp BA bcp PA pcp W)
  rw [hh] at TL
  have TE := hide (fun W (h : PkIn W x HA BA PA) => kencode_no x HA hcp BA bcp PA pcp W h hm)
  have TM := hide (fun W (h : PkIn W x HA BA PA) => kmayc_s x HA hcp BA bcp PA pcp W h)
  rw [hm] at TM
  have HX := hide h
  obtain ⟨k, n, i, hp, hs, bo, an, ai, sq, ps⟩ := x
  simp only [Pk.at] at TE TM TL ⊢
  clear h hh hm
  go_enter Try.func4, Try.ntmps4
  go_wp2_with fail
  (with_reducible refine (TL.out _).mono ?_)
  rintro e w1 ⟨rfl, hb⟩
  haveI : Stp _ w1 := ⟨hb⟩
  clear hb TL
  go_wp2_with fail
  (with_reducible refine (TE.out _ HX.out.tc).mono ?_)
  rintro e w2 ⟨rfl, hb⟩
  haveI : Stp _ w2 := ⟨hb⟩
  clear hb TE
  go_wp2_with fail
  (with_reducible refine (TM.out _ HX.out.tc).mono ?_)
  rintro e w3 ⟨rfl, hb⟩
  haveI : Stp _ w3 := ⟨hb⟩
  clear hb TM
  go_wp2_with fail
  (with_reducible refine (TA.out _).mono ?_)
  rintro e w6 ⟨rfl, hb⟩
  haveI : Stp _ w6 := ⟨hb⟩
  clear hb
  go_wp2
  go_ret
  exact ⟨rfl, blw⟩
set_option maxRecDepth 100000 in
set_option maxHeartbeats 4000000 in
theorem packetBackL (x : Pk) (HA : Option Addr) (hcp : Nat) (BA : Option Addr) (bcp : Nat) (PA : Option Addr) (pcp : Nat) (w : World) (hh : longB x = true) :
    Calls Try.prog 4 #[x.at HA hcp BA bcp PA pcp] w (RetB w true) := by
  have TA := hide (fun W => awake6_t W)
  have TL := hide (fun W => long_s x HA hcp BA bcp PA pcp W)
  rw [hh] at TL
  obtain ⟨k, n, i, hp, hs, bo, an, ai, sq, ps⟩ := x
  simp only [Pk.at] at TL ⊢
  clear hh
  go_enter Try.func4, Try.ntmps4
  go_wp2_with fail
  (with_reducible refine (TL.out _).mono ?_)
  rintro e w1 ⟨rfl, hb⟩
  haveI : Stp _ w1 := ⟨hb⟩
  clear hb TL
  go_wp2_with fail
  (with_reducible refine (TA.out _).mono ?_)
  rintro e w6 ⟨rfl, hb⟩
  haveI : Stp _ w6 := ⟨hb⟩
  clear hb
  go_wp2
  go_ret
  exact ⟨rfl, blw⟩
theorem packetBack_true (x : Pk) (HA : Option Addr) (hcp : Nat) (BA : Option Addr) (bcp : Nat) (PA : Option Addr) (pcp : Nat) (w : World) (h : PkRd w x HA BA PA) :
    Calls Try.prog 4 #[x.at HA hcp BA bcp PA pcp] w (RetB w true) := by
  cases hh : longB x
  · cases hm : x.mayB
    · exact packetBackN x HA hcp BA bcp PA pcp w (h.ok hh) hh hm
    · exact packetBackY x HA hcp BA bcp PA pcp w (h.ok hh) h.f hh hm
  · exact packetBackL x HA hcp BA bcp PA pcp w hh
end Go.Proofs.Ytmnfiffddeodeaa
