/-
  Layer 6: the law PacketBytes: true for every input.
-/
import Derived.Test.YtggmninbpnolgaaGreatOpenK
import Derived.Test.YtggmninbpnolgaaGreatPkA
import Derived.Test.YtggmninbpnolgaaGreatOwnK
import Derived.Test.YtggmninbpnolgaaGreatRb6
import Derived.Test.YtggmninbpnolgaaGreatRefK7
import Derived.Test.YtggmninbpnolgaaGreatTcL
namespace Go.Proofs.YtggmninbpnolgaaGreat
set_option linter.unusedSimpArgs false
set_option linter.unusedVariables false
set_option linter.unusedSectionVars false
open Go.RowKit

/-- a row of bytes of one's own, whatever they are -/
structure RowU8 (W : World) (B g n : Nat) : Prop where
  hB : B ≤ g
  bx : ∃ cur, BoxAt W g cur 5 ∧ ∀ j, j < n → ∃ u : Int, cur[j]? = some (.int .u8 u)
theorem RowU8.below {X W : World} {B g n : Nat} (h : RowU8 X B g n) [s : Blw X W] : RowU8 W B g n := by
  obtain ⟨cur, hb, hc⟩ := h.bx
  exact ⟨h.hB, cur, ⟨(s.h.block g hb.lt).trans hb.eq⟩, hc⟩
theorem RowU8.set {W : World} {B g n m : Nat} (h : RowU8 W B g n) (y : Int) : RowU8 (W.setCell ⟨g, m, none⟩ (.int .u8 y)) B g n := by
  obtain ⟨cur, hb, hc⟩ := h.bx
  haveI := hb
  refine ⟨h.hB, _, BoxAt.setAt W g m (.int .u8 y) cur 5, fun j hj => ?_⟩
  obtain ⟨u, hu⟩ := hc j hj
  have hj' := (Array.getElem?_eq_some_iff.1 hu).1
  by_cases e : m = j
  · subst e
    exact ⟨y, by simp [hj']⟩
  · exact ⟨u, by rw [Array.getElem?_setIfInBounds_ne e]; exact hu⟩
theorem RowU8.of {W : World} {B c : Nat} {A : Option Addr} {bs : List Int} (h : OwnB W B (.slice A bs.length c) bs) (hn : 0 < bs.length) : ∃ g, A = some ⟨g, 0, none⟩ ∧ RowU8 W B g bs.length := by
  rcases h.2 with ⟨_, h0⟩ | ⟨g, cap, cur, e, hB, hg, _, _, _, ht⟩
  · omega
  · injection e with e1 e2 e3
    refine ⟨g, e1, hB, cur, ⟨hg⟩, fun j hj => ⟨bs[j], ?_⟩⟩
    have h1 : (cur.toList.take (bs.length * 1))[j]? = (bcs bs)[j]? := by rw [ht]
    rw [List.getElem?_take_of_lt (by omega)] at h1
    have h2 : (bcs bs)[j]? = some (.int .u8 bs[j]) := by simp [bcs, hj]
    rw [h2] at h1
    simpa using h1
set_option maxRecDepth 100000 in
set_option maxHeartbeats 4000000 in
theorem packetBytesY (x : Pk) (HA : Option Addr) (hcp : Nat) (BA : Option Addr) (bcp : Nat) (PA : Option Addr) (pcp : Nat) (w : World) (h : PkIn w x HA BA PA) (hf : PkF x) (hh : longB x = false) (hm : x.mayB = true) :
    Calls Tryz.prog 3 #[x.at HA hcp BA bcp PA pcp] w (RetB w true) := by
  have hlen := kenc_len x hm
  have hpl : x.ps.length ≤ 999999 := by have := hh; simp [longB] at this; omega
  have TA := hide (fun W => awake6_t W)
  have TL := hide (fun W => long_s x HA hcp BA bcp PA pcp W)
  rw [hh] at TL
  have TO := hide (fun W (h : PkIn W x HA BA PA) => rown_s x HA hcp BA bcp PA pcp W h)
  have TE := hide (fun W (h : PkIn W x HA BA PA) => kencode_s x HA hcp BA bcp PA pcp W h hf hm)
  have TM := hide (fun W HA hcp BA bcp PA pcp (h : PkIn W x HA BA PA) => rmay_s x HA hcp BA bcp PA pcp W h hf hpl)
  rw [hm] at TM
  have TB := hide (fun W HA hcp BA bcp PA pcp (h : PkIn W x HA BA PA) => refKBytes_s x HA hcp BA bcp PA pcp W h hf hm)
  have TS := hide (fun W HA' hcp' BA' bcp' PA' pcp' (h : PkIn W x HA BA PA) (h' : PkIn W x HA' BA' PA') => ksameP_s x x HA hcp BA bcp PA pcp HA' hcp' BA' bcp' PA' pcp' W h h' hf.bs hf.bs true (by simp))
  have HX := hide h
  generalize x.enc = en at TE TB hlen
  obtain ⟨k, n, i, hp, hs, bo, an, ai, sq, ps⟩ := x
  simp only [RetOw, Pk.at] at TO TE TM TB TS TL ⊢
  obtain ⟨hl0, hl1⟩ := hlen
  clear h hh hm hf hpl
  go_enter Tryz.func3, Tryz.ntmps3
  go_wp2_with fail
  (with_reducible refine (TL.out _).mono ?_)
  rintro e w1 ⟨rfl, hb⟩
  haveI : Stp _ w1 := ⟨hb⟩
  clear hb TL
  go_wp2_with fail
  (with_reducible refine (TO.out _ HX.out.tc).mono ?_)
  rintro e w2 ⟨HA2, hcp2, BA2, bcp2, PA2, pcp2, rfl, hin, hb⟩
  haveI : Stp _ w2 := ⟨hb⟩
  have HO := hide hin
  clear hb TO hin
  go_wp2_with fail
  obtain ⟨W2, hW⟩ : ∃ W, W = w2.alloc (.cells (csK k n i hp HA2 hs.length hcp2 BA2 bo.length bcp2 an ai sq PA2 ps.length pcp2) 31) := ⟨_, rfl⟩
  rw [← hW]
  haveI : Stp w2 W2 := ⟨by rw [hW]; exact below_alloc _ _⟩
  haveI : BoxAt W2 w2.heap.size (csK k n i hp HA2 hs.length hcp2 BA2 bo.length bcp2 an ai sq PA2 ps.length pcp2) 31 := by rw [hW]; infer_instance
  have z2 : w2.heap.size < W2.heap.size := BoxAt.lt (n := w2.heap.size) inferInstance
  have z0 : w.heap.size < w2.heap.size := BoxAt.lt (n := w.heap.size) inferInstance
  haveI : LtN w2.heap.size W2.heap.size := ⟨z2⟩
  haveI : LtN w.heap.size W2.heap.size := ⟨by omega⟩
  haveI : LeN w.heap.size W2.heap.size := ⟨by omega⟩
  haveI : LeN w2.heap.size W2.heap.size := ⟨by omega⟩
  clear hW
  (with_reducible refine (TE.out _ HX.out.tc).mono ?_)
  rintro e w3 ⟨v3, rfl, ho3, hb⟩
  haveI : Stp _ w3 := ⟨hb⟩
  obtain ⟨A3, c3, rfl, _, _⟩ := own_slice ho3
  haveI : RdY w3 A3 en.length en := ⟨Reads.of_own ho3⟩
  obtain ⟨g3, rfl, R3⟩ := RowU8.of ho3 hl0
  clear hb TE ho3
  go_wp2_with fail
  (with_reducible refine (TM.out _ HA2 hcp2 BA2 bcp2 PA2 pcp2 HO.out.tc).mono ?_)
  rintro e w4 ⟨rfl, hb⟩
  haveI : Stp _ w4 := ⟨hb⟩
  have R4 := hide (R3.below (W := w4))
  clear hb TM R3
  go_wp2_with fail
  go_region_held (fun w' => w'.cell? ⟨w2.heap.size, 0, none⟩ = some (.int .i64 k) ∧ w'.cell? ⟨w2.heap.size, 1, none⟩ = some (.int .i64 n) ∧ w'.cell? ⟨w2.heap.size, 2, none⟩ = some (.int .u64 i) ∧ w'.cell? ⟨w2.heap.size, 3, none⟩ = some (.int .i64 hp) ∧ w'.cell? ⟨w2.heap.size, 4, none⟩ = some (.slice HA2 hs.length hcp2) ∧ w'.cell? ⟨w2.heap.size, 5, none⟩ = some (.slice BA2 bo.length bcp2) ∧ w'.cell? ⟨w2.heap.size, 6, none⟩ = some (.int .i64 an) ∧ w'.cell? ⟨w2.heap.size, 7, none⟩ = some (.int .u64 ai) ∧ w'.cell? ⟨w2.heap.size, 8, none⟩ = some (.int .u64 sq) ∧ w'.cell? ⟨w2.heap.size, 9, none⟩ = some (.slice PA2 ps.length pcp2)) ((refine ⟨?_, ?_, ?_, ?_, ?_, ?_, ?_, ?_, ?_, ?_⟩ <;> (rw [cell?_box]; rfl)))
    (first
      | (go_at_call 10; (with_reducible refine (TB.out _ HA2 hcp2 BA2 bcp2 PA2 pcp2 HO.out.tc).mono ?_); rintro e w6 ⟨v6, rfl, ho6, hb6⟩; haveI : Stp _ w6 := ⟨hb6⟩; obtain ⟨A6, c6, rfl, _, _⟩ := own_slice ho6; haveI : RdY w6 A6 en.length en := ⟨Reads.of_own ho6⟩)
      | fail)
  all_goals
    go_wp2_with fail
    go_loopw [6] (fun j wr => ∃ m : Nat, m ≤ en.length ∧ j = .int .i64 m ∧ Below W2.heap.size W2 wr ∧ RowU8 wr W2.heap.size g3 en.length) (fun j _ => en.length - (intOf j).toNat)
    case atStart => exact ⟨0, Nat.zero_le _, rfl, blw, R4.out.below⟩
    case round =>
      obtain ⟨m, hm, rfl, hB, hR⟩ := hrel
      haveI : StpB W2.heap.size W2 wr := ⟨hB⟩
      have HB := hide hB
      have HR := hide hR
      clear hB hR
      by_cases hlt : m < en.length
      · obtain ⟨cur, hbx, hc⟩ := HR.out.bx
        haveI := hbx
        obtain ⟨u, hu⟩ := hc m hlt
        clear hc
        have i1 : (m : Int) < (en.length : Int) := by omega
        have i0 : (0 : Int) ≤ (m : Int) := by omega
        go_wp2
        go_roundw
        case rel => exact ⟨m + 1, by omega, by go_num, HB.out.setCell (p := ⟨g3, m, none⟩) HR.out.hB _, HR.out.set _⟩
        case measure => simp [intOf]; omega
      · obtain rfl : m = en.length := by omega
        go_wp2_with fail
        (with_reducible refine (TS.out _ HA2 hcp2 BA2 bcp2 PA2 pcp2 HX.out.tc HO.out.tc).mono ?_)
        rintro e w8 ⟨rfl, hb⟩
        haveI : Stp _ w8 := ⟨hb⟩
        clear hb
        go_wp2_with fail
        (with_reducible refine (TA.out _).mono ?_)
        rintro e w9 ⟨rfl, hb⟩
        haveI : Stp _ w9 := ⟨hb⟩
        clear hb
        go_wp2
        go_ret
        exact ⟨rfl, blw⟩
set_option maxRecDepth 100000 in
set_option maxHeartbeats 4000000 in
theorem packetBytesN (x : Pk) (HA : Option Addr) (hcp : Nat) (BA : Option Addr) (bcp : Nat) (PA : Option Addr) (pcp : Nat) (w : World) (h : PkIn w x HA BA PA) (hf : PkF x) (hh : longB x = false) (hm : x.mayB = false) :
    Calls Tryz.prog 3 #[x.at HA hcp BA bcp PA pcp] w (RetB w true) := by
  have hpl : x.ps.length ≤ 999999 := by have := hh; simp [longB] at this; omega
  have TA := hide (fun W => awake6_t W)
  have TL := hide (fun W => long_s x HA hcp BA bcp PA pcp W)
  rw [hh] at TL
  have TO := hide (fun W (h : PkIn W x HA BA PA) => rown_s x HA hcp BA bcp PA pcp W h)
  have TE := hide (fun W (h : PkIn W x HA BA PA) => kencode_no x HA hcp BA bcp PA pcp W h hm)
  have TM := hide (fun W HA hcp BA bcp PA pcp (h : PkIn W x HA BA PA) => rmay_s x HA hcp BA bcp PA pcp W h hf hpl)
  rw [hm] at TM
  have HX := hide h
  obtain ⟨k, n, i, hp, hs, bo, an, ai, sq, ps⟩ := x
  simp only [RetOw, Pk.at] at TO TE TM TL ⊢
  clear h hh hm hf hpl
  go_enter Tryz.func3, Tryz.ntmps3
  go_wp2_with fail
  (with_reducible refine (TL.out _).mono ?_)
  rintro e w1 ⟨rfl, hb⟩
  haveI : Stp _ w1 := ⟨hb⟩
  clear hb TL
  go_wp2_with fail
  (with_reducible refine (TO.out _ HX.out.tc).mono ?_)
  rintro e w2 ⟨HA2, hcp2, BA2, bcp2, PA2, pcp2, rfl, hin, hb⟩
  haveI : Stp _ w2 := ⟨hb⟩
  have HO := hide hin
  clear hb TO hin
  go_wp2_with fail
  (with_reducible refine (TE.out _ HX.out.tc).mono ?_)
  rintro e w3 ⟨rfl, hb⟩
  haveI : Stp _ w3 := ⟨hb⟩
  clear hb TE
  go_wp2_with fail
  (with_reducible refine (TM.out _ HA2 hcp2 BA2 bcp2 PA2 pcp2 HO.out.tc).mono ?_)
  rintro e w4 ⟨rfl, hb⟩
  haveI : Stp _ w4 := ⟨hb⟩
  clear hb TM
  go_wp2_with fail
  (with_reducible refine (TA.out _).mono ?_)
  rintro e w9 ⟨rfl, hb⟩
  haveI : Stp _ w9 := ⟨hb⟩
  clear hb
  go_wp2
  go_ret
  exact ⟨rfl, blw⟩
theorem packetBytes_true (x : Pk) (HA : Option Addr) (hcp : Nat) (BA : Option Addr) (bcp : Nat) (PA : Option Addr) (pcp : Nat) (w : World) (h : PkRd w x HA BA PA) :
    Calls Tryz.prog 3 #[x.at HA hcp BA bcp PA pcp] w (RetB w true) := by
  cases hh : longB x
  · cases hm : x.mayB
    · exact packetBytesN x HA hcp BA bcp PA pcp w (h.ok hh) h.f hh hm
    · exact packetBytesY x HA hcp BA bcp PA pcp w (h.ok hh) h.f hh hm
  · have TA := hide (fun W => awake6_t W)
    have TL := hide (fun W => long_s x HA hcp BA bcp PA pcp W)
    rw [hh] at TL
    obtain ⟨k, n, i, hp, hs, bo, an, ai, sq, ps⟩ := x
    simp only [Pk.at] at TL ⊢
    clear hh h
    go_enter Tryz.func3, Tryz.ntmps3
    go_wp2_with fail
    (with_reducible refine (TL.out _).mono ?_)
    rintro e w1 ⟨rfl, hb⟩
    haveI : Stp _ w1 := ⟨hb⟩
    clear hb TL
    go_wp2_with fail
    (with_reducible refine (TA.out _).mono ?_)
    rintro e w6 ⟨rfl, hb⟩
    haveI : Stp _ w6 := ⟨hb⟩
    clear hb
    go_wp2
    go_ret
    exact ⟨rfl, blw⟩
end Go.Proofs.YtggmninbpnolgaaGreat
