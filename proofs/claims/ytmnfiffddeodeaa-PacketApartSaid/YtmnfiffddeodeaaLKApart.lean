/-
  Layer 6: the law PacketApart: true for every input.
-/
import Derived.Test.YtmnfiffddeodeaaOpenK
import Derived.Test.YtmnfiffddeodeaaPkA
import Derived.Test.YtmnfiffddeodeaaPkB
import Derived.Test.YtmnfiffddeodeaaTcL
namespace Go.Proofs.Ytmnfiffddeodeaa
set_option linter.unusedSimpArgs false
set_option linter.unusedVariables false
set_option linter.unusedSectionVars false
open Go.RowKit

set_option maxRecDepth 100000 in
set_option maxHeartbeats 4000000 in
theorem packetApartYY (x y : Pk) (HA : Option Addr) (hcp : Nat) (BA : Option Addr) (bcp : Nat) (PA : Option Addr) (pcp : Nat) (HA' : Option Addr) (hcp' : Nat) (BA' : Option Addr) (bcp' : Nat) (PA' : Option Addr) (pcp' : Nat) (w : World) (h : PkIn w x HA BA PA) (h' : PkIn w y HA' BA' PA') (hf : PkF x) (hf' : PkF y) (hh : longB x = false) (hh' : longB y = false) (hm : x.mayB = true) (hm' : y.mayB = true) :
    Calls Try.prog 6 #[x.at HA hcp BA bcp PA pcp, y.at HA' hcp' BA' bcp' PA' pcp'] w (RetB w true) := by
  have TA := hide (fun W => awake6_t W)
  have TL := hide (fun W => long_s x HA hcp BA bcp PA pcp W)
  rw [hh] at TL
  have TL' := hide (fun W => long_s y HA' hcp' BA' bcp' PA' pcp' W)
  rw [hh'] at TL'
  have TE := hide (fun W (h : PkIn W x HA BA PA) => kencode_s x HA hcp BA bcp PA pcp W h hf hm)
  have TE' := hide (fun W (h : PkIn W y HA' BA' PA') => kencode_s y HA' hcp' BA' bcp' PA' pcp' W h hf' hm')
  have TS := hide (fun W (h : PkIn W x HA BA PA) (h' : PkIn W y HA' BA' PA') => ksameP_s x y HA hcp BA bcp PA pcp HA' hcp' BA' bcp' PA' pcp' W h h' hf.bs hf'.bs (decide (x.enc = y.enc)) (by rw [decide_eq_true_iff]; exact ⟨enc_inj hm hf hm' hf', fun e => by rw [e]⟩))
  have hst := str_eq (Pk.enc_bOK hf hm) (Pk.enc_bOK hf' hm')
  have HX := hide h
  have HY := hide h'
  generalize x.enc = en at TE TS hst
  generalize y.enc = en' at TE' TS hst
  generalize decide (en = en') = d at TS hst
  obtain ⟨k, n, i, hp, hs, bo, an, ai, sq, ps⟩ := x
  obtain ⟨k', n', i', hp', hs', bo', an', ai', sq', ps'⟩ := y
  simp only [Pk.at] at TE TE' TL TL' TS ⊢
  clear h h' hh hh' hm hm' hf hf'
  go_enter Try.func6, Try.ntmps6
  go_wp2_with fail
  (with_reducible refine (TL.out _).mono ?_)
  rintro e w1 ⟨rfl, hb⟩
  haveI : Stp _ w1 := ⟨hb⟩
  clear hb TL
  go_wp2_with fail
  (with_reducible refine (TL'.out _).mono ?_)
  rintro e w2 ⟨rfl, hb⟩
  haveI : Stp _ w2 := ⟨hb⟩
  clear hb TL'
  go_wp2_with fail
  (with_reducible refine (TE.out _ HX.out.tc).mono ?_)
  rintro e w3 ⟨v3, rfl, ho, hb⟩
  haveI : Stp _ w3 := ⟨hb⟩
  obtain ⟨A3, c3, rfl, _, _⟩ := own_slice ho
  haveI : RdY w3 A3 en.length en := ⟨Reads.of_own ho⟩
  clear hb TE ho
  go_wp2_with fail
  (with_reducible refine (TE'.out _ HY.out.tc).mono ?_)
  rintro e w4 ⟨v4, rfl, ho, hb⟩
  haveI : Stp _ w4 := ⟨hb⟩
  obtain ⟨A4, c4, rfl, _, _⟩ := own_slice ho
  haveI : RdY w4 A4 en'.length en' := ⟨Reads.of_own ho⟩
  clear hb TE' ho
  go_wp2_with fail
  go_region_held (fun w' => w'.cell? ⟨w.heap.size, 0, none⟩ = some (.int .i64 k) ∧ w'.cell? ⟨w.heap.size, 1, none⟩ = some (.int .i64 n) ∧ w'.cell? ⟨w.heap.size, 2, none⟩ = some (.int .u64 i) ∧ w'.cell? ⟨w.heap.size, 3, none⟩ = some (.int .i64 hp) ∧ w'.cell? ⟨w.heap.size, 4, none⟩ = some (.slice HA hs.length hcp) ∧ w'.cell? ⟨w.heap.size, 5, none⟩ = some (.slice BA bo.length bcp) ∧ w'.cell? ⟨w.heap.size, 6, none⟩ = some (.int .i64 an) ∧ w'.cell? ⟨w.heap.size, 7, none⟩ = some (.int .u64 ai) ∧ w'.cell? ⟨w.heap.size, 8, none⟩ = some (.int .u64 sq) ∧ w'.cell? ⟨w.heap.size, 9, none⟩ = some (.slice PA ps.length pcp) ∧ w'.cell? ⟨w.heap.size + 1, 0, none⟩ = some (.int .i64 k') ∧ w'.cell? ⟨w.heap.size + 1, 1, none⟩ = some (.int .i64 n') ∧ w'.cell? ⟨w.heap.size + 1, 2, none⟩ = some (.int .u64 i') ∧ w'.cell? ⟨w.heap.size + 1, 3, none⟩ = some (.int .i64 hp') ∧ w'.cell? ⟨w.heap.size + 1, 4, none⟩ = some (.slice HA' hs'.length hcp') ∧ w'.cell? ⟨w.heap.size + 1, 5, none⟩ = some (.slice BA' bo'.length bcp') ∧ w'.cell? ⟨w.heap.size + 1, 6, none⟩ = some (.int .i64 an') ∧ w'.cell? ⟨w.heap.size + 1, 7, none⟩ = some (.int .u64 ai') ∧ w'.cell? ⟨w.heap.size + 1, 8, none⟩ = some (.int .u64 sq') ∧ w'.cell? ⟨w.heap.size + 1, 9, none⟩ = some (.slice PA' ps'.length pcp')) ((refine ⟨?_, ?_, ?_, ?_, ?_, ?_, ?_, ?_, ?_, ?_, ?_, ?_, ?_, ?_, ?_, ?_, ?_, ?_, ?_, ?_⟩ <;> (rw [cell?_box]; rfl)))
    (first
      | (go_at_call 18; (with_reducible refine (TS.out _ HX.out.tc HY.out.tc).mono ?_); rintro e w6 ⟨rfl, hb6⟩; haveI : Stp _ w6 := ⟨hb6⟩)
      | (go_at_call 15; (with_reducible refine (TA.out _).mono ?_); rintro e w7 ⟨rfl, hb7⟩; haveI : Stp _ w7 := ⟨hb7⟩)
      | fail)
  all_goals
    go_wp2
    go_ret
    exact ⟨rfl, blw⟩
set_option maxRecDepth 100000 in
set_option maxHeartbeats 4000000 in
theorem packetApartYN (x y : Pk) (HA : Option Addr) (hcp : Nat) (BA : Option Addr) (bcp : Nat) (PA : Option Addr) (pcp : Nat) (HA' : Option Addr) (hcp' : Nat) (BA' : Option Addr) (bcp' : Nat) (PA' : Option Addr) (pcp' : Nat) (w : World) (h : PkIn w x HA BA PA) (h' : PkIn w y HA' BA' PA') (hf : PkF x) (hh : longB x = false) (hh' : longB y = false) (hm : x.mayB = true) (hm' : y.mayB = false) :
    Calls Try.prog 6 #[x.at HA hcp BA bcp PA pcp, y.at HA' hcp' BA' bcp' PA' pcp'] w (RetB w true) := by
  have TA := hide (fun W => awake6_t W)
  have TL := hide (fun W => long_s x HA hcp BA bcp PA pcp W)
  rw [hh] at TL
  have TL' := hide (fun W => long_s y HA' hcp' BA' bcp' PA' pcp' W)
  rw [hh'] at TL'
  have TE := hide (fun W (h : PkIn W x HA BA PA) => kencode_s x HA hcp BA bcp PA pcp W h hf hm)
  have TE' := hide (fun W (h : PkIn W y HA' BA' PA') => kencode_no y HA' hcp' BA' bcp' PA' pcp' W h hm')
  have HX := hide h
  have HY := hide h'
  generalize x.enc = en at TE
  obtain ⟨k, n, i, hp, hs, bo, an, ai, sq, ps⟩ := x
  obtain ⟨k', n', i', hp', hs', bo', an', ai', sq', ps'⟩ := y
  simp only [Pk.at] at TE TE' TL TL' ⊢
  clear h h' hh hh' hm hm' hf
  go_enter Try.func6, Try.ntmps6
  go_wp2_with fail
  (with_reducible refine (TL.out _).mono ?_)
  rintro e w1 ⟨rfl, hb⟩
  haveI : Stp _ w1 := ⟨hb⟩
  clear hb TL
  go_wp2_with fail
  (with_reducible refine (TL'.out _).mono ?_)
  rintro e w2 ⟨rfl, hb⟩
  haveI : Stp _ w2 := ⟨hb⟩
  clear hb TL'
  go_wp2_with fail
  (with_reducible refine (TE.out _ HX.out.tc).mono ?_)
  rintro e w3 ⟨v3, rfl, ho, hb⟩
  haveI : Stp _ w3 := ⟨hb⟩
  obtain ⟨A3, c3, rfl, _, _⟩ := own_slice ho
  haveI : RdY w3 A3 en.length en := ⟨Reads.of_own ho⟩
  clear hb TE ho
  go_wp2_with fail
  (with_reducible refine (TE'.out _ HY.out.tc).mono ?_)
  rintro e w4 ⟨rfl, hb⟩
  haveI : Stp _ w4 := ⟨hb⟩
  clear hb TE'
  go_wp2_with fail
  (with_reducible refine (TA.out _).mono ?_)
  rintro e w7 ⟨rfl, hb⟩
  haveI : Stp _ w7 := ⟨hb⟩
  clear hb
  go_wp2
  go_ret
  exact ⟨rfl, blw⟩
set_option maxRecDepth 100000 in
set_option maxHeartbeats 4000000 in
theorem packetApartNY (x y : Pk) (HA : Option Addr) (hcp : Nat) (BA : Option Addr) (bcp : Nat) (PA : Option Addr) (pcp : Nat) (HA' : Option Addr) (hcp' : Nat) (BA' : Option Addr) (bcp' : Nat) (PA' : Option Addr) (pcp' : Nat) (w : World) (h : PkIn w x HA BA PA) (h' : PkIn w y HA' BA' PA') (hf' : PkF y) (hh : longB x = false) (hh' : longB y = false) (hm : x.mayB = false) (hm' : y.mayB = true) :
    Calls Try.prog 6 #[x.at HA hcp BA bcp PA pcp, y.at HA' hcp' BA' bcp' PA' pcp'] w (RetB w true) := by
  have TA := hide (fun W => awake6_t W)
  have TL := hide (fun W => long_s x HA hcp BA bcp PA pcp W)
  rw [hh] at TL
  have TL' := hide (fun W => long_s y HA' hcp' BA' bcp' PA' pcp' W)
  rw [hh'] at TL'
  have TE := hide (fun W (h : PkIn W x HA BA PA) => kencode_no x HA hcp BA bcp PA pcp W h hm)
  have TE' := hide (fun W (h : PkIn W y HA' BA' PA') => kencode_s y HA' hcp' BA' bcp' PA' pcp' W h hf' hm')
  have HX := hide h
  have HY := hide h'
  generalize y.enc = en' at TE'
  obtain ⟨k, n, i, hp, hs, bo, an, ai, sq, ps⟩ := x
  obtain ⟨k', n', i', hp', hs', bo', an', ai', sq', ps'⟩ := y
  simp only [Pk.at] at TE TE' TL TL' ⊢
  clear h h' hh hh' hm hm' hf'
  go_enter Try.func6, Try.ntmps6
  go_wp2_with fail
  (with_reducible refine (TL.out _).mono ?_)
  rintro e w1 ⟨rfl, hb⟩
  haveI : Stp _ w1 := ⟨hb⟩
  clear hb TL
  go_wp2_with fail
  (with_reducible refine (TL'.out _).mono ?_)
  rintro e w2 ⟨rfl, hb⟩
  haveI : Stp _ w2 := ⟨hb⟩
  clear hb TL'
  go_wp2_with fail
  (with_reducible refine (TE.out _ HX.out.tc).mono ?_)
  rintro e w3 ⟨rfl, hb⟩
  haveI : Stp _ w3 := ⟨hb⟩
  clear hb TE
  go_wp2_with fail
  (with_reducible refine (TE'.out _ HY.out.tc).mono ?_)
  rintro e w4 ⟨v4, rfl, ho, hb⟩
  haveI : Stp _ w4 := ⟨hb⟩
  obtain ⟨A4, c4, rfl, _, _⟩ := own_slice ho
  haveI : RdY w4 A4 en'.length en' := ⟨Reads.of_own ho⟩
  clear hb TE' ho
  go_wp2_with fail
  (with_reducible refine (TA.out _).mono ?_)
  rintro e w7 ⟨rfl, hb⟩
  haveI : Stp _ w7 := ⟨hb⟩
  clear hb
  go_wp2
  go_ret
  exact ⟨rfl, blw⟩
set_option maxRecDepth 100000 in
set_option maxHeartbeats 4000000 in
theorem packetApartNN (x y : Pk) (HA : Option Addr) (hcp : Nat) (BA : Option Addr) (bcp : Nat) (PA : Option Addr) (pcp : Nat) (HA' : Option Addr) (hcp' : Nat) (BA' : Option Addr) (bcp' : Nat) (PA' : Option Addr) (pcp' : Nat) (w : World) (h : PkIn w x HA BA PA) (h' : PkIn w y HA' BA' PA') (hh : longB x = false) (hh' : longB y = false) (hm : x.mayB = false) (hm' : y.mayB = false) :
    Calls Try.prog 6 #[x.at HA hcp BA bcp PA pcp, y.at HA' hcp' BA' bcp' PA' pcp'] w (RetB w true) := by
  have TA := hide (fun W => awake6_t W)
  have TL := hide (fun W => long_s x HA hcp BA bcp PA pcp W)
  rw [hh] at TL
  have TL' := hide (fun W => long_s y HA' hcp' BA' bcp' PA' pcp' W)
  rw [hh'] at TL'
  have TE := hide (fun W (h : PkIn W x HA BA PA) => kencode_no x HA hcp BA bcp PA pcp W h hm)
  have TE' := hide (fun W (h : PkIn W y HA' BA' PA') => kencode_no y HA' hcp' BA' bcp' PA' pcp' W h hm')
  have HX := hide h
  have HY := hide h'
  obtain ⟨k, n, i, hp, hs, bo, an, ai, sq, ps⟩ := x
  obtain ⟨k', n', i', hp', hs', bo', an', ai', sq', ps'⟩ := y
  simp only [Pk.at] at TE TE' TL TL' ⊢
  clear h h' hh hh' hm hm'
  go_enter Try.func6, Try.ntmps6
  go_wp2_with fail
  (with_reducible refine (TL.out _).mono ?_)
  rintro e w1 ⟨rfl, hb⟩
  haveI : Stp _ w1 := ⟨hb⟩
  clear hb TL
  go_wp2_with fail
  (with_reducible refine (TL'.out _).mono ?_)
  rintro e w2 ⟨rfl, hb⟩
  haveI : Stp _ w2 := ⟨hb⟩
  clear hb TL'
  go_wp2_with fail
  (with_reducible refine (TE.out _ HX.out.tc).mono ?_)
  rintro e w3 ⟨rfl, hb⟩
  haveI : Stp _ w3 := ⟨hb⟩
  clear hb TE
  go_wp2_with fail
  (with_reducible refine (TE'.out _ HY.out.tc).mono ?_)
  rintro e w4 ⟨rfl, hb⟩
  haveI : Stp _ w4 := ⟨hb⟩
  clear hb TE'
  go_wp2_with fail
  (with_reducible refine (TA.out _).mono ?_)
  rintro e w7 ⟨rfl, hb⟩
  haveI : Stp _ w7 := ⟨hb⟩
  clear hb
  go_wp2
  go_ret
  exact ⟨rfl, blw⟩
set_option maxRecDepth 100000 in
set_option maxHeartbeats 4000000 in
theorem packetApartL1 (x y : Pk) (HA : Option Addr) (hcp : Nat) (BA : Option Addr) (bcp : Nat) (PA : Option Addr) (pcp : Nat) (HA' : Option Addr) (hcp' : Nat) (BA' : Option Addr) (bcp' : Nat) (PA' : Option Addr) (pcp' : Nat) (w : World) (hh : longB x = true) :
    Calls Try.prog 6 #[x.at HA hcp BA bcp PA pcp, y.at HA' hcp' BA' bcp' PA' pcp'] w (RetB w true) := by
  have TA := hide (fun W => awake6_t W)
  have TL := hide (fun W => long_s x HA hcp BA bcp PA pcp W)
  rw [hh] at TL
  obtain ⟨k, n, i, hp, hs, bo, an, ai, sq, ps⟩ := x
  obtain ⟨k', n', i', hp', hs', bo', an', ai', sq', ps'⟩ := y
  simp only [Pk.at] at TL ⊢
  clear hh
  go_enter Try.func6, Try.ntmps6
  go_wp2_with fail
  (with_reducible refine (TL.out _).mono ?_)
  rintro e w1 ⟨rfl, hb⟩
  haveI : Stp _ w1 := ⟨hb⟩
  clear hb TL
  go_wp2_with fail
  (with_reducible refine (TA.out _).mono ?_)
  rintro e w7 ⟨rfl, hb⟩
  haveI : Stp _ w7 := ⟨hb⟩
  clear hb
  go_wp2
  go_ret
  exact ⟨rfl, blw⟩
set_option maxRecDepth 100000 in
set_option maxHeartbeats 4000000 in
theorem packetApartL2 (x y : Pk) (HA : Option Addr) (hcp : Nat) (BA : Option Addr) (bcp : Nat) (PA : Option Addr) (pcp : Nat) (HA' : Option Addr) (hcp' : Nat) (BA' : Option Addr) (bcp' : Nat) (PA' : Option Addr) (pcp' : Nat) (w : World) (hh : longB x = false) (hh' : longB y = true) :
    Calls Try.prog 6 #[x.at HA hcp BA bcp PA pcp, y.at HA' hcp' BA' bcp' PA' pcp'] w (RetB w true) := by
  have TA := hide (fun W => awake6_t W)
  have TL := hide (fun W => long_s x HA hcp BA bcp PA pcp W)
  rw [hh] at TL
  have TL' := hide (fun W => long_s y HA' hcp' BA' bcp' PA' pcp' W)
  rw [hh'] at TL'
  obtain ⟨k, n, i, hp, hs, bo, an, ai, sq, ps⟩ := x
  obtain ⟨k', n', i', hp', hs', bo', an', ai', sq', ps'⟩ := y
  simp only [Pk.at] at TL TL' ⊢
  clear hh hh'
  go_enter Try.func6, Try.ntmps6
  go_wp2_with fail
  (with_reducible refine (TL.out _).mono ?_)
  rintro e w1 ⟨rfl, hb⟩
  haveI : Stp _ w1 := ⟨hb⟩
  clear hb TL
  go_wp2_with fail
  (with_reducible refine (TL'.out _).mono ?_)
  rintro e w2 ⟨rfl, hb⟩
  haveI : Stp _ w2 := ⟨hb⟩
  clear hb TL'
  go_wp2_with fail
  (with_reducible refine (TA.out _).mono ?_)
  rintro e w7 ⟨rfl, hb⟩
  haveI : Stp _ w7 := ⟨hb⟩
  clear hb
  go_wp2
  go_ret
  exact ⟨rfl, blw⟩
theorem packetApart_true (x : Pk) (HA : Option Addr) (hcp : Nat) (BA : Option Addr) (bcp : Nat) (PA : Option Addr) (pcp : Nat) (y : Pk) (HA' : Option Addr) (hcp' : Nat) (BA' : Option Addr) (bcp' : Nat) (PA' : Option Addr) (pcp' : Nat) (w : World) (h : PkRd w x HA BA PA) (h' : PkRd w y HA' BA' PA') :
    Calls Try.prog 6 #[x.at HA hcp BA bcp PA pcp, y.at HA' hcp' BA' bcp' PA' pcp'] w (RetB w true) := by
  cases hh : longB x
  · cases hh' : longB y
    · have k := h.ok hh
      have k' := h'.ok hh'
      cases hm : x.mayB
      · cases hm' : y.mayB
        · exact packetApartNN x y HA hcp BA bcp PA pcp HA' hcp' BA' bcp' PA' pcp' w k k' hh hh' hm hm'
        · exact packetApartNY x y HA hcp BA bcp PA pcp HA' hcp' BA' bcp' PA' pcp' w k k' h'.f hh hh' hm hm'
      · cases hm' : y.mayB
        · exact packetApartYN x y HA hcp BA bcp PA pcp HA' hcp' BA' bcp' PA' pcp' w k k' h.f hh hh' hm hm'
        · exact packetApartYY x y HA hcp BA bcp PA pcp HA' hcp' BA' bcp' PA' pcp' w k k' h.f h'.f hh hh' hm hm'
    · exact packetApartL2 x y HA hcp BA bcp PA pcp HA' hcp' BA' bcp' PA' pcp' w hh hh'
  · exact packetApartL1 x y HA hcp BA bcp PA pcp HA' hcp' BA' bcp' PA' pcp' w hh
end Go.Proofs.Ytmnfiffddeodeaa
