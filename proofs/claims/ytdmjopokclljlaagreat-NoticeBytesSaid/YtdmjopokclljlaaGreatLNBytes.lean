/-
  Layer 8: the law NoticeBytes: true for every input.
-/
import Derived.Test.YtdmjopokclljlaaGreatLNot
import Derived.Test.YtdmjopokclljlaaGreatCp8
import Derived.Test.YtdmjopokclljlaaGreatTcL
namespace Go.Proofs.YtdmjopokclljlaaGreat
set_option linter.unusedSimpArgs false
set_option linter.unusedVariables false
set_option linter.unusedSectionVars false
open Go.RowKit

theorem NtF.of' {x : Nt} (h : x.Wf) : NtF x := ⟨⟨h.p.2.2.1, h.p.2.2.2⟩, h.rd, h.cd, fun p hp => ⟨(h.st p hp).2.2.1, (h.st p hp).2.2.2⟩, ⟨h.vw.r, ⟨h.vw.p.2.2.1, h.vw.p.2.2.2⟩, fun p hp => ⟨(h.vw.ms p hp).2.2.1, (h.vw.ms p hp).2.2.2⟩, h.vw.us⟩⟩
theorem hvN_lens {x : Nt} (h : hvN x = false) : x.st.length ≤ 300 ∧ x.vw.ms.length ≤ 300 ∧ x.vw.us.length ≤ 300 := by
  simp [hvN] at h; omega
theorem Nt.Ok.tc {a W : World} {x : Nt} (h : x.Ok a) [b : Blw a W] : x.Ok W := h.step b.h
set_option maxRecDepth 100000 in
set_option maxHeartbeats 4000000 in
theorem noticeBytesY (x : Nt) (w : World) (okx : x.Ok w) (wx : x.Wf) (hh : hvN x = false) (hm : x.mayB = true) :
    Calls Tryz.prog 3 #[x.v] w (RetB w true) := by
  obtain ⟨l1, l2, l3⟩ := hvN_lens hh
  have TA := hide (fun W => awake8_t W)
  have TH := hide (fun W => heavy8_s x W)
  rw [hh] at TH
  have TC := hide (fun W (h : x.Ok W) => refNCopy_s x W h)
  have TE : Hid (∀ W SA sc MA mc UA uc, Nt.Ok W (x.at SA sc MA mc UA uc) → Calls Tryz.prog 8 #[(x.at SA sc MA mc UA uc).v] W (RetE W x.enc)) := hide (fun W SA sc MA mc UA uc h => encode_s (x.at SA sc MA mc UA uc) W h ⟨(NtF.of' wx).i, (NtF.of' wx).rd, (NtF.of' wx).cd, (NtF.of' wx).st, (NtF.of' wx).v⟩ ⟨l1, l2, l3⟩ hm)
  have TS : Hid (∀ W SA sc MA mc UA uc, Nt.Ok W (x.at SA sc MA mc UA uc) → x.Ok W → Calls Tryz.prog 9 #[(x.at SA sc MA mc UA uc).v, x.v] W (RetBb W true)) := hide (fun W SA sc MA mc UA uc h h' => by
    have := refNSame_s (x.at SA sc MA mc UA uc) x W h h'
    rw [show Nt.eqB (x.at SA sc MA mc UA uc) x = true by simp [Nt.eqB, Nt.at, eqP, Vw.eqB]] at this; exact this)
  have TM : Hid (∀ W, x.Ok W → Calls Tryz.prog 10 #[x.v] W (RetBb W true)) := hide (fun W h => by
    have := refNMay_s x W h (NtF.of' wx).i.1 (fun p hp => ((NtF.of' wx).st p hp).1) (NtF.of' wx).v.i.1 (fun p hp => ((NtF.of' wx).v.ms p hp).1)
    rw [hm] at this; exact this)
  have TB := hide (fun W (h : x.Ok W) => refNBytes_s x W h (NtF.of' wx) hm l1 l2 l3)
  generalize x.enc = en at TE TB
  have HX := hide okx
  obtain ⟨k, n, i, rd, cd, SA, sc, st, ⟨r, vn, vi, MA, mc, ms, UA, uc, us⟩⟩ := x
  unfold Nt.v at *
  unfold RetNc at TC
  simp only [Nt.at, Nt.v] at *
  clear okx wx hh hm
  go_enter Tryz.func3, Tryz.ntmps3
  go_wp2_with fail
  (with_reducible refine (TH.out _).mono ?_)
  rintro e w1 ⟨rfl, hb⟩
  haveI : Stp _ w1 := ⟨hb⟩
  clear hb TH
  go_wp2_with fail
  (with_reducible refine (TC.out _ HX.out.tc).mono ?_)
  rintro e w2 ⟨S2, s2, M2, m2, U2, u2, rfl, ok2, hb⟩
  haveI : Stp _ w2 := ⟨hb⟩
  have OK2 := hide ok2
  clear hb TC ok2
  go_wp2_with fail
  (with_reducible refine (TE.out _ S2 s2 M2 m2 U2 u2 OK2.out.tc).mono ?_)
  rintro e w3 ⟨v3, rfl, ho3, hb⟩
  haveI : Stp _ w3 := ⟨hb⟩
  obtain ⟨A3, c3, rfl, _, _⟩ := own_slice ho3
  haveI : RdY w3 A3 en.length en := ⟨Reads.of_own ho3⟩
  clear hb TE ho3
  go_wp2_with fail
  (with_reducible refine (TS.out _ S2 s2 M2 m2 U2 u2 OK2.out.tc HX.out.tc).mono ?_)
  rintro e w4 ⟨rfl, hb⟩
  haveI : Stp _ w4 := ⟨hb⟩
  clear hb TS
  go_wp2_with fail
  (with_reducible refine (TM.out _ HX.out.tc).mono ?_)
  rintro e w5 ⟨rfl, hb⟩
  haveI : Stp _ w5 := ⟨hb⟩
  clear hb TM
  go_wp2_with fail
  go_region_held (fun w' => w'.cell? ⟨w.heap.size, 0, none⟩ = some (.int .i64 k) ∧ w'.cell? ⟨w.heap.size, 1, none⟩ = some (.int .i64 n) ∧ w'.cell? ⟨w.heap.size, 2, none⟩ = some (.int .u64 i) ∧ w'.cell? ⟨w.heap.size, 3, none⟩ = some (.int .u64 rd) ∧ w'.cell? ⟨w.heap.size, 4, none⟩ = some (.int .u64 cd) ∧ w'.cell? ⟨w.heap.size, 5, none⟩ = some (.slice SA st.length sc) ∧ w'.cell? ⟨w.heap.size, 6, none⟩ = some (.int .u64 r) ∧ w'.cell? ⟨w.heap.size, 7, none⟩ = some (.int .i64 vn) ∧ w'.cell? ⟨w.heap.size, 8, none⟩ = some (.int .u64 vi) ∧ w'.cell? ⟨w.heap.size, 9, none⟩ = some (.slice MA ms.length mc) ∧ w'.cell? ⟨w.heap.size, 10, none⟩ = some (.slice UA us.length uc)) ((refine ⟨?_, ?_, ?_, ?_, ?_, ?_, ?_, ?_, ?_, ?_, ?_⟩ <;> (rw [cell?_box]; rfl)))
    (first
      | (go_at_call 11; (with_reducible refine (TB.out _ HX.out.tc).mono ?_); rintro e w6 ⟨v6, rfl, ho6, hb6⟩; haveI : Stp _ w6 := ⟨hb6⟩; obtain ⟨A6, c6, rfl, _, _⟩ := own_slice ho6; haveI : RdY w6 A6 en.length en := ⟨Reads.of_own ho6⟩)
      | (go_at_call 6; (with_reducible refine (TA.out _).mono ?_); rintro e w7 ⟨rfl, hb7⟩; haveI : Stp _ w7 := ⟨hb7⟩)
      | fail)
  all_goals
    go_wp2
    go_ret
    exact ⟨rfl, blw⟩
set_option maxRecDepth 100000 in
set_option maxHeartbeats 4000000 in
theorem noticeBytesN (x : Nt) (w : World) (okx : x.Ok w) (wx : x.Wf) (hh : hvN x = false) (hm : x.mayB = false) :
    Calls Tryz.prog 3 #[x.v] w (RetB w true) := by
  obtain ⟨l1, l2, l3⟩ := hvN_lens hh
  have TA := hide (fun W => awake8_t W)
  have TH := hide (fun W => heavy8_s x W)
  rw [hh] at TH
  have TC := hide (fun W (h : x.Ok W) => refNCopy_s x W h)
  have TE : Hid (∀ W SA sc MA mc UA uc, Nt.Ok W (x.at SA sc MA mc UA uc) → Calls Tryz.prog 8 #[(x.at SA sc MA mc UA uc).v] W fun e w' => e = .returned (.tuple #[.slice none 0 0, .int .i64 3]) ∧ Below W.heap.size W w') := hide (fun W SA sc MA mc UA uc h => by
    obtain ⟨k, n, i, rd, cd, SA', sc', st, ⟨r, vn, vi, MA', mc', ms, UA', uc', us⟩⟩ := x
    exact encode_no k n i rd cd SA sc st r vn vi MA mc ms UA uc us W h hm)
  have TS : Hid (∀ W SA sc MA mc UA uc, Nt.Ok W (x.at SA sc MA mc UA uc) → x.Ok W → Calls Tryz.prog 9 #[(x.at SA sc MA mc UA uc).v, x.v] W (RetBb W true)) := hide (fun W SA sc MA mc UA uc h h' => by
    have := refNSame_s (x.at SA sc MA mc UA uc) x W h h'
    rw [show Nt.eqB (x.at SA sc MA mc UA uc) x = true by simp [Nt.eqB, Nt.at, eqP, Vw.eqB]] at this; exact this)
  have TM : Hid (∀ W, x.Ok W → Calls Tryz.prog 10 #[x.v] W (RetBb W false)) := hide (fun W h => by
    have := refNMay_s x W h (NtF.of' wx).i.1 (fun p hp => ((NtF.of' wx).st p hp).1) (NtF.of' wx).v.i.1 (fun p hp => ((NtF.of' wx).v.ms p hp).1)
    rw [hm] at this; exact this)
  have HX := hide okx
  obtain ⟨k, n, i, rd, cd, SA, sc, st, ⟨r, vn, vi, MA, mc, ms, UA, uc, us⟩⟩ := x
  unfold Nt.v at *
  unfold RetNc at TC
  simp only [Nt.at, Nt.v] at *
  clear okx wx hh hm
  go_enter Tryz.func3, Tryz.ntmps3
  go_wp2_with fail
  (with_reducible refine (TH.out _).mono ?_)
  rintro e w1 ⟨rfl, hb⟩
  haveI : Stp _ w1 := ⟨hb⟩
  clear hb TH
  go_wp2_with fail
  (with_reducible refine (TC.out _ HX.out.tc).mono ?_)
  rintro e w2 ⟨S2, s2, M2, m2, U2, u2, rfl, ok2, hb⟩
  haveI : Stp _ w2 := ⟨hb⟩
  have OK2 := hide ok2
  clear hb TC ok2
  go_wp2_with fail
  (with_reducible refine (TE.out _ S2 s2 M2 m2 U2 u2 OK2.out.tc).mono ?_)
  rintro e w3 ⟨rfl, hb⟩
  haveI : Stp _ w3 := ⟨hb⟩
  clear hb TE
  go_wp2_with fail
  (with_reducible refine (TS.out _ S2 s2 M2 m2 U2 u2 OK2.out.tc HX.out.tc).mono ?_)
  rintro e w4 ⟨rfl, hb⟩
  haveI : Stp _ w4 := ⟨hb⟩
  clear hb TS
  go_wp2_with fail
  (with_reducible refine (TM.out _ HX.out.tc).mono ?_)
  rintro e w5 ⟨rfl, hb⟩
  haveI : Stp _ w5 := ⟨hb⟩
  clear hb TM
  go_wp2_with fail
  (with_reducible refine (TA.out _).mono ?_)
  rintro e w7 ⟨rfl, hb⟩
  haveI : Stp _ w7 := ⟨hb⟩
  clear hb
  go_wp2
  go_ret
  exact ⟨rfl, blw⟩
theorem noticeBytes_true (x : Nt) (w : World) (hs : Sl w x.SA x.st) (hm : Sl w x.vw.MA x.vw.ms) (hu : Ul w x.vw.UA x.vw.us) (hx : x.Wf) :
    Calls Tryz.prog 3 #[x.v] w (RetB w true) := by
  cases hh : hvN x
  · have okx := Nt.ok_of hs hm hu hh
    cases hmm : x.mayB
    · exact noticeBytesN x w okx hx hh hmm
    · exact noticeBytesY x w okx hx hh hmm
  · have TA := hide (fun W => awake8_t W)
    have TH := hide (fun W => heavy8_s x W)
    rw [hh] at TH
    obtain ⟨k, n, i, rd, cd, SA, sc, st, ⟨r, vn, vi, MA, mc, ms, UA, uc, us⟩⟩ := x
    unfold Nt.v at *
    simp only at *
    clear hs hm hu hx hh
    go_enter Tryz.func3, Tryz.ntmps3
    go_wp2_with fail
    (with_reducible refine (TH.out _).mono ?_)
    rintro e w1 ⟨rfl, hb⟩
    haveI : Stp _ w1 := ⟨hb⟩
    clear hb TH
    go_wp2_with fail
    (with_reducible refine (TA.out _).mono ?_)
    rintro e w7 ⟨rfl, hb⟩
    haveI : Stp _ w7 := ⟨hb⟩
    clear hb
    go_wp2
    go_ret
    exact ⟨rfl, blw⟩
end Go.Proofs.YtdmjopokclljlaaGreat
