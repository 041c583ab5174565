/-
  Layer 9: the law ProposalBytes: true for every input.
-/
import Derived.Test.YtdmjopokclljlaaGreatLP0
import Derived.Test.YtdmjopokclljlaaGreatRb9
import Derived.Test.YtdmjopokclljlaaGreatCp9
import Derived.Test.YtdmjopokclljlaaGreatPd9
import Derived.Test.YtdmjopokclljlaaGreatTcL
namespace Go.Proofs.YtdmjopokclljlaaGreat
set_option linter.unusedSimpArgs false
set_option linter.unusedVariables false
set_option linter.unusedSectionVars false
open Go.RowKit

theorem hvP_lens {x : Pp} (h : hvP x = false) : x.ss.length ≤ 300 ∧ x.cs.length ≤ 300 ∧ x.us.length ≤ 300 := by
  simp [hvP] at h; omega
theorem Pp.Ok.tc {a W : World} {x : Pp} (h : x.Ok a) [b : Blw a W] : x.Ok W := h.step b.h
set_option maxRecDepth 100000 in
set_option maxHeartbeats 4000000 in
theorem pbytesY (x : Pp) (BA : Option Addr) (bc : Nat) (bs : List Int) (w : World) (okx : x.Ok w) (wx : x.Wf) (hh : hvP x = false) (hm : x.mayB = true) (sb : Reads w w.heap.size 1 BA bs.length (bcs bs)) (hok : bOK bs) (hbl : bs.length ≤ 5000) (hcp : bs.length ≤ bc) (hcm : bc ≤ 9223372036854775807) :
    Calls Tryz.prog 4 #[x.v, .slice BA bs.length bc] w (RetB w true) := by
  obtain ⟨l1, l2, l3⟩ := hvP_lens hh
  have TA := hide (fun W => awake9_t W)
  have TC := hide (fun W (h : x.Ok W) => refPCopy_s x W h)
  have TE : Hid (∀ W S s C c U u, Pp.Ok W (x.at S s C c U u) → Calls Tryz.prog 15 #[(x.at S s C c U u).v] W (RetE W x.enc)) := hide (fun W S s C c U u h => pencode_f (x.at S s C c U u) W h ⟨(PpF.of wx).i, (PpF.of wx).rd, (PpF.of wx).ss, (PpF.of wx).cs, (PpF.of wx).us⟩ hm)
  have TB := hide (fun W (h : x.Ok W) => refPBytes_s x W h (PpF.of wx) l1 l2 l3)
  have TS : Hid (∀ W S s C c U u, Pp.Ok W (x.at S s C c U u) → x.Ok W → Calls Tryz.prog 16 #[(x.at S s C c U u).v, x.v] W (RetBp W true)) := hide (fun W S s C c U u h h' => by
    have := refPSame_s (x.at S s C c U u) x W h h'
    rw [show Pp.eqB (x.at S s C c U u) x = true by simp [Pp.eqB, Pp.at, eqP]] at this; exact this)
  have TM : Hid (∀ W, x.Ok W → Calls Tryz.prog 17 #[x.v] W (RetBp W true)) := hide (fun W h => by
    have := refPMay_s x W h ⟨fun p hp => ((PpF.of wx).ss p hp).1, fun p hp => ((PpF.of wx).cs p hp).1⟩ (PpF.of wx).rd.1
    rw [hm] at this; exact this)
  obtain ⟨y, er, T1, T2⟩ : ∃ (y : Pp) (er : Int), (∀ A c W, Reads W W.heap.size 1 A bs.length (bcs bs) → Calls Tryz.prog 19 #[.slice A bs.length c] W (RetPp W y er)) ∧ (∀ W, Reads W W.heap.size 1 BA bs.length (bcs bs) → Calls Tryz.prog 20 #[.slice BA bs.length bc] W (RetPp W y er)) := by
    have h1 : ∀ A c W, Reads W W.heap.size 1 A bs.length (bcs bs) → Calls Tryz.prog 19 #[.slice A bs.length c] W (RetDecP W (decP bs)) := fun A c W h => pdecode_s A c bs W h (by omega) hok
    have h2 : ∀ W, Reads W W.heap.size 1 BA bs.length (bcs bs) → Calls Tryz.prog 20 #[.slice BA bs.length bc] W (RetDecP W (decP bs)) := fun W h => rpdecode_s BA bc bs W h (by omega) hok hcp hcm
    cases hd : decP bs with
    | none => rw [hd] at h1 h2; exact ⟨pp0, 3, h1, h2⟩
    | some y => rw [hd] at h1 h2; exact ⟨y, 0, h1, h2⟩
  have T3 : Hid (∀ W S s C c U u S' s' C' c' U' u', Pp.Ok W (y.at S s C c U u) → Pp.Ok W (y.at S' s' C' c' U' u') → Calls Tryz.prog 16 #[(y.at S s C c U u).v, (y.at S' s' C' c' U' u').v] W (RetBp W true)) := hide (fun W S s C c U u S' s' C' c' U' u' h h' => by
    have := refPSame_s (y.at S s C c U u) (y.at S' s' C' c' U' u') W h h'
    rw [show Pp.eqB (y.at S s C c U u) (y.at S' s' C' c' U' u') = true by simp [Pp.eqB, Pp.at, eqP]] at this; exact this)
  replace T1 := hide T1
  replace T2 := hide T2
  generalize x.enc = en at TE TB
  have hb5 : decide ((5000 : Int) < (bs.length : Int)) = false := decide_eq_false (by omega)
  have HX := hide okx
  haveI : Src w BA bs.length 1 (bcs bs) := ⟨sb⟩
  obtain ⟨n, i, rd, SA, sc, ss, CA, cc, cs, UA, uc, us⟩ := x
  obtain ⟨yn, yi, yrd, ySA, ysc, yss, yCA, ycc, ycs, yUA, yuc, yus⟩ := y
  have TH : Hid (Calls Tryz.prog 12 #[.slice (some ⟨w.heap.size + 1, 0, none⟩) 1 1] ((w.alloc (bxP n i rd SA ss.length sc CA cs.length cc UA us.length uc)).alloc (bxP n i rd SA ss.length sc CA cs.length cc UA us.length uc)) fun e w' => e = .returned (.bool (hvP ⟨n, i, rd, SA, sc, ss, CA, cc, cs, UA, uc, us⟩)) ∧ ((w.alloc (bxP n i rd SA ss.length sc CA cs.length cc UA us.length uc)).alloc (bxP n i rd SA ss.length sc CA cs.length cc UA us.length uc)) = w') := hide (heavy9_1 ⟨n, i, rd, SA, sc, ss, CA, cc, cs, UA, uc, us⟩ (w.alloc (bxP n i rd SA ss.length sc CA cs.length cc UA us.length uc)) (w.heap.size + 1) (by simp))
  rw [hh] at TH
  unfold Pp.v at *
  unfold RetPc at TC
  unfold RetPp at T1 T2
  simp only [Pp.at, Pp.v] at *
  clear okx sb wx hh hm hok hcp hcm
  go_enter Tryz.func4, Tryz.ntmps4
  go_wp2_with fail
  (with_reducible refine TH.out.mono ?_)
  rintro e w1 ⟨rfl, rfl⟩
  clear TH
  go_wp2_with fail
  (with_reducible refine (TC.out _ HX.out.tc).mono ?_)
  rintro e w2 ⟨S2, s2, C2, c2, U2, u2, rfl, ok2, hb⟩
  haveI : Stp _ w2 := ⟨hb⟩
  have OK2 := hide ok2
  clear hb TC ok2
  go_wp2_with fail
  (with_reducible refine (TE.out _ S2 s2 C2 c2 U2 u2 OK2.out.tc).mono ?_)
  rintro e w3 ⟨v3, rfl, ho3, hb⟩
  haveI : Stp _ w3 := ⟨hb⟩
  obtain ⟨A3, c3, rfl, _, _⟩ := own_slice ho3
  haveI : RdY w3 A3 en.length en := ⟨Reads.of_own ho3⟩
  clear hb TE ho3
  go_wp2_with fail
  have hun : ∀ b, (some undef = some (Value.bool b)) = False := fun b => by simp [undef]
  first | (go_region_held (fun w' => w'.cell? ⟨w.heap.size, 0, none⟩ = some (.int .i64 n) ∧ w'.cell? ⟨w.heap.size, 1, none⟩ = some (.int .u64 i) ∧ w'.cell? ⟨w.heap.size, 2, none⟩ = some (.int .u64 rd) ∧ w'.cell? ⟨w.heap.size, 3, none⟩ = some (.slice SA ss.length sc) ∧ w'.cell? ⟨w.heap.size, 4, none⟩ = some (.slice CA cs.length cc) ∧ w'.cell? ⟨w.heap.size, 5, none⟩ = some (.slice UA us.length uc) ∧ w'.cell? ⟨w2.heap.size, 0, none⟩ = some (.int .i64 n) ∧ w'.cell? ⟨w2.heap.size, 1, none⟩ = some (.int .u64 i) ∧ w'.cell? ⟨w2.heap.size, 2, none⟩ = some (.int .u64 rd) ∧ w'.cell? ⟨w2.heap.size, 3, none⟩ = some (.slice S2 ss.length s2) ∧ w'.cell? ⟨w2.heap.size, 4, none⟩ = some (.slice C2 cs.length c2) ∧ w'.cell? ⟨w2.heap.size, 5, none⟩ = some (.slice U2 us.length u2)) ((refine ⟨?_, ?_, ?_, ?_, ?_, ?_, ?_, ?_, ?_, ?_, ?_, ?_⟩ <;> (rw [cell?_box]; rfl)))
    (first
      | (go_at_call 16; (with_reducible refine (TS.out _ S2 s2 C2 c2 U2 u2 OK2.out.tc HX.out.tc).mono ?_); rintro e w4 ⟨rfl, hb4⟩; haveI : Stp _ w4 := ⟨hb4⟩)
      | (go_at_call 17; (with_reducible refine (TM.out _ HX.out.tc).mono ?_); rintro e w5 ⟨rfl, hb5⟩; haveI : Stp _ w5 := ⟨hb5⟩)
      | (go_at_call 18; (with_reducible refine (TB.out _ HX.out.tc).mono ?_); rintro e w6 ⟨v6, rfl, ho6, hb6⟩; haveI : Stp _ w6 := ⟨hb6⟩; obtain ⟨A6, c6, rfl, _, _⟩ := own_slice ho6; haveI : RdY w6 A6 en.length en := ⟨Reads.of_own ho6⟩)
      | fail)) | fail
  all_goals
    go_wp2_with (at_builtin; refine wpList_append_w Tryz.okB rfl (.tmp 65) (.tmp 66) rfl w6.heap.size (.slice (some ⟨w6.heap.size, 0, none⟩) 0 0) 0 [] bs.length (bcs bs) ?_ ?_ ?_ ?_ ?_ ?_ ?_ ?_; go_must ((focus (first | rfl | (simp [Act.eval, Act.put]; done))); (focus (exact own_emptyBy w6)); (focus (refine ⟨_, _, rfl, ?_⟩; exact src)); (focus (exact bcs_one _)); (focus (unfold maxLen; omega)); (focus omega); (focus (first | omega | (simp; done) | (simp; omega) | exact BoxAt.lt (n := w.heap.size) inferInstance)); intro v7 w7 ho7 hg7; obtain ⟨hB7, ho7b⟩ := app_fresh (W := w6) (Below.refl _ _) hg7 ho7; haveI : Stp _ w7 := ⟨hB7⟩; obtain ⟨A7, c7, rfl, _, _⟩ := own_slice ho7b; have HO7 := hide ho7b; clear ho7 hg7 hB7 ho7b))
    (with_reducible refine (T1.out A7 c7 _ (Reads.of_own HO7.out)).mono ?_)
    rintro e w8 ⟨S8, s8, C8, c8, U8, u8, rfl, ok8, hb⟩
    haveI : Stp _ w8 := ⟨hb⟩
    have OK8 := hide ok8
    clear hb ok8 HO7 T1
    go_wp2_with fail
    (with_reducible refine (T2.out _ src).mono ?_)
    rintro e w9 ⟨S9, s9, C9, c9, U9, u9, rfl, ok9, hb⟩
    haveI : Stp _ w9 := ⟨hb⟩
    have OK9 := hide ok9
    clear hb ok9 T2
    go_wp2_with fail
    (with_reducible refine (T3.out _ S8 s8 C8 c8 U8 u8 S9 s9 C9 c9 U9 u9 OK8.out.tc OK9.out.tc).mono ?_)
    rintro e w10 ⟨rfl, hb⟩
    haveI : Stp _ w10 := ⟨hb⟩
    have e1 : (er == er) = true := by simp
    clear hb T3
    go_wp2_with fail
    (with_reducible refine (TA.out _).mono ?_)
    rintro e w11 ⟨rfl, hb⟩
    haveI : Stp _ w11 := ⟨hb⟩
    clear hb
    go_wp2
    go_ret
    exact ⟨rfl, blw⟩
set_option maxRecDepth 100000 in
set_option maxHeartbeats 4000000 in
theorem pbytesN (x : Pp) (BA : Option Addr) (bc : Nat) (bs : List Int) (w : World) (okx : x.Ok w) (wx : x.Wf) (hh : hvP x = false) (hm : x.mayB = false) (sb : Reads w w.heap.size 1 BA bs.length (bcs bs)) (hok : bOK bs) (hbl : bs.length ≤ 5000) (hcp : bs.length ≤ bc) (hcm : bc ≤ 9223372036854775807) :
    Calls Tryz.prog 4 #[x.v, .slice BA bs.length bc] w (RetB w true) := by
  obtain ⟨l1, l2, l3⟩ := hvP_lens hh
  have TA := hide (fun W => awake9_t W)
  have TC := hide (fun W (h : x.Ok W) => refPCopy_s x W h)
  have TE : Hid (∀ W S s C c U u, Pp.Ok W (x.at S s C c U u) → Calls Tryz.prog 15 #[(x.at S s C c U u).v] W fun e w' => e = .returned (.tuple #[.slice none 0 0, .int .i64 3]) ∧ Below W.heap.size W w') := hide (fun W S s C c U u h => pencode_no (x.at S s C c U u) W h hm)
  have TS : Hid (∀ W S s C c U u, Pp.Ok W (x.at S s C c U u) → x.Ok W → Calls Tryz.prog 16 #[(x.at S s C c U u).v, x.v] W (RetBp W true)) := hide (fun W S s C c U u h h' => by
    have := refPSame_s (x.at S s C c U u) x W h h'
    rw [show Pp.eqB (x.at S s C c U u) x = true by simp [Pp.eqB, Pp.at, eqP]] at this; exact this)
  have TM : Hid (∀ W, x.Ok W → Calls Tryz.prog 17 #[x.v] W (RetBp W false)) := hide (fun W h => by
    have := refPMay_s x W h ⟨fun p hp => ((PpF.of wx).ss p hp).1, fun p hp => ((PpF.of wx).cs p hp).1⟩ (PpF.of wx).rd.1
    rw [hm] at this; exact this)
  obtain ⟨y, er, T1, T2⟩ : ∃ (y : Pp) (er : Int), (∀ A c W, Reads W W.heap.size 1 A bs.length (bcs bs) → Calls Tryz.prog 19 #[.slice A bs.length c] W (RetPp W y er)) ∧ (∀ W, Reads W W.heap.size 1 BA bs.length (bcs bs) → Calls Tryz.prog 20 #[.slice BA bs.length bc] W (RetPp W y er)) := by
    have h1 : ∀ A c W, Reads W W.heap.size 1 A bs.length (bcs bs) → Calls Tryz.prog 19 #[.slice A bs.length c] W (RetDecP W (decP bs)) := fun A c W h => pdecode_s A c bs W h (by omega) hok
    have h2 : ∀ W, Reads W W.heap.size 1 BA bs.length (bcs bs) → Calls Tryz.prog 20 #[.slice BA bs.length bc] W (RetDecP W (decP bs)) := fun W h => rpdecode_s BA bc bs W h (by omega) hok hcp hcm
    cases hd : decP bs with
    | none => rw [hd] at h1 h2; exact ⟨pp0, 3, h1, h2⟩
    | some y => rw [hd] at h1 h2; exact ⟨y, 0, h1, h2⟩
  have T3 : Hid (∀ W S s C c U u S' s' C' c' U' u', Pp.Ok W (y.at S s C c U u) → Pp.Ok W (y.at S' s' C' c' U' u') → Calls Tryz.prog 16 #[(y.at S s C c U u).v, (y.at S' s' C' c' U' u').v] W (RetBp W true)) := hide (fun W S s C c U u S' s' C' c' U' u' h h' => by
    have := refPSame_s (y.at S s C c U u) (y.at S' s' C' c' U' u') W h h'
    rw [show Pp.eqB (y.at S s C c U u) (y.at S' s' C' c' U' u') = true by simp [Pp.eqB, Pp.at, eqP]] at this; exact this)
  replace T1 := hide T1
  replace T2 := hide T2
  have hb5 : decide ((5000 : Int) < (bs.length : Int)) = false := decide_eq_false (by omega)
  have HX := hide okx
  haveI : Src w BA bs.length 1 (bcs bs) := ⟨sb⟩
  obtain ⟨n, i, rd, SA, sc, ss, CA, cc, cs, UA, uc, us⟩ := x
  obtain ⟨yn, yi, yrd, ySA, ysc, yss, yCA, ycc, ycs, yUA, yuc, yus⟩ := y
  have TH : Hid (Calls Tryz.prog 12 #[.slice (some ⟨w.heap.size + 1, 0, none⟩) 1 1] ((w.alloc (bxP n i rd SA ss.length sc CA cs.length cc UA us.length uc)).alloc (bxP n i rd SA ss.length sc CA cs.length cc UA us.length uc)) fun e w' => e = .returned (.bool (hvP ⟨n, i, rd, SA, sc, ss, CA, cc, cs, UA, uc, us⟩)) ∧ ((w.alloc (bxP n i rd SA ss.length sc CA cs.length cc UA us.length uc)).alloc (bxP n i rd SA ss.length sc CA cs.length cc UA us.length uc)) = w') := hide (heavy9_1 ⟨n, i, rd, SA, sc, ss, CA, cc, cs, UA, uc, us⟩ (w.alloc (bxP n i rd SA ss.length sc CA cs.length cc UA us.length uc)) (w.heap.size + 1) (by simp))
  rw [hh] at TH
  unfold Pp.v at *
  unfold RetPc at TC
  unfold RetPp at T1 T2
  simp only [Pp.at, Pp.v] at *
  clear okx sb wx hh hm hok hcp hcm
  go_enter Tryz.func4, Tryz.ntmps4
  go_wp2_with fail
  (with_reducible refine TH.out.mono ?_)
  rintro e w1 ⟨rfl, rfl⟩
  clear TH
  go_wp2_with fail
  (with_reducible refine (TC.out _ HX.out.tc).mono ?_)
  rintro e w2 ⟨S2, s2, C2, c2, U2, u2, rfl, ok2, hb⟩
  haveI : Stp _ w2 := ⟨hb⟩
  have OK2 := hide ok2
  clear hb TC ok2
  go_wp2_with fail
  (with_reducible refine (TE.out _ S2 s2 C2 c2 U2 u2 OK2.out.tc).mono ?_)
  rintro e w3 ⟨rfl, hb⟩
  haveI : Stp _ w3 := ⟨hb⟩
  clear hb TE
  go_wp2_with fail
  (refine wp_region_gw (by kernel_rfl) (by kernel_rfl) ?_; (repeat (go_big_quiet_step (((first | (go_at_call 16; exact calls_gw (TS.out _ S2 s2 C2 c2 U2 u2 OK2.out.tc HX.out.tc)) | (go_at_call 17; exact calls_gw (TM.out _ HX.out.tc))))))); refine wpQuiet_nil ?_; intro _ hw'; obtain ⟨⟨dq, osq⟩, hw''⟩ := hw'; subst hw'')
  have hg5 : Stp w3 (gw w3 dq osq) := inferInstance
  generalize gw w3 dq osq = w5 at hg5 ⊢
  haveI := hg5
  all_goals
    go_wp2_with (at_builtin; refine wpList_append_w Tryz.okB rfl (.tmp 65) (.tmp 66) rfl w5.heap.size (.slice (some ⟨w5.heap.size, 0, none⟩) 0 0) 0 [] bs.length (bcs bs) ?_ ?_ ?_ ?_ ?_ ?_ ?_ ?_; go_must ((focus (first | rfl | (simp [Act.eval, Act.put]; done))); (focus (exact own_emptyBy w5)); (focus (refine ⟨_, _, rfl, ?_⟩; exact src)); (focus (exact bcs_one _)); (focus (unfold maxLen; omega)); (focus omega); (focus (first | omega | (simp; done) | (simp; omega) | exact BoxAt.lt (n := w.heap.size) inferInstance)); intro v7 w7 ho7 hg7; obtain ⟨hB7, ho7b⟩ := app_fresh (W := w5) (Below.refl _ _) hg7 ho7; haveI : Stp _ w7 := ⟨hB7⟩; obtain ⟨A7, c7, rfl, _, _⟩ := own_slice ho7b; have HO7 := hide ho7b; clear ho7 hg7 hB7 ho7b))
    (with_reducible refine (T1.out A7 c7 _ (Reads.of_own HO7.out)).mono ?_)
    rintro e w8 ⟨S8, s8, C8, c8, U8, u8, rfl, ok8, hb⟩
    haveI : Stp _ w8 := ⟨hb⟩
    have OK8 := hide ok8
    clear hb ok8 HO7 T1
    go_wp2_with fail
    (with_reducible refine (T2.out _ src).mono ?_)
    rintro e w9 ⟨S9, s9, C9, c9, U9, u9, rfl, ok9, hb⟩
    haveI : Stp _ w9 := ⟨hb⟩
    have OK9 := hide ok9
    clear hb ok9 T2
    go_wp2_with fail
    (with_reducible refine (T3.out _ S8 s8 C8 c8 U8 u8 S9 s9 C9 c9 U9 u9 OK8.out.tc OK9.out.tc).mono ?_)
    rintro e w10 ⟨rfl, hb⟩
    haveI : Stp _ w10 := ⟨hb⟩
    have e1 : (er == er) = true := by simp
    clear hb T3
    go_wp2_with fail
    (with_reducible refine (TA.out _).mono ?_)
    rintro e w11 ⟨rfl, hb⟩
    haveI : Stp _ w11 := ⟨hb⟩
    clear hb
    go_wp2
    go_ret
    exact ⟨rfl, blw⟩
theorem proposalBytes_true (x : Pp) (BA : Option Addr) (bc : Nat) (bs : List Int) (w : World) (hx : x.In w) (wx : x.Wf) (sb : Reads w w.heap.size 1 BA bs.length (bcs bs)) (hok : bOK bs) (hbm : bs.length ≤ 9223372036854775807) (hcp : bs.length ≤ bc) (hcm : bc ≤ 9223372036854775807) :
    Calls Tryz.prog 4 #[x.v, .slice BA bs.length bc] w (RetB w true) := by
  have TA := hide (fun W => awake9_t W)
  have TH : Hid (∀ n i rd SA sc ss CA cc cs UA uc us, Calls Tryz.prog 12 #[.slice (some ⟨w.heap.size + 1, 0, none⟩) 1 1] ((w.alloc (bxP n i rd SA (List.length ss) sc CA (List.length cs) cc UA (List.length us) uc)).alloc (bxP n i rd SA (List.length ss) sc CA (List.length cs) cc UA (List.length us) uc)) fun e w' => e = .returned (.bool (hvP ⟨n, i, rd, SA, sc, ss, CA, cc, cs, UA, uc, us⟩)) ∧ ((w.alloc (bxP n i rd SA (List.length ss) sc CA (List.length cs) cc UA (List.length us) uc)).alloc (bxP n i rd SA (List.length ss) sc CA (List.length cs) cc UA (List.length us) uc)) = w') := hide (fun n i rd SA sc ss CA cc cs UA uc us => heavy9_1 ⟨n, i, rd, SA, sc, ss, CA, cc, cs, UA, uc, us⟩ (w.alloc (bxP n i rd SA ss.length sc CA cs.length cc UA us.length uc)) (w.heap.size + 1) (by simp))
  cases hh : hvP x
  · by_cases hbl : bs.length ≤ 5000
    · have okx := Pp.ok_of hx hh
      cases hmm : x.mayB
      · exact pbytesN x BA bc bs w okx wx hh hmm sb hok hbl hcp hcm
      · exact pbytesY x BA bc bs w okx wx hh hmm sb hok hbl hcp hcm
    · have hb5 : decide ((5000 : Int) < (bs.length : Int)) = true := decide_eq_true (by omega)
      clear hx wx sb hok hbl hcp hcm
      obtain ⟨n, i, rd, SA, sc, ss, CA, cc, cs, UA, uc, us⟩ := x
      have TH2 := hide (TH.out n i rd SA sc ss CA cc cs UA uc us)
      rw [hh] at TH2
      unfold Pp.v at *
      simp only at *
      clear hh TH
      go_enter Tryz.func4, Tryz.ntmps4
      go_wp2_with fail
      (with_reducible refine TH2.out.mono ?_)
      rintro e w1 ⟨rfl, rfl⟩
      clear TH2
      go_wp2_with fail
      (with_reducible refine (TA.out _).mono ?_)
      rintro e w3 ⟨rfl, hb⟩
      haveI : Stp _ w3 := ⟨hb⟩
      clear hb
      go_wp2
      go_ret
      exact ⟨rfl, blw⟩
  · clear hx wx sb hok hcp hcm
    obtain ⟨n, i, rd, SA, sc, ss, CA, cc, cs, UA, uc, us⟩ := x
    have TH2 := hide (TH.out n i rd SA sc ss CA cc cs UA uc us)
    rw [hh] at TH2
    unfold Pp.v at *
    simp only at *
    clear hh TH
    go_enter Tryz.func4, Tryz.ntmps4
    go_wp2_with fail
    (with_reducible refine TH2.out.mono ?_)
    rintro e w1 ⟨rfl, rfl⟩
    clear TH2
    go_wp2_with fail
    (with_reducible refine (TA.out _).mono ?_)
    rintro e w3 ⟨rfl, hb⟩
    haveI : Stp _ w3 := ⟨hb⟩
    clear hb
    go_wp2
    go_ret
    exact ⟨rfl, blw⟩
end Go.Proofs.YtdmjopokclljlaaGreat
