/-
  The reference's writers: contract: Bytes of layer 8.
-/
import Derived.Test.YtdmjopokclljlaaGreatRb4v
import Derived.Test.YtdmjopokclljlaaGreatNotP
namespace Go.Proofs.YtdmjopokclljlaaGreat
set_option linter.unusedSimpArgs false
set_option linter.unusedVariables false
set_option linter.unusedSectionVars false
open Go.RowKit

theorem ul_tc {w W : World} {A : Option Addr} {l : List Int} [s : Src w A l.length 1 (ucs l)] [b : Blw w W] : Ul W A l := (s.h.below b.h).more b.h.size

section
variable (n i rd cd : Int) (SA : Option Addr) (sc : Nat) (st : List Pr) (r vn vi : Int) (MA : Option Addr) (mc : Nat) (ms : List Pr) (UA : Option Addr) (uc : Nat) (us : List Int)
set_option maxRecDepth 100000 in
set_option maxHeartbeats 4000000 in
theorem refNBytes_5 (w : World) (h : Nt.Ok w ⟨5, n, i, rd, cd, SA, sc, st, ⟨r, vn, vi, MA, mc, ms, UA, uc, us⟩⟩) (hf : NtF ⟨5, n, i, rd, cd, SA, sc, st, ⟨r, vn, vi, MA, mc, ms, UA, uc, us⟩⟩) (hsl : st.length ≤ 300) (hml : ms.length ≤ 300) (hul : us.length ≤ 300) :
    Calls Tryz.prog 11 #[NtV 5 n i rd cd SA st.length sc r vn vi MA ms.length mc UA us.length uc] w (RetY w (Nt.enc ⟨5, n, i, rd, cd, SA, sc, st, ⟨r, vn, vi, MA, mc, ms, UA, uc, us⟩⟩)) := by
  obtain ⟨h1, h2, hv⟩ := h
  obtain ⟨f1, f2, f3, f4, ⟨g1, g2, g3, g4⟩⟩ := hf
  simp only at h1 h2 hv f1 f2 f3 f4 g1 g2 g3 g4
  obtain ⟨v1, v2, v3, v4⟩ := hv
  simp only at v1 v2 v3 v4
  have HEQ : Hid (Nt.enc ⟨5, n, i, rd, cd, SA, sc, st, ⟨r, vn, vi, MA, mc, ms, UA, uc, us⟩⟩ = [5] ++ viewB r vn vi ms us) := hide (by simp [Nt.enc, setBy, procsB])
  generalize Nt.enc ⟨5, n, i, rd, cd, SA, sc, st, ⟨r, vn, vi, MA, mc, ms, UA, uc, us⟩⟩ = en at HEQ ⊢
  haveI : Src w SA st.length 2 (pcs st) := ⟨h1⟩
  haveI : Src w MA ms.length 2 (pcs ms) := ⟨v1⟩
  haveI : Src w UA us.length 1 (ucs us) := ⟨v2⟩
  have HP0 := hide (PB.one w (csN 5 n i rd cd SA st.length sc r vn vi MA ms.length mc UA us.length uc) 32 5)
  have TV := hide (fun W (h : Vw.Ok W ⟨r, vn, vi, MA, mc, ms, UA, uc, us⟩) => refVBytes_s ⟨r, vn, vi, MA, mc, ms, UA, uc, us⟩ W h g1 g2 g3 g4 hml hul)
  have l1 : (viewB r vn vi ms us).length ≤ 7000 := by
    have h1 := vidB_len r vn vi; have h2 := procsB_len ms; have h3 := uintsB_len us
    simp only [viewB, List.length_append, List.length_singleton]; omega
  have HL3 := hide v3
  have HL4 := hide v4
  generalize viewB r vn vi ms us = e1 at TV l1 HEQ
  unfold Vw.v at TV
  simp only at TV
  clear h1 h2 v1 v2 v3 v4 f1 f2 f3 f4 g1 g2 g3 g4
  go_enter Tryz.func11, Tryz.ntmps11
  go_wp2_with fail
  (with_reducible refine (TV.out _ ⟨sl_tc, ul_tc, HL3.out, HL4.out⟩).mono ?_)
  rintro e wB0 ⟨vB, rfl, hoB, hbB⟩
  haveI : Stp _ wB0 := ⟨hbB⟩
  obtain ⟨AB, cB, rfl, _, _⟩ := own_slice hoB
  have HOB := hide hoB
  clear hoB hbB
  go_wp2_with ((at_builtin; refine wpList_append_w Tryz.okB rfl (.tmp 11) (.tmp 14) rfl (w.heap.size + 1) (.slice (some ⟨w.heap.size + 1, 0, none⟩) 1 1) 1 (bcs [5]) e1.length (bcs e1) ?_ ?_ ?_ ?_ ?_ ?_ ?_ ?_; go_must ((focus (first | rfl | (simp [Act.eval, Act.put]; done))); (focus (exact own_tc HP0.out.oa)); (focus (refine ⟨_, _, rfl, ?_⟩; exact Reads.of_own HOB.out)); (focus (exact bcs_one _)); (focus (unfold maxLen; omega)); (focus omega); (focus (first | exact BoxAt.lt (n := w.heap.size) inferInstance | omega | (simp; done) | (simp; omega))); intro v4 w4 ho4 hg4; have P4 := (HP0.out.tc).app (bs := [5]) ho4 hg4; generalize hG4 : [5] ++ e1 = b4 at P4; have HG4 := hide hG4; have lb4 : b4.length ≤ 7001 := (by rw [← hG4, List.length_append, List.length_singleton]; omega); have HP4 := hide P4; haveI := P4.k; haveI := P4.blw; obtain ⟨A4, c4, e4', _, _⟩ := own_slice P4.oa; subst e4'; clear ho4 hg4 P4 hG4)))
  go_wp2
  go_ret
  exact ⟨_, rfl, by rw [HEQ.out, HG4.out]; exact HP4.out.ret, HP4.out.hB⟩
set_option maxRecDepth 100000 in
set_option maxHeartbeats 4000000 in
theorem refNBytes_2 (w : World) (h : Nt.Ok w ⟨2, n, i, rd, cd, SA, sc, st, ⟨r, vn, vi, MA, mc, ms, UA, uc, us⟩⟩) (hf : NtF ⟨2, n, i, rd, cd, SA, sc, st, ⟨r, vn, vi, MA, mc, ms, UA, uc, us⟩⟩) (hsl : st.length ≤ 300) (hml : ms.length ≤ 300) (hul : us.length ≤ 300) :
    Calls Tryz.prog 11 #[NtV 2 n i rd cd SA st.length sc r vn vi MA ms.length mc UA us.length uc] w (RetY w (Nt.enc ⟨2, n, i, rd, cd, SA, sc, st, ⟨r, vn, vi, MA, mc, ms, UA, uc, us⟩⟩)) := by
  obtain ⟨h1, h2, hv⟩ := h
  obtain ⟨f1, f2, f3, f4, ⟨g1, g2, g3, g4⟩⟩ := hf
  simp only at h1 h2 hv f1 f2 f3 f4 g1 g2 g3 g4
  obtain ⟨v1, v2, v3, v4⟩ := hv
  simp only at v1 v2 v3 v4
  have HEQ : Hid (Nt.enc ⟨2, n, i, rd, cd, SA, sc, st, ⟨r, vn, vi, MA, mc, ms, UA, uc, us⟩⟩ = [2] ++ procsB [(n, i)]) := hide (by simp [Nt.enc, setBy, procsB])
  generalize Nt.enc ⟨2, n, i, rd, cd, SA, sc, st, ⟨r, vn, vi, MA, mc, ms, UA, uc, us⟩⟩ = en at HEQ ⊢
  haveI : Src w SA st.length 2 (pcs st) := ⟨h1⟩
  haveI : Src w MA ms.length 2 (pcs ms) := ⟨v1⟩
  haveI : Src w UA us.length 1 (ucs us) := ⟨v2⟩
  have HP0 := hide (PB.one w (csN 2 n i rd cd SA st.length sc r vn vi MA ms.length mc UA us.length uc) 32 2)
  have TB1 := hide (fun A c W (h : Sl W A [(n, i)]) => refBytes_s A c [(n, i)] W h (by simp) (by intro p hp; simp at hp; rw [hp]; exact f1))
  have l1 : (procsB [(n, i)]).length ≤ 11 := procsB_len _
  simp only [List.length_singleton] at TB1
  generalize procsB [(n, i)] = e1 at TB1 l1 HEQ
  clear h1 h2 v1 v2 v3 v4 f1 f2 f3 f4 g1 g2 g3 g4
  go_enter Tryz.func11, Tryz.ntmps11
  go_wp2_with fail
  (with_reducible refine (TB1.out _ _ _ (sl_p1x _ _ _ _)).mono ?_)
  rintro e wB0 ⟨vB, rfl, hoB, hbB⟩
  haveI : Stp _ wB0 := ⟨hbB⟩
  obtain ⟨AB, cB, rfl, _, _⟩ := own_slice hoB
  have HOB := hide hoB
  clear hoB hbB
  go_wp2_with ((at_builtin; refine wpList_append_w Tryz.okB rfl (.tmp 16) (.tmp 20) rfl (w.heap.size + 1) (.slice (some ⟨w.heap.size + 1, 0, none⟩) 1 1) 1 (bcs [2]) e1.length (bcs e1) ?_ ?_ ?_ ?_ ?_ ?_ ?_ ?_; go_must ((focus (first | rfl | (simp [Act.eval, Act.put]; done))); (focus (exact own_tc HP0.out.oa)); (focus (refine ⟨_, _, rfl, ?_⟩; exact Reads.of_own HOB.out)); (focus (exact bcs_one _)); (focus (unfold maxLen; omega)); (focus omega); (focus (first | exact BoxAt.lt (n := w.heap.size) inferInstance | omega | (simp; done) | (simp; omega))); intro v4 w4 ho4 hg4; have P4 := (HP0.out.tc).app (bs := [2]) ho4 hg4; generalize hG4 : [2] ++ e1 = b4 at P4; have HG4 := hide hG4; have lb4 : b4.length ≤ 12 := (by rw [← hG4, List.length_append, List.length_singleton]; omega); have HP4 := hide P4; haveI := P4.k; haveI := P4.blw; obtain ⟨A4, c4, e4', _, _⟩ := own_slice P4.oa; subst e4'; clear ho4 hg4 P4 hG4)))
  go_wp2
  go_ret
  exact ⟨_, rfl, by rw [HEQ.out, HG4.out]; exact HP4.out.ret, HP4.out.hB⟩
set_option maxRecDepth 100000 in
set_option maxHeartbeats 4000000 in
theorem refNBytes_4 (w : World) (h : Nt.Ok w ⟨4, n, i, rd, cd, SA, sc, st, ⟨r, vn, vi, MA, mc, ms, UA, uc, us⟩⟩) (hf : NtF ⟨4, n, i, rd, cd, SA, sc, st, ⟨r, vn, vi, MA, mc, ms, UA, uc, us⟩⟩) (hsl : st.length ≤ 300) (hml : ms.length ≤ 300) (hul : us.length ≤ 300) :
    Calls Tryz.prog 11 #[NtV 4 n i rd cd SA st.length sc r vn vi MA ms.length mc UA us.length uc] w (RetY w (Nt.enc ⟨4, n, i, rd, cd, SA, sc, st, ⟨r, vn, vi, MA, mc, ms, UA, uc, us⟩⟩)) := by
  obtain ⟨h1, h2, hv⟩ := h
  obtain ⟨f1, f2, f3, f4, ⟨g1, g2, g3, g4⟩⟩ := hf
  simp only at h1 h2 hv f1 f2 f3 f4 g1 g2 g3 g4
  obtain ⟨v1, v2, v3, v4⟩ := hv
  simp only at v1 v2 v3 v4
  have HEQ : Hid (Nt.enc ⟨4, n, i, rd, cd, SA, sc, st, ⟨r, vn, vi, MA, mc, ms, UA, uc, us⟩⟩ = (((([4] ++ procsB [(n, i)]) ++ uintB cd) ++ [(st.length : Int) % 256]) ++ procsB st)) := hide (by simp [Nt.enc, setBy, procsB])
  generalize Nt.enc ⟨4, n, i, rd, cd, SA, sc, st, ⟨r, vn, vi, MA, mc, ms, UA, uc, us⟩⟩ = en at HEQ ⊢
  haveI : Src w SA st.length 2 (pcs st) := ⟨h1⟩
  haveI : Src w MA ms.length 2 (pcs ms) := ⟨v1⟩
  haveI : Src w UA us.length 1 (ucs us) := ⟨v2⟩
  have HP0 := hide (PB.one w (csN 4 n i rd cd SA st.length sc r vn vi MA ms.length mc UA us.length uc) 32 4)
  have TB1 := hide (fun A c W (h : Sl W A [(n, i)]) => refBytes_s A c [(n, i)] W h (by simp) (by intro p hp; simp at hp; rw [hp]; exact f1))
  have l1 : (procsB [(n, i)]).length ≤ 11 := procsB_len _
  simp only [List.length_singleton] at TB1
  generalize procsB [(n, i)] = e1 at TB1 l1 HEQ
  have Te6 := hide (fun W => refUint_s cd W f3)
  have l6 := uintB_len cd
  generalize uintB cd = e6 at Te6 l6 HEQ
  have TS := hide (fun W (h : Sl W SA st) => refBytes_s SA sc st W h (by omega) f4)
  have l3 : (procsB st).length ≤ 3300 := by have := procsB_len st; omega
  generalize procsB st = e3 at TS l3 HEQ
  clear h1 h2 v1 v2 v3 v4 f1 f2 f3 f4 g1 g2 g3 g4
  go_enter Tryz.func11, Tryz.ntmps11
  go_wp2_with fail
  (with_reducible refine (TB1.out _ _ _ (sl_p1x _ _ _ _)).mono ?_)
  rintro e wB0 ⟨vB, rfl, hoB, hbB⟩
  haveI : Stp _ wB0 := ⟨hbB⟩
  obtain ⟨AB, cB, rfl, _, _⟩ := own_slice hoB
  have HOB := hide hoB
  clear hoB hbB
  go_wp2_with ((at_builtin; refine wpList_append_w Tryz.okB rfl (.tmp 16) (.tmp 20) rfl (w.heap.size + 1) (.slice (some ⟨w.heap.size + 1, 0, none⟩) 1 1) 1 (bcs [4]) e1.length (bcs e1) ?_ ?_ ?_ ?_ ?_ ?_ ?_ ?_; go_must ((focus (first | rfl | (simp [Act.eval, Act.put]; done))); (focus (exact own_tc HP0.out.oa)); (focus (refine ⟨_, _, rfl, ?_⟩; exact Reads.of_own HOB.out)); (focus (exact bcs_one _)); (focus (unfold maxLen; omega)); (focus omega); (focus (first | exact BoxAt.lt (n := w.heap.size) inferInstance | omega | (simp; done) | (simp; omega))); intro v4 w4 ho4 hg4; have P4 := (HP0.out.tc).app (bs := [4]) ho4 hg4; generalize hG4 : [4] ++ e1 = b4 at P4; have HG4 := hide hG4; have lb4 : b4.length ≤ 12 := (by rw [← hG4, List.length_append, List.length_singleton]; omega); have HP4 := hide P4; haveI := P4.k; haveI := P4.blw; obtain ⟨A4, c4, e4', _, _⟩ := own_slice P4.oa; subst e4'; clear ho4 hg4 P4 hG4)))
  clear HP0 HOB
  (with_reducible refine (Te6.out _).mono ?_)
  rintro e wB2 ⟨vB, rfl, hoB, hbB⟩
  haveI : Stp _ wB2 := ⟨hbB⟩
  obtain ⟨AB, cB, rfl, _, _⟩ := own_slice hoB
  have HOB := hide hoB
  clear hoB hbB
  go_wp2_with ((at_builtin; refine wpList_append_w Tryz.okB rfl (.tmp 38) (.tmp 41) rfl (w.heap.size + 1) (.slice A4 b4.length c4) b4.length (bcs b4) e6.length (bcs e6) ?_ ?_ ?_ ?_ ?_ ?_ ?_ ?_; go_must ((focus (first | rfl | (simp [Act.eval, Act.put]; done))); (focus (exact (HP4.out.tc).oa)); (focus (refine ⟨_, _, rfl, ?_⟩; exact Reads.of_own HOB.out)); (focus (exact bcs_one _)); (focus (unfold maxLen; omega)); (focus omega); (focus (first | exact (HP4.out.tc).sz | exact BoxAt.lt (n := w.heap.size) inferInstance | omega | (simp; done) | (simp; omega))); intro v6 w6 ho6 hg6; have P6 := HP4.out.tc.app ho6 hg6; generalize hG6 : b4 ++ e6 = b6 at P6; have HG6 := hide hG6; have lb6 : b6.length ≤ 22 := (by rw [← hG6, List.length_append]; omega); have HP6 := hide P6; haveI := P6.k; haveI := P6.blw; obtain ⟨A6, c6, e6', _, _⟩ := own_slice P6.oa; subst e6'; clear ho6 hg6 P6 hG6)))
  clear HP4 HOB
  go_region_held3 (fun w' => w'.cell? ⟨w.heap.size, 5, none⟩ = some (.slice SA st.length sc)) ((rw [cell?_box]; rfl))
    (first
      | (go_at_call 40; (with_reducible refine (TS.out _ sl_tc).mono ?_); rintro e wB ⟨vB, rfl, hoB, hbB⟩; haveI : Stp _ wB := ⟨hbB⟩; obtain ⟨AB, cB, rfl, _, _⟩ := own_slice hoB; have HOB := hide hoB)
      | (refine step_append_w Tryz.okB rfl (.tmp 46) (.tmp 51) rfl (w.heap.size + 1) (.slice A6 b6.length c6) b6.length (bcs b6) 1 (bcs [(st.length : Int) % 256]) ?_ ?_ ?_ ?_ ?_ ?_ ?_ ?_; go_must ((focus (first | rfl | (simp [Act.eval, Act.put]; done))); (focus (exact (HP6.out.tc).oa)); (focus (refine ⟨_, _, by first | rfl | (simp [Act.eval, Act.put]; done), ?_⟩; exact reads_b1x _ _ _)); (focus (exact bcs_one _)); (focus (unfold maxLen; omega)); (focus omega); (focus (first | exact (HP6.out.tc).sz | exact BoxAt.lt (n := w.heap.size) inferInstance | omega | (simp; done) | (simp; omega))); intro v7 w7 ho7 hg7; have P7 := HP6.out.tc.app ho7 hg7; generalize hG7 : b6 ++ [(st.length : Int) % 256] = b7 at P7; have HG7 := hide hG7; have lb7 : b7.length ≤ 23 := (by rw [← hG7, List.length_append]; (try simp only [List.length_singleton]); omega); have HP7 := hide P7; haveI := P7.k; haveI := P7.blw; obtain ⟨A7, c7, e7', _, _⟩ := own_slice P7.oa; subst e7'; clear ho7 hg7 P7 hG7))
      | (refine step_append_w Tryz.okB rfl (.tmp 52) (.tmp 55) rfl (w.heap.size + 1) (.slice A7 b7.length c7) b7.length (bcs b7) e3.length (bcs e3) ?_ ?_ ?_ ?_ ?_ ?_ ?_ ?_; go_must ((focus (first | rfl | (simp [Act.eval, Act.put]; done))); (focus (exact (HP7.out.tc).oa)); (focus (refine ⟨_, _, by first | rfl | (simp [Act.eval, Act.put]; done), ?_⟩; exact Reads.of_own HOB.out)); (focus (exact bcs_one _)); (focus (unfold maxLen; omega)); (focus omega); (focus (first | exact (HP7.out.tc).sz | exact BoxAt.lt (n := w.heap.size) inferInstance | omega | (simp; done) | (simp; omega))); intro v8 w8 ho8 hg8; have P8 := HP7.out.tc.app ho8 hg8; generalize hG8 : b7 ++ e3 = b8 at P8; have HG8 := hide hG8; have lb8 : b8.length ≤ 3323 := (by rw [← hG8, List.length_append]; omega); have HP8 := hide P8; haveI := P8.k; haveI := P8.blw; obtain ⟨A8, c8, e8', _, _⟩ := own_slice P8.oa; subst e8'; clear ho8 hg8 P8 hG8))
      | fail)
  clear HOB HP6 HP7
  go_wp2
  go_ret
  exact ⟨_, rfl, by rw [HEQ.out, HG4.out, HG6.out, HG7.out, HG8.out]; exact HP8.out.ret, HP8.out.hB⟩
set_option maxRecDepth 100000 in
set_option maxHeartbeats 4000000 in
theorem refNBytes_1 (w : World) (h : Nt.Ok w ⟨1, n, i, rd, cd, SA, sc, st, ⟨r, vn, vi, MA, mc, ms, UA, uc, us⟩⟩) (hf : NtF ⟨1, n, i, rd, cd, SA, sc, st, ⟨r, vn, vi, MA, mc, ms, UA, uc, us⟩⟩) (hsl : st.length ≤ 300) (hml : ms.length ≤ 300) (hul : us.length ≤ 300) :
    Calls Tryz.prog 11 #[NtV 1 n i rd cd SA st.length sc r vn vi MA ms.length mc UA us.length uc] w (RetY w (Nt.enc ⟨1, n, i, rd, cd, SA, sc, st, ⟨r, vn, vi, MA, mc, ms, UA, uc, us⟩⟩)) := by
  obtain ⟨h1, h2, hv⟩ := h
  obtain ⟨f1, f2, f3, f4, ⟨g1, g2, g3, g4⟩⟩ := hf
  simp only at h1 h2 hv f1 f2 f3 f4 g1 g2 g3 g4
  obtain ⟨v1, v2, v3, v4⟩ := hv
  simp only at v1 v2 v3 v4
  have HEQ : Hid (Nt.enc ⟨1, n, i, rd, cd, SA, sc, st, ⟨r, vn, vi, MA, mc, ms, UA, uc, us⟩⟩ = ((((([1] ++ procsB [(n, i)]) ++ uintB rd) ++ uintB cd) ++ [(st.length : Int) % 256]) ++ procsB st)) := hide (by simp [Nt.enc, setBy, procsB])
  generalize Nt.enc ⟨1, n, i, rd, cd, SA, sc, st, ⟨r, vn, vi, MA, mc, ms, UA, uc, us⟩⟩ = en at HEQ ⊢
  haveI : Src w SA st.length 2 (pcs st) := ⟨h1⟩
  haveI : Src w MA ms.length 2 (pcs ms) := ⟨v1⟩
  haveI : Src w UA us.length 1 (ucs us) := ⟨v2⟩
  have HP0 := hide (PB.one w (csN 1 n i rd cd SA st.length sc r vn vi MA ms.length mc UA us.length uc) 32 1)
  have TB1 := hide (fun A c W (h : Sl W A [(n, i)]) => refBytes_s A c [(n, i)] W h (by simp) (by intro p hp; simp at hp; rw [hp]; exact f1))
  have l1 : (procsB [(n, i)]).length ≤ 11 := procsB_len _
  simp only [List.length_singleton] at TB1
  generalize procsB [(n, i)] = e1 at TB1 l1 HEQ
  have Te5 := hide (fun W => refUint_s rd W f2)
  have l5 := uintB_len rd
  generalize uintB rd = e5 at Te5 l5 HEQ
  have Te6 := hide (fun W => refUint_s cd W f3)
  have l6 := uintB_len cd
  generalize uintB cd = e6 at Te6 l6 HEQ
  have TS := hide (fun W (h : Sl W SA st) => refBytes_s SA sc st W h (by omega) f4)
  have l3 : (procsB st).length ≤ 3300 := by have := procsB_len st; omega
  generalize procsB st = e3 at TS l3 HEQ
  clear h1 h2 v1 v2 v3 v4 f1 f2 f3 f4 g1 g2 g3 g4
  go_enter Tryz.func11, Tryz.ntmps11
  go_wp2_with fail
  (with_reducible refine (TB1.out _ _ _ (sl_p1x _ _ _ _)).mono ?_)
  rintro e wB0 ⟨vB, rfl, hoB, hbB⟩
  haveI : Stp _ wB0 := ⟨hbB⟩
  obtain ⟨AB, cB, rfl, _, _⟩ := own_slice hoB
  have HOB := hide hoB
  clear hoB hbB
  go_wp2_with ((at_builtin; refine wpList_append_w Tryz.okB rfl (.tmp 16) (.tmp 20) rfl (w.heap.size + 1) (.slice (some ⟨w.heap.size + 1, 0, none⟩) 1 1) 1 (bcs [1]) e1.length (bcs e1) ?_ ?_ ?_ ?_ ?_ ?_ ?_ ?_; go_must ((focus (first | rfl | (simp [Act.eval, Act.put]; done))); (focus (exact own_tc HP0.out.oa)); (focus (refine ⟨_, _, rfl, ?_⟩; exact Reads.of_own HOB.out)); (focus (exact bcs_one _)); (focus (unfold maxLen; omega)); (focus omega); (focus (first | exact BoxAt.lt (n := w.heap.size) inferInstance | omega | (simp; done) | (simp; omega))); intro v4 w4 ho4 hg4; have P4 := (HP0.out.tc).app (bs := [1]) ho4 hg4; generalize hG4 : [1] ++ e1 = b4 at P4; have HG4 := hide hG4; have lb4 : b4.length ≤ 12 := (by rw [← hG4, List.length_append, List.length_singleton]; omega); have HP4 := hide P4; haveI := P4.k; haveI := P4.blw; obtain ⟨A4, c4, e4', _, _⟩ := own_slice P4.oa; subst e4'; clear ho4 hg4 P4 hG4)))
  clear HP0 HOB
  (with_reducible refine (Te5.out _).mono ?_)
  rintro e wB2 ⟨vB, rfl, hoB, hbB⟩
  haveI : Stp _ wB2 := ⟨hbB⟩
  obtain ⟨AB, cB, rfl, _, _⟩ := own_slice hoB
  have HOB := hide hoB
  clear hoB hbB
  go_wp2_with ((at_builtin; refine wpList_append_w Tryz.okB rfl (.tmp 30) (.tmp 33) rfl (w.heap.size + 1) (.slice A4 b4.length c4) b4.length (bcs b4) e5.length (bcs e5) ?_ ?_ ?_ ?_ ?_ ?_ ?_ ?_; go_must ((focus (first | rfl | (simp [Act.eval, Act.put]; done))); (focus (exact (HP4.out.tc).oa)); (focus (refine ⟨_, _, rfl, ?_⟩; exact Reads.of_own HOB.out)); (focus (exact bcs_one _)); (focus (unfold maxLen; omega)); (focus omega); (focus (first | exact (HP4.out.tc).sz | exact BoxAt.lt (n := w.heap.size) inferInstance | omega | (simp; done) | (simp; omega))); intro v5 w5 ho5 hg5; have P5 := HP4.out.tc.app ho5 hg5; generalize hG5 : b4 ++ e5 = b5 at P5; have HG5 := hide hG5; have lb5 : b5.length ≤ 22 := (by rw [← hG5, List.length_append]; omega); have HP5 := hide P5; haveI := P5.k; haveI := P5.blw; obtain ⟨A5, c5, e5', _, _⟩ := own_slice P5.oa; subst e5'; clear ho5 hg5 P5 hG5)))
  clear HP4 HOB
  (with_reducible refine (Te6.out _).mono ?_)
  rintro e wB3 ⟨vB, rfl, hoB, hbB⟩
  haveI : Stp _ wB3 := ⟨hbB⟩
  obtain ⟨AB, cB, rfl, _, _⟩ := own_slice hoB
  have HOB := hide hoB
  clear hoB hbB
  go_wp2_with ((at_builtin; refine wpList_append_w Tryz.okB rfl (.tmp 38) (.tmp 41) rfl (w.heap.size + 1) (.slice A5 b5.length c5) b5.length (bcs b5) e6.length (bcs e6) ?_ ?_ ?_ ?_ ?_ ?_ ?_ ?_; go_must ((focus (first | rfl | (simp [Act.eval, Act.put]; done))); (focus (exact (HP5.out.tc).oa)); (focus (refine ⟨_, _, rfl, ?_⟩; exact Reads.of_own HOB.out)); (focus (exact bcs_one _)); (focus (unfold maxLen; omega)); (focus omega); (focus (first | exact (HP5.out.tc).sz | exact BoxAt.lt (n := w.heap.size) inferInstance | omega | (simp; done) | (simp; omega))); intro v6 w6 ho6 hg6; have P6 := HP5.out.tc.app ho6 hg6; generalize hG6 : b5 ++ e6 = b6 at P6; have HG6 := hide hG6; have lb6 : b6.length ≤ 32 := (by rw [← hG6, List.length_append]; omega); have HP6 := hide P6; haveI := P6.k; haveI := P6.blw; obtain ⟨A6, c6, e6', _, _⟩ := own_slice P6.oa; subst e6'; clear ho6 hg6 P6 hG6)))
  clear HP5 HOB
  go_region_held3 (fun w' => w'.cell? ⟨w.heap.size, 5, none⟩ = some (.slice SA st.length sc)) ((rw [cell?_box]; rfl))
    (first
      | (go_at_call 40; (with_reducible refine (TS.out _ sl_tc).mono ?_); rintro e wB ⟨vB, rfl, hoB, hbB⟩; haveI : Stp _ wB := ⟨hbB⟩; obtain ⟨AB, cB, rfl, _, _⟩ := own_slice hoB; have HOB := hide hoB)
      | (refine step_append_w Tryz.okB rfl (.tmp 46) (.tmp 51) rfl (w.heap.size + 1) (.slice A6 b6.length c6) b6.length (bcs b6) 1 (bcs [(st.length : Int) % 256]) ?_ ?_ ?_ ?_ ?_ ?_ ?_ ?_; go_must ((focus (first | rfl | (simp [Act.eval, Act.put]; done))); (focus (exact (HP6.out.tc).oa)); (focus (refine ⟨_, _, by first | rfl | (simp [Act.eval, Act.put]; done), ?_⟩; exact reads_b1x _ _ _)); (focus (exact bcs_one _)); (focus (unfold maxLen; omega)); (focus omega); (focus (first | exact (HP6.out.tc).sz | exact BoxAt.lt (n := w.heap.size) inferInstance | omega | (simp; done) | (simp; omega))); intro v7 w7 ho7 hg7; have P7 := HP6.out.tc.app ho7 hg7; generalize hG7 : b6 ++ [(st.length : Int) % 256] = b7 at P7; have HG7 := hide hG7; have lb7 : b7.length ≤ 33 := (by rw [← hG7, List.length_append]; (try simp only [List.length_singleton]); omega); have HP7 := hide P7; haveI := P7.k; haveI := P7.blw; obtain ⟨A7, c7, e7', _, _⟩ := own_slice P7.oa; subst e7'; clear ho7 hg7 P7 hG7))
      | (refine step_append_w Tryz.okB rfl (.tmp 52) (.tmp 55) rfl (w.heap.size + 1) (.slice A7 b7.length c7) b7.length (bcs b7) e3.length (bcs e3) ?_ ?_ ?_ ?_ ?_ ?_ ?_ ?_; go_must ((focus (first | rfl | (simp [Act.eval, Act.put]; done))); (focus (exact (HP7.out.tc).oa)); (focus (refine ⟨_, _, by first | rfl | (simp [Act.eval, Act.put]; done), ?_⟩; exact Reads.of_own HOB.out)); (focus (exact bcs_one _)); (focus (unfold maxLen; omega)); (focus omega); (focus (first | exact (HP7.out.tc).sz | exact BoxAt.lt (n := w.heap.size) inferInstance | omega | (simp; done) | (simp; omega))); intro v8 w8 ho8 hg8; have P8 := HP7.out.tc.app ho8 hg8; generalize hG8 : b7 ++ e3 = b8 at P8; have HG8 := hide hG8; have lb8 : b8.length ≤ 3333 := (by rw [← hG8, List.length_append]; omega); have HP8 := hide P8; haveI := P8.k; haveI := P8.blw; obtain ⟨A8, c8, e8', _, _⟩ := own_slice P8.oa; subst e8'; clear ho8 hg8 P8 hG8))
      | fail)
  clear HOB HP6 HP7
  go_wp2
  go_ret
  exact ⟨_, rfl, by rw [HEQ.out, HG4.out, HG5.out, HG6.out, HG7.out, HG8.out]; exact HP8.out.ret, HP8.out.hB⟩
set_option maxRecDepth 100000 in
set_option maxHeartbeats 4000000 in
theorem refNBytes_3 (w : World) (h : Nt.Ok w ⟨3, n, i, rd, cd, SA, sc, st, ⟨r, vn, vi, MA, mc, ms, UA, uc, us⟩⟩) (hf : NtF ⟨3, n, i, rd, cd, SA, sc, st, ⟨r, vn, vi, MA, mc, ms, UA, uc, us⟩⟩) (hsl : st.length ≤ 300) (hml : ms.length ≤ 300) (hul : us.length ≤ 300) :
    Calls Tryz.prog 11 #[NtV 3 n i rd cd SA st.length sc r vn vi MA ms.length mc UA us.length uc] w (RetY w (Nt.enc ⟨3, n, i, rd, cd, SA, sc, st, ⟨r, vn, vi, MA, mc, ms, UA, uc, us⟩⟩)) := by
  obtain ⟨h1, h2, hv⟩ := h
  obtain ⟨f1, f2, f3, f4, ⟨g1, g2, g3, g4⟩⟩ := hf
  simp only at h1 h2 hv f1 f2 f3 f4 g1 g2 g3 g4
  obtain ⟨v1, v2, v3, v4⟩ := hv
  simp only at v1 v2 v3 v4
  have HEQ : Hid (Nt.enc ⟨3, n, i, rd, cd, SA, sc, st, ⟨r, vn, vi, MA, mc, ms, UA, uc, us⟩⟩ = ((((([3] ++ procsB [(n, i)]) ++ uintB rd) ++ uintB cd) ++ [(st.length : Int) % 256]) ++ procsB st)) := hide (by simp [Nt.enc, setBy, procsB])
  generalize Nt.enc ⟨3, n, i, rd, cd, SA, sc, st, ⟨r, vn, vi, MA, mc, ms, UA, uc, us⟩⟩ = en at HEQ ⊢
  haveI : Src w SA st.length 2 (pcs st) := ⟨h1⟩
  haveI : Src w MA ms.length 2 (pcs ms) := ⟨v1⟩
  haveI : Src w UA us.length 1 (ucs us) := ⟨v2⟩
  have HP0 := hide (PB.one w (csN 3 n i rd cd SA st.length sc r vn vi MA ms.length mc UA us.length uc) 32 3)
  have TB1 := hide (fun A c W (h : Sl W A [(n, i)]) => refBytes_s A c [(n, i)] W h (by simp) (by intro p hp; simp at hp; rw [hp]; exact f1))
  have l1 : (procsB [(n, i)]).length ≤ 11 := procsB_len _
  simp only [List.length_singleton] at TB1
  generalize procsB [(n, i)] = e1 at TB1 l1 HEQ
  have Te5 := hide (fun W => refUint_s rd W f2)
  have l5 := uintB_len rd
  generalize uintB rd = e5 at Te5 l5 HEQ
  have Te6 := hide (fun W => refUint_s cd W f3)
  have l6 := uintB_len cd
  generalize uintB cd = e6 at Te6 l6 HEQ
  have TS := hide (fun W (h : Sl W SA st) => refBytes_s SA sc st W h (by omega) f4)
  have l3 : (procsB st).length ≤ 3300 := by have := procsB_len st; omega
  generalize procsB st = e3 at TS l3 HEQ
  clear h1 h2 v1 v2 v3 v4 f1 f2 f3 f4 g1 g2 g3 g4
  go_enter Tryz.func11, Tryz.ntmps11
  go_wp2_with fail
  (with_reducible refine (TB1.out _ _ _ (sl_p1x _ _ _ _)).mono ?_)
  rintro e wB0 ⟨vB, rfl, hoB, hbB⟩
  haveI : Stp _ wB0 := ⟨hbB⟩
  obtain ⟨AB, cB, rfl, _, _⟩ := own_slice hoB
  have HOB := hide hoB
  clear hoB hbB
  go_wp2_with ((at_builtin; refine wpList_append_w Tryz.okB rfl (.tmp 16) (.tmp 20) rfl (w.heap.size + 1) (.slice (some ⟨w.heap.size + 1, 0, none⟩) 1 1) 1 (bcs [3]) e1.length (bcs e1) ?_ ?_ ?_ ?_ ?_ ?_ ?_ ?_; go_must ((focus (first | rfl | (simp [Act.eval, Act.put]; done))); (focus (exact own_tc HP0.out.oa)); (focus (refine ⟨_, _, rfl, ?_⟩; exact Reads.of_own HOB.out)); (focus (exact bcs_one _)); (focus (unfold maxLen; omega)); (focus omega); (focus (first | exact BoxAt.lt (n := w.heap.size) inferInstance | omega | (simp; done) | (simp; omega))); intro v4 w4 ho4 hg4; have P4 := (HP0.out.tc).app (bs := [3]) ho4 hg4; generalize hG4 : [3] ++ e1 = b4 at P4; have HG4 := hide hG4; have lb4 : b4.length ≤ 12 := (by rw [← hG4, List.length_append, List.length_singleton]; omega); have HP4 := hide P4; haveI := P4.k; haveI := P4.blw; obtain ⟨A4, c4, e4', _, _⟩ := own_slice P4.oa; subst e4'; clear ho4 hg4 P4 hG4)))
  clear HP0 HOB
  (with_reducible refine (Te5.out _).mono ?_)
  rintro e wB2 ⟨vB, rfl, hoB, hbB⟩
  haveI : Stp _ wB2 := ⟨hbB⟩
  obtain ⟨AB, cB, rfl, _, _⟩ := own_slice hoB
  have HOB := hide hoB
  clear hoB hbB
  go_wp2_with ((at_builtin; refine wpList_append_w Tryz.okB rfl (.tmp 30) (.tmp 33) rfl (w.heap.size + 1) (.slice A4 b4.length c4) b4.length (bcs b4) e5.length (bcs e5) ?_ ?_ ?_ ?_ ?_ ?_ ?_ ?_; go_must ((focus (first | rfl | (simp [Act.eval, Act.put]; done))); (focus (exact (HP4.out.tc).oa)); (focus (refine ⟨_, _, rfl, ?_⟩; exact Reads.of_own HOB.out)); (focus (exact bcs_one _)); (focus (unfold maxLen; omega)); (focus omega); (focus (first | exact (HP4.out.tc).sz | exact BoxAt.lt (n := w.heap.size) inferInstance | omega | (simp; done) | (simp; omega))); intro v5 w5 ho5 hg5; have P5 := HP4.out.tc.app ho5 hg5; generalize hG5 : b4 ++ e5 = b5 at P5; have HG5 := hide hG5; have lb5 : b5.length ≤ 22 := (by rw [← hG5, List.length_append]; omega); have HP5 := hide P5; haveI := P5.k; haveI := P5.blw; obtain ⟨A5, c5, e5', _, _⟩ := own_slice P5.oa; subst e5'; clear ho5 hg5 P5 hG5)))
  clear HP4 HOB
  (with_reducible refine (Te6.out _).mono ?_)
  rintro e wB3 ⟨vB, rfl, hoB, hbB⟩
  haveI : Stp _ wB3 := ⟨hbB⟩
  obtain ⟨AB, cB, rfl, _, _⟩ := own_slice hoB
  have HOB := hide hoB
  clear hoB hbB
  go_wp2_with ((at_builtin; refine wpList_append_w Tryz.okB rfl (.tmp 38) (.tmp 41) rfl (w.heap.size + 1) (.slice A5 b5.length c5) b5.length (bcs b5) e6.length (bcs e6) ?_ ?_ ?_ ?_ ?_ ?_ ?_ ?_; go_must ((focus (first | rfl | (simp [Act.eval, Act.put]; done))); (focus (exact (HP5.out.tc).oa)); (focus (refine ⟨_, _, rfl, ?_⟩; exact Reads.of_own HOB.out)); (focus (exact bcs_one _)); (focus (unfold maxLen; omega)); (focus omega); (focus (first | exact (HP5.out.tc).sz | exact BoxAt.lt (n := w.heap.size) inferInstance | omega | (simp; done) | (simp; omega))); intro v6 w6 ho6 hg6; have P6 := HP5.out.tc.app ho6 hg6; generalize hG6 : b5 ++ e6 = b6 at P6; have HG6 := hide hG6; have lb6 : b6.length ≤ 32 := (by rw [← hG6, List.length_append]; omega); have HP6 := hide P6; haveI := P6.k; haveI := P6.blw; obtain ⟨A6, c6, e6', _, _⟩ := own_slice P6.oa; subst e6'; clear ho6 hg6 P6 hG6)))
  clear HP5 HOB
  go_region_held3 (fun w' => w'.cell? ⟨w.heap.size, 5, none⟩ = some (.slice SA st.length sc)) ((rw [cell?_box]; rfl))
    (first
      | (go_at_call 40; (with_reducible refine (TS.out _ sl_tc).mono ?_); rintro e wB ⟨vB, rfl, hoB, hbB⟩; haveI : Stp _ wB := ⟨hbB⟩; obtain ⟨AB, cB, rfl, _, _⟩ := own_slice hoB; have HOB := hide hoB)
      | (refine step_append_w Tryz.okB rfl (.tmp 46) (.tmp 51) rfl (w.heap.size + 1) (.slice A6 b6.length c6) b6.length (bcs b6) 1 (bcs [(st.length : Int) % 256]) ?_ ?_ ?_ ?_ ?_ ?_ ?_ ?_; go_must ((focus (first | rfl | (simp [Act.eval, Act.put]; done))); (focus (exact (HP6.out.tc).oa)); (focus (refine ⟨_, _, by first | rfl | (simp [Act.eval, Act.put]; done), ?_⟩; exact reads_b1x _ _ _)); (focus (exact bcs_one _)); (focus (unfold maxLen; omega)); (focus omega); (focus (first | exact (HP6.out.tc).sz | exact BoxAt.lt (n := w.heap.size) inferInstance | omega | (simp; done) | (simp; omega))); intro v7 w7 ho7 hg7; have P7 := HP6.out.tc.app ho7 hg7; generalize hG7 : b6 ++ [(st.length : Int) % 256] = b7 at P7; have HG7 := hide hG7; have lb7 : b7.length ≤ 33 := (by rw [← hG7, List.length_append]; (try simp only [List.length_singleton]); omega); have HP7 := hide P7; haveI := P7.k; haveI := P7.blw; obtain ⟨A7, c7, e7', _, _⟩ := own_slice P7.oa; subst e7'; clear ho7 hg7 P7 hG7))
      | (refine step_append_w Tryz.okB rfl (.tmp 52) (.tmp 55) rfl (w.heap.size + 1) (.slice A7 b7.length c7) b7.length (bcs b7) e3.length (bcs e3) ?_ ?_ ?_ ?_ ?_ ?_ ?_ ?_; go_must ((focus (first | rfl | (simp [Act.eval, Act.put]; done))); (focus (exact (HP7.out.tc).oa)); (focus (refine ⟨_, _, by first | rfl | (simp [Act.eval, Act.put]; done), ?_⟩; exact Reads.of_own HOB.out)); (focus (exact bcs_one _)); (focus (unfold maxLen; omega)); (focus omega); (focus (first | exact (HP7.out.tc).sz | exact BoxAt.lt (n := w.heap.size) inferInstance | omega | (simp; done) | (simp; omega))); intro v8 w8 ho8 hg8; have P8 := HP7.out.tc.app ho8 hg8; generalize hG8 : b7 ++ e3 = b8 at P8; have HG8 := hide hG8; have lb8 : b8.length ≤ 3333 := (by rw [← hG8, List.length_append]; omega); have HP8 := hide P8; haveI := P8.k; haveI := P8.blw; obtain ⟨A8, c8, e8', _, _⟩ := own_slice P8.oa; subst e8'; clear ho8 hg8 P8 hG8))
      | fail)
  clear HOB HP6 HP7
  go_wp2
  go_ret
  exact ⟨_, rfl, by rw [HEQ.out, HG4.out, HG5.out, HG6.out, HG7.out, HG8.out]; exact HP8.out.ret, HP8.out.hB⟩
end
theorem refNBytes_s (x : Nt) (w : World) (h : x.Ok w) (hf : NtF x) (hm : x.mayB = true) (hsl : x.st.length ≤ 300) (hml : x.vw.ms.length ≤ 300) (hul : x.vw.us.length ≤ 300) : Calls Tryz.prog 11 #[x.v] w (RetY w x.enc) := by
  obtain ⟨k, n, i, rd, cd, SA, sc, st, ⟨r, vn, vi, MA, mc, ms, UA, uc, us⟩⟩ := x
  by_cases h5 : k = 5
  · subst h5; exact refNBytes_5 n i rd cd SA sc st r vn vi MA mc ms UA uc us w h hf hsl hml hul
  by_cases h1 : k = 1
  · subst h1; exact refNBytes_1 n i rd cd SA sc st r vn vi MA mc ms UA uc us w h hf hsl hml hul
  by_cases h3 : k = 3
  · subst h3; exact refNBytes_3 n i rd cd SA sc st r vn vi MA mc ms UA uc us w h hf hsl hml hul
  by_cases h2 : k = 2
  · subst h2; exact refNBytes_2 n i rd cd SA sc st r vn vi MA mc ms UA uc us w h hf hsl hml hul
  by_cases h4 : k = 4
  · subst h4; exact refNBytes_4 n i rd cd SA sc st r vn vi MA mc ms UA uc us w h hf hsl hml hul
  · exfalso
    simp [Nt.mayB, h5, h1, h3, h2, h4] at hm
end Go.Proofs.YtdmjopokclljlaaGreat
