/-
  The reference's writers: contract: Bytes of layer 9.
-/
import Derived.Test.YtdmjopokclljlaaGreatTc2
import Derived.Test.YtdmjopokclljlaaGreatPpP
namespace Go.Proofs.YtdmjopokclljlaaGreat
set_option linter.unusedSimpArgs false
set_option linter.unusedVariables false
set_option linter.unusedSectionVars false
open Go.RowKit

set_option maxRecDepth 100000 in
set_option maxHeartbeats 4000000 in
theorem refPBytes_s (x : Pp) (w : World) (h : x.Ok w) (hf : PpF x) (hsl : x.ss.length ≤ 300) (hcl : x.cs.length ≤ 300) (hul : x.us.length ≤ 300) : Calls Tryz.prog 18 #[x.v] w (RetY w x.enc) := by
  obtain ⟨h1, h2, h3, h4, h5, h6⟩ := h
  obtain ⟨f1, f2, f3, f4, f5⟩ := hf
  obtain ⟨n, i, rd, SA, sc, ss, CA, cc, cs, UA, uc, us⟩ := x
  simp only at h1 h2 h3 h4 h5 h6 f1 f2 f3 f4 f5 hsl hcl hul
  have TB1 := hide (fun A c W (h : Sl W A [(n, i)]) => refBytes_s A c [(n, i)] W h (by simp) (by intro p hp; simp at hp; rw [hp]; exact f1))
  have TS := hide (fun W (h : Sl W SA ss) => refBytes_s SA sc ss W h (by omega) f3)
  have TC := hide (fun W (h : Sl W CA cs) => refBytes_s CA cc cs W h (by omega) f4)
  have TR := hide (fun W => refUint_s rd W f2)
  have TU := hide (fun x W (h : wfU64 x) => refUint_s x W h)
  have HEQ : Hid (Pp.enc ⟨n, i, rd, SA, sc, ss, CA, cc, cs, UA, uc, us⟩ = (((((([6] ++ procsB [(n, i)]) ++ uintB rd) ++ [(ss.length : Int) % 256]) ++ procsB ss) ++ [(cs.length : Int) % 256]) ++ procsB cs) ++ uintsB us) := hide (by simp [Pp.enc, setBy, procsB])
  have l1 : (procsB [(n, i)]).length ≤ 11 := procsB_len _
  have l2 := uintB_len rd
  have l3 : (procsB ss).length ≤ 3300 := by have := procsB_len ss; omega
  have l4 : (procsB cs).length ≤ 3300 := by have := procsB_len cs; omega
  have HF5 := hide f5
  unfold Pp.v
  simp only
  generalize Pp.enc ⟨n, i, rd, SA, sc, ss, CA, cc, cs, UA, uc, us⟩ = en at HEQ ⊢
  simp only [List.length_singleton] at TB1
  generalize procsB [(n, i)] = e1 at TB1 l1 HEQ
  generalize uintB rd = e2 at TR l2 HEQ
  generalize procsB ss = e3 at TS l3 HEQ
  generalize procsB cs = e4 at TC l4 HEQ
  haveI : Src w SA ss.length 2 (pcs ss) := ⟨h1⟩
  haveI : Src w CA cs.length 2 (pcs cs) := ⟨h3⟩
  haveI : Src w UA us.length 1 (ucs us) := ⟨h5⟩
  have HP0 := hide (PB.one w (csP n i rd SA ss.length sc CA cs.length cc UA us.length uc) 43 6)
  clear h1 h3 h5 f1 f2 f3 f4 f5
  go_enter Tryz.func18, Tryz.ntmps18
  go_wp2_with fail
  (with_reducible refine (TB1.out _ _ _ (sl_p1x _ _ _ _)).mono ?_)
  rintro e wB0 ⟨vB, rfl, hoB, hbB⟩
  haveI : Stp _ wB0 := ⟨hbB⟩
  obtain ⟨AB, cB, rfl, _, _⟩ := own_slice hoB
  have HOB := hide hoB
  clear hoB hbB
  go_wp2_with ((at_builtin; refine wpList_append_w Tryz.okB rfl (.tmp 5) (.tmp 9) rfl (w.heap.size + 1) (.slice (some ⟨w.heap.size + 1, 0, none⟩) 1 1) 1 (bcs [6]) e1.length (bcs e1) ?_ ?_ ?_ ?_ ?_ ?_ ?_ ?_; go_must ((focus (first | rfl | (simp [Act.eval, Act.put]; done))); (focus (exact own_tc HP0.out.oa)); (focus (refine ⟨_, _, rfl, ?_⟩; exact Reads.of_own HOB.out)); (focus (exact bcs_one _)); (focus (unfold maxLen; omega)); (focus omega); (focus (first | exact BoxAt.lt (n := w.heap.size) inferInstance | omega | (simp; done) | (simp; omega))); intro v4 w4 ho4 hg4; have P4 := (HP0.out.tc).app (bs := [6]) ho4 hg4; generalize hG4 : [6] ++ e1 = b4 at P4; have HG4 := hide hG4; have lb4 : b4.length ≤ 12 := (by rw [← hG4, List.length_append, List.length_singleton]; omega); have HP4 := hide P4; haveI := P4.k; haveI := P4.blw; obtain ⟨A4, c4, e4', _, _⟩ := own_slice P4.oa; subst e4'; clear ho4 hg4 P4 hG4)))
  clear HP0 HOB
  (with_reducible refine (TR.out _).mono ?_)
  rintro e wB1 ⟨vB, rfl, hoB, hbB⟩
  haveI : Stp _ wB1 := ⟨hbB⟩
  obtain ⟨AB, cB, rfl, _, _⟩ := own_slice hoB
  have HOB := hide hoB
  clear hoB hbB
  go_wp2_with ((at_builtin; refine wpList_append_w Tryz.okB rfl (.tmp 11) (.tmp 14) rfl (w.heap.size + 1) (.slice A4 b4.length c4) b4.length (bcs b4) e2.length (bcs e2) ?_ ?_ ?_ ?_ ?_ ?_ ?_ ?_; go_must ((focus (first | rfl | (simp [Act.eval, Act.put]; done))); (focus (exact (HP4.out.tc).oa)); (focus (refine ⟨_, _, rfl, ?_⟩; exact Reads.of_own HOB.out)); (focus (exact bcs_one _)); (focus (unfold maxLen; omega)); (focus omega); (focus (first | exact (HP4.out.tc).sz | exact BoxAt.lt (n := w.heap.size) inferInstance | omega | (simp; done) | (simp; omega))); intro v6 w6 ho6 hg6; have P6 := HP4.out.tc.app ho6 hg6; generalize hG6 : b4 ++ e2 = b6 at P6; have HG6 := hide hG6; have lb6 : b6.length ≤ 22 := (by rw [← hG6, List.length_append]; omega); have HP6 := hide P6; haveI := P6.k; haveI := P6.blw; obtain ⟨A6, c6, e6', _, _⟩ := own_slice P6.oa; subst e6'; clear ho6 hg6 P6 hG6)))
  clear HP4 HOB
  go_region_held3 (fun w' => w'.cell? ⟨w.heap.size, 3, none⟩ = some (.slice SA ss.length sc)) ((rw [cell?_box]; rfl))
    (first
      | (go_at_call 40; (with_reducible refine (TS.out _ sl_tc).mono ?_); rintro e wB ⟨vB, rfl, hoB, hbB⟩; haveI : Stp _ wB := ⟨hbB⟩; obtain ⟨AB, cB, rfl, _, _⟩ := own_slice hoB; have HOB := hide hoB)
      | (refine step_append_w Tryz.okB rfl (.tmp 16) (.tmp 21) rfl (w.heap.size + 1) (.slice A6 b6.length c6) b6.length (bcs b6) 1 (bcs [(ss.length : Int) % 256]) ?_ ?_ ?_ ?_ ?_ ?_ ?_ ?_; go_must ((focus (first | rfl | (simp [Act.eval, Act.put]; done))); (focus (exact (HP6.out.tc).oa)); (focus (refine ⟨_, _, by first | rfl | (simp [Act.eval, Act.put]; done), ?_⟩; exact reads_b1x _ _ _)); (focus (exact bcs_one _)); (focus (unfold maxLen; omega)); (focus omega); (focus (first | exact (HP6.out.tc).sz | exact BoxAt.lt (n := w.heap.size) inferInstance | omega | (simp; done) | (simp; omega))); intro v7 w7 ho7 hg7; have P7 := HP6.out.tc.app ho7 hg7; generalize hG7 : b6 ++ [(ss.length : Int) % 256] = b7 at P7; have HG7 := hide hG7; have lb7 : b7.length ≤ 23 := (by rw [← hG7, List.length_append]; (try simp only [List.length_singleton]); omega); have HP7 := hide P7; haveI := P7.k; haveI := P7.blw; obtain ⟨A7, c7, e7', _, _⟩ := own_slice P7.oa; subst e7'; clear ho7 hg7 P7 hG7))
      | (refine step_append_w Tryz.okB rfl (.tmp 22) (.tmp 25) rfl (w.heap.size + 1) (.slice A7 b7.length c7) b7.length (bcs b7) e3.length (bcs e3) ?_ ?_ ?_ ?_ ?_ ?_ ?_ ?_; go_must ((focus (first | rfl | (simp [Act.eval, Act.put]; done))); (focus (exact (HP7.out.tc).oa)); (focus (refine ⟨_, _, by first | rfl | (simp [Act.eval, Act.put]; done), ?_⟩; exact Reads.of_own HOB.out)); (focus (exact bcs_one _)); (focus (unfold maxLen; omega)); (focus omega); (focus (first | exact (HP7.out.tc).sz | exact BoxAt.lt (n := w.heap.size) inferInstance | omega | (simp; done) | (simp; omega))); intro v8 w8 ho8 hg8; have P8 := HP7.out.tc.app ho8 hg8; generalize hG8 : b7 ++ e3 = b8 at P8; have HG8 := hide hG8; have lb8 : b8.length ≤ 3323 := (by rw [← hG8, List.length_append]; omega); have HP8 := hide P8; haveI := P8.k; haveI := P8.blw; obtain ⟨A8, c8, e8', _, _⟩ := own_slice P8.oa; subst e8'; clear ho8 hg8 P8 hG8))
      | fail)
  clear HOB HP6 HP7
  go_wp2_with fail
  go_region_held3 (fun w' => w'.cell? ⟨w.heap.size, 4, none⟩ = some (.slice CA cs.length cc)) ((rw [cell?_box]; rfl))
    (first
      | (go_at_call 40; (with_reducible refine (TC.out _ sl_tc).mono ?_); rintro e wB ⟨vB, rfl, hoB, hbB⟩; haveI : Stp _ wB := ⟨hbB⟩; obtain ⟨AB, cB, rfl, _, _⟩ := own_slice hoB; have HOB := hide hoB)
      | (refine step_append_w Tryz.okB rfl (.tmp 27) (.tmp 32) rfl (w.heap.size + 1) (.slice A8 b8.length c8) b8.length (bcs b8) 1 (bcs [(cs.length : Int) % 256]) ?_ ?_ ?_ ?_ ?_ ?_ ?_ ?_; go_must ((focus (first | rfl | (simp [Act.eval, Act.put]; done))); (focus (exact (HP8.out.tc).oa)); (focus (refine ⟨_, _, by first | rfl | (simp [Act.eval, Act.put]; done), ?_⟩; exact reads_b1x _ _ _)); (focus (exact bcs_one _)); (focus (unfold maxLen; omega)); (focus omega); (focus (first | exact (HP8.out.tc).sz | exact BoxAt.lt (n := w.heap.size) inferInstance | omega | (simp; done) | (simp; omega))); intro v9 w9 ho9 hg9; have P9 := HP8.out.tc.app ho9 hg9; generalize hG9 : b8 ++ [(cs.length : Int) % 256] = b9 at P9; have HG9 := hide hG9; have lb9 : b9.length ≤ 3324 := (by rw [← hG9, List.length_append]; (try simp only [List.length_singleton]); omega); have HP9 := hide P9; haveI := P9.k; haveI := P9.blw; obtain ⟨A9, c9, e9', _, _⟩ := own_slice P9.oa; subst e9'; clear ho9 hg9 P9 hG9))
      | (refine step_append_w Tryz.okB rfl (.tmp 33) (.tmp 36) rfl (w.heap.size + 1) (.slice A9 b9.length c9) b9.length (bcs b9) e4.length (bcs e4) ?_ ?_ ?_ ?_ ?_ ?_ ?_ ?_; go_must ((focus (first | rfl | (simp [Act.eval, Act.put]; done))); (focus (exact (HP9.out.tc).oa)); (focus (refine ⟨_, _, by first | rfl | (simp [Act.eval, Act.put]; done), ?_⟩; exact Reads.of_own HOB.out)); (focus (exact bcs_one _)); (focus (unfold maxLen; omega)); (focus omega); (focus (first | exact (HP9.out.tc).sz | exact BoxAt.lt (n := w.heap.size) inferInstance | omega | (simp; done) | (simp; omega))); intro v10 w10 ho10 hg10; have P10 := HP9.out.tc.app ho10 hg10; generalize hG10 : b9 ++ e4 = b10 at P10; have HG10 := hide hG10; have lb10 : b10.length ≤ 6624 := (by rw [← hG10, List.length_append]; omega); have HP10 := hide P10; haveI := P10.k; haveI := P10.blw; obtain ⟨A10, c10, e10', _, _⟩ := own_slice P10.oa; subst e10'; clear ho10 hg10 P10 hG10))
      | fail)
  clear HOB HP8 HP9
  go_wp2
  go_loopw [3, 4] (fun v j wr => ∃ (k : Nat) (bs : List Int), k ≤ us.length ∧ j = .int .i64 k ∧ PB w (csP n i rd SA ss.length sc CA cs.length cc UA us.length uc) 43 v bs wr ∧ bs = b10 ++ uintsB (us.take k)) (fun _ j _ => us.length - (intOf j).toNat)
  case atStart => exact ⟨0, b10, Nat.zero_le _, rfl, HP10.out, by simp [uintsB]⟩
  case round =>
    obtain ⟨k, bs, hk, rfl, V, hbs⟩ := hrel
    obtain ⟨A, c, rfl, _, _⟩ := own_slice V.oa
    have hbl : bs.length ≤ 9624 := by
      have h2 := uintsB_len (us.take k)
      rw [List.length_take] at h2
      rw [hbs, List.length_append]; omega
    have HBS := hide hbs
    have HPr := hide V
    haveI := V.k
    haveI := V.blw
    clear hbs
    by_cases hlt : k < us.length
    · obtain ⟨b, off, u, hA, hb, hp, g1⟩ := (srcB (w := w) (W := wr) (A := UA) (n := us.length)).atU hlt
      subst hA
      have T := hide (fun W => refUint_s u W (HF5.out u (List.mem_of_getElem? hp)))
      have hul2 := uintB_len u
      have HPk := hide hp
      haveI : InW b wr := ⟨Nat.lt_of_lt_of_le hb V.blw.size⟩
      have i1 : (k : Int) < (us.length : Int) := by omega
      generalize hu : uintB u = e5 at T hul2
      have HU5 := hide hu
      clear V hp hu
      go_wp2_with fail
      (with_reducible refine (T.out _).mono ?_)
      rintro e wB5 ⟨vB, rfl, hoB, hbB⟩
      haveI : Stp _ wB5 := ⟨hbB⟩
      obtain ⟨AB, cB, rfl, _, _⟩ := own_slice hoB
      have HOB := hide hoB
      clear hoB hbB
      go_wp2_with ((at_builtin; refine wpList_append_w Tryz.okB rfl (.tmp 45) (.tmp 51) rfl (w.heap.size + 1) (.slice A bs.length c) bs.length (bcs bs) e5.length (bcs e5) ?_ ?_ ?_ ?_ ?_ ?_ ?_ ?_; go_must ((focus (first | rfl | (simp [Act.eval, Act.put]; done))); (focus (exact (HPr.out.tc).oa)); (focus (refine ⟨_, _, rfl, ?_⟩; exact Reads.of_own HOB.out)); (focus (exact bcs_one _)); (focus (unfold maxLen; omega)); (focus omega); (focus (first | exact (HPr.out.tc).sz | exact BoxAt.lt (n := w.heap.size) inferInstance | omega | (simp; done) | (simp; omega))); intro v12 w12 ho12 hg12; have P12 := HPr.out.tc.app ho12 hg12; generalize hG12 : bs ++ e5 = b12 at P12; have HG12 := hide hG12; have lb12 : b12.length ≤ 9634 := (by rw [← hG12, List.length_append]; omega); have HP12 := hide P12; haveI := P12.k; haveI := P12.blw; obtain ⟨A12, c12, e12', _, _⟩ := own_slice P12.oa; subst e12'; clear ho12 hg12 P12 hG12)))
      go_wp2
      go_roundw
      case rel => first | exact ⟨k + 1, b12, by omega, by go_num, HP12.out, by rw [← HG12.out, HBS.out, uintsB_take HPk.out, ← HU5.out, List.append_assoc]⟩ | ((repeat apply Exists.intro); refine And.intro ?_ rfl; exact ⟨k + 1, b12, by omega, by go_num, HP12.out, by rw [← HG12.out, HBS.out, uintsB_take HPk.out, ← HU5.out, List.append_assoc]⟩)
      case measure => simp [intOf]; omega
    · obtain rfl : k = us.length := by omega
      clear V
      go_wp2
      go_ret
      exact ⟨_, rfl, by rw [HEQ.out, HG4.out, HG6.out, HG7.out, HG8.out, HG9.out, HG10.out, ← (show us.take us.length = us from List.take_length), ← HBS.out]; exact HPr.out.ret, HPr.out.hB⟩
end Go.Proofs.YtdmjopokclljlaaGreat
