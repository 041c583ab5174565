/-
  The reference's writers: contract: Bytes of layer 4.
-/
import Derived.Test.YtdmjopokclljlaaGreatTc2
import Derived.Test.YtdmjopokclljlaaGreatRb4
namespace Go.Proofs.YtdmjopokclljlaaGreat
set_option linter.unusedSimpArgs false
set_option linter.unusedVariables false
set_option linter.unusedSectionVars false
open Go.RowKit

set_option maxRecDepth 100000 in
set_option maxHeartbeats 4000000 in
theorem refVBytes_s (x : Vw) (w : World) (h : x.Ok w) (hr : wfU64 x.r) (hi : wfU64 x.i) (hms : ∀ p ∈ x.ms, wfU64 p.2) (hus : ∀ u ∈ x.us, wfU64 u) (hml : x.ms.length ≤ 300) (hul : x.us.length ≤ 300) : Calls Tryz.prog 39 #[x.v] w (RetY w (viewB x.r x.n x.i x.ms x.us)) := by
  obtain ⟨r, n, i, MA, mc, ms, UA, uc, us⟩ := x
  obtain ⟨h1, h2, h3, h4⟩ := h
  simp only at h1 h2 h3 h4 hr hi hms hus hml hul
  have TI := hide (fun W => idBytes_s r n i W hr hi)
  have TM := hide (fun W (h : Sl W MA ms) => refBytes_s MA mc ms W h (by omega) hms)
  have TU := hide (fun x W (h : wfU64 x) => refUint_s x W h)
  have HEQ : Hid (viewB r n i ms us = ((vidB r n i ++ [(ms.length : Int) % 256]) ++ procsB ms) ++ uintsB us) := hide (by simp [viewB])
  have HMD : Hid (IntKind.u8.wrap ((ms.length : Int).tmod 256) = (ms.length : Int) % 256) := hide (by show ((ms.length : Int).tmod 256) % 256 = _; rw [Int.tmod_eq_emod_of_nonneg (by omega)]; omega)
  have l1 := vidB_len r n i
  have l3 : (procsB ms).length ≤ 3300 := by have := procsB_len ms; omega
  have HF5 := hide hus
  unfold Vw.v
  simp only
  generalize viewB r n i ms us = en at HEQ ⊢
  generalize vidB r n i = e0 at TI l1 HEQ
  generalize procsB ms = e3 at TM l3 HEQ
  haveI : Src w MA ms.length 2 (pcs ms) := ⟨h1⟩
  haveI : Src w UA us.length 1 (ucs us) := ⟨h2⟩
  clear h1 h2 hr hi hms hus
  go_enter Tryz.func39, Tryz.ntmps39
  go_wp2_with fail
  go_region_held3 (fun w' => w'.cell? ⟨w.heap.size, 0, none⟩ = some (.int .u64 r) ∧ w'.cell? ⟨w.heap.size, 1, none⟩ = some (.int .i64 n) ∧ w'.cell? ⟨w.heap.size, 2, none⟩ = some (.int .u64 i) ∧ w'.cell? ⟨w.heap.size, 3, none⟩ = some (.slice MA ms.length mc)) ((refine ⟨?_, ?_, ?_, ?_⟩ <;> (rw [cell?_box]; rfl)))
    (first
      | (go_at_call 78; (with_reducible refine (TI.out _).mono ?_); rintro e wI ⟨vI, rfl, hoI, hbI⟩; haveI : Stp _ wI := ⟨hbI⟩; obtain ⟨AI, cI, rfl, _, _⟩ := own_slice hoI; have OI := hide (own_base hoI (BoxAt.lt (n := w.heap.size) inferInstance)))
      | (refine step_append_w Tryz.okB rfl (.tmp 7) (.tmp 13) rfl (w.heap.size + 1) (.slice AI e0.length cI) e0.length (bcs e0) 1 (bcs [(ms.length : Int) % 256]) ?_ ?_ ?_ ?_ ?_ ?_ ?_ ?_; go_must ((focus (first | rfl | (simp [Act.eval, Act.put]; done))); (focus (exact own_tc OI.out)); (focus (refine ⟨_, _, by first | rfl | (simp [Act.eval, Act.put]; done), ?_⟩; exact reads_b1e _ _ _ _ HMD.out)); (focus (exact bcs_one _)); (focus (unfold maxLen; omega)); (focus omega); (focus (first | exact BoxAt.lt (n := w.heap.size) inferInstance | omega | (simp; done) | (simp; omega))); intro v4 w4 ho4 hg4; have P4 := PB.app (w := w) (cs := #[.int .u64 r, .int .i64 n, .int .u64 i, .slice MA ms.length mc, .slice UA us.length uc]) (t := 30) ⟨inferInstance, own_tc OI.out, Blw.h⟩ ho4 hg4; generalize hG4 : e0 ++ [(ms.length : Int) % 256] = b4 at P4; have HG4 := hide hG4; have lb4 : b4.length ≤ 22 := (by rw [← hG4, List.length_append, List.length_singleton]; omega); have HP4 := hide P4; haveI := P4.k; haveI := P4.blw; obtain ⟨A4, c4, e4', _, _⟩ := own_slice P4.oa; subst e4'; clear ho4 hg4 P4 hG4 OI hoI))
      | fail)
  all_goals
    go_wp2_with fail
    (with_reducible refine (TM.out _ sl_tc).mono ?_)
    rintro e wB5 ⟨vB, rfl, hoB, hbB⟩
    haveI : Stp _ wB5 := ⟨hbB⟩
    obtain ⟨AB, cB, rfl, _, _⟩ := own_slice hoB
    have HOB := hide hoB
    clear hoB hbB
    go_wp2_with ((at_builtin; refine wpList_append_w Tryz.okB rfl (.tmp 15) (.tmp 18) rfl (w.heap.size + 1) (.slice A4 b4.length c4) b4.length (bcs b4) e3.length (bcs e3) ?_ ?_ ?_ ?_ ?_ ?_ ?_ ?_; go_must ((focus (first | rfl | (simp [Act.eval, Act.put]; done))); (focus (exact (HP4.out.tc).oa)); (focus (refine ⟨_, _, rfl, ?_⟩; exact Reads.of_own HOB.out)); (focus (exact bcs_one _)); (focus (unfold maxLen; omega)); (focus omega); (focus (first | exact (HP4.out.tc).sz | exact BoxAt.lt (n := w.heap.size) inferInstance | omega | (simp; done) | (simp; omega))); intro v6 w6 ho6 hg6; have P6 := HP4.out.tc.app ho6 hg6; generalize hG6 : b4 ++ e3 = b6 at P6; have HG6 := hide hG6; have lb6 : b6.length ≤ 3322 := (by rw [← hG6, List.length_append]; omega); have HP6 := hide P6; haveI := P6.k; haveI := P6.blw; obtain ⟨A6, c6, e6', _, _⟩ := own_slice P6.oa; subst e6'; clear ho6 hg6 P6 hG6)))
    clear HP4 HOB
    go_wp2
    go_loopw [3, 4] (fun v j wr => ∃ (k : Nat) (bs : List Int), k ≤ us.length ∧ j = .int .i64 k ∧ PB w #[.int .u64 r, .int .i64 n, .int .u64 i, .slice MA ms.length mc, .slice UA us.length uc] 30 v bs wr ∧ bs = b6 ++ uintsB (us.take k)) (fun _ j _ => us.length - (intOf j).toNat)
    case atStart => exact ⟨0, b6, Nat.zero_le _, rfl, HP6.out, by simp [uintsB]⟩
    case round =>
      obtain ⟨k, bs, hk, rfl, V, hbs⟩ := hrel
      obtain ⟨A, c, rfl, _, _⟩ := own_slice V.oa
      have hbl : bs.length ≤ 6622 := by
        have h2 := uintsB_len (us.take k)
        rw [List.length_take] at h2
        rw [hbs, List.length_append]; omega
      have HBS := hide hbs
      have HPr := hide V
      haveI := V.k
      haveI := V.blw
      clear hbs
      by_cases hlt : k < us.length
      · obtain ⟨b, off, u, hA, hb, hp, g1⟩ := (srcB (w := w) (W := wr) (A := UA) (n := us.length)).atU hlt
        subst hA
        have T := hide (fun W => refUint_s u W (HF5.out u (List.mem_of_getElem? hp)))
        have hul2 := uintB_len u
        have HPk := hide hp
        haveI : InW b wr := ⟨Nat.lt_of_lt_of_le hb V.blw.size⟩
        have i1 : (k : Int) < (us.length : Int) := by omega
        generalize hu : uintB u = e5 at T hul2
        have HU5 := hide hu
        clear V hp hu
        go_wp2_with fail
        (with_reducible refine (T.out _).mono ?_)
        rintro e wB7 ⟨vB, rfl, hoB, hbB⟩
        haveI : Stp _ wB7 := ⟨hbB⟩
        obtain ⟨AB, cB, rfl, _, _⟩ := own_slice hoB
        have HOB := hide hoB
        clear hoB hbB
        go_wp2_with ((at_builtin; refine wpList_append_w Tryz.okB rfl (.tmp 27) (.tmp 33) rfl (w.heap.size + 1) (.slice A bs.length c) bs.length (bcs bs) e5.length (bcs e5) ?_ ?_ ?_ ?_ ?_ ?_ ?_ ?_; go_must ((focus (first | rfl | (simp [Act.eval, Act.put]; done))); (focus (exact (HPr.out.tc).oa)); (focus (refine ⟨_, _, rfl, ?_⟩; exact Reads.of_own HOB.out)); (focus (exact bcs_one _)); (focus (unfold maxLen; omega)); (focus omega); (focus (first | exact (HPr.out.tc).sz | exact BoxAt.lt (n := w.heap.size) inferInstance | omega | (simp; done) | (simp; omega))); intro v12 w12 ho12 hg12; have P12 := HPr.out.tc.app ho12 hg12; generalize hG12 : bs ++ e5 = b12 at P12; have HG12 := hide hG12; have lb12 : b12.length ≤ 6632 := (by rw [← hG12, List.length_append]; omega); have HP12 := hide P12; haveI := P12.k; haveI := P12.blw; obtain ⟨A12, c12, e12', _, _⟩ := own_slice P12.oa; subst e12'; clear ho12 hg12 P12 hG12)))
        go_wp2
        go_roundw
        case rel => first | exact ⟨k + 1, b12, by omega, by go_num, HP12.out, by rw [← HG12.out, HBS.out, uintsB_take HPk.out, ← HU5.out, List.append_assoc]⟩ | ((repeat apply Exists.intro); refine And.intro ?_ rfl; exact ⟨k + 1, b12, by omega, by go_num, HP12.out, by rw [← HG12.out, HBS.out, uintsB_take HPk.out, ← HU5.out, List.append_assoc]⟩)
        case measure => simp [intOf]; omega
      · obtain rfl : k = us.length := by omega
        clear V
        go_wp2
        go_ret
        exact ⟨_, rfl, by rw [HEQ.out, HG4.out, HG6.out, ← (show us.take us.length = us from List.take_length), ← HBS.out]; exact HPr.out.ret, HPr.out.hB⟩
end Go.Proofs.YtdmjopokclljlaaGreat
