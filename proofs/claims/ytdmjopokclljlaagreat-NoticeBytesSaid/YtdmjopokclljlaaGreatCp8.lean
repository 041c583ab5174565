/-
  Layer 8's reference: contract: Copy.
-/
import Derived.Test.YtdmjopokclljlaaGreatRb8
import Derived.Test.YtdmjopokclljlaaGreatCopy4o
namespace Go.Proofs.YtdmjopokclljlaaGreat
set_option linter.unusedSimpArgs false
set_option linter.unusedVariables false
set_option linter.unusedSectionVars false
open Go.RowKit

/-- a notice in new memory -/
def RetNc (w : World) (x : Nt) (e : Ending) (w' : World) : Prop := ∃ SA sc MA mc UA uc, e = .returned (x.at SA sc MA mc UA uc).v ∧ Nt.Ok w' (x.at SA sc MA mc UA uc) ∧ Below w.heap.size w w'
set_option maxRecDepth 100000 in
set_option maxHeartbeats 4000000 in
theorem refNCopy_s (x : Nt) (w : World) (h : x.Ok w) : Calls Tryz.prog 7 #[x.v] w (RetNc w x) := by
  obtain ⟨k, n, i, rd, cd, SA, sc, st, ⟨r, vn, vi, MA, mc, ms, UA, uc, us⟩⟩ := x
  obtain ⟨h1, h2, ⟨v1, v2, v3, v4⟩⟩ := h
  simp only at h1 h2 v1 v2 v3 v4
  have TV := hide (fun W (h : Vw.Ok W ⟨r, vn, vi, MA, mc, ms, UA, uc, us⟩) => copyV_o ⟨r, vn, vi, MA, mc, ms, UA, uc, us⟩ W h)
  have H2 := hide h2
  have H3 := hide v3
  have H4 := hide v4
  haveI : Src w SA st.length 2 (pcs st) := ⟨h1⟩
  haveI : Src w MA ms.length 2 (pcs ms) := ⟨v1⟩
  haveI : Src w UA us.length 1 (ucs us) := ⟨v2⟩
  unfold Nt.v RetNc
  simp only [Nt.at, Nt.v]
  unfold Vw.v RetVo at TV
  simp only [Vw.v] at TV
  clear h1 v1 v2
  go_enter Tryz.func7, Tryz.ntmps7
  go_wp2_with (at_builtin; refine wpList_append_w Tryz.okP rfl (.tmp 3) (.tmp 5) rfl (w.heap.size + 1 + 1) (.slice (some ⟨w.heap.size + 1 + 1, 0, none⟩) 0 0) 0 [] st.length (pcs st) ?_ ?_ ?_ ?_ ?_ ?_ ?_ ?_; go_must ((focus (first | rfl | (simp [Act.eval, Act.put]; done))); (focus (exact own_emptyP' _ (w.heap.size + 1 + 1) (by simp))); (focus (refine ⟨_, _, rfl, ?_⟩; exact src)); (focus (exact pc_one _)); (focus (unfold maxLen; omega)); (focus omega); (focus (first | exact BoxAt.lt (n := w.heap.size) inferInstance | omega | (simp; done) | (simp; omega))); intro v1 w1 ho1 hg1; rw [Nat.zero_add, List.nil_append] at ho1; haveI : StpB (w.heap.size + 1 + 1) _ w1 := ⟨grown_belowB hg1 (by simp) (fun k hk => by have e : w.heap.size + 1 + 1 = k := Option.some.inj hk; omega)⟩; obtain ⟨A1, c1, rfl, _, _⟩ := own_slice ho1; have O1 := hide ho1; clear ho1 hg1))
  (with_reducible refine (TV.out _ ⟨sl_tc, ul_tc, H3.out, H4.out⟩).mono ?_)
  rintro e w2 ⟨A2, c2, A3, c3, rfl, ho2, ho3, hb⟩
  haveI : Stp _ w2 := ⟨hb⟩
  have O2 := hide (own_base ho2 (BoxAt.lt (n := w.heap.size + 1) inferInstance))
  have O3 := hide (own_base ho3 (BoxAt.lt (n := w.heap.size + 1) inferInstance))
  clear ho2 ho3 hb
  go_wp2
  refine bodyPost_ret (v := NtV k n i rd cd A1 st.length c1 r vn vi A2 ms.length c2 A3 us.length c3) (by simp [results, Tryz.results7, go_sem]) rfl ?_
  exact ⟨A1, c1, A2, c2, A3, c3, rfl, ⟨Reads.of_own (own_kp O1.out), H2.out, ⟨Reads.of_own (own_kp O2.out), Reads.of_own (own_kp O3.out), H3.out, H4.out⟩⟩, blw⟩
end Go.Proofs.YtdmjopokclljlaaGreat
