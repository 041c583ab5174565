/-
  Layer 8: the law's awake; the law NoticeMay: true for every input.
-/
import Derived.Test.YtdmjopokclljlaaGreatNotP
import Derived.Test.YtdmjopokclljlaaGreatAwake4
namespace Go.Proofs.YtdmjopokclljlaaGreat
set_option linter.unusedSimpArgs false
set_option linter.unusedVariables false
set_option linter.unusedSectionVars false
open Go.RowKit

abbrev ntA : Nt := ⟨1, 5, 2, 300, 7, none, 0, [], vw0⟩
theorem ntA_may : ntA.mayB = true := by decide
theorem ntA_enc : ntA.enc = [1, 5, 2, 172, 2, 7, 0] := by decide
theorem ntA_F : NtF ntA := ⟨⟨by decide, by decide⟩, ⟨by decide, by decide⟩, ⟨by decide, by decide⟩, by simp, ⟨⟨by decide, by decide⟩, ⟨by decide, by decide⟩, by simp, by simp⟩⟩
theorem ntA_ok (w : World) : ntA.Ok w := ⟨Reads.none_, by simp, vw0_ok w⟩
theorem bOKs : bOK [1, 5, 2, 172, 2, 7, 0] := by intro b hb; simp at hb; omega
set_option maxRecDepth 100000 in
set_option maxHeartbeats 2000000 in
theorem awake8_t (w : World) : Calls Tryz.prog 6 #[] w (RetB w true) := by
  have T1 : Hid (∀ W, Calls Tryz.prog 8 #[NtV 1 5 2 300 7 none 0 0 0 0 0 none 0 0 none 0 0] W (RetE W [1, 5, 2, 172, 2, 7, 0])) := hide (fun W => by
    have := encode_s ntA W (ntA_ok W) ntA_F (by simp) ntA_may
    rw [ntA_enc] at this; exact this)
  have T2 : Hid (∀ A c W, Reads W W.heap.size 1 A 7 (bcs [1, 5, 2, 172, 2, 7, 0]) → Calls Tryz.prog 21 #[.slice A 7 c] W (RetN W ntA.bare 0)) := hide (fun A c W h => by
    have := decode_s A c [1, 5, 2, 172, 2, 7, 0] W h (by simp) bOKs
    rw [← ntA_enc, decN_back ntA ntA_may ntA_F] at this; exact this)
  have T3 : Hid (∀ W SA sc MA mc UA uc, Nt.Ok W (ntA.bare.at SA sc MA mc UA uc) → Calls Tryz.prog 22 #[NtV 1 5 2 300 7 SA 0 sc 0 0 0 MA 0 mc UA 0 uc, NtV 1 5 2 300 7 none 0 0 0 0 0 none 0 0 none 0 0] W (RetBb W true)) := hide (fun W SA sc MA mc UA uc h => by
    have := nsame_s (ntA.bare.at SA sc MA mc UA uc) ntA W h (ntA_ok W)
    rw [bare_eqB] at this; exact this)
  have T4 : Hid (∀ W, Calls Tryz.prog 23 #[NtV 1 5 2 300 7 none 0 0 0 0 0 none 0 0 none 0 0] W (RetBb W true)) := hide (fun W => by
    have := nmay_s ntA W (ntA_ok W)
    rw [ntA_may] at this; exact this)
  have p0 := boxTop w (csN 1 5 2 300 7 none 0 0 0 0 0 none 0 0 none 0 0) 32
  have hB := below_alloc w (bxN 1 5 2 300 7 none 0 0 0 0 0 none 0 0 none 0 0)
  go_enter Tryz.func6, Tryz.ntmps6
  go_wp2_with fail
  with_reducible refine (T1.out _).mono ?_
  rintro e w1 ⟨v1, rfl, ho1, hb1⟩
  obtain ⟨A1, c1, rfl, _, _⟩ := own_slice ho1
  replace p0 := p0.step hb1
  replace hB := below_step hB hb1
  have T5 := hide (T2.out A1 c1 w1 (Reads.of_own ho1))
  have HO1 := hide ho1
  simp only [List.length_cons, List.length_nil]
  clear ho1 hb1 T1 T2
  go_wp2_with fail
  with_reducible refine T5.out.mono ?_
  rintro e w2 ⟨SA, sc, MA, mc, UA, uc, rfl, ok2, hb2⟩
  simp only [Nt.v, Nt.at, Nt.bare, List.length_nil]
  replace p0 := p0.step hb2
  replace hB := below_step hB hb2
  have HO2 := hide (own_below HO1.out hb2 (Nat.le_refl _))
  have hbA := below_alloc w2 (bxN 1 5 2 300 7 SA 0 sc 0 0 0 MA 0 mc UA 0 uc)
  replace p0 := p0.step hbA
  replace hB := below_step hB hbA
  have HO3 := hide (own_below HO2.out hbA (Nat.le_refl _))
  have hcv := conv_reads (c := c1) (Reads.of_own HO3.out)
  rw [show strOfNums [1, 5, 2, 172, 2, 7, 0] = ⟨#[1, 5, 2, 172, 2, 7, 0]⟩ from rfl] at hcv
  simp only [List.length_cons, List.length_nil] at hcv
  have T6 := hide (T3.out _ SA sc MA mc UA uc (ok2.step hbA))
  haveI := p0
  clear HO1 HO2 HO3 hb2 hbA ok2 T5
  go_wp2_with fail
  with_reducible refine T6.out.mono ?_
  rintro e w3 ⟨rfl, hb3⟩
  replace p0 := p0.step hb3
  replace hB := below_step hB hb3
  haveI := p0
  clear hb3 T6 hcv
  go_wp2_with fail
  with_reducible refine (T4.out _).mono ?_
  rintro e w4 ⟨rfl, hb4⟩
  replace hB := below_step hB hb4
  clear hb4
  go_wp2
  go_ret
  exact ⟨rfl, hB⟩

end Go.Proofs.YtdmjopokclljlaaGreat
