/-
  Layer 6: a packet's bytes are bytes; encoded packets are their packets' alone.
-/
import Derived.Test.YtmnfiffddeodeaaPkL3
import Derived.Test.YtmnfiffddeodeaaBack
namespace Go.Proofs.Ytmnfiffddeodeaa
set_option linter.unusedSimpArgs false
set_option linter.unusedVariables false
set_option linter.unusedSectionVars false
open Go.RowKit

theorem bOK.cons {x : Int} {l : List Int} (h : 0 ≤ x ∧ x < 256) (k : bOK l) : bOK (x :: l) := fun b hb => (List.mem_cons.1 hb).elim (fun e => by rw [e]; exact h) (k b)
theorem bOK.flat {α : Type} {f : α → List Int} {l : List α} (h : ∀ x ∈ l, bOK (f x)) : bOK (l.flatMap f) := fun b hb => by
  obtain ⟨x, hx, hb⟩ := List.mem_flatMap.1 hb
  exact h x hx b hb
theorem lsB_bOK {α : Type} {f : α → List Int} {l : List α} (hl : l.length ≤ 255) (h : ∀ x ∈ l, bOK (f x)) : bOK (lsB f l) := bOK.cons (by omega) (bOK.flat h)
theorem Pk.enc_bOK {x : Pk} (hf : PkF x) (hm : x.mayB = true) : bOK x.enc := by
  obtain ⟨k, n, i, hp, hs, bs, an, ai, sq, ps⟩ := x
  obtain ⟨f1, f2, f3, f4, f5, f6⟩ := hf
  simp only at f1 f2 f3 f4 f5 f6
  rcases may_kind hm with hk | hk | hk <;> simp only at hk <;> subst hk
  · obtain ⟨_, _, _, _, _, ha⟩ := may1 hm rfl
    simp only at ha
    obtain ⟨a1, a2, a3, a4⟩ := adv_facts ha
    simp only [Pk.enc, if_true, advE]
    exact bOK.cons (by omega) ((procB_ok f2.1 f2.2).app ((uintB_ok _ f3.1 f3.2).app (lsB_bOK (by omega) (fun p hp => procB_ok (f6 p hp).1 (f6 p hp).2))))
  · obtain ⟨hsn, hb1, hb2, hd⟩ := may2 hm rfl
    obtain ⟨s1, s2, s3, s4, s5, s6, s7, s8, s9⟩ := sent_facts hsn
    simp only at s2 s3 s9 hb2
    have l0 := heads_ten s9
    have hne : (2 : Int) ≠ 1 := by decide
    simp only [Pk.enc, if_neg hne, if_true, datE, topB, txtB]
    exact bOK.cons (by omega) (((procB_ok f1.1 f1.2).app (bOK.cons (by omega) bOK.nil)).app ((lsB_bOK (by omega) (fun q hq => bOK.cons (by have := head_facts (heads_each s9 q hq); omega) ((uintB_ok _ (f4 q hq).1.1 (f4 q hq).1.2).app (uintB_ok _ (f4 q hq).2.1.1 (f4 q hq).2.1.2)))).app ((uintB_ok _ (by omega) (by omega)).app f5)))
  · obtain ⟨hsn, hlh, hb⟩ := may3 hm rfl
    obtain ⟨s1, s2, s3, s4, s5, s6, s7, s8, s9⟩ := sent_facts hsn
    simp only at s2 s3 s9
    have l0 := heads_ten s9
    have hne : (3 : Int) ≠ 1 := by decide
    have hne2 : (3 : Int) ≠ 2 := by decide
    simp only [Pk.enc, if_neg hne, if_neg hne2, ackE, topB]
    exact bOK.cons (by omega) (((procB_ok f1.1 f1.2).app (bOK.cons (by omega) bOK.nil)).app (lsB_bOK (by omega) (fun q hq => bOK.cons (by have := head_facts (heads_each s9 q hq); omega) ((uintB_ok _ (f4 q hq).1.1 (f4 q hq).1.2).app ((uintB_ok _ (f4 q hq).2.1.1 (f4 q hq).2.1.2).app (uintB_ok _ (f4 q hq).2.2.1 (f4 q hq).2.2.2))))))
/-- different packets that may be encode to different bytes -/
theorem enc_inj {x y : Pk} (hx : x.mayB = true) (fx : PkF x) (hy : y.mayB = true) (fy : PkF y) (h : x.enc = y.enc) : x = y := by
  have a := decK_back x hx fx
  have b := decK_back y hy fy
  rw [h, b] at a
  injection a with a
  exact a.symm
end Go.Proofs.Ytmnfiffddeodeaa
