/-
  The reference of layer 6: contract: Own.
-/
import Derived.Test.YtniogmefbjfoaaaGreatPkL
import Derived.Test.YtniogmefbjfoaaaGreatCopy4
import Derived.Test.YtniogmefbjfoaaaGreatBack
namespace Go.Proofs.YtniogmefbjfoaaaGreat
set_option linter.unusedSimpArgs false
set_option linter.unusedVariables false
set_option linter.unusedSectionVars false
open Go.RowKit

theorem own_emH (w : World) (m : Nat) (hm : w.heap.size = m) : (w.alloc (.cells #[] 93)).ownsRow m 93 4 (.slice (some ⟨m, 0, none⟩) 0 0) 0 [] := by subst hm; exact World.ownsRow_lit w #[] 0 (Nat.le_refl _) (by unfold maxLen; omega) rfl
theorem own_emB (w : World) (m : Nat) (hm : w.heap.size = m) : (w.alloc (.cells #[] 5)).ownsRow m 5 1 (.slice (some ⟨m, 0, none⟩) 0 0) 0 [] := by subst hm; exact World.ownsRow_lit w #[] 0 (Nat.le_refl _) (by unfold maxLen; omega) rfl
theorem own_emP (w : World) (m : Nat) (hm : w.heap.size = m) : (w.alloc (.cells #[] 24)).ownsRow m 24 2 (.slice (some ⟨m, 0, none⟩) 0 0) 0 [] := by subst hm; exact World.ownsRow_lit w #[] 0 (Nat.le_refl _) (by unfold maxLen; omega) rfl
instance (priority := low) Kpf.stpBk (B : Nat) (a X W : World) (B' : Nat) [s : StpB B' X W] [k : Kpf B a X] [l : LeN a.heap.size B'] : Kpf B a W := ⟨Nat.le_trans k.s s.h.size, fun i h1 h2 => (s.h.block i (Nat.lt_of_lt_of_le h2 l.h)).trans (k.h i h1 h2)⟩
/-- a packet in memory of its own -/
def RetOw (w : World) (x : Pk) (e : Ending) (w' : World) : Prop := ∃ HA hcp BA bcp PA pcp, e = .returned (x.at HA hcp BA bcp PA pcp) ∧ PkIn w' x HA BA PA ∧ Below w.heap.size w w'
set_option maxRecDepth 100000 in
set_option maxHeartbeats 4000000 in
theorem rown_s (x : Pk) (HA : Option Addr) (hcp : Nat) (BA : Option Addr) (bcp : Nat) (PA : Option Addr) (pcp : Nat) (w : World) (h : PkIn w x HA BA PA) :
    Calls Tryz.prog 24 #[x.at HA hcp BA bcp PA pcp] w (RetOw w x) := by
  obtain ⟨h1, h2, h3, h4, h5, h6⟩ := h
  obtain ⟨k, n, i, hp, hs, bs, an, ai, sq, ps⟩ := x
  simp only at h1 h2 h3 h4 h5 h6
  haveI : Src w HA hs.length 4 (hcs hs) := ⟨h1⟩
  haveI : Src w BA bs.length 1 (bcs bs) := ⟨h2⟩
  haveI : Src w PA ps.length 2 (pcs ps) := ⟨h3⟩
  unfold RetOw
  simp only [Pk.at]
  clear h1 h2 h3
  go_enter Tryz.func24, Tryz.ntmps24
  go_wp2_with (first | (at_builtin; refine wpList_append_w Tryz.okHd rfl (.tmp 3) (.tmp 5) rfl (w.heap.size + 1 + 1) (.slice (some ⟨w.heap.size + 1 + 1, 0, none⟩) 0 0) 0 [] hs.length (hcs hs) ?_ ?_ ?_ ?_ ?_ ?_ ?_ ?_; go_must ((focus (first | rfl | (simp [Act.eval, Act.put]; done))); (focus (exact own_emH _ (w.heap.size + 1 + 1) (by simp))); (focus (refine ⟨_, _, rfl, ?_⟩; exact src)); (focus (exact hc_one _)); (focus (unfold maxLen; omega)); (focus omega); (focus (first | omega | (simp; done) | (simp; omega) | exact blw.size | exact BoxAt.lt (n := w.heap.size) inferInstance)); intro v1 w1 ho1 hg1; rw [Nat.zero_add, List.nil_append] at ho1; haveI : StpB (w.heap.size + 1 + 1) _ w1 := ⟨grown_belowB hg1 (by simp) (fun k hk => by have e : w.heap.size + 1 + 1 = k := Option.some.inj hk; omega)⟩; obtain ⟨A1, c1, rfl, _, _⟩ := own_slice ho1; have O1 := hide ho1; have z1 : w.heap.size + 1 < w1.heap.size := BoxAt.lt (n := w.heap.size + 1) inferInstance; haveI : LtN (w.heap.size + 1) w1.heap.size := ⟨z1⟩; haveI : LtN w.heap.size w1.heap.size := ⟨by omega⟩; haveI : LeN w.heap.size w1.heap.size := ⟨by omega⟩; clear ho1 hg1)) | (at_builtin; refine wpList_append_w Tryz.okB rfl (.tmp 8) (.tmp 10) rfl w1.heap.size (.slice (some ⟨w1.heap.size, 0, none⟩) 0 0) 0 [] bs.length (bcs bs) ?_ ?_ ?_ ?_ ?_ ?_ ?_ ?_; go_must ((focus (first | rfl | (simp [Act.eval, Act.put]; done))); (focus (exact own_emB _ w1.heap.size (by simp [World.setCell]))); (focus (refine ⟨_, _, rfl, ?_⟩; exact src)); (focus (exact bcs_one _)); (focus (unfold maxLen; omega)); (focus omega); (focus (first | omega | (simp; done) | (simp; omega) | exact blw.size | exact BoxAt.lt (n := w.heap.size) inferInstance)); intro v2 w2 ho2 hg2; rw [Nat.zero_add, List.nil_append] at ho2; haveI : StpB w1.heap.size _ w2 := ⟨grown_belowB hg2 (by simp [World.setCell]) (fun k hk => by have e : w1.heap.size = k := Option.some.inj hk; omega)⟩; obtain ⟨A2, c2, rfl, _, _⟩ := own_slice ho2; have O2 := hide ho2; have y2 := hg2.size; have z2 : w1.heap.size ≤ w2.heap.size := (by simp [World.setCell] at y2; omega); haveI : LeN w1.heap.size w2.heap.size := ⟨z2⟩; haveI : LtN (w.heap.size + 1) w2.heap.size := ⟨by omega⟩; haveI : LtN w.heap.size w2.heap.size := ⟨by omega⟩; haveI : LeN w.heap.size w2.heap.size := ⟨by omega⟩; clear ho2 hg2 y2)) | (at_builtin; refine wpList_append_w Tryz.okP rfl (.tmp 13) (.tmp 16) rfl w2.heap.size (.slice (some ⟨w2.heap.size, 0, none⟩) 0 0) 0 [] ps.length (pcs ps) ?_ ?_ ?_ ?_ ?_ ?_ ?_ ?_; go_must ((focus (first | rfl | (simp [Act.eval, Act.put]; done))); (focus (exact own_emP _ w2.heap.size (by simp [World.setCell]))); (focus (refine ⟨_, _, rfl, ?_⟩; exact src)); (focus (exact pc_one _)); (focus (unfold maxLen; omega)); (focus omega); (focus (first | omega | (simp; done) | (simp; omega) | exact blw.size | exact BoxAt.lt (n := w.heap.size) inferInstance)); intro v3 w3 ho3 hg3; rw [Nat.zero_add, List.nil_append] at ho3; haveI : StpB w2.heap.size _ w3 := ⟨grown_belowB hg3 (by simp [World.setCell]) (fun k hk => by have e : w2.heap.size = k := Option.some.inj hk; omega)⟩; obtain ⟨A3, c3, rfl, _, _⟩ := own_slice ho3; have O3 := hide ho3; clear ho3 hg3)))
  go_wp2
  refine bodyPost_ret (v := PkV k n i hp A1 hs.length c1 A2 bs.length c2 an ai sq A3 ps.length c3) (by simp [results, Tryz.results24, go_sem]) rfl ?_
  refine ⟨A1, c1, A2, c2, A3, c3, rfl, ⟨Reads.of_own (own_kp O1.out), Reads.of_own (own_kp O2.out), Reads.of_own (own_kp O3.out), h4, h5, h6⟩, blw⟩
end Go.Proofs.YtniogmefbjfoaaaGreat

namespace Go.Proofs.YtniogmefbjfoaaaGreat
set_option linter.unusedSimpArgs false
set_option linter.unusedVariables false
set_option linter.unusedSectionVars false
open Go.RowKit

theorem bOK.cons {x : Int} {l : List Int} (h : 0 ≤ x ∧ x < 256) (k : bOK l) : bOK (x :: l) := fun b hb => (List.mem_cons.1 hb).elim (fun e => by rw [e]; exact h) (k b)
theorem bOK.flat {α : Type} {f : α → List Int} {l : List α} (h : ∀ x ∈ l, bOK (f x)) : bOK (l.flatMap f) := fun b hb => by
  obtain ⟨x, hx, hb⟩ := List.mem_flatMap.1 hb
  exact h x hx b hb
theorem lsB_bOK {α : Type} {f : α → List Int} {l : List α} (hl : l.length ≤ 255) (h : ∀ x ∈ l, bOK (f x)) : bOK (lsB f l) := bOK.cons (by omega) (bOK.flat h)
theorem Pk.enc_bOK {x : Pk} (hf : PkF x) (hm : x.mayB = true) : bOK x.enc := by
  obtain ⟨k, n, i, hp, hs, bs, an, ai, sq, ps⟩ := x
  obtain ⟨f1, f2, f3, f4, f5, f6⟩ := hf
  simp only at f1 f2 f3 f4 f5 f6
  rcases may_kind hm with hk | hk | hk <;> simp only at hk <;> subst hk
  · obtain ⟨_, _, _, _, _, ha⟩ := may1 hm rfl
    simp only at ha
    obtain ⟨a1, a2, a3, a4⟩ := adv_facts ha
    simp only [Pk.enc, if_true, advE]
    exact bOK.cons (by omega) ((procB_ok f2.1 f2.2).app ((uintB_ok _ f3.1 f3.2).app (lsB_bOK (by omega) (fun p hp => procB_ok (f6 p hp).1 (f6 p hp).2))))
  · obtain ⟨hsn, hb1, hb2, hd⟩ := may2 hm rfl
    obtain ⟨s1, s2, s3, s4, s5, s6, s7, s8, s9⟩ := sent_facts hsn
    simp only at s2 s3 s9 hb2
    have l0 := heads_ten s9
    have hne : (2 : Int) ≠ 1 := by decide
    simp only [Pk.enc, if_neg hne, if_true, datE, topB, txtB]
    exact bOK.cons (by omega) (((procB_ok f1.1 f1.2).app (bOK.cons (by omega) bOK.nil)).app ((lsB_bOK (by omega) (fun q hq => bOK.cons (by have := head_facts (heads_each s9 q hq); omega) ((uintB_ok _ (f4 q hq).1.1 (f4 q hq).1.2).app (uintB_ok _ (f4 q hq).2.1.1 (f4 q hq).2.1.2)))).app ((uintB_ok _ (by omega) (by omega)).app f5)))
  · obtain ⟨hsn, hlh, hb⟩ := may3 hm rfl
    obtain ⟨s1, s2, s3, s4, s5, s6, s7, s8, s9⟩ := sent_facts hsn
    simp only at s2 s3 s9
    have l0 := heads_ten s9
    have hne : (3 : Int) ≠ 1 := by decide
    have hne2 : (3 : Int) ≠ 2 := by decide
    simp only [Pk.enc, if_neg hne, if_neg hne2, ackE, topB]
    exact bOK.cons (by omega) (((procB_ok f1.1 f1.2).app (bOK.cons (by omega) bOK.nil)).app (lsB_bOK (by omega) (fun q hq => bOK.cons (by have := head_facts (heads_each s9 q hq); omega) ((uintB_ok _ (f4 q hq).1.1 (f4 q hq).1.2).app ((uintB_ok _ (f4 q hq).2.1.1 (f4 q hq).2.1.2).app (uintB_ok _ (f4 q hq).2.2.1 (f4 q hq).2.2.2))))))
/-- different packets that may be encode to different bytes -/
theorem enc_inj {x y : Pk} (hx : x.mayB = true) (fx : PkF x) (hy : y.mayB = true) (fy : PkF y) (h : x.enc = y.enc) : x = y := by
  have a := decK_back x hx fx
  have b := decK_back y hy fy
  rw [h, b] at a
  injection a with a
  exact a.symm
end Go.Proofs.YtniogmefbjfoaaaGreat
