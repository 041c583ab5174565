/-
  Layer 18: contract: agree.
-/
import Derived.Test.YtkglclekieckoaaGreatRu10
import Derived.Test.YtkglclekieckoaaGreatPv3
import Derived.Test.YtkglclekieckoaaGreatAgR
namespace Go.Proofs.YtkglclekieckoaaGreat
set_option linter.unusedSimpArgs false
set_option linter.unusedVariables false
set_option linter.unusedSectionVars false
open Go.RowKit

variable [Avoid]
/-- what is known where a pass begins -/
structure PaSt (w : World) (C : List Nat) (g : Nat) (a : Ag) (t : Tu) (C1 : List Nat) (a1 : Ag) (t1 : Tu) (W : World) : Prop where
  m : MK W C1 g a1 t1
  tr : Tr C C1 w W
  ok : PaOk a1 t1
  st : (a1.br = a.br ∧ t1.br = t.br) ∨ ((agree1 a.br t.br).2 = true ∧ a1.br = (agree1 a.br t.br).1.1 ∧ t1.br = (agree1 a.br t.br).1.2)
theorem PaSt.fin {w W : World} {C C1 : List Nat} {g : Nat} {a a1 : Ag} {t t1 : Tu} (h : PaSt w C g a t C1 a1 t1 W) (h2 : (agree1 a1.br t1.br).2 = false) : agreeP a.br t.br = (agree1 a1.br t1.br).1 := by
  unfold agreeP
  rcases h.st with ⟨e1, e2⟩ | ⟨e0, e1, e2⟩
  · rw [e1, e2] at h2 ⊢
    rw [h2]
    rfl
  · rw [if_pos e0, e1, e2]
theorem PaSt.jmp {w W : World} {C C1 : List Nat} {g : Nat} {a a1 : Ag} {t t1 : Tu} (h0 : PaOk a t) (h : PaSt w C g a t C1 a1 t1 W) (h2 : (agree1 a1.br t1.br).2 = true) : a1.br = a.br ∧ t1.br = t.br := by
  rcases h.st with e | ⟨e0, e1, e2⟩
  · exact e
  · have := agree1_twice h0.inv t.br e0
    rw [e1, e2] at h2
    rw [h2] at this
    cases this
/-- is it still as it was at the beginning? -/
noncomputable def muA (g : Nat) (rd : Int) (W : World) : Nat := @ite _ (W.cell? ⟨g, 2, none⟩ = some (.int .u64 rd) ∧ W.cell? ⟨g, 8, none⟩ = some (.bool false)) (Classical.propDecidable _) 1 0
set_option maxRecDepth 100000 in
theorem frame97 (T : Array Value) (p : Value) (h : T.size = 97) (h0 : T[0]? = some p) : ∃ f : Nat → Value, T = #[p, f 1, f 2, f 3, f 4, f 5, f 6, f 7, f 8, f 9, f 10, f 11, f 12, f 13, f 14, f 15, f 16, f 17, f 18, f 19, f 20, f 21, f 22, f 23, f 24, f 25, f 26, f 27, f 28, f 29, f 30, f 31, f 32, f 33, f 34, f 35, f 36, f 37, f 38, f 39, f 40, f 41, f 42, f 43, f 44, f 45, f 46, f 47, f 48, f 49, f 50, f 51, f 52, f 53, f 54, f 55, f 56, f 57, f 58, f 59, f 60, f 61, f 62, f 63, f 64, f 65, f 66, f 67, f 68, f 69, f 70, f 71, f 72, f 73, f 74, f 75, f 76, f 77, f 78, f 79, f 80, f 81, f 82, f 83, f 84, f 85, f 86, f 87, f 88, f 89, f 90, f 91, f 92, f 93, f 94, f 95, f 96] := by
  refine ⟨fun i => T.getD i undef, ?_⟩
  have key : ∀ n, T.size = n → T = (List.ofFn (n := n) (fun i => T.getD i.1 undef)).toArray := by
    intro n hn
    apply Array.ext
    · simp [hn]
    · intro i h1 h2
      simp [h1]
  have e1 := key 97 h
  have e0 : T.getD 0 undef = p := by
    rw [Array.getD_eq_getD_getElem?, h0]; rfl
  rw [← e0]
  exact e1
set_option maxRecDepth 100000 in
set_option maxHeartbeats 16000000 in
theorem agree18_s (g : Nat) (C : List Nat) (a : Ag) (t : Tu) (w : World) (h : MK w C g a t) (h0 : PaOk a t) (h1 : t.ts.length ≤ 300) :
    Calls Tryz.prog 37 #[.pointer (some ⟨g, 0, none⟩)] w (RetPr w C g (agreeP a.br t.br)) := by
  have H := hide h
  have H0 := hide h0
  have H1 := hide h1
  clear h h0 h1
  go_enter Tryz.func37, Tryz.ntmps37
  go_wp2
  obtain ⟨J, hJ⟩ : ∃ J : Act → World → Prop, ∀ a' W, J a' W ↔ (a'.defers = [] ∧ a'.tmps.size = 97 ∧ a'.tmps[0]? = some (.pointer (some ⟨g, 0, none⟩))) ∧ ∃ C1 a1 t1, PaSt w C g a t C1 a1 t1 W := ⟨_, fun _ _ => Iff.rfl⟩
  have HJ := hide hJ
  clear hJ
  refine wp_scope_again 0 J (fun _ W => muA g a.rd W) ((HJ.out _ _).2 ⟨⟨rfl, rfl, rfl⟩, C, a, t, H.out, .refl _ _, H0.out, .inl ⟨rfl, rfl⟩⟩) ?_
  intro a' wr hJw
  obtain ⟨⟨hdf, hsz, hz⟩, C1, a1, t1, hst⟩ := (HJ.out _ _).1 hJw
  obtain ⟨f, hf⟩ := frame97 _ _ hsz hz
  obtain rfl : a' = { tmps := #[.pointer (some ⟨g, 0, none⟩), f 1, f 2, f 3, f 4, f 5, f 6, f 7, f 8, f 9, f 10, f 11, f 12, f 13, f 14, f 15, f 16, f 17, f 18, f 19, f 20, f 21, f 22, f 23, f 24, f 25, f 26, f 27, f 28, f 29, f 30, f 31, f 32, f 33, f 34, f 35, f 36, f 37, f 38, f 39, f 40, f 41, f 42, f 43, f 44, f 45, f 46, f 47, f 48, f 49, f 50, f 51, f 52, f 53, f 54, f 55, f 56, f 57, f 58, f 59, f 60, f 61, f 62, f 63, f 64, f 65, f 66, f 67, f 68, f 69, f 70, f 71, f 72, f 73, f 74, f 75, f 76, f 77, f 78, f 79, f 80, f 81, f 82, f 83, f 84, f 85, f 86, f 87, f 88, f 89, f 90, f 91, f 92, f 93, f 94, f 95, f 96], defers := [] } := by
    cases a'
    simp only at hdf hf
    rw [hdf, hf]
  clear hJw hdf hsz hz hf
  have HS := hide hst
  haveI := hst.m.bx
  have hgw := hst.m.bx.lt
  haveI : LtN g wr.heap.size := ⟨hgw⟩
  clear hst
  have HSTILL : Hid (agree1 a1.br t1.br = ((a1.br, t1.br), false) → ∀ W, Below wr.heap.size wr W → RetPr w C g (agreeP a.br t.br) (.returned (.tuple #[])) W) := hide fun he W hb => by
    have hf := HS.out.fin (by rw [he])
    rw [hf, he]
    exact ⟨rfl, C1, a1, t1, HS.out.m.below hb, rfl, rfl, HS.out.tr.trans (.bel hb)⟩
  cases hd : a1.dn
  · cases hs : a1.sp
    · have TP := hide (fun W (hW : MK W C1 g a1 t1) => proposals_s g C1 a1 t1 W hW (by have := HS.out.ok.gl; omega) (by have := HS.out.ok.ss; omega))
      have HA1 := hide (show agree1 a1.br t1.br = (match propsL a1.br with
        | none => ((a1.br, t1.br), false)
        | some l => if agreeB l = false then ((a1.br, t1.br), false)
          else if strange l a1.br.td then (proposeP a1.br t1.br (upU a1.br.rd), true)
          else match viewP l with
            | none => ((doneA a1.br, t1.br), false)
            | some x => (({ doneA a1.br with vw := vwOf x }, { t1.br with md := true, vw := vwOf x, ts := t1.br.ts ++ (ownL a1.br).map fun p => comeT p (vwOf x) }), false)) by
        unfold agree1
        rw [if_neg (show ¬ (a1.br.dn || a1.br.sp) = true by show ¬ (a1.dn || a1.sp) = true; rw [hd, hs]; simp)]
        rfl)
      cases hpr : propsL a1 with
      | none =>
        have he : agree1 a1.br t1.br = ((a1.br, t1.br), false) := by rw [HA1.out, propsL_br, hpr]; rfl
        have TP := hide (fun W hW => (by have := TP.out W hW; rw [hpr] at this; exact this : Calls Tryz.prog 74 #[.pointer (some ⟨g, 0, none⟩)] W (RetPs W none)))
        clear hpr
        go_wp2_with fail
        (with_reducible refine (TP.out _ HS.out.m).mono ?_)
        rintro e w2 ⟨rfl, hb2⟩
        have HB2 := hide hb2
        clear hb2
        go_wp2
        simp only [Exit.jump]
        go_end0
        exact HSTILL.out he _ HB2.out
      | some l =>
        have HA2 := hide (show agree1 a1.br t1.br = (if agreeB l = false then ((a1.br, t1.br), false)
          else if strange l a1.td then (proposeP a1.br t1.br (upU a1.rd), true)
          else match viewP l with
            | none => ((doneA a1.br, t1.br), false)
            | some x => (({ doneA a1.br with vw := vwOf x }, { t1.br with md := true, vw := vwOf x, ts := t1.br.ts ++ (ownL a1.br).map fun p => comeT p (vwOf x) }), false)) by
          rw [HA1.out, propsL_br, hpr]
          simp only [Option.map_some, agreeB_br, strange_br, viewP_br]
          rfl)
        have TP := hide (fun W hW => (by have := TP.out W hW; rw [hpr] at this; exact this : Calls Tryz.prog 74 #[.pointer (some ⟨g, 0, none⟩)] W (RetPs W (some l))))
        have HPR := hide hpr
        clear hpr HA1
        cases hag : agreeB l
        · have he : agree1 a1.br t1.br = ((a1.br, t1.br), false) := by rw [HA2.out, if_pos hag]
          go_wp2_with fail
          (with_reducible refine (TP.out _ HS.out.m).mono ?_)
          rintro e w2 ⟨A, c, rfl, hrd, hnw, hb2⟩
          have HB2 := hide hb2
          clear hb2 hrd hnw
          go_wp2
          simp only [Exit.jump]
          go_end0
          exact HSTILL.out he _ HB2.out
        · go_wp2_with fail
          (with_reducible refine (TP.out _ HS.out.m).mono ?_)
          rintro e w2 ⟨A, c, rfl, hrd, hnw, hb2⟩
          haveI : Stp wr w2 := ⟨hb2⟩
          have z2 := hb2.size
          have HRD := hide hrd
          have HROW := hide (RO.new (C := C1 ++ Avoid.D) hrd hnw (fun i hi => HS.out.m.lt i hi))
          have HM2 := hide (HS.out.m.below hb2)
          clear hb2 hrd hnw
          haveI : Src w2 A l.length 6 (pps l) := ⟨HRD.out⟩
          haveI : BoxAt w2 g (mkC a1 t1) 92 := HM2.out.bx
          haveI : LtN g w2.heap.size := ⟨by omega⟩
          have hlen : l.length ≤ 1000000 := by
            have h1 := congrArg List.length (propsG_of HPR.out).1
            rw [List.length_map] at h1
            have := HS.out.ok.ss
            omega
          have HMEM := hide (propsG_of HPR.out).2.1
          have hcsl : ∀ p ∈ a1.gt, p.cs.length ≤ 6 := HS.out.ok.cs
          have HCSL := hide hcsl
          have HTL := hide HS.out.m.ao.tl
          clear hcsl
          go_wp2_with fail
          obtain ⟨wo, rfl⟩ : ∃ wo, wo = wr := ⟨wr, rfl⟩
          go_loopw [30] (fun j wx => ∃ m : Nat, j = .int .i64 m ∧ m ≤ l.length ∧ strange (l.take m) a1.td = false ∧ Below w2.heap.size w2 wx) (fun j _ => l.length - (intOf j).toNat)
          case atStart => exact ⟨0, rfl, Nat.zero_le _, rfl, blw⟩
          case round =>
            obtain ⟨m, rfl, hm, hst, hB⟩ := hrel
            haveI : Stp w2 wr := ⟨hB⟩
            have HST := hide hst
            have zr := hB.size
            haveI : LtN g wr.heap.size := ⟨by omega⟩
            clear hst hB
            by_cases hlt : m < l.length
            · obtain ⟨b, off, p, hA, hb, hp, g0, g1, g2, g3, g4, g5⟩ := (src (w := w2) (W := wr) (A := A) (n := l.length) (k := 6) (xs := pps l)).at6 hlt
              subst hA
              haveI : InW b wr := ⟨hb⟩
              have hpm := HMEM.out p (List.mem_of_getElem? hp)
              have HPO := hide (HM2.out.ao.p p hpm).ok
              have TM := hide (fun W (h : Sl W p.CA p.cs) (h' : Sl W a1.TA a1.td) => minus_s p.CA a1.TA p.cc a1.tc p.cs a1.td W h h' (by have := HCSL.out p hpm; omega) HTL.out)
              have HSN := hide (show strange (l.take (m + 1)) a1.td = (strange (l.take m) a1.td || p.cs.any fun c => !decide (c ∈ a1.td)) by rw [take_succ_of hp]; unfold strange; rw [List.any_append]; simp)
              have HCP := hide (chosen_pos p.cs a1.td)
              have i0 : (0 : Int) ≤ (m : Int) := by omega
              have i1 : (m : Int) < (l.length : Int) := by omega
              have HPM := hide (List.mem_of_getElem? hp)
              clear hp hpm
              cases hs2 : p.cs.any fun c => !decide (c ∈ a1.td)
              · have hch : decide ((0 : Int) < ((chosenL p.cs a1.td false).length : Int)) = false := by rw [HCP.out, hs2]
                have HSN := hide (show strange (l.take (m + 1)) a1.td = false by rw [HSN.out, HST.out, hs2]; rfl)
                generalize chosenL p.cs a1.td false = ch at TM hch
                have hch2 : decide (0 < ch.length) = false := by
                  have := of_decide_eq_false hch
                  exact decide_eq_false (by omega)
                clear hs2
                go_wp2_with fail
                go_region_held3 (fun w' => w'.cell? ⟨wr.heap.size, 4, none⟩ = some (.slice p.CA p.cs.length p.cc) ∧ w'.cell? ⟨g, 5, none⟩ = some (.slice a1.TA a1.td.length a1.tc)) ((refine ⟨?_, ?_⟩ <;> (rw [cell?_box]; rfl)))
                  (first | (go_at_call 75; (with_reducible refine (TM.out _ ?_ ?_).mono ?_); (focus (exact HPO.out.c.step blw)); (focus (exact Sl.step (w := w2) (A := a1.TA) (l := a1.td) HM2.out.ao.t.1 blw)); rintro e w3 ⟨A3, c3, rfl, hS3, hb3⟩; haveI : Stp _ w3 := ⟨hb3⟩; clear hb3 hS3) | fail)
                all_goals
                  go_wp2
                  go_roundw
                  case rel => exact ⟨m + 1, by go_num, by omega, HSN.out, blw⟩
                  case measure => simp [intOf]; omega
              · have hch : decide ((0 : Int) < ((chosenL p.cs a1.td false).length : Int)) = true := by rw [HCP.out, hs2]
                have HE := hide (show agree1 a1.br t1.br = (proposeP a1.br t1.br (upU a1.rd), true) by rw [HA2.out, if_neg (by rw [hag]; simp), if_pos (strange_of HPM.out hs2)])
                have hwr := wrap_up (n := a1.rd) HS.out.ok.inv.r0 HS.out.ok.inv.r1
                have HWR := hide hwr
                have TPR := hide (fun W (hW : MK W C1 g a1 t1) => propose_s g C1 a1 t1 (upU a1.rd) W hW HS.out.ok.rise (by have := HS.out.ok.gl; omega) (fun p hp => by have := HCSL.out p hp; omega) (fun x hx => by have := HS.out.ok.inv.cw x hx; exact ⟨this.2.1, this.2.2.1⟩) (by
                  obtain ⟨_, e2⟩ := HS.out.jmp H0.out (by rw [HE.out])
                  have h3 : t1.br.ts.length = t.br.ts.length := by rw [e2]
                  simp [Tu.br] at h3
                  have := H1.out
                  omega))
                clear hwr
                generalize chosenL p.cs a1.td false = ch at TM hch
                have hch2 : decide (0 < ch.length) = true := by
                  have := of_decide_eq_true hch
                  exact decide_eq_true (by omega)
                clear hs2
                go_wp2_with fail
                go_region_held3 (fun w' => w'.cell? ⟨wr.heap.size, 4, none⟩ = some (.slice p.CA p.cs.length p.cc) ∧ w'.cell? ⟨g, 5, none⟩ = some (.slice a1.TA a1.td.length a1.tc)) ((refine ⟨?_, ?_⟩ <;> (rw [cell?_box]; rfl)))
                  (first | (go_at_call 75; (with_reducible refine (TM.out _ ?_ ?_).mono ?_); (focus (exact HPO.out.c.step blw)); (focus (exact Sl.step (w := w2) (A := a1.TA) (l := a1.td) HM2.out.ao.t.1 blw)); rintro e w3 ⟨A3, c3, rfl, hS3, hb3⟩; haveI : Stp _ w3 := ⟨hb3⟩; clear hb3 hS3) | fail)
                all_goals
                  go_wp2_with fail
                  rw [HWR.out]
                  (with_reducible refine (TPR.out _ (HM2.out.below blw)).mono ?_)
                  rintro e w4 ⟨rfl, C4, a4, t4, hM4, ha4, ht4, hT4⟩
                  have HM4 := hide hM4
                  have HA4 := hide ha4
                  have HT4 := hide ht4
                  have HR4 := hide ((HS.out.tr.trans (.bel (blw (a := wo) (W := w3)))).trans hT4)
                  clear hM4 ha4 ht4 hT4
                  go_wp2_with fail
                  obtain ⟨e1, e2⟩ := HS.out.jmp H0.out (by rw [HE.out])
                  have hE := HE.out
                  have hn := PaOk.next HS.out.ok (a' := a4) (t' := t4) (by rw [hE]; exact HA4.out) (by rw [hE]; exact HT4.out) (by rw [hE])
                  have hlen1 : t1.ts.length ≤ 300 := by
                    have h3 : t1.br.ts.length = t.br.ts.length := by rw [e2]
                    simp [Tu.br] at h3
                    have := H1.out
                    omega
                  have hpa : PaSt w C g a t C4 a4 t4 w4 := ⟨HM4.out, HR4.out, ⟨hn.1, hn.2.1, by have := hn.2.2; omega⟩, .inr ⟨by rw [← e1, ← e2, hE], by rw [← e1, ← e2, hE]; exact HA4.out, by rw [← e1, ← e2, hE]; exact HT4.out⟩⟩
                  have hmu : muA g a.rd w4 < muA g a.rd wo := by
                    have r4 : a4.sp = true ∨ a4.rd ≠ a1.rd := by
                      have h5 := propose_moves (a := a1.br) t1.br HS.out.ok.inv.r0 HS.out.ok.inv.r1
                      have h6 : a4.br = (proposeP a1.br t1.br (upU a1.rd)).1 := HA4.out
                      have h7 : a1.br.rd = a1.rd := rfl
                      rw [h7, ← h6] at h5
                      exact h5
                    have e3 : a1.rd = a.rd := congrArg (fun x => x.rd) e1
                    have hb4 : BoxAt w4 g (mkC a4 t4) 92 := HM4.out.bx
                    have hb1 : BoxAt wo g (mkC a1 t1) 92 := HS.out.m.bx
                    have c1 : wo.cell? ⟨g, 2, none⟩ = some (.int .u64 a.rd) := by rw [cell?_box, ← e3]; rfl
                    have c2 : wo.cell? ⟨g, 8, none⟩ = some (.bool false) := by rw [cell?_box, ← hs]; rfl
                    have d1 : w4.cell? ⟨g, 2, none⟩ = some (.int .u64 a4.rd) := by rw [cell?_box]; rfl
                    have d2 : w4.cell? ⟨g, 8, none⟩ = some (.bool a4.sp) := by rw [cell?_box]; rfl
                    have m1 : muA g a.rd wo = 1 := by
                      unfold muA
                      rw [if_pos ⟨c1, c2⟩]
                    have m4 : muA g a.rd w4 = 0 := by
                      unfold muA
                      rw [if_neg]
                      rintro ⟨x1, x2⟩
                      rw [d1] at x1
                      rw [d2] at x2
                      injection x1 with x1
                      injection x1 with _ x1
                      injection x2 with x2
                      injection x2 with x2
                      rcases r4 with r | r
                      · rw [x2] at r; cases r
                      · exact r (by rw [x1, e3])
                    rw [m1, m4]
                    exact Nat.zero_lt_one
                  go_step3
                  refine And.intro ?_ (And.intro ?_ ?_)
                  · rfl
                  · exact (HJ.out _ _).2 ⟨⟨rfl, rfl, rfl⟩, C4, a4, t4, hpa⟩
                  · exact hmu
            · have HSTR := hide (show strange l a1.td = false by have h9 := HST.out; rw [show m = l.length by omega, List.take_length] at h9; exact h9)
              obtain rfl : m = l.length := by omega
              have TV := hide (fun W (hW : Pl W A l) => pview_f A c l W hW hlen (fun x hx q hq => by
                exact (HS.out.ok.inv.wf x.br (List.mem_map_of_mem (HMEM.out x hx))) q hq))
              have hbr : BoxAt wr g (mkC a1 t1) 92 := (HM2.out.below blw).bx
              have hgr : Gr [g] wr (wr.setCell ⟨g, 7, none⟩ (.bool true)) := (Gr.refl [g] wr).trans (.set _ 7 (.bool true) (List.mem_singleton.2 rfl))
              have htr : Tr C1 C1 wr (wr.setCell ⟨g, 7, none⟩ (.bool true)) := .of (hgr.mono' (fun i hi => by rw [List.mem_singleton.1 hi]; exact HM2.out.gC))
              have HTR := hide (((Tr.bel (C := C1) (blw (a := w2) (W := wr)))).trans htr)
              have ho := HM2.out.ao.tr HTR.out
              have HM7 := hide ((HM2.out.below (blw (W := wr))).upd (a' := { a1 with dn := true }) (.of_cs (@BoxAt.setAt _ g 7 (.bool true) _ _ hbr) rfl) hgr rfl rfl rfl rfl rfl rfl ⟨ho.s, ho.sl, ho.c, ho.cl, ho.t, ho.tl, ho.p, ho.pl, ho.v⟩ (HM2.out.uo.tr HTR.out))
              have HPL := hide (show Pl (wr.setCell ⟨g, 7, none⟩ (.bool true)) A l from ⟨(HROW.out.tr HTR.out.av).1, fun x hx => (ho.p x (HMEM.out x hx)).ok⟩)
              clear hbr hgr htr ho
              have HT7 := hide ((HS.out.tr.trans (.bel (blw (a := wo) (W := w2)))).trans HTR.out)
              cases hvp : viewP l with
              | none =>
                have he : agree1 a1.br t1.br = ((doneA a1.br, t1.br), false) := by rw [HA2.out, if_neg (by rw [hag]; simp), if_neg (by rw [HSTR.out]; simp), hvp]
                have TV := hide (fun W hW => (by have := TV.out W hW; rw [hvp] at this; exact this : Calls Tryz.prog 11 #[.slice A l.length c] W (RetVf W none)))
                clear hvp
                go_wp2_with fail
                (with_reducible refine (TV.out _ HPL.out).mono ?_)
                rintro e w8 ⟨rfl, hb8⟩
                have HB8 := hide hb8
                clear hb8
                go_wp2
                simp only [Exit.jump]
                go_end0
                have hf := HS.out.fin (by rw [he])
                rw [hf, he]
                exact ⟨rfl, C1, { a1 with dn := true }, t1, (HM7.out.below HB8.out).below (below_alloc _ _), rfl, rfl, (HT7.out.trans (.bel HB8.out)).trans (.bel (below_alloc _ _))⟩
              | some x =>
                have he : agree1 a1.br t1.br = (({ doneA a1.br with vw := vwOf x }, { t1.br with md := true, vw := vwOf x, ts := t1.br.ts ++ (ownL a1.br).map fun p => comeT p (vwOf x) }), false) := by rw [HA2.out, if_neg (by rw [hag]; simp), if_neg (by rw [HSTR.out]; simp), hvp]
                have HE := hide he
                have TV := hide (fun W hW => (by have := TV.out W hW; rw [hvp] at this; exact this : Calls Tryz.prog 11 #[.slice A l.length c] W (RetVf W (some x))))
                clear hvp he
                obtain ⟨⟨xr, xn, xi⟩, ms, us⟩ := x
                go_wp2_with fail
                (with_reducible refine (TV.out _ HPL.out).mono ?_)
                rintro e w8 ⟨MA, mc, UA, uc, rfl, hvo, hMA, hUA, hb8⟩
                have HVO := hide (VwO.mk (C := C1) (x := ⟨xr, xn, xi, MA, mc, ms, UA, uc, us⟩) (RO.new hvo.1 hMA (fun i hi => HM7.out.lt i hi)) hvo.3 (RO.new hvo.2 hUA (fun i hi => HM7.out.lt i hi)) hvo.4)
                have HM8 := hide (HM7.out.below hb8)
                have HT8 := hide (HT7.out.trans (.bel hb8))
                clear hvo hMA hUA hb8
                haveI : BoxAt w8 g (mkC { a1 with dn := true } t1) 92 := HM8.out.bx
                have hg8 := HM8.out.bx.lt
                haveI : LtN g w8.heap.size := ⟨hg8⟩
                haveI : InL g C1 := ⟨HM8.out.gC⟩
                have HX := hide (show (⟨xr, xn, xi, MA, mc, ms, UA, uc, us⟩ : Vw).br = vwOf ((xr, xn, xi), ms, us) from rfl)
                have TCV := hide (fun W (h : Vw.Ok W ⟨xr, xn, xi, MA, mc, ms, UA, uc, us⟩) => (cpV_s ⟨xr, xn, xi, MA, mc, ms, UA, uc, us⟩ W h : Calls Tryz.prog 62 #[.agg #[.int .u64 xr, .int .i64 xn, .int .u64 xi, .slice MA ms.length mc, .slice UA us.length uc]] W (RetVk W ⟨xr, xn, xi, MA, mc, ms, UA, uc, us⟩)))
                have TCM := hide (fun (p : Pr) W (h : Vw.Ok W ⟨xr, xn, xi, MA, mc, ms, UA, uc, us⟩) => (comeN_s p ⟨xr, xn, xi, MA, mc, ms, UA, uc, us⟩ W h : Calls Tryz.prog 77 #[.agg #[.int .i64 p.1, .int .u64 p.2], .agg #[.int .u64 xr, .int .i64 xn, .int .u64 xi, .slice MA ms.length mc, .slice UA us.length uc]] W (RetTe W (comeT p ⟨xr, xn, xi, MA, mc, ms, UA, uc, us⟩))))
                obtain ⟨L, hL⟩ : ∃ L, L = ownL a1 := ⟨_, rfl⟩
                have hLl : L.length ≤ 6 := by rw [hL]; exact ownL_len a1
                have hcl := HM8.out.ao.cl
                have TL := hide (fun W h => (by have := regLives_s a1.LA a1.lc a1.cl W h hcl; rw [show livesL ((takenR a1.cl).filter (fun x => !x.gone)) = L from hL.symm] at this; exact this : Calls Tryz.prog 76 #[.agg #[.slice a1.LA a1.cl.length a1.lc]] W (RetP W L)))
                have HL := hide hL
                clear hL hcl
                go_wp2_with fail
                (with_reducible refine (TCV.out _ ?_).mono ?_)
                · exact HVO.out.tc.ok
                rintro e w9 ⟨y, hy, rfl, hn9, hb9⟩
                have HM9 := hide (show MK w9 C1 g ⟨a1.n, a1.i, a1.rd, a1.SA, a1.sc, a1.ss, a1.LA, a1.lc, a1.cl, a1.TA, a1.tc, a1.td, a1.GA, a1.gc, a1.gt, true, a1.sp, ⟨xr, xn, xi, MA, mc, ms, UA, uc, us⟩⟩ t1 by
                  refine MK.below ?_ hb9
                  refine MK.below ?_ (below_alloc _ _)
                  refine HM8.out.upd (.of_cs (@BoxAt.setAt _ g 13 _ _ _ (@BoxAt.setAt _ g 12 _ _ _ (@BoxAt.setAt _ g 11 _ _ _ (@BoxAt.setAt _ g 10 _ _ _ (@BoxAt.setAt _ g 9 _ _ _ HM8.out.bx))))) rfl) ?_ rfl rfl rfl rfl rfl rfl ?_ ?_
                  · exact (((((Gr.refl [g] _).trans (.set _ _ _ (List.mem_singleton.2 rfl))).trans (.set _ _ _ (List.mem_singleton.2 rfl))).trans (.set _ _ _ (List.mem_singleton.2 rfl))).trans (.set _ _ _ (List.mem_singleton.2 rfl))).trans (.set _ _ _ (List.mem_singleton.2 rfl))
                  · have key : ∀ W, Trc C1 w8 W → AgO W C1 ⟨a1.n, a1.i, a1.rd, a1.SA, a1.sc, a1.ss, a1.LA, a1.lc, a1.cl, a1.TA, a1.tc, a1.td, a1.GA, a1.gc, a1.gt, true, a1.sp, ⟨xr, xn, xi, MA, mc, ms, UA, uc, us⟩⟩ := fun W i => by
                      have k := HM8.out.ao.tr i.h
                      exact ⟨k.s, k.sl, k.c, k.cl, k.t, k.tl, k.p, k.pl, HVO.out.tr i.h⟩
                    exact key _ inferInstance
                  · have key : ∀ W, Trc C1 w8 W → TuO W C1 t1 := fun W i => HM8.out.uo.tr i.h
                    exact key _ inferInstance)
                haveI : Stp _ w9 := ⟨hb9⟩
                have z9 := hb9.size
                simp [World.setCell] at z9
                haveI : LtN g w9.heap.size := ⟨by omega⟩
                haveI : LtN w8.heap.size w9.heap.size := ⟨by omega⟩
                have HYE := hide hy
                have HYO := hide (hn9.o (C := C1) (fun i hi => by have := HM8.out.lt i hi; simp [World.setCell]; omega))
                have HT9 := hide (HT8.out.trans (Trc.h (C := C1) (a := w8) (W := w9)))
                have HV9 := hide (show VwO w9 C1 ⟨xr, xn, xi, MA, mc, ms, UA, uc, us⟩ from HVO.out.tc)
                clear hy hn9 hb9
                go_wp2_with fail
                (with_reducible refine (TL.out _ ?_).mono ?_)
                · exact HM8.out.ao.c.tc.1
                rintro e w10 ⟨A1, c1, rfl, ho, hb10⟩
                haveI : Stp _ w10 := ⟨hb10⟩
                have z10 := hb10.size
                simp [World.setCell] at z10
                have HM10 := hide (show MK w10 C1 g (⟨a1.n, a1.i, a1.rd, a1.SA, a1.sc, a1.ss, a1.LA, a1.lc, a1.cl, a1.TA, a1.tc, a1.td, a1.GA, a1.gc, a1.gt, true, a1.sp, ⟨xr, xn, xi, MA, mc, ms, UA, uc, us⟩⟩ : Ag) (⟨t1.A, t1.c, t1.ts, t1.sd, t1.pp, true, y⟩ : Tu) by
                  refine MK.below ?_ hb10
                  refine HM9.out.upd (.of_cs (@BoxAt.setAt _ g 27 _ _ _ (@BoxAt.setAt _ g 26 _ _ _ (@BoxAt.setAt _ g 25 _ _ _ (@BoxAt.setAt _ g 24 _ _ _ (@BoxAt.setAt _ g 23 _ _ _ (@BoxAt.setAt _ g 22 _ _ _ HM9.out.bx)))))) rfl) ?_ rfl rfl rfl rfl rfl rfl ?_ ?_
                  · exact ((((((Gr.refl [g] _).trans (.set _ _ _ (List.mem_singleton.2 rfl))).trans (.set _ _ _ (List.mem_singleton.2 rfl))).trans (.set _ _ _ (List.mem_singleton.2 rfl))).trans (.set _ _ _ (List.mem_singleton.2 rfl))).trans (.set _ _ _ (List.mem_singleton.2 rfl))).trans (.set _ _ _ (List.mem_singleton.2 rfl))
                  · have key : ∀ W, Trc C1 w9 W → AgO W C1 (⟨a1.n, a1.i, a1.rd, a1.SA, a1.sc, a1.ss, a1.LA, a1.lc, a1.cl, a1.TA, a1.tc, a1.td, a1.GA, a1.gc, a1.gt, true, a1.sp, ⟨xr, xn, xi, MA, mc, ms, UA, uc, us⟩⟩ : Ag) := fun W i => HM9.out.ao.tr i.h
                    exact key _ inferInstance
                  · have key : ∀ W, Trc C1 w9 W → TuO W C1 (⟨t1.A, t1.c, t1.ts, t1.sd, t1.pp, true, y⟩ : Tu) := fun W i => by
                      have k := HM9.out.uo.tr i.h
                      exact ⟨k.t, k.tl, k.p, HYO.out.tr i.h⟩
                    exact key _ inferInstance)
                have HT10 := hide (HT9.out.trans (Trc.h (C := C1) (a := w9) (W := w10)))
                have HV10 := hide (show VwO w10 C1 ⟨xr, xn, xi, MA, mc, ms, UA, uc, us⟩ from HV9.out.tc)
                have HR10 := hide (show RO w10 C1 2 A1 L.length (pcs L) from .own ho (fun i hi => by have := HM9.out.ltC i hi; simpa [World.setCell] using this))
                have HB10 := hide (show BoxAt w10 w8.heap.size #[.int .u64 xr, .int .i64 xn, .int .u64 xi, .slice MA ms.length mc, .slice UA us.length uc] 36 from inferInstance)
                have HN8 := hide (show w8.heap.size ∉ C1 from fun hm => by have := HM8.out.ltC _ hm; omega)
                clear ho hb10
                go_wp2_with fail
                go_loopw [86] (fun s86 wx => ∃ (m : Nat) (C5 : List Nat) (t5 : Tu), s86 = .int .i64 m ∧ m ≤ L.length ∧ MK wx C5 g (⟨a1.n, a1.i, a1.rd, a1.SA, a1.sc, a1.ss, a1.LA, a1.lc, a1.cl, a1.TA, a1.tc, a1.td, a1.GA, a1.gc, a1.gt, true, a1.sp, ⟨xr, xn, xi, MA, mc, ms, UA, uc, us⟩⟩ : Ag) t5 ∧ t5.br = ⟨none, 0, t1.br.ts ++ (L.take m).map (fun p => comeT p (vwOf ((xr, xn, xi), ms, us))), t1.sd, t1.pp.br, true, vwOf ((xr, xn, xi), ms, us)⟩ ∧ Tr C1 C5 w10 wx) (fun s86 _ => L.length - (intOf s86).toNat)
                case atStart => exact ⟨0, C1, _, rfl, Nat.zero_le _, HM10.out, by have e := HYE.out.trans HX.out; simp [Tu.br, e], .refl _ _⟩
                case round =>
                  obtain ⟨m, C5, t5, rfl, hm5, hM5, ht5, hT5⟩ := hrel
                  have HM5 := hide hM5
                  have HT5 := hide hT5
                  have Ht5 := hide ht5
                  obtain ⟨hb5, hn5⟩ := hT5.box HB10.out HN8.out
                  haveI : BoxAt wr w8.heap.size #[.int .u64 xr, .int .i64 xn, .int .u64 xi, .slice MA ms.length mc, .slice UA us.length uc] 36 := hb5
                  haveI : BoxAt wr g (mkC (⟨a1.n, a1.i, a1.rd, a1.SA, a1.sc, a1.ss, a1.LA, a1.lc, a1.cl, a1.TA, a1.tc, a1.td, a1.GA, a1.gc, a1.gt, true, a1.sp, ⟨xr, xn, xi, MA, mc, ms, UA, uc, us⟩⟩ : Ag) t5) 92 := hM5.bx
                  have HB5 := hide hb5
                  have HN5 := hide hn5
                  have HR5 := hide (HR10.out.tr hT5)
                  have HV5 := hide (HV10.out.tr hT5)
                  have htsl : t5.ts.length ≤ 900 := by
                    have h1 := congrArg (fun u : Tu => u.ts.length) ht5
                    have := HS.out.ok.tl
                    simp [Tu.br] at h1
                    omega
                  have hgw5 : g < wr.heap.size := hM5.bx.lt
                  haveI : LtN g wr.heap.size := ⟨hgw5⟩
                  have hbw5 : w8.heap.size < wr.heap.size := hb5.lt
                  haveI : LtN w8.heap.size wr.heap.size := ⟨hbw5⟩
                  clear hM5 ht5 hT5 hb5 hn5
                  by_cases hlt : m < L.length
                  · obtain ⟨ba, oa, x1, hA5, hba, hx1, p0, p1⟩ := (HR5.out.1 : Reads wr wr.heap.size 2 A1 L.length (pcs L)).at2 hlt
                    subst hA5
                    haveI : InW ba wr := ⟨hba⟩
                    have HX1 := hide hx1
                    have TCM := hide (fun W h => TCM.out x1 W h)
                    have TT := hide (fun W z A c (hM : MK W C5 g (⟨a1.n, a1.i, a1.rd, a1.SA, a1.sc, a1.ss, a1.LA, a1.lc, a1.cl, a1.TA, a1.tc, a1.td, a1.GA, a1.gc, a1.gt, true, a1.sp, ⟨xr, xn, xi, MA, mc, ms, UA, uc, us⟩⟩ : Ag) t5) (hA : Reads W W.heap.size 13 A 1 (tes [z])) (hx : NtO W C5 z.nt) => tell_s g C5 (⟨a1.n, a1.i, a1.rd, a1.SA, a1.sc, a1.ss, a1.LA, a1.lc, a1.cl, a1.TA, a1.tc, a1.td, a1.GA, a1.gc, a1.gt, true, a1.sp, ⟨xr, xn, xi, MA, mc, ms, UA, uc, us⟩⟩ : Ag) t5 z A c W hM hA hx htsl)
                    have i0 : (0 : Int) ≤ (m : Int) := by omega
                    have i1 : (m : Int) < (L.length : Int) := by omega
                    clear hx1
                    go_wp2_with fail
                    (with_reducible refine (TCM.out _ ?_).mono ?_)
                    · exact (HV5.out.tr (.bel blw)).ok
                    rintro e w6 ⟨z, hz, rfl, hn6, hb6⟩
                    haveI : Stp _ w6 := ⟨hb6⟩
                    have HZO := hide (hn6.o (C := C5) (fun i hi => Nat.lt_of_lt_of_le (HM5.out.lt i hi) (blw (a := wr)).size))
                    have HZE := hide hz
                    clear hz hn6 hb6
                    go_wp2_with fail
                    (with_reducible refine (TT.out _ z _ _ ?_ ?_ ?_).mono ?_)
                    · exact HM5.out.below blw
                    · exact reads_te1x _ _ z
                    · exact HZO.out.tr (.bel blw)
                    rintro e w7 ⟨rfl, C6, A6, c6, hM6, hT6⟩
                    have HM6 := hide hM6
                    have HT6 := hide (HT5.out.trans ((Tr.bel (blw (a := wr))).trans hT6))
                    clear hM6 hT6
                    go_wp2
                    go_roundw
                    case rel =>
                      refine ⟨m + 1, C6, t5.more [z] A6 c6, by go_num, by omega, HM6.out, ?_, HT6.out⟩
                      have e : (t5.more [z] A6 c6).br = ⟨none, 0, t5.br.ts ++ [z.br], t5.br.sd, t5.br.pp, t5.br.md, t5.br.vw⟩ := by simp [Tu.more, Tu.br]
                      rw [e, Ht5.out, HZE.out, take_succ_of HX1.out, List.map_append, ← List.append_assoc]
                      rfl
                    case measure => simp [intOf]; omega
                  · obtain rfl : m = L.length := by omega
                    go_wp2
                    go_end0
                    have hf := HS.out.fin (by rw [HE.out])
                    rw [hf, HE.out]
                    refine ⟨rfl, C5, _, t5, HM5.out, rfl, ?_, HT10.out.trans HT5.out⟩
                    rw [Ht5.out, List.take_length, HL.out]
                    rfl
    · have he : agree1 a1.br t1.br = ((a1.br, t1.br), false) := by
        unfold agree1
        rw [if_pos (show (a1.br.dn || a1.br.sp) = true by show (a1.dn || a1.sp) = true; rw [hs]; simp)]
      go_wp2
      simp only [Exit.jump]
      go_end0
      exact HSTILL.out he _ (Below.refl _ _)
  · have he : agree1 a1.br t1.br = ((a1.br, t1.br), false) := by
      unfold agree1
      rw [if_pos (show (a1.br.dn || a1.br.sp) = true by show (a1.dn || a1.sp) = true; rw [hd]; simp)]
    go_wp2
    simp only [Exit.jump]
    go_end0
    exact HSTILL.out he _ (Below.refl _ _)
end Go.Proofs.YtkglclekieckoaaGreat

namespace Go.Proofs.YtkglclekieckoaaGreat
set_option linter.unusedSimpArgs false
set_option linter.unusedVariables false
set_option linter.unusedSectionVars false
open Go.RowKit

theorem RO.less {W : World} {C C' : List Nat} {k n : Nat} {A : Option Addr} {xs : List Value} (h : RO W C k A n xs) (hs : ∀ i ∈ C', i ∈ C) : RO W C' k A n xs := ⟨h.1, fun hn a ha hm => h.2 hn a ha (hs _ hm)⟩
theorem mem_less {C C' D : List Nat} (hs : ∀ i ∈ C', i ∈ C) : ∀ i ∈ C' ++ D, i ∈ C ++ D := fun i hi => by
  rcases List.mem_append.1 hi with h | h
  · exact List.mem_append_left _ (hs i h)
  · exact List.mem_append_right _ h
section
variable [Avoid] {W : World} {C : List Nat}
theorem PpO.free {x : Pp} (h : PpO W C x) : PpO W [] x := ⟨h.s.less (mem_less (by simp)), h.sl, h.c.less (mem_less (by simp)), h.cl, h.u.less (mem_less (by simp)), h.ul⟩
theorem VwO.free {x : Vw} (h : VwO W C x) : VwO W [] x := ⟨h.m.less (mem_less (by simp)), h.ml, h.u.less (mem_less (by simp)), h.ul⟩
theorem NtO.free {x : Nt} (h : NtO W C x) : NtO W [] x := ⟨h.s.less (mem_less (by simp)), h.sl, h.vk.free⟩
theorem AgO.free {a : Ag} (h : AgO W C a) : AgO W [] a := ⟨h.s.less (mem_less (by simp)), h.sl, h.c.less (mem_less (by simp)), h.cl, h.t.less (mem_less (by simp)), h.tl, fun p hp => (h.p p hp).free, h.pl, h.v.free⟩
theorem TuO.free {t : Tu} (h : TuO W C t) : TuO W [] t := ⟨fun x hx => (h.t x hx).free, h.tl, h.p.free, h.v.free⟩
theorem MK.ok {B g : Nat} {a : Ag} {t : Tu} (h : MK W C g a t) (hC : ∀ i ∈ C, B ≤ i) (hD : ∀ i ∈ Avoid.D, i < B) : a.Ok W ∧ t.Ok W := by
  refine ⟨⟨h.ao.free, Reads.of_own h.go, fun _ ad ha hm => ?_⟩, ⟨h.uo.free, Reads.of_own h.tw, fun _ ad ha hm => ?_⟩⟩
  · have h1 := hC _ (h.goC ad.block (by rw [ha]; rfl)).1
    have h2 := hD _ hm
    omega
  · have h1 := hC _ (h.twC ad.block (by rw [ha]; rfl)).1
    have h2 := hD _ hm
    omega
end
/-! more, or something else, is avoided -/
abbrev avo (D : List Nat) : Avoid := ⟨D⟩
section
variable {D D' : List Nat} {X W : World}
theorem PpO.over {x : Pp} (h : @PpO (avo D) X [] x) (t : Tr D D' X W) : @PpO (avo D') W [] x := by
  obtain ⟨s, sl, c, cl, u, ul⟩ := h
  exact @PpO.mk (avo D') _ _ _ (s.tr t) sl (c.tr t) cl (u.tr t) ul
theorem VwO.over {x : Vw} (h : @VwO (avo D) X [] x) (t : Tr D D' X W) : @VwO (avo D') W [] x := by
  obtain ⟨m, ml, u, ul⟩ := h
  exact @VwO.mk (avo D') _ _ _ (m.tr t) ml (u.tr t) ul
theorem NtO.over {x : Nt} (h : @NtO (avo D) X [] x) (t : Tr D D' X W) : @NtO (avo D') W [] x := by
  obtain ⟨s, sl, v⟩ := h
  exact @NtO.mk (avo D') _ _ _ (s.tr t) sl (v.over t)
theorem AgO.over {a : Ag} (h : @AgO (avo D) X [] a) (t : Tr D D' X W) : @AgO (avo D') W [] a := by
  obtain ⟨s, sl, c, cl, u, ul, p, pl, v⟩ := h
  exact @AgO.mk (avo D') _ _ _ (s.tr t) sl (c.tr t) cl (u.tr t) ul (fun q hq => (p q hq).over t) pl (v.over t)
theorem TuO.over {a : Tu} (h : @TuO (avo D) X [] a) (t : Tr D D' X W) : @TuO (avo D') W [] a := by
  obtain ⟨s, sl, p, v⟩ := h
  exact @TuO.mk (avo D') _ _ _ (fun x hx => (s x hx).over t) sl (p.over t) (v.over t)
theorem Ag.Ok.over {a : Ag} (h : @Ag.Ok (avo D) X a) (t : Tr D D' X W) : @Ag.Ok (avo D') W a := by
  obtain ⟨o, g⟩ := h
  exact @Ag.Ok.mk (avo D') _ _ (o.over t) (g.tr t)
theorem Tu.Ok.over {a : Tu} (h : @Tu.Ok (avo D) X a) (t : Tr D D' X W) : @Tu.Ok (avo D') W a := by
  obtain ⟨o, g⟩ := h
  exact @Tu.Ok.mk (avo D') _ _ (o.over t) (g.tr t)
end
/-- an agreement and its turn, whose rows lie in no block of D -/
def RetAT (D : List Nat) (w : World) (r : Ag × Tu) (e : Ending) (w' : World) : Prop := ∃ b u, b.br = r.1 ∧ u.br = r.2 ∧ e = .returned (.tuple #[b.v, u.v]) ∧ @Ag.Ok (avo D) w' b ∧ @Tu.Ok (avo D) w' u ∧ Below w.heap.size w w'
/-! the greatest round -/
def mostU (a : Ag) (m : Nat) : Int := (a.gt.take m).foldl (fun n p => if p.sv ∈ a.ss then max n p.rd else n) (max a.rd (maxR (thereL (takenR a.cl))))
theorem mostU_succ {a : Ag} {m : Nat} {p : Pp} (h : a.gt[m]? = some p) : mostU a (m + 1) = if p.sv ∈ a.ss then max (mostU a m) p.rd else mostU a m := by
  unfold mostU
  rw [take_succ_of h, List.foldl_append]
  rfl
theorem mostU_all (a : Ag) : mostU a a.gt.length = mostL a := by unfold mostU; rw [List.take_length]; rfl
theorem mostL_br (a : Ag) : mostL a.br = mostL a := by
  unfold mostL
  show (a.gt.map Pp.br).foldl _ _ = _
  rw [List.foldl_map]
  rfl
theorem PaOk.prop {a : Ag} {t : Tu} {n : Int} (hi : a.br.Inv) (ht : togetherB a.ss = true) (hl : t.ts.length ≤ 300) (h0 : 0 ≤ n) (h1 : n ≤ um) {a' : Ag} {t' : Tu} (ha : a'.br = (proposeP a.br t.br n).1) (hu : t'.br = (proposeP a.br t.br n).2) : PaOk a' t' ∧ t'.ts.length ≤ t.ts.length + 6 := by
  have e1 : t'.ts.length = t'.br.ts.length := by simp [Tu.br]
  have e2 : t.ts.length = t.br.ts.length := by simp [Tu.br]
  have key : t'.ts.length ≤ t.ts.length + 6 ∧ togetherB a'.br.ss = true := by
    rw [e1, hu, e2, ha]
    by_cases hb : n = 0 ∨ n = um ∨ (raiseR (takenR a.br.cl)).2 = false
    · rw [propose_no hb]; exact ⟨Nat.le_add_right _ _, ht⟩
    · rw [propose_yes hb]
      refine ⟨?_, ht⟩
      unfold sentT
      simp only [List.length_append, List.length_map]
      have h3 : (thereL (toldA (begunA a.br n)).cl).length ≤ 6 := Nat.le_trans (List.length_filter_le _ _) (raise_len a.br.cl)
      omega
  exact ⟨⟨by rw [ha]; exact propose_inv hi ht _ h0 h1, key.2, by omega⟩, key.1⟩
theorem BoxAt.grs {X W : World} {n : Nat} {cs : Array Value} {t : TypeId} {C : List Nat} (h : BoxAt X n cs t) (g : Gr C X W) (hn : n ∉ C) : BoxAt W n cs t := ⟨by rw [g.blk n h.lt hn]; exact h.eq⟩
theorem gr_two {X Y Z : World} {a b : Nat} (h : Gr [a] X Y) (k : Gr [b] Y Z) : Gr [a, b] X Z := (h.mono' (fun i hi => by rw [List.mem_singleton.1 hi]; simp)).trans (k.mono' (fun i hi => by rw [List.mem_singleton.1 hi]; simp))
/-- a box of fourteen cells is written whole -/
theorem stored14 {W : World} {n : Nat} {t : TypeId} {c0 c1 c2 c3 c4 c5 c6 c7 c8 c9 c10 c11 c12 c13 : Value} (h : BoxAt W n #[c0, c1, c2, c3, c4, c5, c6, c7, c8, c9, c10, c11, c12, c13] t) (v0 v1 v2 v3 v4 v5 v6 v7 v8 v9 v10 v11 v12 v13 : Value) : ∃ W', W' = (((((((((((((W.setCell ⟨n, 0, none⟩ v0).setCell ⟨n, 1, none⟩ v1).setCell ⟨n, 2, none⟩ v2).setCell ⟨n, 3, none⟩ v3).setCell ⟨n, 4, none⟩ v4).setCell ⟨n, 5, none⟩ v5).setCell ⟨n, 6, none⟩ v6).setCell ⟨n, 7, none⟩ v7).setCell ⟨n, 8, none⟩ v8).setCell ⟨n, 9, none⟩ v9).setCell ⟨n, 10, none⟩ v10).setCell ⟨n, 11, none⟩ v11).setCell ⟨n, 12, none⟩ v12).setCell ⟨n, 13, none⟩ v13 ∧ BoxAt W' n #[v0, v1, v2, v3, v4, v5, v6, v7, v8, v9, v10, v11, v12, v13] t ∧ Gr [n] W W' :=
  ⟨_, rfl, .of_cs (@BoxAt.setAt _ n 13 v13 _ _ (@BoxAt.setAt _ n 12 v12 _ _ (@BoxAt.setAt _ n 11 v11 _ _ (@BoxAt.setAt _ n 10 v10 _ _ (@BoxAt.setAt _ n 9 v9 _ _ (@BoxAt.setAt _ n 8 v8 _ _ (@BoxAt.setAt _ n 7 v7 _ _ (@BoxAt.setAt _ n 6 v6 _ _ (@BoxAt.setAt _ n 5 v5 _ _ (@BoxAt.setAt _ n 4 v4 _ _ (@BoxAt.setAt _ n 3 v3 _ _ (@BoxAt.setAt _ n 2 v2 _ _ (@BoxAt.setAt _ n 1 v1 _ _ (@BoxAt.setAt _ n 0 v0 _ _ h)))))))))))))) (by simp only [List.setIfInBounds_toArray, List.set_cons_zero, List.set_cons_succ]), (((((((((((((((Gr.refl [n] W).trans (.set _ 0 v0 (List.mem_singleton.2 rfl))).trans (.set _ 1 v1 (List.mem_singleton.2 rfl))).trans (.set _ 2 v2 (List.mem_singleton.2 rfl))).trans (.set _ 3 v3 (List.mem_singleton.2 rfl))).trans (.set _ 4 v4 (List.mem_singleton.2 rfl))).trans (.set _ 5 v5 (List.mem_singleton.2 rfl))).trans (.set _ 6 v6 (List.mem_singleton.2 rfl))).trans (.set _ 7 v7 (List.mem_singleton.2 rfl))).trans (.set _ 8 v8 (List.mem_singleton.2 rfl))).trans (.set _ 9 v9 (List.mem_singleton.2 rfl))).trans (.set _ 10 v10 (List.mem_singleton.2 rfl))).trans (.set _ 11 v11 (List.mem_singleton.2 rfl))).trans (.set _ 12 v12 (List.mem_singleton.2 rfl))).trans (.set _ 13 v13 (List.mem_singleton.2 rfl)))⟩
theorem AT.fin [av : Avoid] {D : List Nat} {n2 n3 g : Nat} {C : List Nat} {w W W4 : World} {a : Ag} {t : Tu} {r : Ag × Tu} (hav : av = avo (D ++ [n2, n3])) (hD : ∀ i ∈ D, i < w.heap.size) (h2 : w.heap.size ≤ n2) (h3 : w.heap.size ≤ n3) (h : MK W C g a t) (hC : ∀ i ∈ C, n2 < i ∧ n3 < i) (hb : Below w.heap.size w W) (hT : Gr [n2, n3] W W4) (e1 : a.br = r.1) (e2 : t.br = r.2) : RetAT D w r (.returned (.tuple #[a.v, t.v])) W4 := by
  have hB : ∀ i ∈ C, max n2 n3 + 1 ≤ i := fun i hi => by have := hC i hi; omega
  have hDD : ∀ i ∈ Avoid.D, i < max n2 n3 + 1 := by
    rw [hav]
    intro i hi
    rcases List.mem_append.1 (show i ∈ D ++ [n2, n3] from hi) with h1 | h1
    · have := hD i h1; omega
    · simp at h1; omega
  obtain ⟨k1, k2⟩ := h.ok hB hDD
  subst hav
  have tr : Tr (D ++ [n2, n3]) D W W4 := ⟨hT.mono' (fun i hi => List.mem_append_right _ hi), fun i hi => .inl (List.mem_append_left _ hi)⟩
  exact ⟨a, t, e1, e2, rfl, k1.over tr, k2.over tr, hb.trans (hT.below hb.size (fun i hi => by simp at hi; omega))⟩
set_option maxRecDepth 100000 in
set_option maxHeartbeats 16000000 in
theorem renew_s (D : List Nat) (a : Ag) (A : Option Addr) (c : Nat) (ss : List Pr) (B : Option Addr) (d : Nat) (cl : List Cl) (w : World) (h : @Ag.Ok (avo D) w a) (hD : ∀ i ∈ D, i < w.heap.size) (hi : a.br.Inv) (hS : Sl w A ss) (hsl : ss.length ≤ 1000000) (hL : Cll w B cl) (hll : cl.length ≤ 1000000) (hc : clOk cl) :
    Calls Tryz.prog 9 #[a.v, .slice A ss.length c, .agg #[.slice B cl.length d]] w (RetAT D w (renewP a.br ss cl)) := by
  obtain ⟨av, hav⟩ : ∃ av : Avoid, av = avo (D ++ [w.heap.size + 1 + 1, w.heap.size + 1 + 1 + 1]) := ⟨_, rfl⟩
  have TB := hide (fun W (h : a.Ok W) (hD : ∀ i ∈ Avoid.D, i < W.heap.size) => begin_s a W h hD)
  have TG := hide (fun W (h : Reads W W.heap.size 2 A ss.length (pcs ss)) => together_s A c ss W h hsl)
  have TH := hide (fun (n i : Int) W (h : Reads W W.heap.size 2 A ss.length (pcs ss)) => has_b A c ss n i W h hsl)
  have TM := hide (fun W (h : Reads W W.heap.size 6 B cl.length (ccs cl)) => regMay_b B d cl W h hll)
  haveI : Src w A ss.length 2 (pcs ss) := ⟨hS⟩
  haveI : Src w B cl.length 6 (ccs cl) := ⟨hL⟩
  have H := hide h
  have HAV := hide hav
  have HD := hide hD
  have HI := hide hi
  have HCL := hide hc
  clear h hD hi hS hL hc hav
  have HOK := hide (fun W (hb : Below w.heap.size w W) => (by rw [HAV.out]; exact H.out.over ⟨.of hb, fun i hi => by
    rcases List.mem_append.1 (show i ∈ D ++ [w.heap.size + 1 + 1, w.heap.size + 1 + 1 + 1] from hi) with h1 | h1
    · exact .inl h1
    · right; simp at h1; omega⟩ : a.Ok W))
  have HDD := hide (show ∀ i ∈ Avoid.D, i < w.heap.size + 1 + 1 + 1 + 1 by
    rw [HAV.out]
    intro i hi
    rcases List.mem_append.1 (show i ∈ D ++ [w.heap.size + 1 + 1, w.heap.size + 1 + 1 + 1] from hi) with h1 | h1
    · have := HD.out i h1; omega
    · simp at h1; omega)
  go_enter Tryz.func9, Tryz.ntmps9
  go_wp2_with fail
  (with_reducible refine (TB.out _ ?_ ?_).mono ?_)
  · exact HOK.out _ blw
  · simpa using HDD.out
  rintro e w1 ⟨g, C, b, hbr, rfl, hM, hC, hb1⟩
  haveI : Stp _ w1 := ⟨hb1⟩
  have z1 := hb1.size
  simp at z1 hC
  haveI := hM.bx
  have hgC := hC g hM.gC
  have hgw := hM.bx.lt
  haveI : LtN g w1.heap.size := ⟨hgw⟩
  haveI : LtN (w.heap.size + 1 + 1) w1.heap.size := ⟨by omega⟩
  haveI : LtN (w.heap.size + 1 + 1 + 1) w1.heap.size := ⟨by omega⟩
  haveI : NeN (w.heap.size + 1 + 1) g := ⟨by omega⟩
  haveI : NeN (w.heap.size + 1 + 1 + 1) g := ⟨by omega⟩
  have HM := hide hM
  have HC := hide hC
  have HIB := hide (show b.br.Inv by rw [hbr]; exact HI.out)
  have HR := hide (show renewP a.br ss cl = renewP b.br ss cl by rw [hbr])
  have TE := hide (fun (C : List Nat) (a : Ag) (t : Tu) W (h : MK W C g a t) => end_s g C a t W h)
  clear hM hC hb1 hbr TB
  obtain ⟨rb, hrb⟩ : ∃ rb, rb = (b.sp || (!togetherB ss || (!decide ((b.n, b.i) ∈ ss) || !mayR cl))) := ⟨_, rfl⟩
  have HRB := hide hrb
  clear hrb
  go_upto_region 2 with fail
  go_cut [38] (fun s38 wx => s38 = .bool rb ∧ Below w1.heap.size w1 wx)
  case first =>
    cases hsp : b.sp
    · cases htg : togetherB ss
      · have HT := hide htg
        have HS := hide hsp
        have TG := hide (fun W h => (by have := TG.out W h; rw [htg] at this; exact this : Calls Tryz.prog 29 #[.slice A ss.length c] W (RetB W false)))
        clear htg
        go_wp2_with fail
        (with_reducible refine (TG.out _ src).mono ?_)
        rintro e w2 ⟨rfl, hb2⟩
        haveI : Stp _ w2 := ⟨hb2⟩
        clear hb2
        go_wp2_with fail
        go_meet
        case rel => exact ⟨by rw [HRB.out, HS.out, HT.out]; rfl, blw⟩
      · cases hhs : decide ((b.n, b.i) ∈ ss)
        · have HT := hide htg
          have HS := hide hsp
          have HH := hide hhs
          have TG := hide (fun W h => (by have := TG.out W h; rw [htg] at this; exact this : Calls Tryz.prog 29 #[.slice A ss.length c] W (RetB W true)))
          have TH := hide (fun W h => (by have := TH.out b.n b.i W h; rw [hhs] at this; exact this : Calls Tryz.prog 30 #[.slice A ss.length c, .agg #[.int .i64 b.n, .int .u64 b.i]] W (RetB W false)))
          clear htg hhs
          go_wp2_with fail
          (with_reducible refine (TG.out _ src).mono ?_)
          rintro e w2 ⟨rfl, hb2⟩
          haveI : Stp _ w2 := ⟨hb2⟩
          clear hb2
          go_wp2_with fail
          (with_reducible refine (TH.out _ src).mono ?_)
          rintro e w22 ⟨rfl, hb2⟩
          haveI : Stp _ w22 := ⟨hb2⟩
          clear hb2
          go_wp2_with fail
          go_meet
          case rel => exact ⟨by rw [HRB.out, HS.out, HT.out, HH.out]; rfl, blw⟩
        · have HT := hide htg
          have HS := hide hsp
          have HH := hide hhs
          cases hmy : mayR cl
          · have HY := hide hmy
            have TG := hide (fun W h => (by have := TG.out W h; rw [htg] at this; exact this : Calls Tryz.prog 29 #[.slice A ss.length c] W (RetB W true)))
            have TH := hide (fun W h => (by have := TH.out b.n b.i W h; rw [hhs] at this; exact this : Calls Tryz.prog 30 #[.slice A ss.length c, .agg #[.int .i64 b.n, .int .u64 b.i]] W (RetB W true)))
            have TM := hide (fun W h => (by have := TM.out W h; rw [hmy] at this; exact this : Calls Tryz.prog 31 #[.agg #[.slice B cl.length d]] W (RetB7 W false)))
            clear htg hhs hmy
            go_wp2_with fail
            (with_reducible refine (TG.out _ src).mono ?_)
            rintro e w2 ⟨rfl, hb2⟩
            haveI : Stp _ w2 := ⟨hb2⟩
            clear hb2
            go_wp2_with fail
            (with_reducible refine (TH.out _ src).mono ?_)
            rintro e w22 ⟨rfl, hb2⟩
            haveI : Stp _ w22 := ⟨hb2⟩
            clear hb2
            go_wp2_with fail
            (with_reducible refine (TM.out _ src).mono ?_)
            rintro e w23 ⟨rfl, hb2⟩
            haveI : Stp _ w23 := ⟨hb2⟩
            clear hb2
            go_wp2_with fail
            go_meet
            case rel => exact ⟨by rw [HRB.out, HS.out, HT.out, HH.out, HY.out]; rfl, blw⟩
          · have HY := hide hmy
            have TG := hide (fun W h => (by have := TG.out W h; rw [htg] at this; exact this : Calls Tryz.prog 29 #[.slice A ss.length c] W (RetB W true)))
            have TH := hide (fun W h => (by have := TH.out b.n b.i W h; rw [hhs] at this; exact this : Calls Tryz.prog 30 #[.slice A ss.length c, .agg #[.int .i64 b.n, .int .u64 b.i]] W (RetB W true)))
            have TM := hide (fun W h => (by have := TM.out W h; rw [hmy] at this; exact this : Calls Tryz.prog 31 #[.agg #[.slice B cl.length d]] W (RetB7 W true)))
            clear htg hhs hmy
            go_wp2_with fail
            (with_reducible refine (TG.out _ src).mono ?_)
            rintro e w2 ⟨rfl, hb2⟩
            haveI : Stp _ w2 := ⟨hb2⟩
            clear hb2
            go_wp2_with fail
            (with_reducible refine (TH.out _ src).mono ?_)
            rintro e w22 ⟨rfl, hb2⟩
            haveI : Stp _ w22 := ⟨hb2⟩
            clear hb2
            go_wp2_with fail
            (with_reducible refine (TM.out _ src).mono ?_)
            rintro e w23 ⟨rfl, hb2⟩
            haveI : Stp _ w23 := ⟨hb2⟩
            clear hb2
            go_wp2_with fail
            go_meet
            case rel => exact ⟨by rw [HRB.out, HS.out, HT.out, HH.out, HY.out]; rfl, blw⟩
    · have HS := hide hsp
      go_wp2_with fail
      go_meet
      case rel => exact ⟨by rw [HRB.out, HS.out]; rfl, blw⟩
  case rest =>
    obtain ⟨rfl, hBc⟩ := hcut
    haveI : Stp w1 wc := ⟨hBc⟩
    have zc := hBc.size
    haveI : LtN g wc.heap.size := ⟨by omega⟩
    haveI : LtN (w.heap.size + 1 + 1) wc.heap.size := ⟨by omega⟩
    haveI : LtN (w.heap.size + 1 + 1 + 1) wc.heap.size := ⟨by omega⟩
    clear hBc
    cases rb
    · have hrb : (b.sp || (!togetherB ss || (!decide ((b.n, b.i) ∈ ss) || !mayR cl))) = false := HRB.out.symm
      simp only [Bool.or_eq_false_iff, Bool.not_eq_false'] at hrb
      obtain ⟨hsp, htg, hhs, hmy⟩ := hrb
      have HN := hide (show renewP a.br ss cl = agreeP (proposeP { b.br with ss := ss, cl := cl } tu0 (upU (mostL { b.br with ss := ss, cl := cl }))).1 (proposeP { b.br with ss := ss, cl := cl } tu0 (upU (mostL { b.br with ss := ss, cl := cl }))).2 by
        rw [HR.out]; unfold renewP; rw [if_neg (by rw [show b.br.sp = false from hsp, htg, show decide (b.br.sv ∈ ss) = true from hhs, hmy]; simp)])
      have HIW := hide (HIB.out.with htg (of_decide_eq_true hhs) hmy HCL.out)
      have HTG := hide htg
      have TC := hide (fun W (h : Reads W W.heap.size 2 A ss.length (pcs ss)) => clone_any A c ss W h hsl)
      have TR := hide (fun W (h : Reads W W.heap.size 6 B cl.length (ccs cl)) => cpR_s B d cl W h hll)
      clear hsp htg hhs hmy
      haveI : LeN w.heap.size g := ⟨by omega⟩
      haveI : InL g C := ⟨HM.out.gC⟩
      go_wp2_with fail
      (with_reducible refine (TC.out _ src).mono ?_)
      rintro e w5 ⟨v5, rfl, ho5, hb5⟩
      obtain ⟨A5, c5, rfl, _, _⟩ := own_slice ho5
      haveI : Stp _ w5 := ⟨hb5⟩
      have HR5 := hide (RO.own (C := C ++ Avoid.D) ho5 (fun i hi => Nat.lt_of_lt_of_le (HM.out.lt i hi) (blw (a := w1)).size))
      have HM5 := hide (HM.out.below (blw (a := w1) (W := w5)))
      have hgw5 := HM5.out.bx.lt
      haveI : LtN g w5.heap.size := ⟨hgw5⟩
      clear ho5 hb5
      go_wp2_with fail
      (with_reducible refine (TR.out _ src).mono ?_)
      rintro e w6 ⟨A6, c6, rfl, ho6, hb6⟩
      have HM6 := hide (show MK w6 C g (⟨b.n, b.i, b.rd, A5, c5, ss, b.LA, b.lc, b.cl, b.TA, b.tc, b.td, b.GA, b.gc, b.gt, b.dn, b.sp, b.vw⟩ : Ag) tu0 by
        refine MK.below ?_ hb6
        refine HM5.out.upd (.of_cs (@BoxAt.setAt _ g 3 _ _ _ HM5.out.bx) rfl) (.set _ _ _ (List.mem_singleton.2 rfl)) rfl rfl rfl rfl rfl rfl ?_ ?_
        · have key : ∀ W, Trc C w5 W → AgO W C (⟨b.n, b.i, b.rd, A5, c5, ss, b.LA, b.lc, b.cl, b.TA, b.tc, b.td, b.GA, b.gc, b.gt, b.dn, b.sp, b.vw⟩ : Ag) := fun W i => by
            have k := HM5.out.ao.tr i.h
            exact ⟨HR5.out.tr i.h.av, hsl, k.c, k.cl, k.t, k.tl, k.p, k.pl, k.v⟩
          exact key _ inferInstance
        · have key : ∀ W, Trc C w5 W → TuO W C tu0 := fun W i => HM5.out.uo.tr i.h
          exact key _ inferInstance)
      haveI : Stp _ w6 := ⟨hb6⟩
      have z6 := hb6.size
      simp [World.setCell] at z6
      haveI : LtN g w6.heap.size := ⟨by omega⟩
      have HR6 := hide (RO.own (C := C ++ Avoid.D) ho6 (fun i hi => by have := HM5.out.lt i hi; simpa [World.setCell] using this))
      have hll6 := hll
      have TO := hide (fun W (h : Reads W W.heap.size 6 A6 cl.length (ccs cl)) => round_s A6 c6 cl W h hll)
      clear ho6 hb6
      go_wp2_with fail
      go_region_held3 (fun w' => w'.cell? ⟨g, 2, none⟩ = some (.int .u64 b.rd) ∧ w'.cell? ⟨g, 4, none⟩ = some (.slice A6 cl.length c6)) ((refine ⟨?_, ?_⟩ <;> (rw [cell?_box]; rfl)))
        (first | (go_at_call 35; (with_reducible refine (TO.out _ ?_).mono ?_); (focus (exact HR6.out.tc.1)); rintro e w7 ⟨rfl, hb7⟩; haveI : Stp _ w7 := ⟨hb7⟩; clear hb7) | fail)
      all_goals
        obtain ⟨GA, hGA⟩ : ∃ GA, GA = b.GA := ⟨_, rfl⟩
        have HM7 := hide (show MK w7 C g (⟨b.n, b.i, b.rd, A5, c5, ss, A6, c6, cl, b.TA, b.tc, b.td, GA, b.gc, b.gt, b.dn, b.sp, b.vw⟩ : Ag) tu0 by
          rw [hGA]
          refine MK.below (X := w6.setCell ⟨g, 4, none⟩ (.slice A6 cl.length c6)) ?_ blw
          refine HM6.out.upd (.of_cs (@BoxAt.setAt _ g 4 _ _ _ HM6.out.bx) rfl) (.set _ _ _ (List.mem_singleton.2 rfl)) rfl rfl rfl rfl rfl rfl ?_ ?_
          · have key : ∀ W, Trc C w6 W → AgO W C (⟨b.n, b.i, b.rd, A5, c5, ss, A6, c6, cl, b.TA, b.tc, b.td, b.GA, b.gc, b.gt, b.dn, b.sp, b.vw⟩ : Ag) := fun W i => by
              have k := HM6.out.ao.tr i.h
              exact ⟨k.s, k.sl, HR6.out.tr i.h.av, hll6, k.t, k.tl, k.p, k.pl, k.v⟩
            exact key _ inferInstance
          · have key : ∀ W, Trc C w6 W → TuO W C tu0 := fun W i => HM6.out.uo.tr i.h
            exact key _ inferInstance)
        clear hGA
        have hgw7 := HM7.out.bx.lt
        have hpl : b.gt.length ≤ 1000 := HM7.out.ao.pl
        haveI : LtN g w7.heap.size := ⟨hgw7⟩
        haveI : BoxAt w7 g (mkC (⟨b.n, b.i, b.rd, A5, c5, ss, A6, c6, cl, b.TA, b.tc, b.td, GA, b.gc, b.gt, b.dn, b.sp, b.vw⟩ : Ag) tu0) 92 := HM7.out.bx
        haveI : Src w7 GA b.gt.length 6 (pps b.gt) := ⟨Reads.of_own HM7.out.go⟩
        have HB2 := hide (show BoxAt w7 (w.heap.size + 1 + 1) _ 38 from inferInstance)
        have HB3 := hide (show BoxAt w7 (w.heap.size + 1 + 1 + 1) _ 43 from inferInstance)
        have HPA := hide (show PaOk (⟨b.n, b.i, b.rd, A5, c5, ss, A6, c6, cl, b.TA, b.tc, b.td, GA, b.gc, b.gt, b.dn, b.sp, b.vw⟩ : Ag) tu0 from ⟨HIW.out, HTG.out, by simp⟩)
        have HML := hide (show mostL { b.br with ss := ss, cl := cl } = mostU (⟨b.n, b.i, b.rd, A5, c5, ss, A6, c6, cl, b.TA, b.tc, b.td, GA, b.gc, b.gt, b.dn, b.sp, b.vw⟩ : Ag) b.gt.length by rw [mostU_all]; exact mostL_br (⟨b.n, b.i, b.rd, A5, c5, ss, A6, c6, cl, b.TA, b.tc, b.td, GA, b.gc, b.gt, b.dn, b.sp, b.vw⟩ : Ag))
        have HMG := hide (show 0 ≤ mostL { b.br with ss := ss, cl := cl } ∧ mostL { b.br with ss := ss, cl := cl } ≤ um from (mostL_ge _).2 HIW.out.r0 HIW.out)
        have TH2 := hide (fun (p : Pp) W (h : Reads W W.heap.size 2 A5 ss.length (pcs ss)) => has_b A5 c5 ss p.n p.i W h hsl)
        go_wp2_with fail
        go_loopw [9, 73] (fun s9 s73 wr => ∃ m : Nat, s9 = .int .u64 (mostU (⟨b.n, b.i, b.rd, A5, c5, ss, A6, c6, cl, b.TA, b.tc, b.td, GA, b.gc, b.gt, b.dn, b.sp, b.vw⟩ : Ag) m) ∧ s73 = .int .i64 m ∧ m ≤ b.gt.length ∧ Below w7.heap.size w7 wr) (fun _ s73 _ => b.gt.length - (intOf s73).toNat)
        case atStart => exact ⟨0, rfl, rfl, Nat.zero_le _, blw⟩
        case round =>
          obtain ⟨m, rfl, rfl, hm, hB⟩ := hrel
          haveI : Stp w7 wr := ⟨hB⟩
          have zr := hB.size
          haveI : LtN g wr.heap.size := ⟨by omega⟩
          clear hB
          by_cases hlt : m < b.gt.length
          · obtain ⟨bb, off, p, hA, hb, hp, g0, g1, g2, g3, g4, g5⟩ := (src (w := w7) (W := wr) (A := GA) (n := b.gt.length) (k := 6) (xs := pps b.gt)).at6 hlt
            subst hA
            haveI : InW bb wr := ⟨hb⟩
            have HMS := hide (mostU_succ (a := (⟨b.n, b.i, b.rd, A5, c5, ss, A6, c6, cl, b.TA, b.tc, b.td, some ⟨bb, off, none⟩, b.gc, b.gt, b.dn, b.sp, b.vw⟩ : Ag)) hp)
            have i0 : (0 : Int) ≤ (m : Int) := by omega
            have i1 : (m : Int) < (b.gt.length : Int) := by omega
            have TH2 := hide (fun W h => TH2.out p W h)
            clear hp
            generalize mostU (⟨b.n, b.i, b.rd, A5, c5, ss, A6, c6, cl, b.TA, b.tc, b.td, some ⟨bb, off, none⟩, b.gc, b.gt, b.dn, b.sp, b.vw⟩ : Ag) m = q at HMS ⊢
            cases hh : decide ((p.n, p.i) ∈ ss)
            · have TH2 := hide (fun W h => (by have := TH2.out W h; rw [hh] at this; exact this : Calls Tryz.prog 30 #[.slice A5 ss.length c5, .agg #[.int .i64 p.n, .int .u64 p.i]] W (RetB W false)))
              have HMS := hide (show mostU (⟨b.n, b.i, b.rd, A5, c5, ss, A6, c6, cl, b.TA, b.tc, b.td, some ⟨bb, off, none⟩, b.gc, b.gt, b.dn, b.sp, b.vw⟩ : Ag) (m + 1) = q from HMS.out.trans (if_neg (of_decide_eq_false hh)))
              clear hh
              go_wp2_with fail
              go_region_held3 (fun w' => w'.cell? ⟨g, 3, none⟩ = some (.slice A5 ss.length c5) ∧ w'.cell? ⟨wr.heap.size, 0, none⟩ = some (.int .i64 p.n) ∧ w'.cell? ⟨wr.heap.size, 1, none⟩ = some (.int .u64 p.i)) ((refine ⟨?_, ?_, ?_⟩ <;> (rw [cell?_box]; rfl)))
                (first | (go_at_call 30; (with_reducible refine (TH2.out _ ?_).mono ?_); (focus (exact (HM7.out.ao.s.tr (.bel blw)).1)); rintro e w8 ⟨rfl, hb8⟩; haveI : Stp _ w8 := ⟨hb8⟩; clear hb8) | fail)
              all_goals
                go_wp2
                go_roundw
                case rel => exact ⟨m + 1, by rw [HMS.out], by go_num, by omega, blw⟩
                case measure => simp [intOf]; omega
            · have TH2 := hide (fun W h => (by have := TH2.out W h; rw [hh] at this; exact this : Calls Tryz.prog 30 #[.slice A5 ss.length c5, .agg #[.int .i64 p.n, .int .u64 p.i]] W (RetB W true)))
              have HMS := hide (show mostU (⟨b.n, b.i, b.rd, A5, c5, ss, A6, c6, cl, b.TA, b.tc, b.td, some ⟨bb, off, none⟩, b.gc, b.gt, b.dn, b.sp, b.vw⟩ : Ag) (m + 1) = max q p.rd from HMS.out.trans (if_pos (of_decide_eq_true hh)))
              clear hh
              go_wp2_with fail
              go_region_held3 (fun w' => w'.cell? ⟨g, 3, none⟩ = some (.slice A5 ss.length c5) ∧ w'.cell? ⟨wr.heap.size, 0, none⟩ = some (.int .i64 p.n) ∧ w'.cell? ⟨wr.heap.size, 1, none⟩ = some (.int .u64 p.i)) ((refine ⟨?_, ?_, ?_⟩ <;> (rw [cell?_box]; rfl)))
                (first | (go_at_call 30; (with_reducible refine (TH2.out _ ?_).mono ?_); (focus (exact (HM7.out.ao.s.tr (.bel blw)).1)); rintro e w8 ⟨rfl, hb8⟩; haveI : Stp _ w8 := ⟨hb8⟩; clear hb8) | fail)
              all_goals
                go_wp2
                go_roundw
                case rel => exact ⟨m + 1, by rw [HMS.out], by go_num, by omega, blw⟩
                case measure => simp [intOf]; omega
          · obtain rfl : m = b.gt.length := by omega
            rw [← HML.out]
            have hwr := wrap_up HMG.out.1 HMG.out.2
            have HWR := hide hwr
            have HUP := hide (upU_range HMG.out.1 HMG.out.2)
            clear hwr
            generalize mostL { b.br with ss := ss, cl := cl } = mo at HN HML HMG HWR HUP
            have TPR := hide (fun W (hW : MK W C g (⟨b.n, b.i, b.rd, A5, c5, ss, A6, c6, cl, b.TA, b.tc, b.td, GA, b.gc, b.gt, b.dn, b.sp, b.vw⟩ : Ag) tu0) => propose_s g C (⟨b.n, b.i, b.rd, A5, c5, ss, A6, c6, cl, b.TA, b.tc, b.td, GA, b.gc, b.gt, b.dn, b.sp, b.vw⟩ : Ag) tu0 (upU mo) W hW HPA.out.rise (by have := HPA.out.gl; omega) (fun p hp => by have := HPA.out.cs p hp; omega) (fun x hx => by have := HCL.out x hx; exact ⟨this.2.1, this.2.2.1⟩) (by simp))
            go_wp2_with fail
            rw [HWR.out]
            (with_reducible refine (TPR.out _ (HM7.out.below blw)).mono ?_)
            rintro e w8 ⟨rfl, C8, a8, t8, hM8, ha8, ht8, hT8⟩
            have hpp := PaOk.prop (a := (⟨b.n, b.i, b.rd, A5, c5, ss, A6, c6, cl, b.TA, b.tc, b.td, GA, b.gc, b.gt, b.dn, b.sp, b.vw⟩ : Ag)) (t := tu0) (n := upU mo) HPA.out.inv HPA.out.tog (by simp) HUP.out.1 HUP.out.2 ha8 ht8
            have TAG := hide (agree18_s g C8 a8 t8 w8 hM8 hpp.1 (by have := hpp.2; simp at this; omega))
            have HT8 := hide ((Tr.bel (C := C) (blw (a := w7) (W := wr))).trans hT8)
            have HA8 := hide ha8
            have HU8 := hide ht8
            clear hM8 hpp hT8 ha8 ht8
            go_wp2_with fail
            (with_reducible refine TAG.out.mono ?_)
            rintro e w9 ⟨rfl, C9, a9, t9, hM9, ha9, ht9, hT9⟩
            have HT9 := hide (HT8.out.trans hT9)
            have HM9 := hide hM9
            have HA9 := hide ha9
            have HU9 := hide ht9
            clear hM9 hT9 ha9 ht9
            have hn2 : w.heap.size + 1 + 1 ∉ C := fun hm => by have := HC.out _ hm; omega
            have hn3 : w.heap.size + 1 + 1 + 1 ∉ C := fun hm => by have := HC.out _ hm; omega
            have hB2 := (HT9.out.box HB2.out hn2).1
            have hB3 := (HT9.out.box HB3.out hn3).1
            haveI := hB2
            haveI := hB3
            have hl2 := hB2.lt
            have hl3 := hB3.lt
            haveI : LtN (w.heap.size + 1 + 1) w9.heap.size := ⟨hl2⟩
            haveI : LtN (w.heap.size + 1 + 1 + 1) w9.heap.size := ⟨hl3⟩
            go_wp2_with fail
            (with_reducible refine (TE.out C9 a9 t9 _ HM9.out).mono ?_)
            rintro e w10 ⟨rfl, hb10⟩
            haveI : Stp _ w10 := ⟨hb10⟩
            have HM10 := hide (HM9.out.below hb10)
            have HT10 := hide (HT9.out.trans (.bel hb10))
            clear hb10
            go_wp2_with fail
            refine bodyPost_ret (v := .tuple #[a9.v, t9.v]) (by simp [results, Tryz.results9, go_sem]) rfl ?_
            exact AT.fin HAV.out HD.out (by omega) (by omega) HM10.out (fun i hi => by have := HT10.out.ge (B := w.heap.size + 1 + 1 + 1 + 1) HC.out (by have := HM7.out.bx.lt; omega) i hi; omega) ((blw (a := w) (W := w7)).trans (HT10.out.g.below (blw (a := w)).size (fun i hi => by have := HC.out i hi; omega))) (Trc.h (C := [w.heap.size + 1 + 1, w.heap.size + 1 + 1 + 1])).g (by rw [HN.out, HA9.out, HA8.out, HU8.out]; rfl) (by rw [HN.out, HU9.out, HA8.out, HU8.out]; rfl)
    · have HN := hide (show renewP a.br ss cl = (b.br, tu0) by rw [HR.out]; unfold renewP; exact if_pos HRB.out.symm)
      go_wp2_with fail
      (with_reducible refine (TE.out C b tu0 _ ?_).mono ?_)
      · exact HM.out.below blw
      rintro e w3 ⟨rfl, hb3⟩
      haveI : Stp _ w3 := ⟨hb3⟩
      have HM3 := hide ((HM.out.below blw).below hb3)
      clear hb3
      go_wp2_with fail
      refine bodyPost_ret (v := .tuple #[b.v, tu0.v]) (by simp [results, Tryz.results9, go_sem]) rfl ?_
      exact AT.fin HAV.out HD.out (by omega) (by omega) HM3.out (fun i hi => by have := HC.out i hi; omega) blw (Trc.h (C := [w.heap.size + 1 + 1, w.heap.size + 1 + 1 + 1])).g (by rw [HN.out]) (by rw [HN.out]; rfl)
end Go.Proofs.YtkglclekieckoaaGreat
