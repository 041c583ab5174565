/-
  Layer 9: contracts: proc.Sorted, proposal.View: what they hand back lies in new blocks.
-/
import Derived.Test.YtkglclekieckoaaGreatPv2
import Derived.Test.YtkglclekieckoaaGreatPpM
namespace Go.Proofs.YtkglclekieckoaaGreat
set_option linter.unusedSimpArgs false
set_option linter.unusedVariables false
set_option linter.unusedSectionVars false
open Go.RowKit Go.Maps

set_option maxHeartbeats 400000 in
theorem sorted_f (A : Option Addr) (c : Nat) (l : List (Int × Int)) (w : World) (hR : Reads w w.heap.size 2 A l.length (pcs l)) (hn : l.length ≤ 1000000) :
    Calls Tryz.prog 41 #[.slice A l.length c] w fun e w' => ∃ A', e = .returned (.slice A' (sortedL l).length (sortedL l).length) ∧ Reads w' w'.heap.size 2 A' (sortedL l).length (pcs (sortedL l)) ∧ (∀ a, A' = some a → w.heap.size ≤ a.block) ∧ Below w.heap.size w w' := by
  go_enter Tryz.func41, Tryz.ntmps41
  go_wp2_with fail
  refine (clone_any A c l w hR hn).mono ?_
  rintro e w1 ⟨v, rfl, hown, hb1⟩
  rcases hown.2 with ⟨rfl, h0⟩ | ⟨g, cap, cur, rfl, hbase, hg, hlc, hcm, hcs, htake⟩
  · have hl : l = [] := List.eq_nil_of_length_eq_zero h0
    subst hl
    have H := hide (show sortedL [] = [] by unfold sortedL; rw [show sortL [] = [] by simp [sortL]]; exact compact_short (by simp))
    go_wp2_with (first | (go_at_call 81; refine (sortFunc_none _ _ _ _).mono ?_; rintro e w' ⟨rfl, rfl⟩) | (go_at_call 84; refine (compact_few _ _ _ _ (by omega)).mono ?_; rintro e w' ⟨rfl, rfl⟩) | (go_at_call 83; refine (clip_any _ _ _ _ (by omega) (by omega) (by unfold maxLen; omega)).mono ?_; rintro e w' ⟨rfl, rfl⟩))
    go_ret
    rw [H.out]
    exact ⟨none, rfl, Reads.none_, fun _ h => by (cases h), hb1⟩
  · have hlt : g < w1.heap.size := by
      rcases Nat.lt_or_ge g w1.heap.size with hlt | hge
      · exact hlt
      · rw [Array.getElem?_eq_none hge] at hg; cases hg
    have HO := hide hown
    clear hg hcs htake hown
    go_wp2_with fail
    refine (sortFunc_own w.heap.size g cap l w1 HO.out hlt hn).mono ?_
    rintro e w2 ⟨rfl, hown2, hg2⟩
    have hsl := sortL_len l
    have hcl := compact_len (sortL l)
    rw [hsl] at hcl
    have HO2 := hide hown2
    have HG2 := hide hg2
    have HS := hide hsl
    have C := compact_own w.heap.size g cap (sortL l) w2 HO2.out (by omega) (by omega) hcm
    rw [HS.out] at C
    have HC := hide C
    clear C hown2 hg2 hsl
    go_wp2_with fail
    refine HC.out.mono ?_
    rintro e w3 ⟨rfl, hown3, hg3⟩
    have HO3 := hide hown3
    have HG3 := hide hg3
    clear hown3 hg3
    go_wp2_with fail
    refine (clip_any _ _ _ _ (by omega) (by omega) hcm).mono ?_
    rintro e w4 ⟨rfl, rfl⟩
    go_wp2
    go_ret
    refine ⟨some ⟨g, 0, none⟩, rfl, Reads.of_own HO3.out, fun a h => by (injection h with h; subst h; exact hbase), ?_⟩
    exact (hb1.grown HG2.out hb1.size (fun k hk => by injection hk with hk; omega)).grown HG3.out (Nat.le_trans hb1.size HG2.out.size) (fun k hk => by injection hk with hk; omega)

/-- a row of lives in new memory, in new blocks -/
def RetSf (w : World) (l : List Pr) (e : Ending) (w' : World) : Prop := ∃ A c, e = .returned (.slice A l.length c) ∧ Sl w' A l ∧ (∀ a, A = some a → w.heap.size ≤ a.block) ∧ Below w.heap.size w w'
theorem sortedF_s (A : Option Addr) (c : Nat) (l : List Pr) (w : World) (h : Sl w A l) (hn : l.length ≤ 1000000) : Calls Tryz.prog 41 #[.slice A l.length c] w (RetSf w (sortedL l)) :=
  (sorted_f A c l w h hn).mono fun _ _ ⟨A', h1, h2, h3, h4⟩ => ⟨A', _, h1, h2, h3, h4⟩
/-- a view in new memory, in new blocks, and whether there is one -/
def RetVf (w : World) (o : Option ((Int × Int × Int) × List Pr × List Int)) (e : Ending) (w' : World) : Prop :=
  match o with
  | none => e = .returned (.tuple #[.agg #[.int .u64 0, .int .i64 0, .int .u64 0, .slice none 0 0, .slice none 0 0], .bool false]) ∧ Below w.heap.size w w'
  | some x => ∃ MA mc UA uc, e = .returned (.tuple #[.agg #[.int .u64 x.1.1, .int .i64 x.1.2.1, .int .u64 x.1.2.2, .slice MA x.2.1.length mc, .slice UA x.2.2.length uc], .bool true]) ∧ Vw.Ok w' ⟨x.1.1, x.1.2.1, x.1.2.2, MA, mc, x.2.1, UA, uc, x.2.2⟩ ∧ (∀ a, MA = some a → w.heap.size ≤ a.block) ∧ (∀ a, UA = some a → w.heap.size ≤ a.block) ∧ Below w.heap.size w w'
theorem retVf_no {w : World} {l : List Pp} (h : viewP l = none) {e : Ending} {w' : World} (he : e = .returned (.tuple #[.agg #[.int .u64 0, .int .i64 0, .int .u64 0, .slice none 0 0, .slice none 0 0], .bool false])) (hb : Below w.heap.size w w') : RetVf w (viewP l) e w' := by
  rw [h]; exact ⟨he, hb⟩
set_option maxRecDepth 100000 in
set_option maxHeartbeats 4000000 in
theorem pview_f (A : Option Addr) (c : Nat) (l : List Pp) (w : World) (h : Pl w A l) (hn : l.length ≤ 1000000) (hwf : ∀ x ∈ l, ∀ p ∈ x.cs, wfP p) : Calls Tryz.prog 11 #[.slice A l.length c] w (RetVf w (viewP l)) := by
  have T1 := hide (agree_s A c l _ (h.step (below_alloc w (bxV 0 0 0 none 0 0 none 0 0))) hn)
  have hmm := @run_makeMap Tryz.prog
  have HP := hide h
  have HWF := hide hwf
  clear h hwf
  have p0 := boxTop w #[.int .u64 0, .int .i64 0, .int .u64 0, .slice none 0 0, .slice none 0 0] 36
  cases hag : agreeB l
  · rw [hag] at T1
    have HN : Hid (viewP l = none) := hide (by unfold viewP; rw [if_pos hag])
    clear hag
    go_enter Tryz.func11, Tryz.ntmps11
    go_wp2_with fail
    (with_reducible refine T1.out.mono ?_)
    rintro e w1 ⟨rfl, hb⟩
    have p1 := p0.step hb
    haveI := p1
    have hB1 := below_step (below_alloc w (bxV 0 0 0 none 0 0 none 0 0)) hb
    obtain ⟨k3, g3⟩ := set5 p1 (.int .u64 0) (.int .i64 0) (.int .u64 0) (.slice none 0 0) (.slice none 0 0)
    have HB3 := hide (hB1.trans (grown_to_below g3 (Nat.le_refl _) hB1.size))
    clear hb T1 p0 p1 hB1
    go_wp2
    generalize ((((w1.setCell ⟨w.heap.size, 0, none⟩ (.int .u64 0)).setCell ⟨w.heap.size, 1, none⟩ (.int .i64 0)).setCell ⟨w.heap.size, 2, none⟩ (.int .u64 0)).setCell ⟨w.heap.size, 3, none⟩ (.slice none 0 0)).setCell ⟨w.heap.size, 4, none⟩ (.slice none 0 0) = W3 at k3 HB3 ⊢
    haveI := k3
    refine bodyPost_ret (v := .tuple #[.agg #[.int .u64 0, .int .i64 0, .int .u64 0, .slice none 0 0, .slice none 0 0], .bool false]) (by simp [results, Tryz.results11, go_sem]) rfl ?_
    exact retVf_no HN.out rfl HB3.out
  · rw [hag] at T1
    obtain ⟨hl4, hmay, hl1⟩ := agreeB_few hag
    have hcl := clsP_len hag
    have HAG := hide hag
    have HM := hide hmay
    clear hag hmay
    go_enter Tryz.func11, Tryz.ntmps11
    go_wp2_with fail
    (with_reducible refine T1.out.mono ?_)
    rintro e w1 ⟨rfl, hb⟩
    have p1 := p0.step hb
    have hB1 := below_step (below_alloc w (bxV 0 0 0 none 0 0 none 0 0)) hb
    have hlt := p1.lt
    have V0 : VB w w1.heap.size (w1.heap.size + 1) (w1.heap.size + 1 + 1) (.slice none 0 0) [] [] (((w1.alloc (.map #[] 0)).alloc (.cells #[.map (some w1.heap.size)] 102)).alloc (.cells #[.slice none 0 0] 27)) := by
      refine ⟨((p1.alloc' _).alloc' _).alloc' _, ?_, ?_, ?_, own_nilP _ _, ((hB1.alloc (by omega) _).alloc (by simp; omega) _).alloc (by simp; omega) _, by omega, by omega, by omega⟩
      · have := (boxTop (w1.alloc (.map #[] 0)) #[.map (some w1.heap.size)] 102).alloc' (.cells #[.slice none 0 0] 27)
        rwa [World.size_alloc] at this
      · have := boxTop ((w1.alloc (.map #[] 0)).alloc (.cells #[.map (some w1.heap.size)] 102)) #[.slice none 0 0] 27
        rwa [World.size_alloc, World.size_alloc] at this
      · exact ((mapF_made w1 25).step (below_alloc _ _)).step (below_alloc _ _)
    have HV0 := hide V0
    clear hb T1 p0 p1 hB1 V0
    go_wp2
    go_loopw [22] (fun i wr => ∃ (k : Nat) (v : Value) (Lm : List (Pr × Int)) (La : List Pr), k ≤ l.length ∧ i = .int .i64 k ∧ VB w w1.heap.size (w1.heap.size + 1) (w1.heap.size + 1 + 1) v Lm La wr ∧ Lm = prs (l.take k) ∧ La = clsP (l.take k)) (fun i _ => l.length - (intOf i).toNat)
    case atStart => exact ⟨0, _, [], [], Nat.zero_le _, rfl, HV0.out, rfl, rfl⟩
    case round =>
      obtain ⟨k, v, Lm, La, hk, rfl, V, hLm, hLa⟩ := hrel
      have HLm := hide hLm
      have HLa := hide hLa
      have HV := hide V
      clear HV0 hLm hLa V
      obtain ⟨wo, rfl⟩ : ∃ wo, wo = wr := ⟨wr, rfl⟩
      by_cases hlt2 : k < l.length
      · have hPW := HP.out.r.below HV.out.hB
        obtain ⟨b, off, y, rfl, hb, hp, g1, g2, g3, g4, g5, g6⟩ := hPW.at6 hlt2
        have hyl : y ∈ l := List.mem_of_getElem? hp
        have oky := HP.out.ok y hyl
        have fy := mayB_facts (HM.out y hyl)
        have hcsu : y.us.length = y.cs.length := fy.2.2.2.2.2.2.2.2.2.1
        have hcs6 : y.cs.length ≤ 6 := fy.2.2.2.2.2.2.1
        have HY := hide oky
        have HWy := hide (HWF.out y hyl)
        have HPk := hide hp
        have hszw := HV.out.hB.size
        have HLN := hide (show La.length ≤ 24 ∧ Lm.length = La.length by
          rw [HLa.out, HLm.out, (prs_len (fun x hx => (mayB_facts (HM.out x (List.mem_of_mem_take hx))).2.2.2.2.2.2.2.2.2.1)).1]
          exact ⟨Nat.le_trans (clsP_le l k) hcl, rfl⟩)
        have HCU := hide hcsu
        haveI : InW b wo := ⟨by omega⟩
        have i1 : (k : Int) < (l.length : Int) := by omega
        have pt : BoxAt (wo.alloc (bxP y.n y.i y.rd y.SA y.ss.length y.sc y.CA y.cs.length y.cc y.UA y.us.length y.uc)) wo.heap.size (csP y.n y.i y.rd y.SA y.ss.length y.sc y.CA y.cs.length y.cc y.UA y.us.length y.uc) 41 := boxTop _ _ _
        have hv8 : v.ownBlock ≠ some wo.heap.size := fun e => by have := (HV.out.oa.lt _ e).2; omega
        have ht5 := HV.out.k5.lt
        have HV1 := hide (HV.out.below (below_alloc wo (bxP y.n y.i y.rd y.SA y.ss.length y.sc y.CA y.cs.length y.cc y.UA y.us.length y.uc)))
        have HT := hide pt
        have HV8 := hide hv8
        clear hp hyl oky fy hcsu hPW pt hv8
        obtain ⟨n, i, rd, SA, sc, ss, CA, cc, cs, UA, uc, us⟩ := y
        simp only at g1 g2 g3 g4 g5 g6 hcs6
        go_wp2
        go_loopw [29] (fun j wx => ∃ (m : Nat) (v' : Value) (Lm' : List (Pr × Int)) (La' : List Pr), m ≤ cs.length ∧ j = .int .i64 m ∧ VB w w1.heap.size (w1.heap.size + 1) (w1.heap.size + 1 + 1) v' Lm' La' wx ∧ Lm' = Lm ++ (cs.zip us).take m ∧ La' = La ++ cs.take m ∧ BoxAt wx wo.heap.size (csP n i rd SA ss.length sc CA cs.length cc UA us.length uc) 41 ∧ v'.ownBlock ≠ some wo.heap.size) (fun j _ => cs.length - (intOf j).toNat)
        case atStart => exact ⟨0, v, Lm, La, Nat.zero_le _, rfl, HV1.out, by simp, by simp, HT.out, HV8.out⟩
        case round =>
          obtain ⟨m, v', Lm', La', hm, rfl, V', hLm', hLa', hbx, hv8'⟩ := hrel
          have HLm' := hide hLm'
          have HLa' := hide hLa'
          have HLN' := hide (show La'.length ≤ 24 + cs.length ∧ Lm'.length ≤ 24 + cs.length by
            have := HLN.out
            have := HCU.out
            rw [hLm', hLa']; simp; omega)
          have HV' := hide V'
          have HV8' := hide hv8'
          haveI := hbx
          clear HV1 HT HV8 hLm' hLa' V' hv8' HV
          by_cases hlt3 : m < cs.length
          · have hmu : m < us.length := by have := HCU.out; omega
            have hp2 : cs[m]? = some cs[m] := List.getElem?_eq_getElem hlt3
            have hq2 : us[m]? = some us[m] := List.getElem?_eq_getElem hmu
            have hw2 := HWy.out _ (List.getElem_mem (l := cs) hlt3)
            have hz : (cs.zip us)[m]? = some (cs[m], us[m]) := by rw [List.getElem?_zip_eq_some]; exact ⟨hp2, hq2⟩
            have HZ := hide hz
            have HC2 := hide hp2
            generalize cs[m] = p at hp2 hw2 HZ HC2
            generalize us[m] = u at hq2 HZ
            have T2 := hide (bring_s w wr w1.heap.size (w1.heap.size + 1) (w1.heap.size + 1 + 1) m v' Lm' La' ⟨n, i, rd, SA, sc, ss, CA, cc, cs, UA, uc, us⟩ p u HV'.out HY.out.c HY.out.u hp2 hq2 hw2 (by have := HLN'.out; omega) (by have := HLN'.out; omega))
            simp only at T2
            clear hp2 hq2 hz hw2
            go_wp2_with (go_at_call 39; (with_reducible refine T2.out.mono ?_); rintro e w2 ⟨rfl, v2, V2, K2, hob⟩)
            have hbx2 := K2 _ _ _ (by omega) (by omega) HV8'.out hbx
            go_roundw
            case rel =>
              refine ⟨m + 1, v2, _, _, by omega, by go_num, V2, ?_, ?_, hbx2, ?_⟩
              · rw [HLm'.out, take_succ_of HZ.out, List.append_assoc]
              · rw [HLa'.out, take_succ_of HC2.out, List.append_assoc]
              · rcases hob with h | ⟨r, h, h2⟩
                · rw [h]; exact HV8'.out
                · rw [h]; intro e; injection e with e; have := hbx.lt; omega
            case measure => simp [intOf]; omega
          · obtain rfl : m = cs.length := by omega
            have HA1 := hide (show Lm' = prs (l.take (k + 1)) by
              rw [HLm'.out, (clsP_take HPk.out).2, ← HLm.out]
              congr 1
              have := HCU.out
              rw [List.take_of_length_le (by simp; omega)])
            have HA2 := hide (show La' = clsP (l.take (k + 1)) by rw [HLa'.out, (clsP_take HPk.out).1, ← HLa.out, List.take_length])
            go_wp2
            go_roundw
            case rel => exact ⟨k + 1, v', Lm', La', by omega, by go_num, HV'.out, HA1.out, HA2.out⟩
            case measure => simp [intOf]; omega
      · obtain rfl : k = l.length := by omega
        have HLm2 := hide (show Lm = prs l by rw [HLm.out, List.take_length])
        have HLa2 := hide (show La = clsP l by rw [HLa.out, List.take_length])
        have hLa24 : La.length ≤ 24 := by rw [HLa2.out]; exact hcl
        have HLW : Hid (∀ p ∈ La, wfP p ∧ mayB p.1 p.2 = true) := hide (fun p hp => by
          rw [HLa2.out] at hp
          obtain ⟨x, hx, hp⟩ := List.mem_flatMap.1 hp
          exact ⟨HWF.out x hx p hp, setB_may (mayB_facts (HM.out x hx)).2.2.2.2.2.2.2.1 p hp⟩)
        have V := HV.out
        obtain ⟨FA, fc, rfl, _, _⟩ := own_slice V.oa
        have T3 := hide (fun W hW => nodes_s FA fc La W hW (by omega))
        have T5 := hide (fun W hW => sortedF_s FA fc La W hW (by omega))
        have HFS : Hid (Sl wo FA La) := hide (Reads.of_own V.oa)
        haveI := V.k2
        haveI := V.k5
        have HVP := hide (show viewP l = if La.length < 1 ∨ 6 < La.length ∨ livesB La = false then none else some (((l.getD 0 default).rd, ((l.getD 0 default).ss.getD 0 (0, 0)).1, ((l.getD 0 default).ss.getD 0 (0, 0)).2), sortedL La, (sortedL La).map (lookL Lm)) by
          unfold viewP
          rw [if_neg (by rw [HAG.out]; simp), HLa2.out, HLm2.out])
        have hlv := lives_nodes La
        have hnl := sortedL_len La
        generalize nodesL La = N at T3 hlv
        generalize f1 : decide ((La.length : Int) < 1) = b1
        generalize f2 : decide (6 < (La.length : Int)) = b2
        generalize f3 : ((N.length : Int) != (La.length : Int)) = b3
        have hlv' : livesB La = !b3 := by rw [← hlv, ← f3, bne, Bool.not_not]
        have HLV := hide hlv'
        clear HV hlv hlv' HLm HLa HLm2 HLa2
        have key : b1 = true ∨ (b1 = false ∧ b2 = true) ∨ (b1 = false ∧ b2 = false ∧ b3 = true) ∨ (b1 = false ∧ b2 = false ∧ b3 = false) := by
          cases b1 <;> cases b2 <;> cases b3 <;> simp
        rcases key with rfl | ⟨rfl, rfl⟩ | ⟨rfl, rfl, rfl⟩ | ⟨rfl, rfl, rfl⟩
        · have HN : Hid (viewP l = none) := hide (HVP.out.trans (if_pos (.inl (by simp at f1; omega))))
          obtain ⟨k3, g3⟩ := set5 V.k2 (.int .u64 0) (.int .i64 0) (.int .u64 0) (.slice none 0 0) (.slice none 0 0)
          have HB3 := hide (V.hB.trans (grown_to_below g3 (Nat.le_refl _) V.hB.size))
          clear V
          go_wp2
          generalize ((((wo.setCell ⟨w.heap.size, 0, none⟩ (.int .u64 0)).setCell ⟨w.heap.size, 1, none⟩ (.int .i64 0)).setCell ⟨w.heap.size, 2, none⟩ (.int .u64 0)).setCell ⟨w.heap.size, 3, none⟩ (.slice none 0 0)).setCell ⟨w.heap.size, 4, none⟩ (.slice none 0 0) = W3 at k3 HB3 ⊢
          haveI := k3
          refine bodyPost_ret (v := .tuple #[.agg #[.int .u64 0, .int .i64 0, .int .u64 0, .slice none 0 0, .slice none 0 0], .bool false]) (by simp [results, Tryz.results11, go_sem]) rfl ?_
          exact retVf_no HN.out rfl HB3.out
        · have HN : Hid (viewP l = none) := hide (HVP.out.trans (if_pos (.inr (.inl (by simp at f2; omega)))))
          obtain ⟨k3, g3⟩ := set5 V.k2 (.int .u64 0) (.int .i64 0) (.int .u64 0) (.slice none 0 0) (.slice none 0 0)
          have HB3 := hide (V.hB.trans (grown_to_below g3 (Nat.le_refl _) V.hB.size))
          clear V
          go_wp2
          generalize ((((wo.setCell ⟨w.heap.size, 0, none⟩ (.int .u64 0)).setCell ⟨w.heap.size, 1, none⟩ (.int .i64 0)).setCell ⟨w.heap.size, 2, none⟩ (.int .u64 0)).setCell ⟨w.heap.size, 3, none⟩ (.slice none 0 0)).setCell ⟨w.heap.size, 4, none⟩ (.slice none 0 0) = W3 at k3 HB3 ⊢
          haveI := k3
          refine bodyPost_ret (v := .tuple #[.agg #[.int .u64 0, .int .i64 0, .int .u64 0, .slice none 0 0, .slice none 0 0], .bool false]) (by simp [results, Tryz.results11, go_sem]) rfl ?_
          exact retVf_no HN.out rfl HB3.out
        · have HN : Hid (viewP l = none) := hide (HVP.out.trans (if_pos (.inr (.inr (by rw [HLV.out]; rfl)))))
          go_wp2_with (go_at_call 40; (with_reducible refine (T3.out _ HFS.out).mono ?_); rintro e w3 ⟨NA, NC, rfl, hN, hb⟩; have V3 := V.below hb; haveI := V3.k2; clear hb hN V)
          go_wp2_with fail
          obtain ⟨k3, g3⟩ := set5 V3.k2 (.int .u64 0) (.int .i64 0) (.int .u64 0) (.slice none 0 0) (.slice none 0 0)
          have HB3 := hide (V3.hB.trans (grown_to_below g3 (Nat.le_refl _) V3.hB.size))
          clear V3
          go_wp2
          generalize ((((w3.setCell ⟨w.heap.size, 0, none⟩ (.int .u64 0)).setCell ⟨w.heap.size, 1, none⟩ (.int .i64 0)).setCell ⟨w.heap.size, 2, none⟩ (.int .u64 0)).setCell ⟨w.heap.size, 3, none⟩ (.slice none 0 0)).setCell ⟨w.heap.size, 4, none⟩ (.slice none 0 0) = W3 at k3 HB3 ⊢
          haveI := k3
          refine bodyPost_ret (v := .tuple #[.agg #[.int .u64 0, .int .i64 0, .int .u64 0, .slice none 0 0, .slice none 0 0], .bool false]) (by simp [results, Tryz.results11, go_sem]) rfl ?_
          exact retVf_no HN.out rfl HB3.out
        · have HS : Hid (viewP l = some (((l.getD 0 default).rd, ((l.getD 0 default).ss.getD 0 (0, 0)).1, ((l.getD 0 default).ss.getD 0 (0, 0)).2), sortedL La, (sortedL La).map (lookL Lm))) := hide (HVP.out.trans (if_neg (by rw [HLV.out]; exact fun h => h.elim (fun h => of_decide_eq_false f1 (by omega)) (fun h => h.elim (fun h => of_decide_eq_false f2 (by omega)) (fun h => by cases h)))))
          have hPW := HP.out.r.below V.hB
          obtain ⟨b, off, y, rfl, hb, hp, g1, g2, g3, g4, g5, g6⟩ := hPW.at6 (show 0 < l.length by omega)
          have hyl : y ∈ l := List.mem_of_getElem? hp
          have oky := HP.out.ok y hyl
          have fy := mayB_facts (HM.out y hyl)
          have hss1 : 0 < y.ss.length := by omega
          have hY0 : l.getD 0 default = y := by rw [List.getD_eq_getElem?_getD, hp]; rfl
          rw [hY0] at HS
          obtain ⟨b', off', q, hSA, hb', hq, j1, j2⟩ := (Reads.below oky.s V.hB).at2 hss1
          have hq0 : y.ss.getD 0 (0, 0) = q := by rw [List.getD_eq_getElem?_getD, hq]; rfl
          rw [hq0] at HS
          obtain ⟨n, i, rd, SA, sc, ss, CA, cc, cs, UA, uc, us⟩ := y
          obtain ⟨qn, qi⟩ := q
          simp only at g1 g2 g3 g4 g5 g6 hSA j1 j2 hss1 HS
          subst hSA
          rw [Nat.zero_mul, Nat.add_zero] at g3 g4 j1 j2
          have hszw := V.hB.size
          have hpos : 0 < l.length := by omega
          have hx0 : (0 : Int) < (l.length : Int) := by omega
          have hx1 : (0 : Int) < (ss.length : Int) := by omega
          clear hp hyl oky fy hY0 hq hq0 g1 g2 g5 g6 hPW
          haveI : InW b wo := ⟨by omega⟩
          haveI : InW b' wo := ⟨by omega⟩
          go_wp2_with (go_at_call 40; (with_reducible refine (T3.out _ HFS.out).mono ?_); rintro e w3 ⟨NA, NC, rfl, hN, hb3⟩; have V3 := V.below hb3; haveI := V3.k2; haveI := V3.k5)
          have hm3 : w3.cell? ⟨b, off + 2, none⟩ = some (.int .u64 rd) := (hb3.cell (p := ⟨b, off + 2, none⟩) (show b < _ by omega)).trans g3
          have hm4 : w3.cell? ⟨b, off + 3, none⟩ = some (.slice (some ⟨b', off', none⟩) ss.length sc) := (hb3.cell (p := ⟨b, off + 3, none⟩) (show b < _ by omega)).trans g4
          have hm5 : w3.cell? ⟨b', off', none⟩ = some (.int .i64 qn) := (hb3.cell (p := ⟨b', off', none⟩) (show b' < _ by omega)).trans j1
          have hm6 : w3.cell? ⟨b', off' + 1, none⟩ = some (.int .u64 qi) := (hb3.cell (p := ⟨b', off' + 1, none⟩) (show b' < _ by omega)).trans j2
          have hm7 : w3.cell? ⟨w1.heap.size + 1 + 1, 0, none⟩ = some (.slice FA La.length fc) := (by rw [cell?_box]; rfl)
          have hs3 := hb3.size
          have ht5 := V.k5.lt
          have HK : Hid (∀ W', Below w3.heap.size w3 W' → W'.cell? ⟨b, off + 2, none⟩ = some (.int .u64 rd) ∧ W'.cell? ⟨b, off + 3, none⟩ = some (.slice (some ⟨b', off', none⟩) ss.length sc) ∧ W'.cell? ⟨b', off', none⟩ = some (.int .i64 qn) ∧ W'.cell? ⟨b', off' + 1, none⟩ = some (.int .u64 qi) ∧ W'.cell? ⟨w1.heap.size + 1 + 1, 0, none⟩ = some (.slice FA La.length fc)) := hide (fun W' h' => ⟨(h'.cell (p := ⟨b, off + 2, none⟩) (show b < _ by omega)).trans hm3, (h'.cell (p := ⟨b, off + 3, none⟩) (show b < _ by omega)).trans hm4, (h'.cell (p := ⟨b', off', none⟩) (show b' < _ by omega)).trans hm5, (h'.cell (p := ⟨b', off' + 1, none⟩) (show b' < _ by omega)).trans hm6, (h'.cell (p := ⟨w1.heap.size + 1 + 1, 0, none⟩) (show w1.heap.size + 1 + 1 < _ by omega)).trans hm7⟩)
          have HFS3 := hide (HFS.out.step hb3)
          have HV3 := hide V3
          clear hb3 hN V V3 g3 g4 j1 j2 hm3 hm4 hm5 hm6 hm7
          go_wp2_with fail
          have hB0 : Below w3.heap.size w3 w3.drew := (Below.refl _ _).drew
          haveI : InW b w3 := ⟨by omega⟩
          haveI : InW b' w3 := ⟨by omega⟩
          haveI : InW (w1.heap.size + 1 + 1) w3 := ⟨by omega⟩
          go_region_held3 (fun w' => w'.cell? ⟨b, off + 2, none⟩ = some (.int .u64 rd) ∧ w'.cell? ⟨b, off + 3, none⟩ = some (.slice (some ⟨b', off', none⟩) ss.length sc) ∧ w'.cell? ⟨b', off', none⟩ = some (.int .i64 qn) ∧ w'.cell? ⟨b', off' + 1, none⟩ = some (.int .u64 qi) ∧ w'.cell? ⟨w1.heap.size + 1 + 1, 0, none⟩ = some (.slice FA La.length fc)) (exact HK.out _ (by repeat (first | exact Below.refl _ _ | assumption | refine bel_al ?_ _ | refine bel_gw ?_ _ _ | refine bel_drew ?_ | refine bel_drewN ?_ _ | refine bel_set ?_ _ _)))
            (first
              | (go_at_call 41; (with_reducible refine (T5.out _ (HFS3.out.step (by repeat (first | exact Below.refl _ _ | assumption | refine bel_al ?_ _ | refine bel_gw ?_ _ _ | refine bel_drew ?_ | refine bel_drewN ?_ _)))).mono ?_); rintro e w4 ⟨MA, mc, rfl, hms, hfr, hb4⟩; have hB4 := below_step (show Below w3.heap.size w3 _ from (by repeat (first | exact Below.refl _ _ | assumption | refine bel_al ?_ _ | refine bel_gw ?_ _ _ | refine bel_drew ?_ | refine bel_drewN ?_ _))) hb4; first | (have pb4 := boxAt_ofd hb4; haveI : BoxAt w4 w3.heap.size _ _ := pb4) | (have pb4 := boxAt_of hb4; haveI : BoxAt w4 w3.heap.size _ _ := pb4) | skip))
          all_goals
            have V4 := HV3.out.below hB4
            have hm1 : 0 < (sortedL La).length := by
              rcases hLc : La with _ | ⟨q0, Lr⟩
              · rw [hLc] at f1; simp at f1
              · exact List.length_pos_of_mem (mem_sortedL.2 (by simp : q0 ∈ q0 :: Lr))
            obtain ⟨mb, moff, rfl, hmb, hmc⟩ := hms.2 hm1
            have hfm : w.heap.size ≤ mb := by
              have h1 := hfr ⟨mb, moff, none⟩ rfl
              have h2 := HV3.out.hB.size
              (try simp at h1)
              omega
            clear hfr
            have HMW : Hid (∀ p ∈ sortedL La, wfP p ∧ mayB p.1 p.2 = true) := hide (fun p hp => HLW.out p (mem_sortedL.1 hp))
            have hml : (sortedL La).length ≤ 24 := by omega
            have hz4 := hB4.size
            have hd1 := V4.h1
            have hd5 := V4.k5.lt
            clear T3 T5 HFS HFS3 hms f1 f2 f3 HLV hnl HV3 HK HVP
            generalize sortedL La = ms at hmc hm1 HMW hml HS ⊢
            first
              | (have hne : mb ≠ w3.heap.size := by
                   intro e
                   subst e
                   exact apart_box pb4 hmc hm1 (fun p hp => (HMW.out p hp).2)
                 obtain ⟨k5, g5⟩ := set5 pb4 (.int .u64 rd) (.int .i64 qn) (.int .u64 qi) (.slice (some ⟨mb, moff, none⟩) ms.length mc) (.slice none 0 0)
                 have HVL : Hid (VL w w1.heap.size (w1.heap.size + 1) w3.heap.size w4.heap.size mb moff (.int .u64 rd) (.int .i64 qn) (.int .u64 qi) mc ms Lm (.slice none 0 0) [] (((((w4.setCell ⟨w3.heap.size, 0, none⟩ (.int .u64 rd)).setCell ⟨w3.heap.size, 1, none⟩ (.int .i64 qn)).setCell ⟨w3.heap.size, 2, none⟩ (.int .u64 qi)).setCell ⟨w3.heap.size, 3, none⟩ (.slice (some ⟨mb, moff, none⟩) ms.length mc)).setCell ⟨w3.heap.size, 4, none⟩ (.slice none 0 0))) := hide ⟨V4.k2.grown g5 (by omega), V4.k4.grown g5 (by omega), k5, V4.mp.kept g5 (by simp; omega), fun j u hu => (World.cell?_of_block (a := ⟨mb, moff + j, none⟩) (g5.block mb hmb (fun e => hne (by injection e)))).trans (hmc j u hu), World.ownsRow_nil _ _ _ _, V4.hB.trans (grown_to_below g5 (by omega) V4.hB.size), by omega, by omega, by omega, pb4.lt, by omega, hne, g5.size⟩
                 clear k5 g5
                 generalize (((((w4.setCell ⟨w3.heap.size, 0, none⟩ (.int .u64 rd)).setCell ⟨w3.heap.size, 1, none⟩ (.int .i64 qn)).setCell ⟨w3.heap.size, 2, none⟩ (.int .u64 qi)).setCell ⟨w3.heap.size, 3, none⟩ (.slice (some ⟨mb, moff, none⟩) ms.length mc)).setCell ⟨w3.heap.size, 4, none⟩ (.slice none 0 0)) = W5 at HVL ⊢
                 generalize hNV : w3.heap.size = NV at HVL ⊢
                 generalize hBS : w4.heap.size = BS at HVL)
              | (have HVL : Hid (VL w w1.heap.size (w1.heap.size + 1) w4.heap.size (w4.heap.size + 1) mb moff (.int .u64 rd) (.int .i64 qn) (.int .u64 qi) mc ms Lm (.slice none 0 0) [] (w4.alloc (bxV rd qn qi (some ⟨mb, moff, none⟩) ms.length mc none 0 0))) := hide ⟨V4.k2.alloc' _, V4.k4.alloc' _, boxTop w4 _ _, V4.mp.step (below_alloc _ _), fun j u hu => ((below_alloc w4 _).cell (p := ⟨mb, moff + j, none⟩) hmb).trans (hmc j u hu), World.ownsRow_nil _ _ _ _, below_step V4.hB (below_alloc _ _), by omega, by omega, by omega, by omega, by omega, by omega, by simp⟩
                 generalize w4.alloc (bxV rd qn qi (some ⟨mb, moff, none⟩) ms.length mc none 0 0) = W5 at HVL ⊢
                 generalize hNV : w4.heap.size = NV at HVL ⊢
                 generalize hBS : NV + 1 = BS at HVL)
            have HNV := hide hNV
            have HBS := hide hBS
            clear hNV hBS V4 hB4 hmb hmc hb4
            haveI := HVL.out.kv
            have hszb := HVL.out.hB.size
            go_wp2
            go_loopw [72] (fun j wr => ∃ (m : Nat) (vv : Value) (L : List Int), m ≤ ms.length ∧ j = .int .i64 m ∧ VL w w1.heap.size (w1.heap.size + 1) NV BS mb moff (.int .u64 rd) (.int .i64 qn) (.int .u64 qi) mc ms Lm vv L wr ∧ L = (ms.take m).map (lookL Lm)) (fun j _ => ms.length - (intOf j).toNat)
            case atStart => exact ⟨0, _, [], Nat.zero_le _, rfl, HVL.out, rfl⟩
            case round =>
              obtain ⟨m, vv, L, hm, rfl, V, hLe⟩ := hrel
              obtain ⟨wx, rfl⟩ : ∃ wx, wx = wr := ⟨wr, rfl⟩
              have HLe := hide hLe
              have HLl := hide (show L.length = m by rw [hLe]; simp; omega)
              have HV := hide V
              obtain ⟨UA, uc, rfl, _, _⟩ := own_slice V.ou
              have hz7 := V.h7
              have hz5 := V.h5
              have hz3 := V.h3
              have hz4' := V.h4
              haveI : InW mb wx := ⟨by omega⟩
              haveI := V.kv
              haveI := V.k4
              clear HVL hLe
              by_cases hlt3 : m < ms.length
              · have hp2 : ms[m]? = some ms[m] := List.getElem?_eq_getElem hlt3
                have hw2 := (HMW.out _ (List.getElem_mem hlt3)).1
                have HC2 := hide hp2
                generalize ms[m] = p at hp2 hw2 HC2
                obtain ⟨pn, pi⟩ := p
                obtain ⟨kl, hkey⟩ := keyP hw2
                have c1 : wx.cell? ⟨mb, moff + m * 2, none⟩ = some (.int .i64 pn) := V.rm (m * 2) _ (by have := flat_get pc_len ms m 0 _ hp2 (by omega); simpa [pcs, pc] using this)
                have c2 : wx.cell? ⟨mb, moff + m * 2 + 1, none⟩ = some (.int .u64 pi) := by
                  have := V.rm (m * 2 + 1) (.int .u64 pi) (by have := flat_get pc_len ms m 1 _ hp2 (by omega); simpa [pcs, pc] using this)
                  rw [← Nat.add_assoc] at this; exact this
                have i3 : (m : Int) < (ms.length : Int) := by omega
                have HVb := hide (V.below (below_alloc wx (bx pn pi)))
                have HVd := hide (show VL w w1.heap.size (w1.heap.size + 1) NV BS mb moff (.int .u64 rd) (.int .i64 qn) (.int .u64 qi) mc ms Lm (.slice UA L.length uc) L (wx.alloc (bx pn pi)).drew from HVb.out.below (Below.refl _ _).drew)
                have hlk := HVd.out.mp.look (t := 102) Tryz.lawP Tryz.underlying102 (zeroU _) hkey
                rw [stF_look] at hlk
                unfold pcv at hlk
                simp only at hlk
                generalize hx : lookL Lm (pn, pi) = x at hlk
                have HX := hide hx
                have HVe := hide (HVd.out.below (below_alloc (wx.alloc (bx pn pi)).drew (.cells #[.int .u64 x] 22)))
                haveI := HVb.out.kv
                haveI := HVb.out.k4
                haveI : BoxAt (wx.alloc (bx pn pi)).drew NV _ _ := HVd.out.kv
                haveI : BoxAt (wx.alloc (bx pn pi)).drew (w1.heap.size + 1) _ _ := HVd.out.k4
                haveI : InW NV wx := ⟨by omega⟩
                haveI : InW (w1.heap.size + 1) wx := ⟨by omega⟩
                clear hp2 V hx hw2
                go_wp2_with fail
                go_region_law (refine step_append_any _ Tryz.okU rfl (.tmp 77) (.tmp 81) rfl BS (.slice UA L.length uc) L.length (ucs L) (by simp [Act.eval, Act.put]) HVe.out.ou (wx.heap.size + 1 + 1) (some ⟨wx.heap.size + 1, 0, none⟩) 1 1 (ucs [x]) (by simp [Act.eval, Act.put]) (reads_oneU_at _ x _ (by simp)) (uc_one _) (by unfold maxLen; have := HLl.out; omega) (by have := HLl.out; omega) (by simp; omega) ?_; intro v5 w5 ho5 hg5 hn5 ha5; obtain ⟨A5, c5, rfl, _, _⟩ := own_slice ho5; obtain ⟨kv5, V5⟩ := HVe.out.store ho5 hg5; haveI := kv5)
                all_goals
                  have HV5 := hide V5
                  clear ho5 hg5 hn5 ha5 V5
                  go_wp2
                  go_roundw
                  case rel => exact ⟨m + 1, _, L ++ [x], by omega, by go_num, HV5.out, by rw [take_succ_of HC2.out, List.map_append, HLe.out, ← HX.out]; rfl⟩
                  case measure => simp [intOf]; omega
              · obtain rfl : m = ms.length := by omega
                have HL2 := hide (show L = ms.map (lookL Lm) by rw [HLe.out, List.take_length])
                haveI := V.k2
                obtain ⟨k6, g6⟩ := set5 V.k2 (.int .u64 rd) (.int .i64 qn) (.int .u64 qi) (.slice (some ⟨mb, moff, none⟩) ms.length mc) (.slice UA L.length uc)
                have HB6 := hide (V.hB.trans (grown_to_below g6 (Nat.le_refl _) V.hB.size))
                have HU6 := hide (own_grown V.ou g6 (by omega))
                have hbs : w.heap.size ≤ BS := by have := V.h1; have := V.h2; have := V.h3; have := V.h4; omega
                have HM6 := hide (show Reads (((((wx.setCell ⟨w.heap.size, 0, none⟩ (.int .u64 rd)).setCell ⟨w.heap.size, 1, none⟩ (.int .i64 qn)).setCell ⟨w.heap.size, 2, none⟩ (.int .u64 qi)).setCell ⟨w.heap.size, 3, none⟩ (.slice (some ⟨mb, moff, none⟩) ms.length mc)).setCell ⟨w.heap.size, 4, none⟩ (.slice UA L.length uc)) (((((wx.setCell ⟨w.heap.size, 0, none⟩ (.int .u64 rd)).setCell ⟨w.heap.size, 1, none⟩ (.int .i64 qn)).setCell ⟨w.heap.size, 2, none⟩ (.int .u64 qi)).setCell ⟨w.heap.size, 3, none⟩ (.slice (some ⟨mb, moff, none⟩) ms.length mc)).setCell ⟨w.heap.size, 4, none⟩ (.slice UA L.length uc)).heap.size 2 (some ⟨mb, moff, none⟩) ms.length (pcs ms) from
                  ⟨(pcs_len ms), fun _ => ⟨mb, moff, rfl, by have := g6.size; omega, fun j u hu => (World.cell?_of_block (a := ⟨mb, moff + j, none⟩) (g6.block mb (by omega) (fun e => apart_box0 V.k2 V.rm hm1 (fun p hp => (HMW.out p hp).2) (by injection e)))).trans (V.rm j u hu)⟩⟩)
                clear V
                go_wp2
                generalize ((((wx.setCell ⟨w.heap.size, 0, none⟩ (.int .u64 rd)).setCell ⟨w.heap.size, 1, none⟩ (.int .i64 qn)).setCell ⟨w.heap.size, 2, none⟩ (.int .u64 qi)).setCell ⟨w.heap.size, 3, none⟩ (.slice (some ⟨mb, moff, none⟩) ms.length mc)).setCell ⟨w.heap.size, 4, none⟩ (.slice UA L.length uc) = W6 at k6 HB6 HU6 HM6 ⊢
                haveI := k6
                refine bodyPost_ret (v := .tuple #[.agg #[.int .u64 rd, .int .i64 qn, .int .u64 qi, .slice (some ⟨mb, moff, none⟩) ms.length mc, .slice UA L.length uc], .bool true]) (by simp [results, Tryz.results11, go_sem]) rfl ?_
                rw [HS.out, ← HL2.out]
                have hLl := HLl.out
                exact ⟨some ⟨mb, moff, none⟩, mc, UA, uc, rfl, ⟨HM6.out, Reads.of_own HU6.out, by show ms.length ≤ 1000000; omega, by show L.length ≤ 1000000; omega⟩, fun a h => by (injection h with h; subst h; exact hfm), fun a h => Nat.le_trans hbs (HU6.out.lt a.block (by (subst h; rfl))).1, HB6.out⟩
end Go.Proofs.YtkglclekieckoaaGreat
