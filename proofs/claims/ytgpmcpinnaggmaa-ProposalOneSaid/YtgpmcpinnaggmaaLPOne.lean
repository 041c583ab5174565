/-
  Layer 9: contracts: proc.Sorted, proposal.View: what they hand back lies in new blocks.
-/
import Derived.Test.YtgpmcpinnaggmaaPv2
import Derived.Test.YtgpmcpinnaggmaaPpL
namespace Go.Proofs.Ytgpmcpinnaggmaa
set_option linter.unusedSimpArgs false
set_option linter.unusedVariables false
set_option linter.unusedSectionVars false
open Go.RowKit Go.Maps

set_option maxHeartbeats 400000 in
theorem sorted_f (A : Option Addr) (c : Nat) (l : List (Int × Int)) (w : World) (hR : Reads w w.heap.size 2 A l.length (pcs l)) (hn : l.length ≤ 1000000) :
    Calls Try.prog 67 #[.slice A l.length c] w fun e w' => ∃ A', e = .returned (.slice A' (sortedL l).length (sortedL l).length) ∧ Reads w' w'.heap.size 2 A' (sortedL l).length (pcs (sortedL l)) ∧ (∀ a, A' = some a → w.heap.size ≤ a.block) ∧ Below w.heap.size w w' := by
  go_enter Try.func67, Try.ntmps67
  go_wp2_with fail
  refine (clone_any A c l w hR hn).mono ?_
  rintro e w1 ⟨v, rfl, hown, hb1⟩
  rcases hown.2 with ⟨rfl, h0⟩ | ⟨g, cap, cur, rfl, hbase, hg, hlc, hcm, hcs, htake⟩
  · have hl : l = [] := List.eq_nil_of_length_eq_zero h0
    subst hl
    have H := hide (show sortedL [] = [] by unfold sortedL; rw [show sortL [] = [] by simp [sortL]]; exact compact_short (by simp))
    go_wp2_with (first | (go_at_call 106; refine (sortFunc_none _ _ _ _).mono ?_; rintro e w' ⟨rfl, rfl⟩) | (go_at_call 109; refine (compact_few _ _ _ _ (by omega)).mono ?_; rintro e w' ⟨rfl, rfl⟩) | (go_at_call 108; refine (clip_any _ _ _ _ (by omega) (by omega) (by unfold maxLen; omega)).mono ?_; rintro e w' ⟨rfl, rfl⟩))
    go_ret
    rw [H.out]
    exact ⟨none, rfl, Reads.none_, fun _ h => by (cases h), hb1⟩
  · have hlt : g < w1.heap.size := by
      rcases Nat.lt_or_ge g w1.heap.size with hlt | hge
      · exact hlt
      · rw [Array.getElem?_eq_none hge] at hg; cases hg
    have HO := hide hown
    clear hg hcs htake hown
    go_wp2_with fail
    refine (sortFunc_own w.heap.size g cap l w1 HO.out hlt hn).mono ?_
    rintro e w2 ⟨rfl, hown2, hg2⟩
    have hsl := sortL_len l
    have hcl := compact_len (sortL l)
    rw [hsl] at hcl
    have HO2 := hide hown2
    have HG2 := hide hg2
    have HS := hide hsl
    have C := compact_own w.heap.size g cap (sortL l) w2 HO2.out (by omega) (by omega) hcm
    rw [HS.out] at C
    have HC := hide C
    clear C hown2 hg2 hsl
    go_wp2_with fail
    refine HC.out.mono ?_
    rintro e w3 ⟨rfl, hown3, hg3⟩
    have HO3 := hide hown3
    have HG3 := hide hg3
    clear hown3 hg3
    go_wp2_with fail
    refine (clip_any _ _ _ _ (by omega) (by omega) hcm).mono ?_
    rintro e w4 ⟨rfl, rfl⟩
    go_wp2
    go_ret
    refine ⟨some ⟨g, 0, none⟩, rfl, Reads.of_own HO3.out, fun a h => by (injection h with h; subst h; exact hbase), ?_⟩
    exact (hb1.grown HG2.out hb1.size (fun k hk => by injection hk with hk; omega)).grown HG3.out (Nat.le_trans hb1.size HG2.out.size) (fun k hk => by injection hk with hk; omega)

/-- a row of lives in new memory, in new blocks -/
def RetSf (w : World) (l : List Pr) (e : Ending) (w' : World) : Prop := ∃ A c, e = .returned (.slice A l.length c) ∧ Sl w' A l ∧ (∀ a, A = some a → w.heap.size ≤ a.block) ∧ Below w.heap.size w w'
theorem sortedF_s (A : Option Addr) (c : Nat) (l : List Pr) (w : World) (h : Sl w A l) (hn : l.length ≤ 1000000) : Calls Try.prog 67 #[.slice A l.length c] w (RetSf w (sortedL l)) :=
  (sorted_f A c l w h hn).mono fun _ _ ⟨A', h1, h2, h3, h4⟩ => ⟨A', _, h1, h2, h3, h4⟩
/-- a view in new memory, in new blocks, and whether there is one -/
def RetVf (w : World) (o : Option ((Int × Int × Int) × List Pr × List Int)) (e : Ending) (w' : World) : Prop :=
  match o with
  | none => e = .returned (.tuple #[.agg #[.int .u64 0, .int .i64 0, .int .u64 0, .slice none 0 0, .slice none 0 0], .bool false]) ∧ Below w.heap.size w w'
  | some x => ∃ MA mc UA uc, e = .returned (.tuple #[.agg #[.int .u64 x.1.1, .int .i64 x.1.2.1, .int .u64 x.1.2.2, .slice MA x.2.1.length mc, .slice UA x.2.2.length uc], .bool true]) ∧ Vw.Ok w' ⟨x.1.1, x.1.2.1, x.1.2.2, MA, mc, x.2.1, UA, uc, x.2.2⟩ ∧ (∀ a, MA = some a → w.heap.size ≤ a.block) ∧ (∀ a, UA = some a → w.heap.size ≤ a.block) ∧ Below w.heap.size w w'
theorem retVf_no {w : World} {l : List Pp} (h : viewP l = none) {e : Ending} {w' : World} (he : e = .returned (.tuple #[.agg #[.int .u64 0, .int .i64 0, .int .u64 0, .slice none 0 0, .slice none 0 0], .bool false])) (hb : Below w.heap.size w w') : RetVf w (viewP l) e w' := by
  rw [h]; exact ⟨he, hb⟩
set_option maxRecDepth 100000 in
set_option maxHeartbeats 4000000 in
theorem pview_f (A : Option Addr) (c : Nat) (l : List Pp) (w : World) (h : Pl w A l) (hn : l.length ≤ 1000000) (hwf : ∀ x ∈ l, ∀ p ∈ x.cs, wfP p) : Calls Try.prog 21 #[.slice A l.length c] w (RetVf w (viewP l)) := by
  have T1 := hide (agree_s A c l _ (h.step (below_alloc w (bxV 0 0 0 none 0 0 none 0 0))) hn)
  have hmm := @run_makeMap Try.prog
  have HP := hide h
  have HWF := hide hwf
  clear h hwf
  have p0 := boxTop w #[.int .u64 0, .int .i64 0, .int .u64 0, .slice none 0 0, .slice none 0 0] 32
  cases hag : agreeB l
  · rw [hag] at T1
    have HN : Hid (viewP l = none) := hide (by unfold viewP; rw [if_pos hag])
    clear hag
    go_enter Try.func21, Try.ntmps21
    go_wp2_with fail
    (with_reducible refine T1.out.mono ?_)
    rintro e w1 ⟨rfl, hb⟩
    have p1 := p0.step hb
    haveI := p1
    have hB1 := below_step (below_alloc w (bxV 0 0 0 none 0 0 none 0 0)) hb
    obtain ⟨k3, g3⟩ := set5 p1 (.int .u64 0) (.int .i64 0) (.int .u64 0) (.slice none 0 0) (.slice none 0 0)
    have HB3 := hide (hB1.trans (grown_to_below g3 (Nat.le_refl _) hB1.size))
    clear hb T1 p0 p1 hB1
    go_wp2
    generalize ((((w1.setCell ⟨w.heap.size, 0, none⟩ (.int .u64 0)).setCell ⟨w.heap.size, 1, none⟩ (.int .i64 0)).setCell ⟨w.heap.size, 2, none⟩ (.int .u64 0)).setCell ⟨w.heap.size, 3, none⟩ (.slice none 0 0)).setCell ⟨w.heap.size, 4, none⟩ (.slice none 0 0) = W3 at k3 HB3 ⊢
    haveI := k3
    refine bodyPost_ret (v := .tuple #[.agg #[.int .u64 0, .int .i64 0, .int .u64 0, .slice none 0 0, .slice none 0 0], .bool false]) (by simp [results, Try.results21, go_sem]) rfl ?_
    exact retVf_no HN.out rfl HB3.out
  · rw [hag] at T1
    obtain ⟨hl4, hmay, hl1⟩ := agreeB_few hag
    have hcl := clsP_len hag
    have HAG := hide hag
    have HM := hide hmay
    clear hag hmay
    go_enter Try.func21, Try.ntmps21
    go_wp2_with fail
    (with_reducible refine T1.out.mono ?_)
    rintro e w1 ⟨rfl, hb⟩
    have p1 := p0.step hb
    have hB1 := below_step (below_alloc w (bxV 0 0 0 none 0 0 none 0 0)) hb
    have hlt := p1.lt
    have V0 : VB w w1.heap.size (w1.heap.size + 1) (w1.heap.size + 1 + 1) (.slice none 0 0) [] [] (((w1.alloc (.map #[] 0)).alloc (.cells #[.map (some w1.heap.size)] 91)).alloc (.cells #[.slice none 0 0] 27)) := by
      refine ⟨((p1.alloc' _).alloc' _).alloc' _, ?_, ?_, ?_, own_nilP _ _, ((hB1.alloc (by omega) _).alloc (by simp; omega) _).alloc (by simp; omega) _, by omega, by omega, by omega⟩
      · have := (boxTop (w1.alloc (.map #[] 0)) #[.map (some w1.heap.size)] 91).alloc' (.cells #[.slice none 0 0] 27)
        rwa [World.size_alloc] at this
      · have := boxTop ((w1.alloc (.map #[] 0)).alloc (.cells #[.map (some w1.heap.size)] 91)) #[.slice none 0 0] 27
        rwa [World.size_alloc, World.size_alloc] at this
      · exact ((mapF_made w1 26).step (below_alloc _ _)).step (below_alloc _ _)
    have HV0 := hide V0
    clear hb T1 p0 p1 hB1 V0
    go_wp2
    go_loopw [22] (fun i wr => ∃ (k : Nat) (v : Value) (Lm : List (Pr × Int)) (La : List Pr), k ≤ l.length ∧ i = .int .i64 k ∧ VB w w1.heap.size (w1.heap.size + 1) (w1.heap.size + 1 + 1) v Lm La wr ∧ Lm = prs (l.take k) ∧ La = clsP (l.take k)) (fun i _ => l.length - (intOf i).toNat)
    case atStart => exact ⟨0, _, [], [], Nat.zero_le _, rfl, HV0.out, rfl, rfl⟩
    case round =>
      obtain ⟨k, v, Lm, La, hk, rfl, V, hLm, hLa⟩ := hrel
      have HLm := hide hLm
      have HLa := hide hLa
      have HV := hide V
      clear HV0 hLm hLa V
      obtain ⟨wo, rfl⟩ : ∃ wo, wo = wr := ⟨wr, rfl⟩
      by_cases hlt2 : k < l.length
      · have hPW := HP.out.r.below HV.out.hB
        obtain ⟨b, off, y, rfl, hb, hp, g1, g2, g3, g4, g5, g6⟩ := hPW.at6 hlt2
        have hyl : y ∈ l := List.mem_of_getElem? hp
        have oky := HP.out.ok y hyl
        have fy := mayB_facts (HM.out y hyl)
        have hcsu : y.us.length = y.cs.length := fy.2.2.2.2.2.2.2.2.2.1
        have hcs6 : y.cs.length ≤ 6 := fy.2.2.2.2.2.2.1
        have HY := hide oky
        have HWy := hide (HWF.out y hyl)
        have HPk := hide hp
        have hszw := HV.out.hB.size
        have HLN := hide (show La.length ≤ 24 ∧ Lm.length = La.length by
          rw [HLa.out, HLm.out, (prs_len (fun x hx => (mayB_facts (HM.out x (List.mem_of_mem_take hx))).2.2.2.2.2.2.2.2.2.1)).1]
          exact ⟨Nat.le_trans (clsP_le l k) hcl, rfl⟩)
        have HCU := hide hcsu
        haveI : InW b wo := ⟨by omega⟩
        have i1 : (k : Int) < (l.length : Int) := by omega
        have pt : BoxAt (wo.alloc (bxP y.n y.i y.rd y.SA y.ss.length y.sc y.CA y.cs.length y.cc y.UA y.us.length y.uc)) wo.heap.size (csP y.n y.i y.rd y.SA y.ss.length y.sc y.CA y.cs.length y.cc y.UA y.us.length y.uc) 51 := boxTop _ _ _
        have hv8 : v.ownBlock ≠ some wo.heap.size := fun e => by have := (HV.out.oa.lt _ e).2; omega
        have ht5 := HV.out.k5.lt
        have HV1 := hide (HV.out.below (below_alloc wo (bxP y.n y.i y.rd y.SA y.ss.length y.sc y.CA y.cs.length y.cc y.UA y.us.length y.uc)))
        have HT := hide pt
        have HV8 := hide hv8
        clear hp hyl oky fy hcsu hPW pt hv8
        obtain ⟨n, i, rd, SA, sc, ss, CA, cc, cs, UA, uc, us⟩ := y
        simp only at g1 g2 g3 g4 g5 g6 hcs6
        go_wp2
        go_loopw [29] (fun j wx => ∃ (m : Nat) (v' : Value) (Lm' : List (Pr × Int)) (La' : List Pr), m ≤ cs.length ∧ j = .int .i64 m ∧ VB w w1.heap.size (w1.heap.size + 1) (w1.heap.size + 1 + 1) v' Lm' La' wx ∧ Lm' = Lm ++ (cs.zip us).take m ∧ La' = La ++ cs.take m ∧ BoxAt wx wo.heap.size (csP n i rd SA ss.length sc CA cs.length cc UA us.length uc) 51 ∧ v'.ownBlock ≠ some wo.heap.size) (fun j _ => cs.length - (intOf j).toNat)
        case atStart => exact ⟨0, v, Lm, La, Nat.zero_le _, rfl, HV1.out, by simp, by simp, HT.out, HV8.out⟩
        case round =>
          obtain ⟨m, v', Lm', La', hm, rfl, V', hLm', hLa', hbx, hv8'⟩ := hrel
          have HLm' := hide hLm'
          have HLa' := hide hLa'
          have HLN' := hide (show La'.length ≤ 24 + cs.length ∧ Lm'.length ≤ 24 + cs.length by
            have := HLN.out
            have := HCU.out
            rw [hLm', hLa']; simp; omega)
          have HV' := hide V'
          have HV8' := hide hv8'
          haveI := hbx
          clear HV1 HT HV8 hLm' hLa' V' hv8' HV
          by_cases hlt3 : m < cs.length
          · have hmu : m < us.length := by have := HCU.out; omega
            have hp2 : cs[m]? = some cs[m] := List.getElem?_eq_getElem hlt3
            have hq2 : us[m]? = some us[m] := List.getElem?_eq_getElem hmu
            have hw2 := HWy.out _ (List.getElem_mem (l := cs) hlt3)
            have hz : (cs.zip us)[m]? = some (cs[m], us[m]) := by rw [List.getElem?_zip_eq_some]; exact ⟨hp2, hq2⟩
            have HZ := hide hz
            have HC2 := hide hp2
            generalize cs[m] = p at hp2 hw2 HZ HC2
            generalize us[m] = u at hq2 HZ
            have T2 := hide (bring_s w wr w1.heap.size (w1.heap.size + 1) (w1.heap.size + 1 + 1) m v' Lm' La' ⟨n, i, rd, SA, sc, ss, CA, cc, cs, UA, uc, us⟩ p u HV'.out HY.out.c HY.out.u hp2 hq2 hw2 (by have := HLN'.out; omega) (by have := HLN'.out; omega))
            simp only at T2
            clear hp2 hq2 hz hw2
            go_wp2_with (go_at_call 65; (with_reducible refine T2.out.mono ?_); rintro e w2 ⟨rfl, v2, V2, K2, hob⟩)
            have hbx2 := K2 _ _ _ (by omega) (by omega) HV8'.out hbx
            go_roundw
            case rel =>
              refine ⟨m + 1, v2, _, _, by omega, by go_num, V2, ?_, ?_, hbx2, ?_⟩
              · rw [HLm'.out, take_succ_of HZ.out, List.append_assoc]
              · rw [HLa'.out, take_succ_of HC2.out, List.append_assoc]
              · rcases hob with h | ⟨r, h, h2⟩
                · rw [h]; exact HV8'.out
                · rw [h]; intro e; injection e with e; have := hbx.lt; omega
            case measure => simp [intOf]; omega
          · obtain rfl : m = cs.length := by omega
            have HA1 := hide (show Lm' = prs (l.take (k + 1)) by
              rw [HLm'.out, (clsP_take HPk.out).2, ← HLm.out]
              congr 1
              have := HCU.out
              rw [List.take_of_length_le (by simp; omega)])
            have HA2 := hide (show La' = clsP (l.take (k + 1)) by rw [HLa'.out, (clsP_take HPk.out).1, ← HLa.out, List.take_length])
            go_wp2
            go_roundw
            case rel => exact ⟨k + 1, v', Lm', La', by omega, by go_num, HV'.out, HA1.out, HA2.out⟩
            case measure => simp [intOf]; omega
      · obtain rfl : k = l.length := by omega
        have HLm2 := hide (show Lm = prs l by rw [HLm.out, List.take_length])
        have HLa2 := hide (show La = clsP l by rw [HLa.out, List.take_length])
        have hLa24 : La.length ≤ 24 := by rw [HLa2.out]; exact hcl
        have HLW : Hid (∀ p ∈ La, wfP p ∧ mayB p.1 p.2 = true) := hide (fun p hp => by
          rw [HLa2.out] at hp
          obtain ⟨x, hx, hp⟩ := List.mem_flatMap.1 hp
          exact ⟨HWF.out x hx p hp, setB_may (mayB_facts (HM.out x hx)).2.2.2.2.2.2.2.1 p hp⟩)
        have V := HV.out
        obtain ⟨FA, fc, rfl, _, _⟩ := own_slice V.oa
        have T3 := hide (fun W hW => nodes_s FA fc La W hW (by omega))
        have T5 := hide (fun W hW => sortedF_s FA fc La W hW (by omega))
        have HFS : Hid (Sl wo FA La) := hide (Reads.of_own V.oa)
        haveI := V.k2
        haveI := V.k5
        have HVP := hide (show viewP l = if La.length < 1 ∨ 6 < La.length ∨ livesB La = false then none else some (((l.getD 0 default).rd, ((l.getD 0 default).ss.getD 0 (0, 0)).1, ((l.getD 0 default).ss.getD 0 (0, 0)).2), sortedL La, (sortedL La).map (lookL Lm)) by
          unfold viewP
          rw [if_neg (by rw [HAG.out]; simp), HLa2.out, HLm2.out])
        have hlv := lives_nodes La
        have hnl := sortedL_len La
        generalize nodesL La = N at T3 hlv
        generalize f1 : decide ((La.length : Int) < 1) = b1
        generalize f2 : decide (6 < (La.length : Int)) = b2
        generalize f3 : ((N.length : Int) != (La.length : Int)) = b3
        have hlv' : livesB La = !b3 := by rw [← hlv, ← f3, bne, Bool.not_not]
        have HLV := hide hlv'
        clear HV hlv hlv' HLm HLa HLm2 HLa2
        have key : b1 = true ∨ (b1 = false ∧ b2 = true) ∨ (b1 = false ∧ b2 = false ∧ b3 = true) ∨ (b1 = false ∧ b2 = false ∧ b3 = false) := by
          cases b1 <;> cases b2 <;> cases b3 <;> simp
        rcases key with rfl | ⟨rfl, rfl⟩ | ⟨rfl, rfl, rfl⟩ | ⟨rfl, rfl, rfl⟩
        · have HN : Hid (viewP l = none) := hide (HVP.out.trans (if_pos (.inl (by simp at f1; omega))))
          obtain ⟨k3, g3⟩ := set5 V.k2 (.int .u64 0) (.int .i64 0) (.int .u64 0) (.slice none 0 0) (.slice none 0 0)
          have HB3 := hide (V.hB.trans (grown_to_below g3 (Nat.le_refl _) V.hB.size))
          clear V
          go_wp2
          generalize ((((wo.setCell ⟨w.heap.size, 0, none⟩ (.int .u64 0)).setCell ⟨w.heap.size, 1, none⟩ (.int .i64 0)).setCell ⟨w.heap.size, 2, none⟩ (.int .u64 0)).setCell ⟨w.heap.size, 3, none⟩ (.slice none 0 0)).setCell ⟨w.heap.size, 4, none⟩ (.slice none 0 0) = W3 at k3 HB3 ⊢
          haveI := k3
          refine bodyPost_ret (v := .tuple #[.agg #[.int .u64 0, .int .i64 0, .int .u64 0, .slice none 0 0, .slice none 0 0], .bool false]) (by simp [results, Try.results21, go_sem]) rfl ?_
          exact retVf_no HN.out rfl HB3.out
        · have HN : Hid (viewP l = none) := hide (HVP.out.trans (if_pos (.inr (.inl (by simp at f2; omega)))))
          obtain ⟨k3, g3⟩ := set5 V.k2 (.int .u64 0) (.int .i64 0) (.int .u64 0) (.slice none 0 0) (.slice none 0 0)
          have HB3 := hide (V.hB.trans (grown_to_below g3 (Nat.le_refl _) V.hB.size))
          clear V
          go_wp2
          generalize ((((wo.setCell ⟨w.heap.size, 0, none⟩ (.int .u64 0)).setCell ⟨w.heap.size, 1, none⟩ (.int .i64 0)).setCell ⟨w.heap.size, 2, none⟩ (.int .u64 0)).setCell ⟨w.heap.size, 3, none⟩ (.slice none 0 0)).setCell ⟨w.heap.size, 4, none⟩ (.slice none 0 0) = W3 at k3 HB3 ⊢
          haveI := k3
          refine bodyPost_ret (v := .tuple #[.agg #[.int .u64 0, .int .i64 0, .int .u64 0, .slice none 0 0, .slice none 0 0], .bool false]) (by simp [results, Try.results21, go_sem]) rfl ?_
          exact retVf_no HN.out rfl HB3.out
        · have HN : Hid (viewP l = none) := hide (HVP.out.trans (if_pos (.inr (.inr (by rw [HLV.out]; rfl)))))
          go_wp2_with (go_at_call 66; (with_reducible refine (T3.out _ HFS.out).mono ?_); rintro e w3 ⟨NA, NC, rfl, hN, hb⟩; have V3 := V.below hb; haveI := V3.k2; clear hb hN V)
          go_wp2_with fail
          obtain ⟨k3, g3⟩ := set5 V3.k2 (.int .u64 0) (.int .i64 0) (.int .u64 0) (.slice none 0 0) (.slice none 0 0)
          have HB3 := hide (V3.hB.trans (grown_to_below g3 (Nat.le_refl _) V3.hB.size))
          clear V3
          go_wp2
          generalize ((((w3.setCell ⟨w.heap.size, 0, none⟩ (.int .u64 0)).setCell ⟨w.heap.size, 1, none⟩ (.int .i64 0)).setCell ⟨w.heap.size, 2, none⟩ (.int .u64 0)).setCell ⟨w.heap.size, 3, none⟩ (.slice none 0 0)).setCell ⟨w.heap.size, 4, none⟩ (.slice none 0 0) = W3 at k3 HB3 ⊢
          haveI := k3
          refine bodyPost_ret (v := .tuple #[.agg #[.int .u64 0, .int .i64 0, .int .u64 0, .slice none 0 0, .slice none 0 0], .bool false]) (by simp [results, Try.results21, go_sem]) rfl ?_
          exact retVf_no HN.out rfl HB3.out
        · have HS : Hid (viewP l = some (((l.getD 0 default).rd, ((l.getD 0 default).ss.getD 0 (0, 0)).1, ((l.getD 0 default).ss.getD 0 (0, 0)).2), sortedL La, (sortedL La).map (lookL Lm))) := hide (HVP.out.trans (if_neg (by rw [HLV.out]; exact fun h => h.elim (fun h => of_decide_eq_false f1 (by omega)) (fun h => h.elim (fun h => of_decide_eq_false f2 (by omega)) (fun h => by cases h)))))
          have hPW := HP.out.r.below V.hB
          obtain ⟨b, off, y, rfl, hb, hp, g1, g2, g3, g4, g5, g6⟩ := hPW.at6 (show 0 < l.length by omega)
          have hyl : y ∈ l := List.mem_of_getElem? hp
          have oky := HP.out.ok y hyl
          have fy := mayB_facts (HM.out y hyl)
          have hss1 : 0 < y.ss.length := by omega
          have hY0 : l.getD 0 default = y := by rw [List.getD_eq_getElem?_getD, hp]; rfl
          rw [hY0] at HS
          obtain ⟨b', off', q, hSA, hb', hq, j1, j2⟩ := (Reads.below oky.s V.hB).at2 hss1
          have hq0 : y.ss.getD 0 (0, 0) = q := by rw [List.getD_eq_getElem?_getD, hq]; rfl
          rw [hq0] at HS
          obtain ⟨n, i, rd, SA, sc, ss, CA, cc, cs, UA, uc, us⟩ := y
          obtain ⟨qn, qi⟩ := q
          simp only at g1 g2 g3 g4 g5 g6 hSA j1 j2 hss1 HS
          subst hSA
          rw [Nat.zero_mul, Nat.add_zero] at g3 g4 j1 j2
          have hszw := V.hB.size
          have hpos : 0 < l.length := by omega
          have hx0 : (0 : Int) < (l.length : Int) := by omega
          have hx1 : (0 : Int) < (ss.length : Int) := by omega
          clear hp hyl oky fy hY0 hq hq0 g1 g2 g5 g6 hPW
          haveI : InW b wo := ⟨by omega⟩
          haveI : InW b' wo := ⟨by omega⟩
          go_wp2_with (go_at_call 66; (with_reducible refine (T3.out _ HFS.out).mono ?_); rintro e w3 ⟨NA, NC, rfl, hN, hb3⟩; have V3 := V.below hb3; haveI := V3.k2; haveI := V3.k5)
          have hm3 : w3.cell? ⟨b, off + 2, none⟩ = some (.int .u64 rd) := (hb3.cell (p := ⟨b, off + 2, none⟩) (show b < _ by omega)).trans g3
          have hm4 : w3.cell? ⟨b, off + 3, none⟩ = some (.slice (some ⟨b', off', none⟩) ss.length sc) := (hb3.cell (p := ⟨b, off + 3, none⟩) (show b < _ by omega)).trans g4
          have hm5 : w3.cell? ⟨b', off', none⟩ = some (.int .i64 qn) := (hb3.cell (p := ⟨b', off', none⟩) (show b' < _ by omega)).trans j1
          have hm6 : w3.cell? ⟨b', off' + 1, none⟩ = some (.int .u64 qi) := (hb3.cell (p := ⟨b', off' + 1, none⟩) (show b' < _ by omega)).trans j2
          have hm7 : w3.cell? ⟨w1.heap.size + 1 + 1, 0, none⟩ = some (.slice FA La.length fc) := (by rw [cell?_box]; rfl)
          have hs3 := hb3.size
          have ht5 := V.k5.lt
          have HK : Hid (∀ W', Below w3.heap.size w3 W' → W'.cell? ⟨b, off + 2, none⟩ = some (.int .u64 rd) ∧ W'.cell? ⟨b, off + 3, none⟩ = some (.slice (some ⟨b', off', none⟩) ss.length sc) ∧ W'.cell? ⟨b', off', none⟩ = some (.int .i64 qn) ∧ W'.cell? ⟨b', off' + 1, none⟩ = some (.int .u64 qi) ∧ W'.cell? ⟨w1.heap.size + 1 + 1, 0, none⟩ = some (.slice FA La.length fc)) := hide (fun W' h' => ⟨(h'.cell (p := ⟨b, off + 2, none⟩) (show b < _ by omega)).trans hm3, (h'.cell (p := ⟨b, off + 3, none⟩) (show b < _ by omega)).trans hm4, (h'.cell (p := ⟨b', off', none⟩) (show b' < _ by omega)).trans hm5, (h'.cell (p := ⟨b', off' + 1, none⟩) (show b' < _ by omega)).trans hm6, (h'.cell (p := ⟨w1.heap.size + 1 + 1, 0, none⟩) (show w1.heap.size + 1 + 1 < _ by omega)).trans hm7⟩)
          have HFS3 := hide (HFS.out.step hb3)
          have HV3 := hide V3
          clear hb3 hN V V3 g3 g4 j1 j2 hm3 hm4 hm5 hm6 hm7
          go_wp2_with fail
          have hB0 : Below w3.heap.size w3 w3.drew := (Below.refl _ _).drew
          haveI : InW b w3 := ⟨by omega⟩
          haveI : InW b' w3 := ⟨by omega⟩
          haveI : InW (w1.heap.size + 1 + 1) w3 := ⟨by omega⟩
          go_region_held3 (fun w' => w'.cell? ⟨b, off + 2, none⟩ = some (.int .u64 rd) ∧ w'.cell? ⟨b, off + 3, none⟩ = some (.slice (some ⟨b', off', none⟩) ss.length sc) ∧ w'.cell? ⟨b', off', none⟩ = some (.int .i64 qn) ∧ w'.cell? ⟨b', off' + 1, none⟩ = some (.int .u64 qi) ∧ w'.cell? ⟨w1.heap.size + 1 + 1, 0, none⟩ = some (.slice FA La.length fc)) (exact HK.out _ (by repeat (first | exact Below.refl _ _ | assumption | refine bel_al ?_ _ | refine bel_gw ?_ _ _ | refine bel_drew ?_ | refine bel_drewN ?_ _ | refine bel_set ?_ _ _)))
            (first
              | (go_at_call 67; (with_reducible refine (T5.out _ (HFS3.out.step (by repeat (first | exact Below.refl _ _ | assumption | refine bel_al ?_ _ | refine bel_gw ?_ _ _ | refine bel_drew ?_ | refine bel_drewN ?_ _)))).mono ?_); rintro e w4 ⟨MA, mc, rfl, hms, hfr, hb4⟩; have hB4 := below_step (show Below w3.heap.size w3 _ from (by repeat (first | exact Below.refl _ _ | assumption | refine bel_al ?_ _ | refine bel_gw ?_ _ _ | refine bel_drew ?_ | refine bel_drewN ?_ _))) hb4; first | (have pb4 := boxAt_ofd hb4; haveI : BoxAt w4 w3.heap.size _ _ := pb4) | (have pb4 := boxAt_of hb4; haveI : BoxAt w4 w3.heap.size _ _ := pb4) | skip))
          all_goals
            have V4 := HV3.out.below hB4
            have hm1 : 0 < (sortedL La).length := by
              rcases hLc : La with _ | ⟨q0, Lr⟩
              · rw [hLc] at f1; simp at f1
              · exact List.length_pos_of_mem (mem_sortedL.2 (by simp : q0 ∈ q0 :: Lr))
            obtain ⟨mb, moff, rfl, hmb, hmc⟩ := hms.2 hm1
            have hfm : w.heap.size ≤ mb := by
              have h1 := hfr ⟨mb, moff, none⟩ rfl
              have h2 := HV3.out.hB.size
              (try simp at h1)
              omega
            clear hfr
            have HMW : Hid (∀ p ∈ sortedL La, wfP p ∧ mayB p.1 p.2 = true) := hide (fun p hp => HLW.out p (mem_sortedL.1 hp))
            have hml : (sortedL La).length ≤ 24 := by omega
            have hz4 := hB4.size
            have hd1 := V4.h1
            have hd5 := V4.k5.lt
            clear T3 T5 HFS HFS3 hms f1 f2 f3 HLV hnl HV3 HK HVP
            generalize sortedL La = ms at hmc hm1 HMW hml HS ⊢
            first
              | (have hne : mb ≠ w3.heap.size := by
                   intro e
                   subst e
                   exact apart_box pb4 hmc hm1 (fun p hp => (HMW.out p hp).2)
                 obtain ⟨k5, g5⟩ := set5 pb4 (.int .u64 rd) (.int .i64 qn) (.int .u64 qi) (.slice (some ⟨mb, moff, none⟩) ms.length mc) (.slice none 0 0)
                 have HVL : Hid (VL w w1.heap.size (w1.heap.size + 1) w3.heap.size w4.heap.size mb moff (.int .u64 rd) (.int .i64 qn) (.int .u64 qi) mc ms Lm (.slice none 0 0) [] (((((w4.setCell ⟨w3.heap.size, 0, none⟩ (.int .u64 rd)).setCell ⟨w3.heap.size, 1, none⟩ (.int .i64 qn)).setCell ⟨w3.heap.size, 2, none⟩ (.int .u64 qi)).setCell ⟨w3.heap.size, 3, none⟩ (.slice (some ⟨mb, moff, none⟩) ms.length mc)).setCell ⟨w3.heap.size, 4, none⟩ (.slice none 0 0))) := hide ⟨V4.k2.grown g5 (by omega), V4.k4.grown g5 (by omega), k5, V4.mp.kept g5 (by simp; omega), fun j u hu => (World.cell?_of_block (a := ⟨mb, moff + j, none⟩) (g5.block mb hmb (fun e => hne (by injection e)))).trans (hmc j u hu), World.ownsRow_nil _ _ _ _, V4.hB.trans (grown_to_below g5 (by omega) V4.hB.size), by omega, by omega, by omega, pb4.lt, by omega, hne, g5.size⟩
                 clear k5 g5
                 generalize (((((w4.setCell ⟨w3.heap.size, 0, none⟩ (.int .u64 rd)).setCell ⟨w3.heap.size, 1, none⟩ (.int .i64 qn)).setCell ⟨w3.heap.size, 2, none⟩ (.int .u64 qi)).setCell ⟨w3.heap.size, 3, none⟩ (.slice (some ⟨mb, moff, none⟩) ms.length mc)).setCell ⟨w3.heap.size, 4, none⟩ (.slice none 0 0)) = W5 at HVL ⊢
                 generalize hNV : w3.heap.size = NV at HVL ⊢
                 generalize hBS : w4.heap.size = BS at HVL)
              | (have HVL : Hid (VL w w1.heap.size (w1.heap.size + 1) w4.heap.size (w4.heap.size + 1) mb moff (.int .u64 rd) (.int .i64 qn) (.int .u64 qi) mc ms Lm (.slice none 0 0) [] (w4.alloc (bxV rd qn qi (some ⟨mb, moff, none⟩) ms.length mc none 0 0))) := hide ⟨V4.k2.alloc' _, V4.k4.alloc' _, boxTop w4 _ _, V4.mp.step (below_alloc _ _), fun j u hu => ((below_alloc w4 _).cell (p := ⟨mb, moff + j, none⟩) hmb).trans (hmc j u hu), World.ownsRow_nil _ _ _ _, below_step V4.hB (below_alloc _ _), by omega, by omega, by omega, by omega, by omega, by omega, by simp⟩
                 generalize w4.alloc (bxV rd qn qi (some ⟨mb, moff, none⟩) ms.length mc none 0 0) = W5 at HVL ⊢
                 generalize hNV : w4.heap.size = NV at HVL ⊢
                 generalize hBS : NV + 1 = BS at HVL)
            have HNV := hide hNV
            have HBS := hide hBS
            clear hNV hBS V4 hB4 hmb hmc hb4
            haveI := HVL.out.kv
            have hszb := HVL.out.hB.size
            go_wp2
            go_loopw [72] (fun j wr => ∃ (m : Nat) (vv : Value) (L : List Int), m ≤ ms.length ∧ j = .int .i64 m ∧ VL w w1.heap.size (w1.heap.size + 1) NV BS mb moff (.int .u64 rd) (.int .i64 qn) (.int .u64 qi) mc ms Lm vv L wr ∧ L = (ms.take m).map (lookL Lm)) (fun j _ => ms.length - (intOf j).toNat)
            case atStart => exact ⟨0, _, [], Nat.zero_le _, rfl, HVL.out, rfl⟩
            case round =>
              obtain ⟨m, vv, L, hm, rfl, V, hLe⟩ := hrel
              obtain ⟨wx, rfl⟩ : ∃ wx, wx = wr := ⟨wr, rfl⟩
              have HLe := hide hLe
              have HLl := hide (show L.length = m by rw [hLe]; simp; omega)
              have HV := hide V
              obtain ⟨UA, uc, rfl, _, _⟩ := own_slice V.ou
              have hz7 := V.h7
              have hz5 := V.h5
              have hz3 := V.h3
              have hz4' := V.h4
              haveI : InW mb wx := ⟨by omega⟩
              haveI := V.kv
              haveI := V.k4
              clear HVL hLe
              by_cases hlt3 : m < ms.length
              · have hp2 : ms[m]? = some ms[m] := List.getElem?_eq_getElem hlt3
                have hw2 := (HMW.out _ (List.getElem_mem hlt3)).1
                have HC2 := hide hp2
                generalize ms[m] = p at hp2 hw2 HC2
                obtain ⟨pn, pi⟩ := p
                obtain ⟨kl, hkey⟩ := keyP hw2
                have c1 : wx.cell? ⟨mb, moff + m * 2, none⟩ = some (.int .i64 pn) := V.rm (m * 2) _ (by have := flat_get pc_len ms m 0 _ hp2 (by omega); simpa [pcs, pc] using this)
                have c2 : wx.cell? ⟨mb, moff + m * 2 + 1, none⟩ = some (.int .u64 pi) := by
                  have := V.rm (m * 2 + 1) (.int .u64 pi) (by have := flat_get pc_len ms m 1 _ hp2 (by omega); simpa [pcs, pc] using this)
                  rw [← Nat.add_assoc] at this; exact this
                have i3 : (m : Int) < (ms.length : Int) := by omega
                have HVb := hide (V.below (below_alloc wx (bx pn pi)))
                have HVd := hide (show VL w w1.heap.size (w1.heap.size + 1) NV BS mb moff (.int .u64 rd) (.int .i64 qn) (.int .u64 qi) mc ms Lm (.slice UA L.length uc) L (wx.alloc (bx pn pi)).drew from HVb.out.below (Below.refl _ _).drew)
                have hlk := HVd.out.mp.look (t := 91) Try.lawP Try.underlying91 (zeroU _) hkey
                rw [stF_look] at hlk
                unfold pcv at hlk
                simp only at hlk
                generalize hx : lookL Lm (pn, pi) = x at hlk
                have HX := hide hx
                have HVe := hide (HVd.out.below (below_alloc (wx.alloc (bx pn pi)).drew (.cells #[.int .u64 x] 24)))
                haveI := HVb.out.kv
                haveI := HVb.out.k4
                haveI : BoxAt (wx.alloc (bx pn pi)).drew NV _ _ := HVd.out.kv
                haveI : BoxAt (wx.alloc (bx pn pi)).drew (w1.heap.size + 1) _ _ := HVd.out.k4
                haveI : InW NV wx := ⟨by omega⟩
                haveI : InW (w1.heap.size + 1) wx := ⟨by omega⟩
                clear hp2 V hx hw2
                go_wp2_with fail
                go_region_law (refine step_append_any _ Try.okU rfl (.tmp 77) (.tmp 81) rfl BS (.slice UA L.length uc) L.length (ucs L) (by simp [Act.eval, Act.put]) HVe.out.ou (wx.heap.size + 1 + 1) (some ⟨wx.heap.size + 1, 0, none⟩) 1 1 (ucs [x]) (by simp [Act.eval, Act.put]) (reads_oneU_at _ x _ (by simp)) (uc_one _) (by unfold maxLen; have := HLl.out; omega) (by have := HLl.out; omega) (by simp; omega) ?_; intro v5 w5 ho5 hg5 hn5 ha5; obtain ⟨A5, c5, rfl, _, _⟩ := own_slice ho5; obtain ⟨kv5, V5⟩ := HVe.out.store ho5 hg5; haveI := kv5)
                all_goals
                  have HV5 := hide V5
                  clear ho5 hg5 hn5 ha5 V5
                  go_wp2
                  go_roundw
                  case rel => exact ⟨m + 1, _, L ++ [x], by omega, by go_num, HV5.out, by rw [take_succ_of HC2.out, List.map_append, HLe.out, ← HX.out]; rfl⟩
                  case measure => simp [intOf]; omega
              · obtain rfl : m = ms.length := by omega
                have HL2 := hide (show L = ms.map (lookL Lm) by rw [HLe.out, List.take_length])
                haveI := V.k2
                obtain ⟨k6, g6⟩ := set5 V.k2 (.int .u64 rd) (.int .i64 qn) (.int .u64 qi) (.slice (some ⟨mb, moff, none⟩) ms.length mc) (.slice UA L.length uc)
                have HB6 := hide (V.hB.trans (grown_to_below g6 (Nat.le_refl _) V.hB.size))
                have HU6 := hide (own_grown V.ou g6 (by omega))
                have hbs : w.heap.size ≤ BS := by have := V.h1; have := V.h2; have := V.h3; have := V.h4; omega
                have HM6 := hide (show Reads (((((wx.setCell ⟨w.heap.size, 0, none⟩ (.int .u64 rd)).setCell ⟨w.heap.size, 1, none⟩ (.int .i64 qn)).setCell ⟨w.heap.size, 2, none⟩ (.int .u64 qi)).setCell ⟨w.heap.size, 3, none⟩ (.slice (some ⟨mb, moff, none⟩) ms.length mc)).setCell ⟨w.heap.size, 4, none⟩ (.slice UA L.length uc)) (((((wx.setCell ⟨w.heap.size, 0, none⟩ (.int .u64 rd)).setCell ⟨w.heap.size, 1, none⟩ (.int .i64 qn)).setCell ⟨w.heap.size, 2, none⟩ (.int .u64 qi)).setCell ⟨w.heap.size, 3, none⟩ (.slice (some ⟨mb, moff, none⟩) ms.length mc)).setCell ⟨w.heap.size, 4, none⟩ (.slice UA L.length uc)).heap.size 2 (some ⟨mb, moff, none⟩) ms.length (pcs ms) from
                  ⟨(pcs_len ms), fun _ => ⟨mb, moff, rfl, by have := g6.size; omega, fun j u hu => (World.cell?_of_block (a := ⟨mb, moff + j, none⟩) (g6.block mb (by omega) (fun e => apart_box0 V.k2 V.rm hm1 (fun p hp => (HMW.out p hp).2) (by injection e)))).trans (V.rm j u hu)⟩⟩)
                clear V
                go_wp2
                generalize ((((wx.setCell ⟨w.heap.size, 0, none⟩ (.int .u64 rd)).setCell ⟨w.heap.size, 1, none⟩ (.int .i64 qn)).setCell ⟨w.heap.size, 2, none⟩ (.int .u64 qi)).setCell ⟨w.heap.size, 3, none⟩ (.slice (some ⟨mb, moff, none⟩) ms.length mc)).setCell ⟨w.heap.size, 4, none⟩ (.slice UA L.length uc) = W6 at k6 HB6 HU6 HM6 ⊢
                haveI := k6
                refine bodyPost_ret (v := .tuple #[.agg #[.int .u64 rd, .int .i64 qn, .int .u64 qi, .slice (some ⟨mb, moff, none⟩) ms.length mc, .slice UA L.length uc], .bool true]) (by simp [results, Try.results21, go_sem]) rfl ?_
                rw [HS.out, ← HL2.out]
                have hLl := HLl.out
                exact ⟨some ⟨mb, moff, none⟩, mc, UA, uc, rfl, ⟨HM6.out, Reads.of_own HU6.out, by show ms.length ≤ 1000000; omega, by show L.length ≤ 1000000; omega⟩, fun a h => by (injection h with h; subst h; exact hfm), fun a h => Nat.le_trans hbs (HU6.out.lt a.block (by (subst h; rfl))).1, HB6.out⟩
end Go.Proofs.Ytgpmcpinnaggmaa

namespace Go.Proofs.Ytgpmcpinnaggmaa
set_option linter.unusedSimpArgs false
set_option linter.unusedVariables false
set_option linter.unusedSectionVars false
open Go.RowKit

/-! ### the plain law: of one server's proposals of a round there is but one: views of one name are one -/
theorem agree_nodup {l : List Pp} {ss : List Pr} (hl : l.length = ss.length) (hs : sortedL (l.map Pp.sv) = ss) : (l.map Pp.sv).Nodup := by
  have h1 : SS ss := by rw [← hs]; exact sortedL_ss _
  refine (sorted_is h1 (fun p hp => ?_) (by rw [List.length_map]; exact hl)).1 hs
  rw [← hs]; exact mem_sortedL.2 hp
theorem one_view {all l m : List Pp} (hu : ∀ x ∈ all, ∀ y ∈ all, x.sv = y.sv → x.rd = y.rd → x = y) (hl : ∀ x ∈ l, x ∈ all) (hm : ∀ x ∈ m, x ∈ all) {rd vn vi : Int} {ms ms' : List Pr} {us us' : List Int}
    (v : viewP l = some ((rd, vn, vi), ms, us)) (v' : viewP m = some ((rd, vn, vi), ms', us')) : ms' = ms ∧ us' = us := by
  obtain ⟨a1, _, _, _, a5, a6, _, _⟩ := viewP_some v
  obtain ⟨b1, _, _, _, b5, b6, _, _⟩ := viewP_some v'
  obtain ⟨c0, c1, r1, s1, c2, c3, c4⟩ := agreeB_iff.1 a1
  obtain ⟨d0, d1, r2, s2, d2, d3, d4⟩ := agreeB_iff.1 b1
  obtain ⟨e1, e2, e3⟩ := heads c0 c3
  obtain ⟨f1, f2, f3⟩ := heads d0 d3
  rw [e1] at a5
  rw [f1] at b5
  rw [e2] at a6
  rw [f2] at b6
  have hr : r1 = r2 := by rw [← a5, ← b5]
  have g1 : (vn, vi) ∈ s1 := by rw [a6]; exact getD0_mem _ (by have := (mayB_facts e3).1; rwa [e2] at this)
  have g2 : (vn, vi) ∈ s2 := by rw [b6]; exact getD0_mem _ (by have := (mayB_facts f3).1; rwa [f2] at this)
  rw [← c4, mem_sortedL] at g1
  rw [← d4, mem_sortedL] at g2
  obtain ⟨p, hp, hp1⟩ := List.mem_map.1 g1
  obtain ⟨q, hq, hq1⟩ := List.mem_map.1 g2
  have hpq : p = q := hu p (hl p hp) q (hm q hq) (hp1.trans hq1.symm) (by rw [(c3 p hp).2.1, (d3 q hq).2.1, hr])
  have hs : s1 = s2 := by rw [← (c3 p hp).2.2, ← (d3 q hq).2.2, hpq]
  have n1 : l.Nodup := List.Pairwise.of_map Pp.sv (fun _ _ h e => h (by rw [e])) (agree_nodup c2 c4)
  have n2 : m.Nodup := List.Pairwise.of_map Pp.sv (fun _ _ h e => h (by rw [e])) (agree_nodup d2 d4)
  have hperm : l.Perm m := (List.perm_ext_iff_of_nodup n1 n2).2 (fun x => by
    constructor
    · intro hx
      have h1 : x.sv ∈ sortedL (l.map Pp.sv) := mem_sortedL.2 (List.mem_map.2 ⟨x, hx, rfl⟩)
      rw [c4, hs, ← d4, mem_sortedL] at h1
      obtain ⟨y, hy, hyx⟩ := List.mem_map.1 h1
      have : x = y := hu x (hl x hx) y (hm y hy) hyx.symm (by rw [(c3 x hx).2.1, (d3 y hy).2.1, hr])
      rw [this]; exact hy
    · intro hx
      have h1 : x.sv ∈ sortedL (m.map Pp.sv) := mem_sortedL.2 (List.mem_map.2 ⟨x, hx, rfl⟩)
      rw [d4, ← hs, ← c4, mem_sortedL] at h1
      obtain ⟨y, hy, hyx⟩ := List.mem_map.1 h1
      have : x = y := hu x (hm x hx) y (hl y hy) hyx.symm (by rw [(d3 x hx).2.1, (c3 y hy).2.1, hr])
      rw [this]; exact hy)
  rw [viewP_perm hperm, v'] at v
  simp only [Option.some.injEq, Prod.mk.injEq] at v
  exact ⟨v.2.1, v.2.2⟩
/-! ### rows of views -/
theorem Try.okVw : ElemOk Try.prog 52 32 5 72 := elemOk_of (.agg #[.int .u64 0, .int .i64 0, .int .u64 0, .slice none 0 0, .slice none 0 0]) Try.underlying52 (by kernel_rfl) rfl (by omega)
def Vw.cl (x : Vw) : List Value := [.int .u64 x.r, .int .i64 x.n, .int .u64 x.i, .slice x.MA x.ms.length x.mc, .slice x.UA x.us.length x.uc]
theorem Vw.cl_len (x : Vw) : x.cl.length = 5 := rfl
def vws (l : List Vw) : List Value := l.flatMap Vw.cl
theorem vws_len (l : List Vw) : (vws l).length = l.length * 5 := flat_length Vw.cl_len l
theorem vws_app (l m : List Vw) : vws (l ++ m) = vws l ++ vws m := List.flatMap_append
theorem vws_one (l : List Vw) : ∀ u ∈ vws l, u.oneCell' = true := by
  intro u hu
  obtain ⟨p, _, hp⟩ := List.mem_flatMap.1 hu
  simp [Vw.cl] at hp
  rcases hp with rfl | rfl | rfl | rfl | rfl <;> rfl
theorem Reads.at5 {w : World} {B : Nat} {A : Option Addr} {n k : Nat} {l : List Vw} (h : Reads w B 5 A n (vws l)) (hk : k < n) :
    ∃ b off x, A = some ⟨b, off, none⟩ ∧ b < B ∧ l[k]? = some x ∧ w.cell? ⟨b, off + k * 5, none⟩ = some (.int .u64 x.r) ∧ w.cell? ⟨b, off + k * 5 + 1, none⟩ = some (.int .i64 x.n) ∧ w.cell? ⟨b, off + k * 5 + 2, none⟩ = some (.int .u64 x.i)
      ∧ w.cell? ⟨b, off + k * 5 + 3, none⟩ = some (.slice x.MA x.ms.length x.mc) ∧ w.cell? ⟨b, off + k * 5 + 4, none⟩ = some (.slice x.UA x.us.length x.uc) := by
  obtain ⟨b, off, rfl, hb, hc⟩ := h.2 (by omega)
  have hl : k < l.length := by have := h.1; rw [vws_len] at this; omega
  have hp : l[k]? = some l[k] := List.getElem?_eq_getElem hl
  refine ⟨b, off, l[k], rfl, hb, hp, ?_, ?_, ?_, ?_, ?_⟩
  · exact hc (k * 5 + 0) _ (by rw [vws, flat_get Vw.cl_len l k 0 _ hp (by omega)]; rfl)
  · rw [Nat.add_assoc]; exact hc (k * 5 + 1) _ (by rw [vws, flat_get Vw.cl_len l k 1 _ hp (by omega)]; rfl)
  · rw [Nat.add_assoc]; exact hc (k * 5 + 2) _ (by rw [vws, flat_get Vw.cl_len l k 2 _ hp (by omega)]; rfl)
  · rw [Nat.add_assoc]; exact hc (k * 5 + 3) _ (by rw [vws, flat_get Vw.cl_len l k 3 _ hp (by omega)]; rfl)
  · rw [Nat.add_assoc]; exact hc (k * 5 + 4) _ (by rw [vws, flat_get Vw.cl_len l k 4 _ hp (by omega)]; rfl)
theorem reads_vw1 (w : World) (x : Vw) (m : Nat) (hm : w.heap.size = m) : Reads (w.alloc (.cells x.cl.toArray 32)) (w.alloc (.cells x.cl.toArray 32)).heap.size 5 (some ⟨m, 0, none⟩) 1 (vws [x]) := by
  subst hm
  refine ⟨by simp [vws, Vw.cl], fun _ => ⟨_, _, rfl, by simp, fun j u hu => ?_⟩⟩
  rw [Nat.zero_add, World.cell?_alloc_at _ _ _ _ rfl, List.getElem?_toArray]
  simpa [vws] using hu
theorem reads_kept {W W' : World} {k n : Nat} {A : Option Addr} {xs : List Value} {row : Option Nat} (h : Reads W W.heap.size k A n xs) (hg : W.grownBy W' row) (hne : ∀ g, row = some g → ∀ a, A = some a → a.block ≠ g) : Reads W' W'.heap.size k A n xs := by
  refine ⟨h.1, fun hn => ?_⟩
  obtain ⟨b, off, rfl, hb, hc⟩ := h.2 hn
  exact ⟨b, off, rfl, Nat.lt_of_lt_of_le hb hg.size, fun j u hu => (World.cell?_of_block (a := ⟨b, off + j, none⟩) (hg.block b hb (fun e => hne b e.symm _ rfl rfl))).trans (hc j u hu)⟩
theorem reads_lt {W : World} {B k n : Nat} {A : Option Addr} {xs : List Value} (h : Reads W B k A n xs) (hn : 0 < n) : ∀ a, A = some a → a.block < B := by
  intro a ha
  obtain ⟨b, off, rfl, hb, _⟩ := h.2 hn
  injection ha with ha
  subst ha
  exact hb
/-- the views that were made -/
structure OV (w : World) (all : List Pp) (v : Value) (VV : List Vw) (W : World) : Prop where
  oa : W.ownsRow w.heap.size 32 5 v VV.length (vws VV)
  ok : ∀ x ∈ VV, x.Ok W ∧ ∃ s : List Pp, (∀ y ∈ s, y ∈ all) ∧ viewP s = some ((x.r, x.n, x.i), x.ms, x.us)
  far : ∀ x ∈ VV, ∀ g, v.ownBlock = some g → (∀ a, x.MA = some a → a.block ≠ g) ∧ (∀ a, x.UA = some a → a.block ≠ g)
  hB : Below w.heap.size w W
theorem OV.below {w W W' : World} {all : List Pp} {v : Value} {VV : List Vw} (h : OV w all v VV W) (hb : Below W.heap.size W W') : OV w all v VV W' :=
  ⟨own_below h.oa hb (Nat.le_refl _), fun x hx => ⟨(h.ok x hx).1.step hb, (h.ok x hx).2⟩, h.far, below_step h.hB hb⟩
theorem OV.app {w W W' : World} {all : List Pp} {v v' : Value} {VV : List Vw} {x : Vw} (h : OV w all v VV W) (okx : x.Ok W) (hs : ∃ s : List Pp, (∀ y ∈ s, y ∈ all) ∧ viewP s = some ((x.r, x.n, x.i), x.ms, x.us))
    (hf : ∀ g, v.ownBlock = some g → (∀ a, x.MA = some a → a.block ≠ g) ∧ (∀ a, x.UA = some a → a.block ≠ g))
    (ho : W'.ownsRow w.heap.size 32 5 v' (VV.length + 1) (vws VV ++ vws [x])) (hg : W.grownBy W' v.ownBlock) (ha : v'.ownBlock = v.ownBlock ∨ v'.ownBlock = some W.heap.size) : OV w all v' (VV ++ [x]) W' := by
  have key : ∀ y ∈ VV ++ [x], (y.Ok W ∧ ∃ s : List Pp, (∀ z ∈ s, z ∈ all) ∧ viewP s = some ((y.r, y.n, y.i), y.ms, y.us)) ∧ ∀ g, v.ownBlock = some g → (∀ a, y.MA = some a → a.block ≠ g) ∧ (∀ a, y.UA = some a → a.block ≠ g) := by
    intro y hy
    rcases List.mem_append.1 hy with hy | hy
    · exact ⟨h.ok y hy, h.far y hy⟩
    · simp only [List.mem_singleton] at hy
      subst hy
      exact ⟨⟨okx, hs⟩, hf⟩
  refine ⟨?_, fun y hy => ?_, fun y hy g hgv => ?_, h.hB.grown hg h.hB.size (fun k hk => (h.oa.lt k hk).1)⟩
  · rw [List.length_append, vws_app]; exact ho
  · obtain ⟨⟨k1, k2⟩, k3⟩ := key y hy
    exact ⟨⟨reads_kept k1.m hg (fun g hg a ha => (k3 g hg).1 a ha), reads_kept k1.u hg (fun g hg a ha => (k3 g hg).2 a ha), k1.ml, k1.ul⟩, k2⟩
  · obtain ⟨⟨k1, s, k2, k4⟩, k3⟩ := key y hy
    rcases ha with ha | ha
    · exact k3 g (by rw [← ha]; exact hgv)
    · rw [ha] at hgv
      injection hgv with hgv
      obtain ⟨_, c1, _⟩ := viewP_some k4
      obtain ⟨_, m1, m2⟩ := viewP_ms k4
      refine ⟨fun a hma => ?_, fun a hua => ?_⟩
      · have := reads_lt k1.m (by omega) a hma; omega
      · have := reads_lt k1.u (by omega) a hua; omega
/-- while a sub-list is made -/
structure RSub (w : World) (all : List Pp) (v : Value) (T : List Pp) (W : World) : Prop where
  oa : W.ownsRow w.heap.size 51 6 v T.length (pps T)
  sub : ∀ y ∈ T, y ∈ all
  hB : Below w.heap.size w W
theorem RSub.app {w W W' : World} {all : List Pp} {v v' : Value} {T : List Pp} {x : Pp} (h : RSub w all v T W) (hx : x ∈ all) (ho : W'.ownsRow w.heap.size 51 6 v' (T.length + 1) (pps T ++ pps [x])) (hg : W.grownBy W' v.ownBlock) : RSub w all v' (T ++ [x]) W' := by
  refine ⟨?_, fun y hy => ?_, h.hB.grown hg h.hB.size (fun k hk => (h.oa.lt k hk).1)⟩
  · rw [List.length_append, pps_app]; exact ho
  · rcases List.mem_append.1 hy with hy | hy
    · exact h.sub y hy
    · simp only [List.mem_singleton] at hy
      subst hy; exact hx
theorem RSub.al {w W : World} {all : List Pp} {v : Value} {T : List Pp} (h : RSub w all v T W) (o : Obj) : RSub w all v T (W.alloc o) := ⟨own_below h.oa (below_alloc W o) (Nat.le_refl _), h.sub, below_step h.hB (below_alloc W o)⟩
set_option maxRecDepth 100000 in
set_option maxHeartbeats 4000000 in
theorem oneF (A : Option Addr) (c : Nat) (l : List Pp) (w : World) (hpl : Pl w A l) (h8 : l.length ≤ 8) (hw : ∀ x ∈ l, x.In w ∧ x.Wf) (TH : Hid (Calls Try.prog 19 #[.slice A l.length c] w fun e w' => e = .returned (.bool false) ∧ w = w')) : Calls Try.prog 6 #[.slice A l.length c] w (RetB w true) := by
  have TA := hide (fun W => awake9_t W)
  have HP := hide hpl
  have HWF : Hid (∀ x ∈ l, ∀ p ∈ x.cs, wfP p) := hide (fun x hx => (hw x hx).2.cs)
  have h88 : decide ((8 : Int) < (l.length : Int)) = false := decide_eq_false (by omega)
  clear hpl hw
  go_enter Try.func6, Try.ntmps6
  go_wp2_with fail
  (with_reducible refine TH.out.mono ?_)
  rintro e w0 ⟨rfl, rfl⟩
  clear TH
  go_wp2
  go_loopw [3] (fun v wr => ∃ (i q : Nat), i ≤ l.length ∧ v = .int .i64 i ∧ wr = w.drewN q ∧ ∀ a b x y, a < i → b < a → l[a]? = some x → l[b]? = some y → ¬ (x.sv = y.sv ∧ x.rd = y.rd)) (fun v _ => l.length - (intOf v).toNat)
  case atStart => exact ⟨0, 0, Nat.zero_le _, rfl, rfl, by intro a b x y h; omega⟩
  case round =>
    obtain ⟨i, q, hi, rfl, rfl, hnot⟩ := hrel
    have HN := hide hnot
    clear hnot
    by_cases hlt : i < l.length
    · obtain ⟨b, off, x, rfl, hb, hp, g1, g2, g3, g4, g5, g6⟩ := HP.out.r.at6 hlt
      have HPk := hide hp
      haveI : InW b w := ⟨hb⟩
      have i1 : (i : Int) < (l.length : Int) := by omega
      clear g4 g5 g6 hp
      obtain ⟨n, ic, rd, SA, sc, ss, CA, cc, cs, UA, uc, us⟩ := x
      simp only at g1 g2 g3
      go_wp2
      go_loopw [4] (fun v wr => ∃ (k q : Nat), k ≤ i ∧ v = .int .i64 k ∧ wr = w.drewN q ∧ ∀ b y, b < k → l[b]? = some y → ¬ ((n, ic) = y.sv ∧ rd = y.rd)) (fun v _ => i - (intOf v).toNat)
      case atStart => exact ⟨0, q, Nat.zero_le _, rfl, rfl, by intro b y h; omega⟩
      case round =>
        obtain ⟨k, q2, hk, rfl, rfl, hnot⟩ := hrel
        have HM := hide hnot
        clear hnot
        by_cases hlt2 : k < i
        · obtain ⟨b2, off2, y, hA, hb2, hp2, f1, f2, f3, f4, f5, f6⟩ := HP.out.r.at6 (show k < l.length by omega)
          injection hA with hA
          injection hA with hA1 hA2
          subst hA1 hA2
          have HPk2 := hide hp2
          have i2 : (k : Int) < (i : Int) := by omega
          have i3 : (k : Int) < (l.length : Int) := by omega
          clear f4 f5 f6 hp2 hb2
          obtain ⟨n', ic', rd', SA', sc', ss', CA', cc', cs', UA', uc', us'⟩ := y
          simp only at f1 f2 f3
          by_cases he : eqP n ic n' ic' = true
          · by_cases he2 : (rd == rd') = true
            · go_wp2
              go_quiet (fail)
              go_wp2_with fail
              (with_reducible refine (TA.out _).mono ?_)
              rintro e w3 ⟨rfl, hb3⟩
              go_wp2
              go_ret
              exact ⟨rfl, below_step (show Below w.heap.size w _ from (by repeat (first | exact Below.refl _ _ | assumption | refine bel_al ?_ _ | refine bel_gw ?_ _ _ | refine bel_drew ?_ | refine bel_drewN ?_ _))) hb3⟩
            · have H := hide (show ∀ b y, b < k + 1 → l[b]? = some y → ¬ ((n, ic) = y.sv ∧ rd = y.rd) from fun b y hb' hy => by
                rcases Nat.lt_or_ge b k with h | h
                · exact HM.out b y h hy
                · obtain rfl : b = k := by omega
                  rw [HPk2.out] at hy
                  injection hy with hy
                  subst hy
                  rintro ⟨_, e⟩
                  simp only at e
                  exact he2 (by simp [e]))
              have he3 : (rd == rd') = false := by simpa using he2
              clear he2
              go_wp2
              go_quiet (fail)
              go_wp2
              go_roundw
              case rel => exact ⟨k + 1, _, by omega, by go_num, rfl, H.out⟩
              case measure => simp [intOf]; omega
          · have H := hide (show ∀ b y, b < k + 1 → l[b]? = some y → ¬ ((n, ic) = y.sv ∧ rd = y.rd) from fun b y hb' hy => by
              rcases Nat.lt_or_ge b k with h | h
              · exact HM.out b y h hy
              · obtain rfl : b = k := by omega
                rw [HPk2.out] at hy
                injection hy with hy
                subst hy
                rintro ⟨e, _⟩
                exact he (eqP_iff.2 e))
            have he3 : eqP n ic n' ic' = false := by simpa using he
            clear he
            go_wp2
            go_quiet (fail)
            go_wp2
            go_roundw
            case rel => exact ⟨k + 1, _, by omega, by go_num, rfl, H.out⟩
            case measure => simp [intOf]; omega
        · obtain rfl : k = i := by omega
          have H := hide (show ∀ a b x y, a < k + 1 → b < a → l[a]? = some x → l[b]? = some y → ¬ (x.sv = y.sv ∧ x.rd = y.rd) from fun a b x y ha hba hx hy => by
            rcases Nat.lt_or_ge a k with h | h
            · exact HN.out a b x y h hba hx hy
            · obtain rfl : a = k := by omega
              rw [HPk.out] at hx
              injection hx with hx
              subst hx
              exact HM.out b y hba hy)
          go_wp2
          go_roundw
          case rel => exact ⟨k + 1, _, by omega, by go_num, rfl, H.out⟩
          case measure => simp [intOf]; omega
    · obtain rfl : i = l.length := by omega
      have HU : Hid (∀ x ∈ l, ∀ y ∈ l, x.sv = y.sv → x.rd = y.rd → x = y) := hide (fun x hx y hy e1 e2 => by
        obtain ⟨a, ha, hxa⟩ := List.mem_iff_getElem.1 hx
        obtain ⟨b, hb, hyb⟩ := List.mem_iff_getElem.1 hy
        rcases Nat.lt_trichotomy a b with h | h | h
        · exact absurd ⟨e1.symm, e2.symm⟩ (HN.out b a y x hb h (by rw [List.getElem?_eq_getElem hb, hyb]) (by rw [List.getElem?_eq_getElem ha, hxa]))
        · subst h; rw [← hxa, ← hyb]
        · exact absurd ⟨e1, e2⟩ (HN.out a b x y ha h (by rw [List.getElem?_eq_getElem ha, hxa]) (by rw [List.getElem?_eq_getElem hb, hyb])))
      clear HN hi hlt
      have hV0 : OV w l (.slice none 0 0) [] (w.drewN q) := ⟨World.ownsRow_nil _ _ _ _, by simp, by simp, (by repeat (first | exact Below.refl _ _ | assumption | refine bel_al ?_ _ | refine bel_gw ?_ _ _ | refine bel_drew ?_ | refine bel_drewN ?_ _))⟩
      go_wp2
      go_loopw [5, 6] (fun v i wr => ∃ (x : Nat) (VV : List Vw), x ≤ 256 ∧ VV.length ≤ x ∧ i = .int .i64 x ∧ OV w l v VV wr) (fun _ i _ => 256 - (intOf i).toNat)
      case atStart => exact ⟨0, [], by omega, by simp, rfl, hV0⟩
      case round =>
        obtain ⟨x, VV, hx, hVl, rfl, V⟩ := hrel
        obtain ⟨wo, rfl⟩ : ∃ wo, wo = wr := ⟨wr, rfl⟩
        obtain ⟨FA, fc, rfl, _, _⟩ := own_slice V.oa
        have hpow : ∀ n : Nat, n ≤ 8 → wrap64 ((2 : Int) ^ n) ≤ 256 := by
          intro n hn
          rcases (by omega : n = 0 ∨ n = 1 ∨ n = 2 ∨ n = 3 ∨ n = 4 ∨ n = 5 ∨ n = 6 ∨ n = 7 ∨ n = 8) with rfl | rfl | rfl | rfl | rfl | rfl | rfl | rfl | rfl <;> simp [wrap64]
        have hp256 := hpow l.length h8
        have HV := hide V
        clear hpow
        by_cases hx1 : (x : Int) < wrap64 (2 ^ l.length)
        · have hx256 : x < 256 := by omega
          clear V hp256
          go_wp2
          go_loopw [7, 8] (fun v j wr => ∃ (i : Nat) (T : List Pp), i ≤ l.length ∧ j = .int .i64 i ∧ T.length ≤ i ∧ RSub wo l v T wr) (fun _ j _ => l.length - (intOf j).toNat)
          case atStart => exact ⟨0, [], Nat.zero_le _, rfl, by simp, ⟨World.ownsRow_nil _ _ _ _, by simp, Below.refl _ _⟩⟩
          case round =>
            obtain ⟨i, T, hi, rfl, hTl, R⟩ := hrel
            obtain ⟨wp, rfl⟩ : ∃ wp, wp = wr := ⟨wr, rfl⟩
            obtain ⟨GA, gc, rfl, _, _⟩ := own_slice R.oa
            by_cases hlt : i < l.length
            · obtain ⟨b, off, y, rfl, hb, hp, g1, g2, g3, g4, g5, g6⟩ := (HP.out.step (below_step HV.out.hB R.hB)).r.at6 hlt
              have hyl : y ∈ l := List.mem_of_getElem? hp
              have HYL := hide hyl
              have HR := hide R
              have hszw := R.hB.size
              have hszo := HV.out.hB.size
              haveI : InW b wp := ⟨hb⟩
              have i1 : (i : Int) < (l.length : Int) := by omega
              clear hp hyl R hb
              obtain ⟨n, ic, rd, SA, sc, ss, CA, cc, cs, UA, uc, us⟩ := y
              simp only at g1 g2 g3 g4 g5 g6
              by_cases f : (((x : Int) / 2 ^ i).tmod 2 == 1) = true
              · go_wp2_with (at_builtin; go_must (refine wpList_append_any _ Try.okPp (by rfl) (.tmp 75) (.tmp 80) (by rfl) wo.heap.size (.slice GA T.length gc) T.length (pps T) (by rfl) (HR.out.al _).oa _ (some ⟨wp.heap.size, 0, none⟩) 1 1 (pps [(⟨n, ic, rd, SA, sc, ss, CA, cc, cs, UA, uc, us⟩ : Pp)]) (by rfl) (reads_pp1 wp ⟨n, ic, rd, SA, sc, ss, CA, cc, cs, UA, uc, us⟩ _ rfl) (pps_one _) (by unfold maxLen; omega) (by omega) (by simp; omega) ?_); intro v5 w5 ho5 hg5 hn5 ha5; go_must (have HR5 := hide ((HR.out.al _).app (x := ⟨n, ic, rd, SA, sc, ss, CA, cc, cs, UA, uc, us⟩) HYL.out ho5 hg5)); obtain ⟨A5, c5, e5, _, _⟩ := own_slice ho5; subst e5; clear ho5 hg5 hn5 ha5)
                clear HR g1 g2 g3 g4 g5 g6
                go_wp2
                go_roundw
                case rel => exact ⟨i + 1, T ++ [⟨n, ic, rd, SA, sc, ss, CA, cc, cs, UA, uc, us⟩], by omega, by go_num, by simp; omega, HR5.out⟩
                case measure => simp [intOf]; omega
              · have f' : (((x : Int) / 2 ^ i).tmod 2 == 1) = false := by simpa using f
                clear f g1 g2 g3 g4 g5 g6
                go_wp2
                go_roundw
                case rel => exact ⟨i + 1, T, by omega, by go_num, by omega, HR.out⟩
                case measure => simp [intOf]; omega
            · obtain rfl : i = l.length := by omega
              have HR := hide R
              have hgz : ∀ g, (Value.slice FA VV.length fc).ownBlock = some g → g < wo.heap.size := fun g hg => (HV.out.oa.lt g hg).2
              have HVp := hide (HV.out.below R.hB)
              have T1 := hide (pview_f GA gc T wp ⟨Reads.of_own R.oa, fun y hy => (HP.out.ok y (R.sub y hy)).step (below_step HV.out.hB R.hB)⟩ (by omega) (fun y hy => HWF.out y (R.sub y hy)))
              have hzz := R.hB.size
              generalize hv : viewP T = o at T1
              have HVT := hide hv
              have HGZ := hide hgz
              clear hv hgz HV R
              rcases o with _ | ⟨⟨r, vn, vi⟩, ms, us⟩
              · go_wp2_with fail
                (with_reducible refine T1.out.mono ?_)
                rintro e w5 ⟨rfl, hb⟩
                have HV6 := hide ((HVp.out.below hb).below (below_alloc w5 (bxV 0 0 0 none 0 0 none 0 0)))
                clear hb T1 HVp HGZ HR
                go_wp2
                go_roundw
                case rel => exact ⟨x + 1, VV, by omega, by omega, by go_num, HV6.out⟩
                case measure => simp [intOf]; omega
              · go_wp2_with fail
                (with_reducible refine T1.out.mono ?_)
                rintro e w5 ⟨MA, mc, UA, uc, rfl, ok5, fm, fu, hb⟩
                simp only at ok5 fm fu ⊢
                have HF : Hid (∀ g, (Value.slice FA VV.length fc).ownBlock = some g → (∀ a, MA = some a → a.block ≠ g) ∧ (∀ a, UA = some a → a.block ≠ g)) := hide (fun g hg => ⟨fun a ha => by have := fm a ha; have := HGZ.out g hg; omega, fun a ha => by have := fu a ha; have := HGZ.out g hg; omega⟩)
                have HV6 := hide ((HVp.out.below hb).below (below_alloc w5 (bxV r vn vi MA ms.length mc UA us.length uc)))
                have OK6 := hide (ok5.step (below_alloc w5 (bxV r vn vi MA ms.length mc UA us.length uc)))
                have p6 := boxTop w5 #[.int .u64 r, .int .i64 vn, .int .u64 vi, .slice MA ms.length mc, .slice UA us.length uc] 32
                have hz6 := HV6.out.hB.size
                haveI := p6
                clear hb T1 HVp HGZ ok5 fm fu
                go_wp2_with (at_builtin; go_must (refine wpList_append_any _ Try.okVw (by rfl) (.tmp 88) (.tmp 90) (by rfl) w.heap.size (.slice FA VV.length fc) VV.length (vws VV) (by rfl) (HV6.out.below (below_alloc _ _)).oa _ (some ⟨w5.heap.size + 1, 0, none⟩) 1 1 (vws [(⟨r, vn, vi, MA, mc, ms, UA, uc, us⟩ : Vw)]) (by rfl) (reads_vw1 _ ⟨r, vn, vi, MA, mc, ms, UA, uc, us⟩ _ (by simp)) (vws_one _) (by unfold maxLen; omega) (by omega) (by simp at hz6 ⊢; omega) ?_); intro v5 w9 ho5 hg5 hn5 ha5; go_must (have HV8 := hide ((HV6.out.below (below_alloc _ _)).app (x := ⟨r, vn, vi, MA, mc, ms, UA, uc, us⟩) (OK6.out.step (below_alloc _ _)) ⟨T, HR.out.sub, HVT.out⟩ HF.out ho5 hg5 ha5)); obtain ⟨A5, c5, e5, _, _⟩ := own_slice ho5; subst e5; clear ho5 hg5 hn5 ha5)
                clear HV6 OK6 HF HR hz6
                go_wp2
                go_roundw
                case rel => exact ⟨x + 1, VV ++ [⟨r, vn, vi, MA, mc, ms, UA, uc, us⟩], by omega, by simp; omega, by go_num, HV8.out⟩
                case measure => simp [intOf]; omega
        · clear V hp256
          go_wp2
          go_loopw [11] (fun v wr => ∃ i : Nat, i ≤ VV.length ∧ v = .int .i64 i ∧ Below wo.heap.size wo wr) (fun v _ => VV.length - (intOf v).toNat)
          case atStart => exact ⟨0, Nat.zero_le _, rfl, Below.refl _ _⟩
          case round =>
            obtain ⟨i, hi, rfl, hB⟩ := hrel
            obtain ⟨wp, rfl⟩ : ∃ wp, wp = wr := ⟨wr, rfl⟩
            have HB := hide hB
            clear hB
            by_cases hlt : i < VV.length
            · have i1 : (i : Int) < (VV.length : Int) := by omega
              go_wp2
              go_loopw [12] (fun v wr => ∃ k : Nat, k ≤ i ∧ v = .int .i64 k ∧ Below wo.heap.size wo wr) (fun v _ => i - (intOf v).toNat)
              case atStart => exact ⟨0, Nat.zero_le _, rfl, HB.out⟩
              case round =>
                obtain ⟨k, hk, rfl, hB⟩ := hrel
                have HB2 := hide hB
                by_cases hlt2 : k < i
                · have V := HV.out.below hB
                  obtain ⟨b, off, x1, hA, hb, hp, g1, g2, g3, g4, g5⟩ := (Reads.of_own V.oa).at5 hlt
                  subst hA
                  obtain ⟨b2, off2, x2, hA, hb2, hp2, f1, f2, f3, f4, f5⟩ := (Reads.of_own V.oa).at5 (show k < VV.length by omega)
                  injection hA with hA
                  injection hA with hA1 hA2
                  subst hA1 hA2
                  have HK1 := hide (V.ok x1 (List.mem_of_getElem? hp))
                  have HK2 := hide (V.ok x2 (List.mem_of_getElem? hp2))
                  haveI : InW b wr := ⟨hb⟩
                  have i2 : (k : Int) < (i : Int) := by omega
                  have i3 : (k : Int) < (VV.length : Int) := by omega
                  clear hp hp2 V hB hb2
                  obtain ⟨r, n, ii, MA, mc, ms, UA, uc, us⟩ := x1
                  obtain ⟨r', n', ii', MA', mc', ms', UA', uc', us'⟩ := x2
                  simp only at g1 g2 g3 g4 g5 f1 f2 f3 f4 f5 HK1 HK2
                  by_cases he : eqI r n ii r' n' ii' = true
                  · have T7 : Hid (∀ W, Vw.Ok W ⟨r, n, ii, MA, mc, ms, UA, uc, us⟩ → Vw.Ok W ⟨r', n', ii', MA', mc', ms', UA', uc', us'⟩ → Calls Try.prog 25 #[.agg #[.int .u64 r, .int .i64 n, .int .u64 ii, .slice MA ms.length mc, .slice UA us.length uc], .agg #[.int .u64 r', .int .i64 n', .int .u64 ii', .slice MA' ms'.length mc', .slice UA' us'.length uc']] W (RetB W true)) := hide (fun W h h' => by
                      have e : r = r' ∧ n = n' ∧ ii = ii' := by simpa [eqI, and_assoc] using he
                      obtain ⟨rfl, rfl, rfl⟩ := e
                      obtain ⟨_, s1, k1, k2⟩ := HK1.out
                      obtain ⟨_, s2, k3, k4⟩ := HK2.out
                      obtain ⟨rfl, rfl⟩ := one_view HU.out k1 k3 k2 k4
                      have := refVSame_s _ _ W h h'
                      rw [show Vw.eqB ⟨r, n, ii, MA, mc, _, UA, uc, _⟩ ⟨r, n, ii, MA', mc', _, UA', uc', _⟩ = true by simp [Vw.eqB]] at this
                      exact this)
                    go_wp2_with fail
                    (refine wp_region_gw (by kernel_rfl) (by kernel_rfl) ?_; (repeat (go_big_quiet_step ((go_at_call 25; with_reducible exact calls_gw (T7.out _ (HK1.out.1.step (by repeat (first | exact Below.refl _ _ | assumption | refine bel_al ?_ _ | refine bel_gw ?_ _ _ | refine bel_drew ?_ | refine bel_drewN ?_ _))) (HK2.out.1.step (by repeat (first | exact Below.refl _ _ | assumption | refine bel_al ?_ _ | refine bel_gw ?_ _ _ | refine bel_drew ?_ | refine bel_drewN ?_ _)))))))); refine wpQuiet_nil ?_; intro _ hw'; obtain ⟨⟨dq, osq⟩, hw''⟩ := hw'; subst hw'')
                    go_wp2
                    go_roundw
                    case rel => exact ⟨k + 1, by omega, by go_num, below_step HB2.out (by repeat (first | exact Below.refl _ _ | assumption | refine bel_al ?_ _ | refine bel_gw ?_ _ _ | refine bel_drew ?_ | refine bel_drewN ?_ _))⟩
                    case measure => simp [intOf]; omega
                  · have he' : eqI r n ii r' n' ii' = false := by simpa using he
                    clear he
                    go_wp2_with fail
                    (refine wp_region_gw (by kernel_rfl) (by kernel_rfl) ?_; (repeat (go_big_quiet_step ((fail)))); refine wpQuiet_nil ?_; intro _ hw'; obtain ⟨⟨dq, osq⟩, hw''⟩ := hw'; subst hw'')
                    go_wp2
                    go_roundw
                    case rel => exact ⟨k + 1, by omega, by go_num, below_step HB2.out (by repeat (first | exact Below.refl _ _ | assumption | refine bel_al ?_ _ | refine bel_gw ?_ _ _ | refine bel_drew ?_ | refine bel_drewN ?_ _))⟩
                    case measure => simp [intOf]; omega
                · obtain rfl : k = i := by omega
                  go_wp2
                  go_roundw
                  case rel => exact ⟨k + 1, by omega, by go_num, HB2.out⟩
                  case measure => simp [intOf]; omega
            · obtain rfl : i = VV.length := by omega
              have HBw := hide (below_step HV.out.hB HB.out)
              go_wp2_with fail
              (with_reducible refine (TA.out _).mono ?_)
              rintro e w7 ⟨rfl, hb⟩
              have HB7 := hide (below_step HBw.out hb)
              clear hb
              go_wp2
              go_ret
              exact ⟨rfl, HB7.out⟩
set_option maxRecDepth 100000 in
set_option maxHeartbeats 4000000 in
theorem proposalOne_true (A : Option Addr) (c : Nat) (l : List Pp) (w : World) (h : Reads w w.heap.size 6 A l.length (pps l)) (hn : l.length ≤ 9223372036854775807) (hw : ∀ x ∈ l, x.In w ∧ x.Wf) : Calls Try.prog 6 #[.slice A l.length c] w (RetB w true) := by
  have TA := hide (fun W => awake9_t W)
  have TH := hide (heavy9_s A c l w h hn)
  cases hh : hvPL l
  · rw [hh] at TH
    by_cases h8 : l.length ≤ 8
    · exact oneF A c l w (pl_of h hw hh) h8 hw TH
    · have h88 : decide ((8 : Int) < (l.length : Int)) = true := decide_eq_true (by omega)
      clear h hw hh hn h8
      go_enter Try.func6, Try.ntmps6
      go_wp2_with fail
      (with_reducible refine TH.out.mono ?_)
      rintro e w0 ⟨rfl, rfl⟩
      go_wp2_with fail
      (with_reducible refine (TA.out _).mono ?_)
      rintro e w3 ⟨rfl, hb⟩
      go_wp2
      go_ret
      exact ⟨rfl, hb⟩
  · rw [hh] at TH
    clear h hw hh hn
    go_enter Try.func6, Try.ntmps6
    go_wp2_with fail
    (with_reducible refine TH.out.mono ?_)
    rintro e w0 ⟨rfl, rfl⟩
    go_wp2_with fail
    (with_reducible refine (TA.out _).mono ?_)
    rintro e w3 ⟨rfl, hb⟩
    go_wp2
    go_ret
    exact ⟨rfl, hb⟩
end Go.Proofs.Ytgpmcpinnaggmaa
