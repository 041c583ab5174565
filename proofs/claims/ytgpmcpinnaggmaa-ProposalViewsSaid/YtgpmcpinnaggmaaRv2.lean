/-
  Layer 9's reference: contracts: start, View.
-/
import Derived.Test.YtgpmcpinnaggmaaPv2
namespace Go.Proofs.Ytgpmcpinnaggmaa
set_option linter.unusedSimpArgs false
set_option linter.unusedVariables false
set_option linter.unusedSectionVars false
open Go.RowKit Go.Maps

/-- the first number that is told of a life -/
def startL (L : List (Pr × Int)) (p : Pr) : Int := ((L.find? (fun x => decide (x.1 = p))).map (·.2)).getD 0
theorem startL_app {L M : List (Pr × Int)} {p : Pr} (h : ∀ x ∈ L, x.1 ≠ p) : startL (L ++ M) p = startL M p := by
  unfold startL
  rw [List.find?_append, List.find?_eq_none.2 (fun x hx => by simpa using h x hx)]
  rfl
theorem startL_hit {L M : List (Pr × Int)} {p : Pr} {u : Int} (h : ∀ x ∈ L, x.1 ≠ p) : startL (L ++ (p, u) :: M) p = u := by
  rw [startL_app h]
  unfold startL
  simp
theorem startL_none {L : List (Pr × Int)} {p : Pr} (h : ∀ x ∈ L, x.1 ≠ p) : startL L p = 0 := by
  have := startL_app (M := []) h
  rw [List.append_nil] at this
  rw [this]; rfl
/-- where each life stands once, the first is the last -/
theorem startL_look {L : List (Pr × Int)} (hn : (L.map (·.1)).Nodup) (p : Pr) : startL L p = lookL L p := by
  unfold startL lookL
  congr 2
  by_cases hp : ∃ x ∈ L, x.1 = p
  · obtain ⟨x, hx, rfl⟩ := hp
    obtain ⟨A, B, rfl⟩ := List.append_of_mem hx
    have h1 : ∀ y ∈ A, y.1 ≠ x.1 := fun y hy e => by
      rw [List.map_append, List.nodup_append] at hn
      exact hn.2.2 y.1 (List.mem_map.2 ⟨y, hy, rfl⟩) x.1 (by simp) e
    have h2 : ∀ y ∈ B, y.1 ≠ x.1 := fun y hy e => by
      rw [List.map_append, List.nodup_append, List.map_cons, List.nodup_cons] at hn
      exact hn.2.1.1 (List.mem_map.2 ⟨y, hy, e⟩)
    have hA : A.find? (fun y => decide (y.1 = x.1)) = none := List.find?_eq_none.2 (fun y hy => by simpa using h1 y hy)
    have hB : B.reverse.find? (fun y => decide (y.1 = x.1)) = none := List.find?_eq_none.2 (fun y hy => by simpa using h2 y (List.mem_reverse.1 hy))
    rw [List.find?_append, hA, List.reverse_append, List.reverse_cons, List.append_assoc, List.find?_append, hB]
    simp
  · have h0 : ∀ y ∈ L, y.1 ≠ p := fun y hy e => hp ⟨y, hy, e⟩
    have hA : L.find? (fun y => decide (y.1 = p)) = none := List.find?_eq_none.2 (fun y hy => by simpa using h0 y hy)
    have hB : L.reverse.find? (fun y => decide (y.1 = p)) = none := List.find?_eq_none.2 (fun y hy => by simpa using h0 y (List.mem_reverse.1 hy))
    rw [hA, hB]
theorem prs_take {l : List Pp} {k : Nat} {y : Pp} (h : l[k]? = some y) : prs l = prs (l.take k) ++ (y.cs.zip y.us ++ prs (l.drop (k + 1))) := by
  have hk : k < l.length := (List.getElem?_eq_some_iff.1 h).1
  have e : l = l.take k ++ (y :: l.drop (k + 1)) := by
    conv => lhs; rw [← List.take_append_drop k l]
    congr 1
    rw [List.drop_eq_getElem_cons hk]
    rw [List.getElem?_eq_getElem hk] at h
    injection h with h
    rw [h]
  conv => lhs; rw [e]
  unfold prs
  rw [List.flatMap_append, List.flatMap_cons]
set_option maxRecDepth 100000 in
set_option maxHeartbeats 4000000 in
theorem start9_s (A : Option Addr) (c : Nat) (l : List Pp) (pn pi : Int) (w : World) (h : Pl w A l) (hn : l.length ≤ 1000000) (hus : ∀ x ∈ l, x.us.length = x.cs.length) (hcs : ∀ x ∈ l, x.cs.length ≤ 1000000) :
    Calls Try.prog 70 #[.slice A l.length c, .agg #[.int .i64 pn, .int .u64 pi]] w fun e w' => e = .returned (.int .u64 (startL (prs l) (pn, pi))) ∧ Below w.heap.size w w' := by
  have HP := hide h
  clear h
  go_enter Try.func70, Try.ntmps70
  go_wp2
  go_loopw [5] (fun i wr => ∃ (k q : Nat), k ≤ l.length ∧ i = .int .i64 k ∧ wr = (w.alloc (bx pn pi)).drewN q ∧ ∀ x ∈ prs (l.take k), x.1 ≠ (pn, pi)) (fun i _ => l.length - (intOf i).toNat)
  case atStart => exact ⟨0, 0, Nat.zero_le _, rfl, rfl, by simp [prs]⟩
  case round =>
    obtain ⟨k, q, hk, rfl, rfl, hnot⟩ := hrel
    have HN := hide hnot
    clear hnot
    by_cases hlt : k < l.length
    · obtain ⟨b, off, y, rfl, hb, hp, g1, g2, g3, g4, g5, g6⟩ := HP.out.r.at6 hlt
      have HPk := hide hp
      have hy : y ∈ l := List.mem_of_getElem? hp
      have oky := HP.out.ok y hy
      have HC := hide oky.c
      have HU := hide oky.u
      have HE := hide (hus y hy)
      have hc6 := hcs y hy
      haveI : InW b w := ⟨hb⟩
      have i1 : (k : Int) < (l.length : Int) := by omega
      clear g1 g2 g3 g4 hp hy oky
      obtain ⟨n, i, rd, SA, sc, ss, CA, cc, cs, UA, uc, us⟩ := y
      simp only at g5 g6 HC HU HE hc6
      go_wp2
      go_loopw [6] (fun j wr => ∃ (m q : Nat), m ≤ cs.length ∧ j = .int .i64 m ∧ wr = (w.alloc (bx pn pi)).drewN q ∧ ∀ x ∈ (cs.zip us).take m, x.1 ≠ (pn, pi)) (fun j _ => cs.length - (intOf j).toNat)
      case atStart => exact ⟨0, q, Nat.zero_le _, rfl, rfl, by simp⟩
      case round =>
        obtain ⟨m, q2, hm, rfl, rfl, hnot⟩ := hrel
        have HM := hide hnot
        clear hnot
        by_cases hlt2 : m < cs.length
        · have hltu : m < us.length := by rw [HE.out]; exact hlt2
          obtain ⟨b', off', ⟨qn, qi⟩, rfl, hb', hp', j1, j2⟩ := HC.out.at2 hlt2
          obtain ⟨b'', off'', u, rfl, hb'', hq', j3⟩ := HU.out.atU hltu
          simp only at j1 j2
          have hz : (cs.zip us)[m]? = some ((qn, qi), u) := by rw [List.getElem?_zip_eq_some]; exact ⟨hp', hq'⟩
          have HZ := hide hz
          haveI : InW b' w := ⟨hb'⟩
          haveI : InW b'' w := ⟨hb''⟩
          have i2 : (m : Int) < (cs.length : Int) := by omega
          have i3 : (m : Int) < (us.length : Int) := by omega
          have HM1 := hide (show m + 1 ≤ cs.length by omega)
          clear hz hp' hq'
          by_cases he : eqP qn qi pn pi = true
          · have H := hide (show startL (prs l) (pn, pi) = u by
              rw [prs_take HPk.out, startL_app HN.out]
              have hd : cs.zip us = (cs.zip us).take m ++ (((qn, qi), u) :: (cs.zip us).drop (m + 1)) := by
                conv => lhs; rw [← List.take_append_drop m (cs.zip us)]
                congr 1
                have hk2 := (List.getElem?_eq_some_iff.1 HZ.out).1
                rw [List.drop_eq_getElem_cons hk2]
                have := HZ.out
                rw [List.getElem?_eq_getElem hk2] at this
                injection this with this
                rw [this]
              simp only at hd ⊢
              rw [hd, List.append_assoc, List.cons_append, show ((qn, qi) : Pr) = (pn, pi) from eqP_iff.1 he]
              exact startL_hit HM.out)
            go_wp2
            go_quiet (fail)
            go_wp2
            go_ret
            refine ⟨?_, (by repeat (first | exact Below.refl _ _ | assumption | refine bel_al ?_ _ | refine bel_gw ?_ _ _ | refine bel_drew ?_ | refine bel_drewN ?_ _))⟩
            show Ending.returned (.int .u64 u) = _
            rw [H.out]
          · have he' : eqP qn qi pn pi = false := by simpa using he
            have H := hide (show ∀ x ∈ (cs.zip us).take (m + 1), x.1 ≠ (pn, pi) by
              rw [take_succ_of HZ.out]
              intro x hx
              rcases List.mem_append.1 hx with hx | hx
              · exact HM.out x hx
              · simp only [List.mem_singleton] at hx
                subst hx
                intro e; exact he (eqP_iff.2 e))
            clear he
            go_wp2
            go_quiet (fail)
            go_wp2
            go_roundw
            case rel => exact ⟨m + 1, _, HM1.out, by go_num, rfl, H.out⟩
            case measure => have := HM1.out; simp [intOf]; omega
        · obtain rfl : m = cs.length := by omega
          have H := hide (show ∀ x ∈ prs (l.take (k + 1)), x.1 ≠ (pn, pi) by
            rw [(clsP_take HPk.out).2]
            intro x hx
            rcases List.mem_append.1 hx with hx | hx
            · exact HN.out x hx
            · exact HM.out x (by rw [List.take_of_length_le (by rw [List.length_zip]; exact Nat.min_le_left _ _)]; exact hx))
          go_wp2
          go_roundw
          case rel => exact ⟨k + 1, _, by omega, by go_num, rfl, H.out⟩
          case measure => simp [intOf]; omega
    · obtain rfl : k = l.length := by omega
      have H := hide (show startL (prs l) (pn, pi) = 0 by have := HN.out; rw [List.take_length] at this; exact startL_none this)
      go_wp2
      go_ret
      refine ⟨?_, (by repeat (first | exact Below.refl _ _ | assumption | refine bel_al ?_ _ | refine bel_gw ?_ _ _ | refine bel_drew ?_ | refine bel_drewN ?_ _))⟩
      show Ending.returned (.int .u64 0) = _
      rw [H.out]
end Go.Proofs.Ytgpmcpinnaggmaa

namespace Go.Proofs.Ytgpmcpinnaggmaa
set_option linter.unusedSimpArgs false
set_option linter.unusedVariables false
set_option linter.unusedSectionVars false
open Go.RowKit Go.Maps

/-- while all clients are gathered -/
structure RW (w : World) (v : Value) (La : List Pr) (W : World) : Prop where
  k2 : BoxAt W w.heap.size #[.int .u64 0, .int .i64 0, .int .u64 0, .slice none 0 0, .slice none 0 0] 32
  oa : OwnP W (w.heap.size + 1) v La
  hB : Below w.heap.size w W
theorem RW.below {w W W' : World} {v : Value} {La : List Pr} (h : RW w v La W) (hb : Below W.heap.size W W') : RW w v La W' := ⟨h.k2.step hb, own_below h.oa hb (Nat.le_refl _), below_step h.hB hb⟩
theorem RW.app {w W W' : World} {v v' : Value} {La Lb : List Pr} (h : RW w v La W) (ho : W'.ownsRow (w.heap.size + 1) 26 2 v' (La.length + Lb.length) (pcs La ++ pcs Lb)) (hg : W.grownBy W' v.ownBlock) : RW w v' (La ++ Lb) W' := by
  have hlo : ∀ k, v.ownBlock = some k → w.heap.size + 1 ≤ k := fun k hk => (h.oa.lt k hk).1
  refine ⟨h.k2.gr hg (fun e => by have := hlo _ e; omega), ?_, h.hB.grown hg h.hB.size (fun k hk => by have := hlo k hk; omega)⟩
  rw [OwnP, List.length_append, pcs_app]; exact ho
/-- while the starts are told -/
structure VR2 (w : World) (nv base mb moff : Nat) (a b c : Value) (mc : Nat) (ms : List Pr) (vv : Value) (L : List Int) (W : World) : Prop where
  k2 : BoxAt W w.heap.size #[.int .u64 0, .int .i64 0, .int .u64 0, .slice none 0 0, .slice none 0 0] 32
  kv : BoxAt W nv #[a, b, c, .slice (some ⟨mb, moff, none⟩) ms.length mc, vv] 32
  rm : ∀ j u, (pcs ms)[j]? = some u → W.cell? ⟨mb, moff + j, none⟩ = some u
  ou : W.ownsRow base 24 1 vv L.length (ucs L)
  hB : Below w.heap.size w W
  h3 : w.heap.size < nv
  h4 : nv < base
  h5 : mb < base
  h6 : mb ≠ nv
  h7 : base ≤ W.heap.size
section
variable {w W W' : World} {nv base mb moff : Nat} {a b c : Value} {mc : Nat} {ms : List Pr} {vv v5 : Value} {L : List Int} {x : Int}
theorem VR2.below (h : VR2 w nv base mb moff a b c mc ms vv L W) (hb : Below W.heap.size W W') : VR2 w nv base mb moff a b c mc ms vv L W' := by
  obtain ⟨k2, kv, rm, ou, hB, h3, h4, h5, h6, h7⟩ := h
  exact ⟨k2.step hb, kv.step hb, fun j u hu => (hb.cell (p := ⟨mb, moff + j, none⟩) (Nat.lt_of_lt_of_le h5 h7)).trans (rm j u hu), own_below ou hb (Nat.le_refl _), below_step hB hb, h3, h4, h5, h6, Nat.le_trans h7 hb.size⟩
theorem VR2.store (h : VR2 w nv base mb moff a b c mc ms vv L W) (ho : W'.ownsRow base 24 1 v5 (L.length + 1) (ucs L ++ ucs [x])) (hg : W.grownBy W' vv.ownBlock) :
    BoxAt W' nv #[a, b, c, .slice (some ⟨mb, moff, none⟩) ms.length mc, vv] 32 ∧ VR2 w nv base mb moff a b c mc ms v5 (L ++ [x]) (W'.setCell ⟨nv, 4, none⟩ v5) := by
  obtain ⟨k2, kv, rm, ou, hB, h3, h4, h5, h6, h7⟩ := h
  have hlo : ∀ k, vv.ownBlock = some k → base ≤ k := fun k hk => (ou.lt k hk).1
  have hbb : Below base W W' := grown_belowB hg h7 hlo
  have kv' := kv.stepN hbb h4
  have hgs := grown_setCell W' nv 4 v5
  have hsz := hbb.size
  refine ⟨kv', ⟨(k2.stepN hbb (by omega)).set (by omega), ⟨setCell_block _ _ _ _ _ _ kv'.eq⟩, ?_, ?_, ?_, h3, h4, h5, h6, Nat.le_trans h7 (Nat.le_trans hsz hgs.size)⟩⟩
  · intro j u hu
    have h0 : W'.cell? ⟨mb, moff + j, none⟩ = some u := (hbb.cell (p := ⟨mb, moff + j, none⟩) h5).trans (rm j u hu)
    exact (World.cell?_of_block (a := ⟨mb, moff + j, none⟩) (hgs.block mb (by omega) (fun e => h6 (by injection e)))).trans h0
  · rw [List.length_append, ucs_app]; exact own_grown ho hgs (by omega)
  · exact (hB.trans (hbb.mono (by omega))).trans (grown_to_below hgs (by omega) (by have := hB.size; omega))
end
set_option maxRecDepth 100000 in
set_option maxHeartbeats 4000000 in
theorem refView_s (A : Option Addr) (c : Nat) (l : List Pp) (w : World) (h : Pl w A l) (hn : l.length ≤ 1000000) (hnn : ∀ x ∈ l, x.Nn) (hr : ∀ x ∈ l, 0 ≤ x.rd) (hwf : ∀ x ∈ l, ∀ p ∈ x.cs, wfP p) : Calls Try.prog 22 #[.slice A l.length c] w (RetVw w (viewP l)) := by
  have T1 := hide (refAgree_s A c l _ (h.step (below_alloc w (bxV 0 0 0 none 0 0 none 0 0))) hn hnn hr)
  have HP := hide h
  have HWF := hide hwf
  clear h hwf hnn hr
  have p0 := boxTop w #[.int .u64 0, .int .i64 0, .int .u64 0, .slice none 0 0, .slice none 0 0] 32
  cases hag : agreeB l
  · rw [hag] at T1
    have HN : Hid (viewP l = none) := hide (by unfold viewP; rw [if_pos hag])
    clear hag
    go_enter Try.func22, Try.ntmps22
    go_wp2_with fail
    (with_reducible refine T1.out.mono ?_)
    rintro e w1 ⟨rfl, hb⟩
    have V0 : RW w (.slice none 0 0) [] w1 := ⟨p0.step hb, own_nilP _ _, below_step (below_alloc w (bxV 0 0 0 none 0 0 none 0 0)) hb⟩
    haveI := V0.k2
    clear hb T1 p0
    obtain ⟨k3, g3⟩ := set5 V0.k2 (.int .u64 0) (.int .i64 0) (.int .u64 0) (.slice none 0 0) (.slice none 0 0)
    have HB3 := hide (V0.hB.trans (grown_to_below g3 (Nat.le_refl _) V0.hB.size))
    clear V0
    go_wp2
    generalize ((((w1.setCell ⟨w.heap.size, 0, none⟩ (.int .u64 0)).setCell ⟨w.heap.size, 1, none⟩ (.int .i64 0)).setCell ⟨w.heap.size, 2, none⟩ (.int .u64 0)).setCell ⟨w.heap.size, 3, none⟩ (.slice none 0 0)).setCell ⟨w.heap.size, 4, none⟩ (.slice none 0 0) = W3 at k3 HB3 ⊢
    haveI := k3
    refine bodyPost_ret (v := .tuple #[.agg #[.int .u64 0, .int .i64 0, .int .u64 0, .slice none 0 0, .slice none 0 0], .bool false]) (by simp [results, Try.results22, go_sem]) rfl ?_
    exact retVw_no HN.out rfl HB3.out
  · rw [hag] at T1
    obtain ⟨hl4, hmay, hl1⟩ := agreeB_few hag
    have hcl := clsP_len hag
    have HAG := hide hag
    have HM := hide hmay
    clear hag hmay
    go_enter Try.func22, Try.ntmps22
    go_wp2_with fail
    (with_reducible refine T1.out.mono ?_)
    rintro e w1 ⟨rfl, hb⟩
    have HV0 : Hid (RW w (.slice none 0 0) [] w1) := hide ⟨p0.step hb, own_nilP _ _, below_step (below_alloc w (bxV 0 0 0 none 0 0 none 0 0)) hb⟩
    clear hb T1 p0
    go_wp2
    go_loopw [4, 5] (fun v i wr => ∃ (k : Nat) (La : List Pr), k ≤ l.length ∧ i = .int .i64 k ∧ RW w v La wr ∧ La = clsP (l.take k)) (fun _ i _ => l.length - (intOf i).toNat)
    case atStart => exact ⟨0, [], Nat.zero_le _, rfl, HV0.out, rfl⟩
    case round =>
      obtain ⟨k, La, hk, rfl, V, hLa⟩ := hrel
      obtain ⟨wo, rfl⟩ : ∃ wo, wo = wr := ⟨wr, rfl⟩
      have HLa := hide hLa
      have HLn := hide (show La.length ≤ 24 by rw [hLa]; exact Nat.le_trans (clsP_le l k) hcl)
      obtain ⟨FA, fc, rfl, _, _⟩ := own_slice V.oa
      have HV := hide V
      have hszw := V.hB.size
      have hk2 := V.k2.lt
      clear HV0 hLa
      by_cases hlt2 : k < l.length
      · obtain ⟨b, off, y, rfl, hb, hp, g1, g2, g3, g4, g5, g6⟩ := (HP.out.r.below V.hB).at6 hlt2
        have hyl : y ∈ l := List.mem_of_getElem? hp
        have hcs6 : y.cs.length ≤ 6 := (mayB_facts (HM.out y hyl)).2.2.2.2.2.2.1
        have HC := hide (Reads.below (HP.out.ok y hyl).c V.hB)
        have HPk := hide hp
        haveI : InW b wo := ⟨by omega⟩
        have i1 : (k : Int) < (l.length : Int) := by omega
        clear g1 g2 g3 g4 g6 hp hyl V
        obtain ⟨n, i, rd, SA, sc, ss, CA, cc, cs, UA, uc, us⟩ := y
        simp only at g5 hcs6 HC
        go_wp2_with (at_builtin; go_must (refine wpList_append_any _ Try.okP (by rfl) (.tmp 18) (.tmp 23) (by rfl) (w.heap.size + 1) (.slice FA La.length fc) La.length (pcs La) (by rfl) HV.out.oa w.heap.size CA cs.length cc (pcs cs) (by rfl) HC.out (pc_one _) (by unfold maxLen; have := HLn.out; omega) (by have := HLn.out; omega) (by omega) ?_); intro v5 w5 ho5 hg5 hn5 ha5; go_must (have HV5 := hide (HV.out.app ho5 hg5)); obtain ⟨A5, c5, e5, _, _⟩ := own_slice ho5; subst e5; clear ho5 hg5 hn5 ha5)
        go_roundw
        case rel => exact ⟨k + 1, La ++ cs, by omega, by go_num, HV5.out, by rw [(clsP_take HPk.out).1, HLa.out]⟩
        case measure => simp [intOf]; omega
      · obtain rfl : k = l.length := by omega
        have HLa2 := hide (show La = clsP l by rw [HLa.out, List.take_length])
        have hLa24 : La.length ≤ 24 := HLn.out
        have T3 := hide (fun W hW => lives_s FA fc La W hW (by omega))
        have T5 := hide (fun W hW => refSorted_s FA fc La W hW (by omega))
        have HFS : Hid (Sl wo FA La) := hide (Reads.of_own V.oa)
        haveI := V.k2
        have HVP := hide (show viewP l = if La.length < 1 ∨ 6 < La.length ∨ livesB La = false then none else some (((l.getD 0 default).rd, ((l.getD 0 default).ss.getD 0 (0, 0)).1, ((l.getD 0 default).ss.getD 0 (0, 0)).2), sortedL La, (sortedL La).map (lookL (prs l))) by
          unfold viewP
          rw [if_neg (by rw [HAG.out]; simp), HLa2.out])
        have HLW : Hid (∀ p ∈ La, wfP p ∧ mayB p.1 p.2 = true) := hide (fun p hp => by
          rw [HLa2.out] at hp
          obtain ⟨x, hx, hp⟩ := List.mem_flatMap.1 hp
          exact ⟨HWF.out x hx p hp, setB_may (mayB_facts (HM.out x hx)).2.2.2.2.2.2.2.1 p hp⟩)
        have HPS := hide (prs_len (l := l) (fun x hx => (mayB_facts (HM.out x hx)).2.2.2.2.2.2.2.2.2.1)).2
        have hnl := sortedL_len La
        generalize hlv : livesB La = b3 at T3
        generalize f1 : decide ((La.length : Int) < 1) = b1
        generalize f2 : decide (6 < (La.length : Int)) = b2
        have HLV := hide hlv
        clear HV HLa hlv
        have key : b1 = true ∨ (b1 = false ∧ b2 = true) ∨ (b1 = false ∧ b2 = false ∧ b3 = false) ∨ (b1 = false ∧ b2 = false ∧ b3 = true) := by
          cases b1 <;> cases b2 <;> cases b3 <;> simp
        rcases key with rfl | ⟨rfl, rfl⟩ | ⟨rfl, rfl, rfl⟩ | ⟨rfl, rfl, rfl⟩
        · have HN : Hid (viewP l = none) := hide (HVP.out.trans (if_pos (.inl (by simp at f1; omega))))
          obtain ⟨k3, g3⟩ := set5 V.k2 (.int .u64 0) (.int .i64 0) (.int .u64 0) (.slice none 0 0) (.slice none 0 0)
          have HB3 := hide (V.hB.trans (grown_to_below g3 (Nat.le_refl _) V.hB.size))
          clear V
          go_wp2
          generalize ((((wo.setCell ⟨w.heap.size, 0, none⟩ (.int .u64 0)).setCell ⟨w.heap.size, 1, none⟩ (.int .i64 0)).setCell ⟨w.heap.size, 2, none⟩ (.int .u64 0)).setCell ⟨w.heap.size, 3, none⟩ (.slice none 0 0)).setCell ⟨w.heap.size, 4, none⟩ (.slice none 0 0) = W3 at k3 HB3 ⊢
          haveI := k3
          refine bodyPost_ret (v := .tuple #[.agg #[.int .u64 0, .int .i64 0, .int .u64 0, .slice none 0 0, .slice none 0 0], .bool false]) (by simp [results, Try.results22, go_sem]) rfl ?_
          exact retVw_no HN.out rfl HB3.out
        · have HN : Hid (viewP l = none) := hide (HVP.out.trans (if_pos (.inr (.inl (by simp at f2; omega)))))
          obtain ⟨k3, g3⟩ := set5 V.k2 (.int .u64 0) (.int .i64 0) (.int .u64 0) (.slice none 0 0) (.slice none 0 0)
          have HB3 := hide (V.hB.trans (grown_to_below g3 (Nat.le_refl _) V.hB.size))
          clear V
          go_wp2
          generalize ((((wo.setCell ⟨w.heap.size, 0, none⟩ (.int .u64 0)).setCell ⟨w.heap.size, 1, none⟩ (.int .i64 0)).setCell ⟨w.heap.size, 2, none⟩ (.int .u64 0)).setCell ⟨w.heap.size, 3, none⟩ (.slice none 0 0)).setCell ⟨w.heap.size, 4, none⟩ (.slice none 0 0) = W3 at k3 HB3 ⊢
          haveI := k3
          refine bodyPost_ret (v := .tuple #[.agg #[.int .u64 0, .int .i64 0, .int .u64 0, .slice none 0 0, .slice none 0 0], .bool false]) (by simp [results, Try.results22, go_sem]) rfl ?_
          exact retVw_no HN.out rfl HB3.out
        · have HN : Hid (viewP l = none) := hide (HVP.out.trans (if_pos (.inr (.inr HLV.out))))
          go_wp2_with (go_at_call 68; (with_reducible refine (T3.out _ HFS.out).mono ?_); rintro e w3 ⟨rfl, hb⟩; have V3 := V.below hb; haveI := V3.k2; clear hb V)
          go_wp2_with fail
          obtain ⟨k3, g3⟩ := set5 V3.k2 (.int .u64 0) (.int .i64 0) (.int .u64 0) (.slice none 0 0) (.slice none 0 0)
          have HB3 := hide (V3.hB.trans (grown_to_below g3 (Nat.le_refl _) V3.hB.size))
          clear V3
          go_wp2
          generalize ((((w3.setCell ⟨w.heap.size, 0, none⟩ (.int .u64 0)).setCell ⟨w.heap.size, 1, none⟩ (.int .i64 0)).setCell ⟨w.heap.size, 2, none⟩ (.int .u64 0)).setCell ⟨w.heap.size, 3, none⟩ (.slice none 0 0)).setCell ⟨w.heap.size, 4, none⟩ (.slice none 0 0) = W3 at k3 HB3 ⊢
          haveI := k3
          refine bodyPost_ret (v := .tuple #[.agg #[.int .u64 0, .int .i64 0, .int .u64 0, .slice none 0 0, .slice none 0 0], .bool false]) (by simp [results, Try.results22, go_sem]) rfl ?_
          exact retVw_no HN.out rfl HB3.out
        · have HS : Hid (viewP l = some (((l.getD 0 default).rd, ((l.getD 0 default).ss.getD 0 (0, 0)).1, ((l.getD 0 default).ss.getD 0 (0, 0)).2), sortedL La, (sortedL La).map (lookL (prs l)))) := hide (HVP.out.trans (if_neg (by rw [HLV.out]; exact fun h => h.elim (fun h => of_decide_eq_false f1 (by omega)) (fun h => h.elim (fun h => of_decide_eq_false f2 (by omega)) (fun h => by cases h)))))
          have HND : Hid (((prs l).map (·.1)).Nodup) := hide (by
            have h1 : (La.map (·.1)).Nodup := of_decide_eq_true HLV.out
            rw [HPS.out, ← HLa2.out]
            exact List.Pairwise.of_map (·.1) (fun _ _ h e => h (by rw [e])) h1)
          have HUS := hide (fun (x : Pp) (hx : x ∈ l) => (mayB_facts (HM.out x hx)).2.2.2.2.2.2.2.2.2.1)
          have HCS : Hid (∀ x ∈ l, x.cs.length ≤ 1000000) := hide (fun x hx => Nat.le_trans (mayB_facts (HM.out x hx)).2.2.2.2.2.2.1 (by decide))
          have hPW := HP.out.r.below V.hB
          obtain ⟨b, off, y, rfl, hb, hp, g1, g2, g3, g4, g5, g6⟩ := hPW.at6 (show 0 < l.length by omega)
          have hyl : y ∈ l := List.mem_of_getElem? hp
          have oky := HP.out.ok y hyl
          have fy := mayB_facts (HM.out y hyl)
          have hss1 : 0 < y.ss.length := by omega
          have hY0 : l.getD 0 default = y := by rw [List.getD_eq_getElem?_getD, hp]; rfl
          rw [hY0] at HS
          obtain ⟨b', off', q, hSA, hb', hq, j1, j2⟩ := (Reads.below oky.s V.hB).at2 hss1
          have hq0 : y.ss.getD 0 (0, 0) = q := by rw [List.getD_eq_getElem?_getD, hq]; rfl
          rw [hq0] at HS
          obtain ⟨n, i, rd, SA, sc, ss, CA, cc, cs, UA, uc, us⟩ := y
          obtain ⟨qn, qi⟩ := q
          simp only at g1 g2 g3 g4 g5 g6 hSA j1 j2 hss1 HS
          subst hSA
          rw [Nat.zero_mul, Nat.add_zero] at g3 g4 j1 j2
          have hpos : 0 < l.length := by omega
          have hx0 : (0 : Int) < (l.length : Int) := by omega
          have hx1 : (0 : Int) < (ss.length : Int) := by omega
          clear hp hyl oky fy hY0 hq hq0 g1 g2 g5 g6 hPW
          haveI : InW b wo := ⟨by omega⟩
          haveI : InW b' wo := ⟨by omega⟩
          go_wp2_with (go_at_call 68; (with_reducible refine (T3.out _ HFS.out).mono ?_); rintro e w3 ⟨rfl, hb3⟩; have V3 := V.below hb3; haveI := V3.k2)
          have hm3 : w3.cell? ⟨b, off + 2, none⟩ = some (.int .u64 rd) := (hb3.cell (p := ⟨b, off + 2, none⟩) (show b < _ by omega)).trans g3
          have hm4 : w3.cell? ⟨b, off + 3, none⟩ = some (.slice (some ⟨b', off', none⟩) ss.length sc) := (hb3.cell (p := ⟨b, off + 3, none⟩) (show b < _ by omega)).trans g4
          have hm5 : w3.cell? ⟨b', off', none⟩ = some (.int .i64 qn) := (hb3.cell (p := ⟨b', off', none⟩) (show b' < _ by omega)).trans j1
          have hm6 : w3.cell? ⟨b', off' + 1, none⟩ = some (.int .u64 qi) := (hb3.cell (p := ⟨b', off' + 1, none⟩) (show b' < _ by omega)).trans j2
          have hs3 := hb3.size
          have HK : Hid (∀ W', Below w3.heap.size w3 W' → W'.cell? ⟨b, off + 2, none⟩ = some (.int .u64 rd) ∧ W'.cell? ⟨b, off + 3, none⟩ = some (.slice (some ⟨b', off', none⟩) ss.length sc) ∧ W'.cell? ⟨b', off', none⟩ = some (.int .i64 qn) ∧ W'.cell? ⟨b', off' + 1, none⟩ = some (.int .u64 qi)) := hide (fun W' h' => ⟨(h'.cell (p := ⟨b, off + 2, none⟩) (show b < _ by omega)).trans hm3, (h'.cell (p := ⟨b, off + 3, none⟩) (show b < _ by omega)).trans hm4, (h'.cell (p := ⟨b', off', none⟩) (show b' < _ by omega)).trans hm5, (h'.cell (p := ⟨b', off' + 1, none⟩) (show b' < _ by omega)).trans hm6⟩)
          have HFS3 := hide (HFS.out.step hb3)
          have HV3 := hide V3
          clear hb3 V V3 g3 g4 j1 j2 hm3 hm4 hm5 hm6
          go_wp2_with fail
          have hB0 : Below w3.heap.size w3 w3.drew := (Below.refl _ _).drew
          haveI : InW b w3 := ⟨by omega⟩
          haveI : InW b' w3 := ⟨by omega⟩
          go_region_held3 (fun w' => w'.cell? ⟨b, off + 2, none⟩ = some (.int .u64 rd) ∧ w'.cell? ⟨b, off + 3, none⟩ = some (.slice (some ⟨b', off', none⟩) ss.length sc) ∧ w'.cell? ⟨b', off', none⟩ = some (.int .i64 qn) ∧ w'.cell? ⟨b', off' + 1, none⟩ = some (.int .u64 qi)) (exact HK.out _ (by repeat (first | exact Below.refl _ _ | assumption | refine bel_al ?_ _ | refine bel_gw ?_ _ _ | refine bel_drew ?_ | refine bel_drewN ?_ _ | refine bel_set ?_ _ _)))
            (first
              | (go_at_call 69; (with_reducible refine (T5.out _ (HFS3.out.step (by repeat (first | exact Below.refl _ _ | assumption | refine bel_al ?_ _ | refine bel_gw ?_ _ _ | refine bel_drew ?_ | refine bel_drewN ?_ _)))).mono ?_); rintro e w4 ⟨MA, mc, rfl, hms, hb4⟩; have hB4 := below_step (show Below w3.heap.size w3 _ from (by repeat (first | exact Below.refl _ _ | assumption | refine bel_al ?_ _ | refine bel_gw ?_ _ _ | refine bel_drew ?_ | refine bel_drewN ?_ _))) hb4; first | (have pb4 := boxAt_ofd hb4; haveI : BoxAt w4 w3.heap.size _ _ := pb4) | (have pb4 := boxAt_of hb4; haveI : BoxAt w4 w3.heap.size _ _ := pb4) | skip))
          all_goals
            have V4 := HV3.out.below hB4
            have hm1 : 0 < (sortedL La).length := by
              rcases hLc : La with _ | ⟨q0, Lr⟩
              · rw [hLc] at f1; simp at f1
              · exact List.length_pos_of_mem (mem_sortedL.2 (by simp : q0 ∈ q0 :: Lr))
            obtain ⟨mb, moff, rfl, hmb, hmc⟩ := hms.2 hm1
            have HMW : Hid (∀ p ∈ sortedL La, wfP p ∧ mayB p.1 p.2 = true) := hide (fun p hp => HLW.out p (mem_sortedL.1 hp))
            have hml : (sortedL La).length ≤ 24 := by omega
            have hz4 := hB4.size
            have hd5 := V4.k2.lt
            clear T3 T5 HFS HFS3 hms f1 f2 HLV hnl HV3 HK HVP
            generalize sortedL La = ms at hmc hm1 HMW hml HS ⊢
            first
              | (have hne : mb ≠ w3.heap.size := by
                   intro e
                   subst e
                   exact apart_box pb4 hmc hm1 (fun p hp => (HMW.out p hp).2)
                 obtain ⟨k5, g5⟩ := set5 pb4 (.int .u64 rd) (.int .i64 qn) (.int .u64 qi) (.slice (some ⟨mb, moff, none⟩) ms.length mc) (.slice none 0 0)
                 have HVL : Hid (VR2 w w3.heap.size w4.heap.size mb moff (.int .u64 rd) (.int .i64 qn) (.int .u64 qi) mc ms (.slice none 0 0) [] (((((w4.setCell ⟨w3.heap.size, 0, none⟩ (.int .u64 rd)).setCell ⟨w3.heap.size, 1, none⟩ (.int .i64 qn)).setCell ⟨w3.heap.size, 2, none⟩ (.int .u64 qi)).setCell ⟨w3.heap.size, 3, none⟩ (.slice (some ⟨mb, moff, none⟩) ms.length mc)).setCell ⟨w3.heap.size, 4, none⟩ (.slice none 0 0))) := hide ⟨V4.k2.grown g5 (by omega), k5, fun j u hu => (World.cell?_of_block (a := ⟨mb, moff + j, none⟩) (g5.block mb hmb (fun e => hne (by injection e)))).trans (hmc j u hu), World.ownsRow_nil _ _ _ _, V4.hB.trans (grown_to_below g5 (by omega) V4.hB.size), by omega, pb4.lt, by omega, hne, g5.size⟩
                 clear k5 g5
                 generalize (((((w4.setCell ⟨w3.heap.size, 0, none⟩ (.int .u64 rd)).setCell ⟨w3.heap.size, 1, none⟩ (.int .i64 qn)).setCell ⟨w3.heap.size, 2, none⟩ (.int .u64 qi)).setCell ⟨w3.heap.size, 3, none⟩ (.slice (some ⟨mb, moff, none⟩) ms.length mc)).setCell ⟨w3.heap.size, 4, none⟩ (.slice none 0 0)) = W5 at HVL ⊢
                 generalize hNV : w3.heap.size = NV at HVL ⊢
                 generalize hBS : w4.heap.size = BS at HVL)
              | (have HVL : Hid (VR2 w w4.heap.size (w4.heap.size + 1) mb moff (.int .u64 rd) (.int .i64 qn) (.int .u64 qi) mc ms (.slice none 0 0) [] (w4.alloc (bxV rd qn qi (some ⟨mb, moff, none⟩) ms.length mc none 0 0))) := hide ⟨V4.k2.alloc' _, boxTop w4 _ _, fun j u hu => ((below_alloc w4 _).cell (p := ⟨mb, moff + j, none⟩) hmb).trans (hmc j u hu), World.ownsRow_nil _ _ _ _, below_step V4.hB (below_alloc _ _), by omega, by omega, by omega, by omega, by simp⟩
                 generalize w4.alloc (bxV rd qn qi (some ⟨mb, moff, none⟩) ms.length mc none 0 0) = W5 at HVL ⊢
                 generalize hNV : w4.heap.size = NV at HVL ⊢
                 generalize hBS : NV + 1 = BS at HVL)
            have HNV := hide hNV
            have HBS := hide hBS
            clear hNV hBS V4 hB4 hmb hmc hb4
            haveI := HVL.out.kv
            have hszb := HVL.out.hB.size
            go_wp2
            go_loopw [7] (fun j wr => ∃ (m : Nat) (vv : Value) (L : List Int), m ≤ ms.length ∧ j = .int .i64 m ∧ VR2 w NV BS mb moff (.int .u64 rd) (.int .i64 qn) (.int .u64 qi) mc ms vv L wr ∧ L = (ms.take m).map (lookL (prs l))) (fun j _ => ms.length - (intOf j).toNat)
            case atStart => exact ⟨0, _, [], Nat.zero_le _, rfl, HVL.out, rfl⟩
            case round =>
              obtain ⟨m, vv, L, hm, rfl, V, hLe⟩ := hrel
              obtain ⟨wx, rfl⟩ : ∃ wx, wx = wr := ⟨wr, rfl⟩
              have HLe := hide hLe
              have HLl := hide (show L.length = m by rw [hLe]; simp; omega)
              have HV := hide V
              obtain ⟨UA, uc, rfl, _, _⟩ := own_slice V.ou
              have hz7 := V.h7
              have hz5 := V.h5
              have hz3 := V.h3
              have hz4' := V.h4
              haveI : InW mb wx := ⟨by omega⟩
              haveI := V.kv
              clear HVL hLe
              by_cases hlt3 : m < ms.length
              · have hp2 : ms[m]? = some ms[m] := List.getElem?_eq_getElem hlt3
                have HC2 := hide hp2
                generalize ms[m] = p at hp2 HC2
                obtain ⟨pn, pi⟩ := p
                have c1 : wx.cell? ⟨mb, moff + m * 2, none⟩ = some (.int .i64 pn) := V.rm (m * 2) _ (by have := flat_get pc_len ms m 0 _ hp2 (by omega); simpa [pcs, pc] using this)
                have c2 : wx.cell? ⟨mb, moff + m * 2 + 1, none⟩ = some (.int .u64 pi) := by
                  have := V.rm (m * 2 + 1) (.int .u64 pi) (by have := flat_get pc_len ms m 1 _ hp2 (by omega); simpa [pcs, pc] using this)
                  rw [← Nat.add_assoc] at this; exact this
                have i3 : (m : Int) < (ms.length : Int) := by omega
                have HVd := hide (show VR2 w NV BS mb moff (.int .u64 rd) (.int .i64 qn) (.int .u64 qi) mc ms (.slice UA L.length uc) L wx.drew from V.below (Below.refl _ _).drew)
                have T8 := hide (fun W (hW : Pl W (some ⟨b, off, none⟩) l) => start9_s (some ⟨b, off, none⟩) c l pn pi W hW hn HUS.out HCS.out)
                have hsl : startL (prs l) (pn, pi) = lookL (prs l) (pn, pi) := startL_look HND.out _
                rw [hsl] at T8
                generalize hx : lookL (prs l) (pn, pi) = x at T8
                have HX := hide hx
                haveI : BoxAt wx.drew NV _ _ := HVd.out.kv
                haveI : InW NV wx := ⟨by omega⟩
                have HPx := hide (HP.out.step V.hB)
                clear hp2 V hx hsl
                go_wp2_with fail
                go_region_law (first
                  | (go_simp; go_at_call 70; (with_reducible refine (T8.out _ (HPx.out.step (by repeat (first | exact Below.refl _ _ | assumption | refine bel_al ?_ _ | refine bel_gw ?_ _ _ | refine bel_drew ?_ | refine bel_drewN ?_ _)))).mono ?_); rintro e w3 ⟨rfl, hb3⟩; have V3 := HVd.out.below hb3; have V3b := V3.below (below_alloc w3 (.cells #[.int .u64 x] 24)); haveI := V3.kv; have hs3 := V3.kv.lt)
                  | (refine step_append_any _ Try.okU rfl (.tmp 61) (.tmp 69) rfl BS (.slice UA L.length uc) L.length (ucs L) (by simp [Act.eval, Act.put]) V3b.ou (w3.heap.size + 1) (some ⟨w3.heap.size, 0, none⟩) 1 1 (ucs [x]) (by simp [Act.eval, Act.put]) (reads_oneU w3 x) (uc_one _) (by unfold maxLen; have := HLl.out; omega) (by have := HLl.out; omega) (by have := V3b.h7; omega) ?_; intro v5 w5 ho5 hg5 hn5 ha5; obtain ⟨A5, c5, rfl, _, _⟩ := own_slice ho5; obtain ⟨kv5, V5⟩ := V3b.store ho5 hg5; haveI := kv5))
                all_goals
                  have HV5 := hide V5
                  clear ho5 hg5 hn5 ha5 V5 V3 V3b hb3
                  go_wp2
                  go_roundw
                  case rel => exact ⟨m + 1, _, L ++ [x], by omega, by go_num, HV5.out, by rw [take_succ_of HC2.out, List.map_append, HLe.out, ← HX.out]; rfl⟩
                  case measure => simp [intOf]; omega
              · obtain rfl : m = ms.length := by omega
                have HL2 := hide (show L = ms.map (lookL (prs l)) by rw [HLe.out, List.take_length])
                haveI := V.k2
                obtain ⟨k6, g6⟩ := set5 V.k2 (.int .u64 rd) (.int .i64 qn) (.int .u64 qi) (.slice (some ⟨mb, moff, none⟩) ms.length mc) (.slice UA L.length uc)
                have HB6 := hide (V.hB.trans (grown_to_below g6 (Nat.le_refl _) V.hB.size))
                have HU6 := hide (own_grown V.ou g6 (by omega))
                have HM6 := hide (show Reads (((((wx.setCell ⟨w.heap.size, 0, none⟩ (.int .u64 rd)).setCell ⟨w.heap.size, 1, none⟩ (.int .i64 qn)).setCell ⟨w.heap.size, 2, none⟩ (.int .u64 qi)).setCell ⟨w.heap.size, 3, none⟩ (.slice (some ⟨mb, moff, none⟩) ms.length mc)).setCell ⟨w.heap.size, 4, none⟩ (.slice UA L.length uc)) (((((wx.setCell ⟨w.heap.size, 0, none⟩ (.int .u64 rd)).setCell ⟨w.heap.size, 1, none⟩ (.int .i64 qn)).setCell ⟨w.heap.size, 2, none⟩ (.int .u64 qi)).setCell ⟨w.heap.size, 3, none⟩ (.slice (some ⟨mb, moff, none⟩) ms.length mc)).setCell ⟨w.heap.size, 4, none⟩ (.slice UA L.length uc)).heap.size 2 (some ⟨mb, moff, none⟩) ms.length (pcs ms) from
                  ⟨(pcs_len ms), fun _ => ⟨mb, moff, rfl, by have := g6.size; omega, fun j u hu => (World.cell?_of_block (a := ⟨mb, moff + j, none⟩) (g6.block mb (by omega) (fun e => apart_box0 V.k2 V.rm hm1 (fun p hp => (HMW.out p hp).2) (by injection e)))).trans (V.rm j u hu)⟩⟩)
                clear V
                go_wp2
                generalize ((((wx.setCell ⟨w.heap.size, 0, none⟩ (.int .u64 rd)).setCell ⟨w.heap.size, 1, none⟩ (.int .i64 qn)).setCell ⟨w.heap.size, 2, none⟩ (.int .u64 qi)).setCell ⟨w.heap.size, 3, none⟩ (.slice (some ⟨mb, moff, none⟩) ms.length mc)).setCell ⟨w.heap.size, 4, none⟩ (.slice UA L.length uc) = W6 at k6 HB6 HU6 HM6 ⊢
                haveI := k6
                refine bodyPost_ret (v := .tuple #[.agg #[.int .u64 rd, .int .i64 qn, .int .u64 qi, .slice (some ⟨mb, moff, none⟩) ms.length mc, .slice UA L.length uc], .bool true]) (by simp [results, Try.results22, go_sem]) rfl ?_
                rw [HS.out, ← HL2.out]
                have hLl := HLl.out
                exact ⟨some ⟨mb, moff, none⟩, mc, UA, uc, rfl, ⟨HM6.out, Reads.of_own HU6.out, by show ms.length ≤ 1000000; omega, by show L.length ≤ 1000000; omega⟩, HB6.out⟩
end Go.Proofs.Ytgpmcpinnaggmaa
