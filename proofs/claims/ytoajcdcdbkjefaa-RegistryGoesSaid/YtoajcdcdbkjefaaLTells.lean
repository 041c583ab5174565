/-
  RegistryTells answers true.
-/
import Derived.Test.YtoajcdcdbkjefaaRef17b
namespace Go.Proofs.Ytoajcdcdbkjefaa
set_option linter.unusedSimpArgs false
set_option linter.unusedVariables false
set_option linter.unusedSectionVars false
open Go.RowKit Go.Sort Go.Lib

theorem refSame_t (A A' : Option Addr) (c c' : Nat) (l : List Cl) (w : World) (h : Cll w A l) (h' : Cll w A' l) (hn : l.length ≤ 1000000) :
    Calls Try.prog 12 #[.agg #[.slice A l.length c], .agg #[.slice A' l.length c']] w (RetB w true) :=
  (refSame_s A A' c c' l l w h h' hn hn).mono fun _ _ ⟨h, h'⟩ => ⟨by rw [h]; simp, h'⟩
theorem refEqual_t (A A' : Option Addr) (c c' : Nat) (l : List (Int × Int)) (w : World) (h : Sll w A l) (h' : Sll w A' l) (hn : l.length ≤ 1000000) :
    Calls Try.prog 17 #[.slice A l.length c, .slice A' l.length c'] w (RetB w true) :=
  (refEqual_any A A' c c' l l w h h' hn hn).mono fun _ _ ⟨h, h'⟩ => ⟨by rw [h]; simp, h'⟩
@[go_sem] theorem Try.fieldR0 (v : Value) (W : World) : (Instr.field 24 (.agg #[v]) 0).run Try.prog W = .ok v W := by kernel_rfl
theorem upR_len1 (m : List Cl) : (raiseR m).1.length = m.length := by unfold raiseR; split <;> simp
theorem find_take {m : List Cl} (ho : oneEach m) {a : Int} {k : Nat} {x : Cl} (h : m[k]? = some x) :
    findR (m.take (k + 1)) a = if x.n = a ∧ x.gone = false then some x else findR (m.take k) a := by
  unfold findR
  rw [take_succ_of h, List.find?_append]
  by_cases hx : x.n = a ∧ x.gone = false
  · rw [if_pos hx]
    have : List.find? (fun x => x.n == a && !x.gone) (m.take k) = none := by
      rw [List.find?_eq_none]
      intro y hy
      rw [List.mem_take_iff_getElem] at hy
      obtain ⟨j, hj, rfl⟩ := hy
      obtain ⟨hk, rfl⟩ := List.getElem?_eq_some_iff.1 h
      have := List.pairwise_iff_getElem.1 ho j k (by omega) hk (by omega)
      have h1 : m[j].n ≠ a := by rw [← hx.1]; exact this
      simp [h1]
    rw [this]
    simp [hx.1, hx.2]
  · rw [if_neg hx]
    have : List.find? (fun x => x.n == a && !x.gone) [x] = none := by
      simp only [List.find?_cons, List.find?_nil]
      split
      · rename_i h'; simp at h'; exact absurd h' hx
      · rfl
    rw [this]
    simp
theorem maxR_take {m : List Cl} {k : Nat} {x : Cl} (h : m[k]? = some x) : maxR ((m.take (k + 1)).filter (fun x => !x.gone)) = if x.gone = false then max (maxR ((m.take k).filter (fun x => !x.gone))) x.rnd else maxR ((m.take k).filter (fun x => !x.gone)) := by
  rw [take_succ_of h, List.filter_append]
  cases hg : x.gone
  · rw [show [x].filter (fun x => !x.gone) = [x] by simp [hg], maxR_snoc]; simp
  · rw [show [x].filter (fun x => !x.gone) = [] by simp [hg]]; simp

set_option maxRecDepth 100000 in
set_option maxHeartbeats 8000000 in
theorem registryTells_true (A : Option Addr) (c : Nat) (l : List Cl) (a : Int) (w : World) (h : Cll w A l) (hn : l.length ≤ 9223372036854775807) (hwi : ∀ x ∈ l, 0 ≤ x.i) (hw : ∀ x ∈ l, 0 ≤ x.cid ∧ x.cid ≤ 18446744073709551615) :
    Calls Try.prog 6 #[.agg #[.slice A l.length c], .int .i64 a] w (RetB w true) := by
  have HW := hide hw
  have HI := hide hwi
  clear hw hwi
  by_cases h3 : 300 < l.length
  · have hd : decide (300 < l.length) = true := by simp [h3]
    go_enter Try.func6, Try.ntmps6
    go_wp2_with fail
    with_reducible refine (heavy_b A c l _ hn).mono ?_
    rintro e w1 ⟨rfl, hb⟩
    obtain ⟨⟨d1, os1⟩, rfl⟩ := gw_of_below hb
    rw [hd]
    clear hb
    go_wp2_with fail
    with_reducible refine (awake_t _).mono ?_
    rintro e w2 ⟨rfl, hb⟩
    obtain ⟨⟨d2, os2⟩, rfl⟩ := gw_of_below hb
    go_wp2
    go_ret
    exact ⟨rfl, (by repeat (first | exact Below.refl _ _ | assumption | refine bel_al ?_ _ | refine bel_gw ?_ _ _ | refine bel_drew ?_ | refine bel_drewN ?_ _))⟩
  · have hd : decide (300 < l.length) = false := by simp [h3]
    have h3' : l.length ≤ 300 := by omega
    clear h3 hn
    obtain ⟨m, hm⟩ : ∃ m, m = takenR l := ⟨_, rfl⟩
    have hml : m.length ≤ 6 := by rw [hm]; exact takenR_len l
    have HOE := hide (show oneEach m by rw [hm]; exact taken_each l)
    obtain ⟨R, hR⟩ : ∃ R, R = raiseR m := ⟨_, rfl⟩
    have hRl : R.1.length ≤ 6 := by rw [hR, upR_len1]; exact hml
    obtain ⟨mb, hmb⟩ : ∃ mb, mb = mayR l := ⟨_, rfl⟩
    obtain ⟨LL, hLL⟩ : ∃ LL, LL = livesL (m.filter (fun x => !x.gone)) := ⟨_, rfl⟩
    have hLl : LL.length ≤ 300 := by
      rw [hLL]; unfold livesL; rw [List.length_map]
      exact Nat.le_trans (List.length_filter_le _ _) (by omega)
    obtain ⟨F, hF⟩ : ∃ F, F = findR m a := ⟨_, rfl⟩
    have TR := hide (show ∀ OA OC W, Cll W OA l → Calls Try.prog 19 #[.agg #[.slice OA l.length OC]] W (RetD W R.1 R.2) from fun OA OC W hW => by rw [hR, hm]; exact raise_s OA OC l W hW (by omega) HW.out)
    have TR' := hide (show ∀ W, Cll W A l → Calls Try.prog 20 #[.agg #[.slice A l.length c]] W (RetD W R.1 R.2) from fun W hW => by rw [hR, hm]; exact ref17Raise_s A c l W hW (by omega) HI.out HW.out)
    have TM := hide (show ∀ OA OC W, Cll W OA l → Calls Try.prog 9 #[.agg #[.slice OA l.length OC]] W (RetB W mb) from fun OA OC W hW => by rw [hmb]; exact regMay_b OA OC l W hW (by omega))
    have TM' := hide (show ∀ W, Cll W A l → Calls Try.prog 21 #[.agg #[.slice A l.length c]] W (RetB W mb) from fun W hW => by rw [hmb]; exact ref17May_b A c l W hW (by omega) HI.out)
    have TL := hide (show ∀ OA OC W, Cll W OA l → Calls Try.prog 22 #[.agg #[.slice OA l.length OC]] W (RetQ W LL) from fun OA OC W hW => by rw [hLL, hm]; exact (regLives_s OA OC l W hW (by omega)).mono fun _ _ => RetP.q)
    have TL' := hide (show ∀ W, Cll W A l → Calls Try.prog 23 #[.agg #[.slice A l.length c]] W (RetQ W LL) from fun W hW => by rw [hLL, hm]; exact (ref17Lives_s A c l W hW (by omega) HI.out).mono fun _ _ => RetP.q)
    have TF := hide (show ∀ OA OC W, Cll W OA l → Calls Try.prog 24 #[.agg #[.slice OA l.length OC], .int .i64 a] W (RetF W F) from fun OA OC W hW => by rw [hF, hm]; exact find_s OA OC l a W hW (by omega))
    have TO := hide (show ∀ W, Cll W A l → Calls Try.prog 25 #[.agg #[.slice A l.length c]] W (RetR W m) from fun W hW => by rw [hm]; exact ref17Own_s A c l W hW (by omega) HI.out)
    have TU := hide (show ∀ OA OC W, Cll W OA l → Calls Try.prog 26 #[.agg #[.slice OA l.length OC]] W (RetU W (maxR (m.filter (fun x => !x.gone)))) from fun OA OC W hW => by rw [hm]; exact round_s OA OC l W hW (by omega))
    have HF := hide hF
    have hmm : (mb != mb) = false := by simp
    have hqq : (R.2 != R.2) = false := by simp
    clear hm hR hmb hLL hF
    obtain ⟨R1, R2⟩ := R
    simp only at hRl TR TR' hqq
    go_enter Try.func6, Try.ntmps6
    go_wp2_with fail
    with_reducible refine (heavy_b A c l _ (by omega)).mono ?_
    rintro e w1 ⟨rfl, hb⟩
    rw [hd]
    obtain ⟨⟨d1, os1⟩, rfl⟩ := gw_of_below hb
    clear hb hd
    have hc : Cll (gw (w.alloc (bxR A l.length c)) d1 os1) A l := h.step (by repeat (first | exact Below.refl _ _ | assumption | refine bel_al ?_ _ | refine bel_gw ?_ _ _ | refine bel_drew ?_ | refine bel_drewN ?_ _))
    go_wp2_with (at_builtin; go_must (refine wpList_append_any _ Try.okC (by rfl) (.tmp 20) (.tmp 22) (by rfl) (gw (w.alloc (bxR A l.length c)) d1 os1).heap.size (.slice (some ⟨(gw (w.alloc (bxR A l.length c)) d1 os1).heap.size, 0, none⟩) 0 0) 0 [] (by rfl) (own_emptyC _) _ A l.length c (ccs l) (by rfl) (Reads.alloc hc (Nat.le_refl _) _) (cc_one l) (by unfold maxLen; omega) (by omega) (by simp) ?_); intro v1 w2 hown1 hg1 hnil1 hat1; have hb2 := (below_alloc (gw (w.alloc (bxR A l.length c)) d1 os1) (.cells #[] 42)).grown hg1 (by simp) (by simp [Value.ownBlock]); rw [Nat.zero_add, List.nil_append] at hown1; obtain ⟨OA, OC, rfl, _, _⟩ := own_slice hown1; have so : Cll w2 OA l := Reads.of_own (by simpa using hown1); obtain ⟨⟨d2, os2⟩, rfl⟩ := gw_more hb2; clear hg1 hnil1 hat1 hb2 hown1)
    with_reducible refine (TR.out OA OC _ (so.step (by repeat (first | exact Below.refl _ _ | assumption | refine bel_al ?_ _ | refine bel_gw ?_ _ _ | refine bel_drew ?_ | refine bel_drewN ?_ _)))).mono ?_
    rintro e w3 ⟨v, rfl, hown, hb⟩
    obtain ⟨RA, RC, rfl, _, _⟩ := own_slice hown
    have s6 : Cll w3 RA R1 := Reads.of_own hown
    have p2 : At w3 ⟨w.heap.size, 0, none⟩ (.slice A l.length c) := At.step ⟨by simp [go_sem], InW.lt⟩ hb
    have p5 : At w3 ⟨(gw (w.alloc (bxR A l.length c)) d2 os2).heap.size, 0, none⟩ (.slice OA l.length OC) := At.step ⟨by simp [go_sem], InW.lt⟩ hb
    have sa : Cll w3 A l := h.step (below_step (by repeat (first | exact Below.refl _ _ | assumption | refine bel_al ?_ _ | refine bel_gw ?_ _ _ | refine bel_drew ?_ | refine bel_drewN ?_ _)) hb)
    replace so : Cll w3 OA l := so.step (below_step (by repeat (first | exact Below.refl _ _ | assumption | refine bel_al ?_ _ | refine bel_gw ?_ _ _ | refine bel_drew ?_ | refine bel_drewN ?_ _)) hb)
    have hB : Below w.heap.size w w3 := below_step (by repeat (first | exact Below.refl _ _ | assumption | refine bel_al ?_ _ | refine bel_gw ?_ _ _ | refine bel_drew ?_ | refine bel_drewN ?_ _)) hb
    generalize (gw (w.alloc (bxR A l.length c)) d2 os2).heap.size = N5 at p5 ⊢
    clear hb hown h hc
    have p6 : At (w3.alloc (bxR RA R1.length RC)) ⟨w3.heap.size, 0, none⟩ (.slice RA R1.length RC) := ⟨by simp [go_sem], by simp⟩
    have hb := below_alloc w3 (bxR RA R1.length RC)
    replace sa := sa.step hb
    replace so := so.step hb
    replace s6 := s6.step hb
    replace p2 := p2.step hb
    replace p5 := p5.step hb
    replace hB := below_step hB hb
    clear hb
    have q2 := p2.1
    haveI : InW w.heap.size (w3.alloc (bxR RA R1.length RC)) := ⟨p2.2⟩
    have q5 := p5.1
    go_wp2_with fail
    with_reducible refine (TR'.out _ sa).mono ?_
    rintro e w5 ⟨v, rfl, hown, hb⟩
    obtain ⟨SA, SC, rfl, _, _⟩ := own_slice hown
    have s8 : Cll w5 SA R1 := Reads.of_own hown
    clear q2 q5 hown
    replace sa := sa.step hb
    replace so := so.step hb
    replace s6 := s6.step hb
    replace p2 := p2.step hb
    replace p5 := p5.step hb
    replace p6 := p6.step hb
    replace hB := below_step hB hb
    clear hb
    have p8 : At (w5.alloc (bxR SA R1.length SC)) ⟨w5.heap.size, 0, none⟩ (.slice SA R1.length SC) := ⟨by simp [go_sem], by simp⟩
    have hb := below_alloc w5 (bxR SA R1.length SC)
    replace sa := sa.step hb
    replace so := so.step hb
    replace s6 := s6.step hb
    replace s8 := s8.step hb
    replace p2 := p2.step hb
    replace p5 := p5.step hb
    replace p6 := p6.step hb
    replace hB := below_step hB hb
    clear hb
    go_wp2_with fail
    generalize w3.heap.size = N6 at *
    generalize w5.alloc (bxR SA R1.length SC) = W at *
    generalize w5.heap.size = N8 at *
    replace sa : Cll W.drew A l := sa
    replace so : Cll W.drew OA l := so
    replace s6 : Cll W.drew RA R1 := s6
    replace s8 : Cll W.drew SA R1 := s8
    replace p2 : At W.drew ⟨w.heap.size, 0, none⟩ (.slice A l.length c) := p2
    replace p5 : At W.drew ⟨N5, 0, none⟩ (.slice OA l.length OC) := p5
    replace p6 : At W.drew ⟨N6, 0, none⟩ (.slice RA R1.length RC) := p6
    replace p8 : At W.drew ⟨N8, 0, none⟩ (.slice SA R1.length SC) := p8
    replace hB := hB.drew
    have q2 : W.cell? ⟨w.heap.size, 0, none⟩ = some (.slice A l.length c) := p2.1
    have q5 : W.cell? ⟨N5, 0, none⟩ = some (.slice OA l.length OC) := p5.1
    have q6 : W.cell? ⟨N6, 0, none⟩ = some (.slice RA R1.length RC) := p6.1
    have q8 : W.cell? ⟨N8, 0, none⟩ = some (.slice SA R1.length SC) := p8.1
    go_region_held3 (fun w' => w'.cell? ⟨w.heap.size, 0, none⟩ = some (.slice A l.length c) ∧ w'.cell? ⟨N5, 0, none⟩ = some (.slice OA l.length OC) ∧ w'.cell? ⟨N6, 0, none⟩ = some (.slice RA R1.length RC) ∧ w'.cell? ⟨N8, 0, none⟩ = some (.slice SA R1.length SC)) (exact ⟨p2.1, p5.1, p6.1, p8.1⟩)
      (first
        | (go_at_call 12; (with_reducible refine (refSame_t _ _ _ _ R1 _ s6 s8 (by omega)).mono ?_); rintro e w6 ⟨rfl, hb⟩; replace sa := sa.step hb; replace so := so.step hb; replace s6 := s6.step hb; replace s8 := s8.step hb; replace p2 := p2.step hb; replace p5 := p5.step hb; replace p6 := p6.step hb; replace p8 := p8.step hb; replace hB := below_step hB hb; clear hb)
        | (go_at_call 9; (with_reducible refine (TM.out _ _ _ so).mono ?_); rintro e w7 ⟨rfl, hb⟩; replace sa := sa.step hb; replace so := so.step hb; replace s6 := s6.step hb; replace s8 := s8.step hb; replace p2 := p2.step hb; replace p5 := p5.step hb; replace p6 := p6.step hb; replace p8 := p8.step hb; replace hB := below_step hB hb; clear hb)
        | (go_at_call 21; (with_reducible refine (TM'.out _ sa).mono ?_); rintro e w8 ⟨rfl, hb⟩; replace sa := sa.step hb; replace so := so.step hb; replace s6 := s6.step hb; replace s8 := s8.step hb; replace p2 := p2.step hb; replace p5 := p5.step hb; replace p6 := p6.step hb; replace p8 := p8.step hb; replace hB := below_step hB hb; clear hb)
        | (go_at_call 22; (with_reducible refine (TL.out _ _ _ so).mono ?_); rintro e w9 ⟨A2, c2, rfl, s2, hb⟩; replace sa := sa.step hb; replace so := so.step hb; replace s6 := s6.step hb; replace s8 := s8.step hb; replace p2 := p2.step hb; replace p5 := p5.step hb; replace p6 := p6.step hb; replace p8 := p8.step hb; replace hB := below_step hB hb; clear hb)
        | (go_at_call 23; (with_reducible refine (TL'.out _ sa).mono ?_); rintro e w10 ⟨A3, c3, rfl, s3, hb⟩; replace sa := sa.step hb; replace so := so.step hb; replace s6 := s6.step hb; replace s8 := s8.step hb; replace p2 := p2.step hb; replace p5 := p5.step hb; replace p6 := p6.step hb; replace p8 := p8.step hb; replace s2 := s2.step hb; replace hB := below_step hB hb; clear hb)
        | (go_at_call 17; (with_reducible refine (refEqual_t _ _ _ _ LL _ s2 s3 (by omega)).mono ?_); rintro e w11 ⟨rfl, hb⟩; replace sa := sa.step hb; replace so := so.step hb; replace s6 := s6.step hb; replace s8 := s8.step hb; replace p2 := p2.step hb; replace p5 := p5.step hb; replace p6 := p6.step hb; replace p8 := p8.step hb; replace s2 := s2.step hb; replace s3 := s3.step hb; replace hB := below_step hB hb; clear hb)
        | (go_at_call 12; (with_reducible refine (refSame_t _ _ _ _ l _ so sa (by omega)).mono ?_); rintro e w12 ⟨rfl, hb⟩; replace sa := sa.step hb; replace so := so.step hb; replace s6 := s6.step hb; replace s8 := s8.step hb; replace p2 := p2.step hb; replace p5 := p5.step hb; replace p6 := p6.step hb; replace p8 := p8.step hb; replace s2 := s2.step hb; replace s3 := s3.step hb; replace hB := below_step hB hb; clear hb)
        )
    clear q2 q5 q6 q8 s2 s3 s6 s8 p6 p8
    have q2 := p2.1
    have q5 := p5.1
    go_wp2_with fail
    with_reducible refine (TF.out _ _ _ so).mono ?_
    rintro e w14 ⟨rfl, hb⟩
    clear q2 q5
    replace sa := sa.step hb
    replace so := so.step hb
    replace p2 := p2.step hb
    replace p5 := p5.step hb
    replace hB := below_step hB hb
    clear hb
    obtain ⟨fc, hfc⟩ : ∃ fc : Cl, fV F = .tuple #[.agg #[.int .i64 fc.n, .int .u64 fc.i, .int .u64 fc.cid, .int .u64 fc.rnd, .int .u64 fc.heard, .bool fc.gone], .bool F.isSome] ∧ fc = F.getD noC := by
      cases F with
      | none => exact ⟨noC, rfl, rfl⟩
      | some x => exact ⟨x, rfl, rfl⟩
    rw [hfc.1]
    have HFC := hide hfc.2
    clear hfc
    have q2 := p2.1
    have q5 := p5.1
    haveI : InW w.heap.size w14 := ⟨p2.2⟩
    haveI : InW N5 w14 := ⟨p5.2⟩
    go_wp2_with fail
    with_reducible refine (TO.out _ (sa.step (by repeat (first | exact Below.refl _ _ | assumption | refine bel_al ?_ _ | refine bel_gw ?_ _ _ | refine bel_drew ?_ | refine bel_drewN ?_ _)))).mono ?_
    rintro e w15 ⟨v, rfl, hown, hb⟩
    obtain ⟨MA, MC, rfl, _, _⟩ := own_slice hown
    obtain ⟨⟨d, os⟩, rfl⟩ := gw_of_below hb
    clear hb
    have HMA := hide (fun x : Cl => show OwnC (gw ((w14.alloc (bxC fc)).alloc (bxC x)) d os) (w14.heap.size + 2) (.slice MA m.length MC) m from own_base (own_swap hown (by simp) (by simp)) (by simp))
    clear hown
    go_wp2
    go_loopw [13, 14, 16] (fun f r i wr => ∃ (k : Nat), k ≤ m.length ∧ i = .int .i64 k ∧ f = .bool (findR (m.take k) a).isSome ∧ r = .int .u64 (maxR ((m.take k).filter (fun x => !x.gone))) ∧ wr = gw ((w14.alloc (bxC fc)).alloc (bxC ((findR (m.take k) a).getD noC))) d os) (fun _ _ i _ => m.length - (intOf i).toNat)
    case atStart => exact ⟨0, Nat.zero_le _, rfl, rfl, rfl, rfl⟩
    case round =>
      obtain ⟨k, hk, rfl, rfl, rfl, rfl⟩ := hrel
      by_cases hlt : k < m.length
      · have hp : m[k]? = some m[k] := List.getElem?_eq_getElem hlt
        have HP := hide hp
        have HFT := hide (find_take HOE.out (a := a) hp)
        have HMT := hide (maxR_take hp)
        generalize m[k] = x at hp HP HFT HMT
        obtain ⟨g, cap, hv, hgb, hg⟩ := (HMA.out noC).form (by omega)
        injection hv with hv1 hv2 hv3
        subst hv1 hv3
        have hx := own_atC (HMA.out ((findR (m.take k) a).getD noC)) HP.out
        obtain ⟨xn, xi, xc, xr, xh, xg⟩ := x
        obtain ⟨g0, g1, g2, g3, g4, g5⟩ := hx
        simp only at g0 g1 g2 g3 g4 g5 HFT HMT
        generalize findR (m.take k) a = Fk at *
        generalize maxR ((m.take k).filter (fun x => !x.gone)) = Mk at *
        have i0 : (0 : Int) ≤ (k : Int) := by omega
        have i1 : (k : Int) < (m.length : Int) := by omega
        clear hp
        cases xg
        · by_cases hxa : xn = a
          · have hxb : (xn == a) = true := by simp [hxa]
            have H1 := hide (show findR (m.take (k + 1)) a = some ⟨xn, xi, xc, xr, xh, false⟩ by rw [HFT.out, if_pos ⟨hxa, rfl⟩])
            have H2 := hide (show maxR ((m.take (k + 1)).filter (fun x => !x.gone)) = max Mk xr by rw [HMT.out]; simp)
            clear hxa HFT HMT
            obtain ⟨e0, e1, e2, e3, e4, e5⟩ := own_atC (HMA.out ⟨xn, xi, xc, xr, xh, false⟩) HP.out
            simp only at e0 e1 e2 e3 e4 e5
            go_wp2
            go_roundw
            case rel => exact ⟨k + 1, by omega, by go_num, by rw [H1.out]; rfl, by rw [H2.out], by rw [H1.out]; rfl⟩
            case measure => simp [intOf]; omega
          · have hxb : (xn == a) = false := by simpa using hxa
            have H1 := hide (show findR (m.take (k + 1)) a = Fk by rw [HFT.out, if_neg (fun h => hxa h.1)])
            have H2 := hide (show maxR ((m.take (k + 1)).filter (fun x => !x.gone)) = max Mk xr by rw [HMT.out]; simp)
            clear hxa HFT HMT
            go_wp2
            go_roundw
            case rel => exact ⟨k + 1, by omega, by go_num, by rw [H1.out], by rw [H2.out], by rw [H1.out]⟩
            case measure => simp [intOf]; omega
        · have H1 := hide (show findR (m.take (k + 1)) a = Fk by rw [HFT.out, if_neg (fun h => by simp at h)])
          have H2 := hide (show maxR ((m.take (k + 1)).filter (fun x => !x.gone)) = Mk by rw [HMT.out]; simp)
          clear HFT HMT
          go_wp2
          go_roundw
          case rel => exact ⟨k + 1, by omega, by go_num, by rw [H1.out], by rw [H2.out], by rw [H1.out]⟩
          case measure => simp [intOf]; omega
      · have hk' : m.take k = m := List.take_of_length_le (by omega)
        rw [hk']
        have H1 := hide (show findR m a = F from HF.out.symm)
        rw [H1.out, ← HFC.out]
        generalize maxR (m.filter (fun x => !x.gone)) = Mk at *
        have heq : eqC ⟨fc.n, fc.i, fc.cid, fc.rnd, fc.heard, fc.gone⟩ ⟨fc.n, fc.i, fc.cid, fc.rnd, fc.heard, fc.gone⟩ = true := by simp [eqC]
        have hss : (F.isSome == F.isSome) = true := by simp
        have hmq : (Mk == Mk) = true := by simp
        clear hk'
        go_wp2_with fail
        with_reducible refine (TU.out _ _ _ (so.step (by repeat (first | exact Below.refl _ _ | assumption | refine bel_al ?_ _ | refine bel_gw ?_ _ _ | refine bel_drew ?_ | refine bel_drewN ?_ _)))).mono ?_
        rintro e w20 ⟨rfl, hb⟩
        obtain ⟨⟨d9, os9⟩, rfl⟩ := gw_of_below hb
        clear hb
        go_wp2_with fail
        with_reducible refine (awake_t _).mono ?_
        rintro e w21 ⟨rfl, hb⟩
        obtain ⟨⟨d10, os10⟩, rfl⟩ := gw_of_below hb
        go_wp2
        go_ret
        exact ⟨rfl, (by repeat (first | exact Below.refl _ _ | assumption | refine bel_al ?_ _ | refine bel_gw ?_ _ _ | refine bel_drew ?_ | refine bel_drewN ?_ _))⟩
end Go.Proofs.Ytoajcdcdbkjefaa
