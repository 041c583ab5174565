/-
  RegistryRaised answers true.
-/
import Derived.Test.YtoajcdcdbkjefaaLaw17
namespace Go.Proofs.Ytoajcdcdbkjefaa
set_option linter.unusedSimpArgs false
set_option linter.unusedVariables false
set_option linter.unusedSectionVars false
open Go.RowKit Go.Sort Go.Lib

def At (w : World) (a : Addr) (v : Value) : Prop := w.cell? a = some v ∧ a.block < w.heap.size
theorem At.step {w w' : World} {a : Addr} {v : Value} (h : At w a v) (hb : Below w.heap.size w w') : At w' a v := ⟨(hb.cell h.2).trans h.1, Nat.lt_of_lt_of_le h.2 hb.size⟩
theorem upC_n (x : Cl) : (upC x).n = x.n ∧ (upC x).i = x.i ∧ (upC x).rnd = x.rnd ∧ (upC x).gone = x.gone := by unfold upC; split <;> simp
theorem getD_map (l : List Cl) (k : Nat) (hk : k < l.length) : (l.map upC).getD k default = upC (l.getD k default) := by simp [List.getD, hk]
theorem mayR_up (l : List Cl) : mayR (l.map upC) = mayR l := by
  unfold mayR
  rw [List.length_map]
  congr 1
  apply Bool.eq_iff_iff.2
  rw [List.all_eq_true, List.all_eq_true]
  have key : ∀ k, k < l.length → okR (l.map upC) k = okR l k := by
    intro k hk
    unfold okR
    rw [getD_map l k hk, (upC_n _).1, (upC_n _).2.1]
    by_cases h0 : k = 0
    · simp [h0]
    · rw [getD_map l (k - 1) (by omega), (upC_n _).1]
  constructor
  · intro h k hk; rw [← key k (List.mem_range.1 hk)]; exact h k hk
  · intro h k hk; rw [key k (List.mem_range.1 hk)]; exact h k hk
theorem filter_up (l : List Cl) : (l.map upC).filter (fun x => !x.gone) = (l.filter (fun x => !x.gone)).map upC := by
  induction l with
  | nil => rfl
  | cons x l ih =>
    rw [List.map_cons, List.filter_cons, List.filter_cons, (upC_n x).2.2.2, ih]
    split <;> simp
theorem lives_up (l : List Cl) : livesL (l.map upC) = livesL l := by
  unfold livesL
  rw [List.map_map]
  apply List.map_congr_left
  intro x _
  simp [(upC_n x).1, (upC_n x).2.1]
theorem maxR_go (l : List Cl) (a : Int) : (l.map upC).foldl (fun a x => max a x.rnd) a = l.foldl (fun a x => max a x.rnd) a := by
  induction l generalizing a with
  | nil => rfl
  | cons x l ih => simp only [List.map_cons, List.foldl_cons]; rw [(upC_n x).2.2.1, ih]
theorem maxR_up (l : List Cl) : maxR (l.map upC) = maxR l := maxR_go l 0

def Sll (w : World) (A : Option Addr) (l : List (Int × Int)) : Prop := Reads w w.heap.size 2 A l.length (pcs l)
theorem Sll.step {w w' : World} {A : Option Addr} {l : List (Int × Int)} (h : Sll w A l) (hb : Below w.heap.size w w') : Sll w' A l := (Reads.below h hb).more hb.size
def RetQ (w : World) (l : List (Int × Int)) (e : Ending) (w' : World) : Prop := ∃ A c, e = .returned (.slice A l.length c) ∧ Sll w' A l ∧ Below w.heap.size w w'
theorem RetP.q {w : World} {l : List (Int × Int)} {e : Ending} {w' : World} : RetP w l e w' → RetQ w l e w' := fun ⟨A, c, h1, h2, h3⟩ => ⟨A, c, h1, Reads.of_own h2, h3⟩

set_option maxRecDepth 100000 in
set_option maxHeartbeats 4000000 in
theorem registryRaised_true (A : Option Addr) (c : Nat) (l : List Cl) (w : World) (h : Cll w A l) (hn : l.length ≤ 9223372036854775807) (hw : ∀ x ∈ l, 0 ≤ x.cid ∧ x.cid ≤ 18446744073709551615) :
    Calls Try.prog 7 #[.agg #[.slice A l.length c]] w (RetB w true) := by
  have HW := hide hw
  clear hw
  by_cases h3 : 300 < l.length
  · have hd : decide (300 < l.length) = true := by simp [h3]
    go_enter Try.func7, Try.ntmps7
    go_wp2_with fail
    with_reducible refine (heavy_b A c l _ hn).mono ?_
    rintro e w1 ⟨rfl, hb⟩
    obtain ⟨⟨d1, os1⟩, rfl⟩ := gw_of_below hb
    rw [hd]
    clear hb
    go_wp2_with fail
    with_reducible refine (awake_t _).mono ?_
    rintro e w2 ⟨rfl, hb⟩
    obtain ⟨⟨d2, os2⟩, rfl⟩ := gw_of_below hb
    go_wp2
    go_ret
    exact ⟨rfl, (by repeat (first | exact Below.refl _ _ | assumption | refine bel_al ?_ _ | refine bel_gw ?_ _ _ | refine bel_drew ?_ | refine bel_drewN ?_ _))⟩
  · have hd : decide (300 < l.length) = false := by simp [h3]
    have h3' : l.length ≤ 300 := by omega
    clear h3 hn
    go_enter Try.func7, Try.ntmps7
    go_wp2_with fail
    with_reducible refine (heavy_b A c l _ (by omega)).mono ?_
    rintro e w1 ⟨rfl, hb⟩
    rw [hd]
    obtain ⟨⟨d1, os1⟩, rfl⟩ := gw_of_below hb
    clear hb hd
    go_wp2_with fail
    with_reducible refine (regMay_b A c l _ (h.step (by repeat (first | exact Below.refl _ _ | assumption | refine bel_al ?_ _ | refine bel_gw ?_ _ _ | refine bel_drew ?_ | refine bel_drewN ?_ _))) (by omega)).mono ?_
    rintro e w2 ⟨rfl, hb⟩
    obtain ⟨⟨d2, os2⟩, rfl⟩ := gw_more hb
    clear hb
    cases hm : mayR l
    · clear hm
      go_wp2_with fail
      with_reducible refine (awake_t _).mono ?_
      rintro e w2 ⟨rfl, hb⟩
      obtain ⟨⟨d2, os2⟩, rfl⟩ := gw_of_below hb
      go_wp2
      go_ret
      exact ⟨rfl, (by repeat (first | exact Below.refl _ _ | assumption | refine bel_al ?_ _ | refine bel_gw ?_ _ _ | refine bel_drew ?_ | refine bel_drewN ?_ _))⟩
    · have ht : takenR l = l := by simp [takenR, hm]
      have hM := mayR_up l
      have HT := hide ht
      have HTU := hide (show takenR (l.map upC) = l.map upC by unfold takenR; rw [hM, hm]; rfl)
      clear ht hm hM
      go_wp2_with fail
      with_reducible refine (raise_s A c l _ (h.step (by repeat (first | exact Below.refl _ _ | assumption | refine bel_al ?_ _ | refine bel_gw ?_ _ _ | refine bel_drew ?_ | refine bel_drewN ?_ _))) (by omega) HW.out).mono ?_
      rw [HT.out]
      rintro e w3 ⟨v, rfl, hown, hb⟩
      obtain ⟨SA, SC, rfl, _, _⟩ := own_slice hown
      unfold raiseR at hown ⊢
      cases hany : l.any raiB
      · rw [hany] at hown
        simp only [Bool.false_eq_true, if_false] at hown ⊢
        obtain ⟨s, hs⟩ : ∃ s, s = l.map upC := ⟨_, rfl⟩
        rw [← hs] at hown HTU ⊢
        have hsl : s.length = l.length := by rw [hs, List.length_map]
        have HS := hide hs
        have hsb : ((s.length : Int) != (l.length : Int)) = false := by simp [hsl]
        have hs3 : s.length ≤ 300 := by omega
        obtain ⟨LL, hLL⟩ : ∃ LL, LL = livesL (l.filter (fun x => !x.gone)) := ⟨_, rfl⟩
        obtain ⟨M, hM⟩ : ∃ M, M = maxR (l.filter (fun x => !x.gone)) := ⟨_, rfl⟩
        have hLl : LL.length ≤ 300 := by
          rw [hLL]; unfold livesL; rw [List.length_map]
          exact Nat.le_trans (List.length_filter_le _ _) h3'
        have TL : ∀ W, Cll W A l → Calls Try.prog 22 #[.agg #[.slice A l.length c]] W (RetQ W LL) := fun W hW => by
          have := regLives_s A c l W hW (by omega); rw [HT.out, ← hLL] at this; exact this.mono fun _ _ => RetP.q
        have TS : ∀ W, Cll W SA s → Calls Try.prog 22 #[.agg #[.slice SA s.length SC]] W (RetQ W LL) := fun W hW => by
          have := regLives_s SA SC s W hW (by omega); rw [HTU.out, hs, filter_up, lives_up, ← hLL] at this; rw [hs]; exact this.mono fun _ _ => RetP.q
        have TR : ∀ W, Cll W A l → Calls Try.prog 26 #[.agg #[.slice A l.length c]] W (RetU W M) := fun W hW => by
          have := round_s A c l W hW (by omega); rw [HT.out, ← hM] at this; exact this
        have TQ : ∀ W, Cll W SA s → Calls Try.prog 26 #[.agg #[.slice SA s.length SC]] W (RetU W M) := fun W hW => by
          have := round_s SA SC s W hW (by omega); rw [HTU.out, hs, filter_up, maxR_up, ← hM] at this; rw [hs]; exact this
        have TE : ∀ W B B' b b', Sll W B LL → Sll W B' LL → Calls Try.prog 17 #[.slice B LL.length b, .slice B' LL.length b'] W (RetB W true) := fun W B B' b b' h1 h2 =>
          (refEqual_any B B' b b' LL LL W h1 h2 (by omega) (by omega)).mono fun _ _ ⟨h, h'⟩ => ⟨by rw [h]; simp, h'⟩
        have HTL := hide TL
        have HTS := hide TS
        have HTR := hide TR
        have HTQ := hide TQ
        have HTE := hide TE
        have HSL := hide hsl
        clear TL TS TR TQ TE hLL hM hs hsl HTU
        have hmm : (M != M) = false := by simp
        have s1 : Cll w3 SA s := Reads.of_own hown
        have sa : Cll w3 A l := h.step (below_step (by repeat (first | exact Below.refl _ _ | assumption | refine bel_al ?_ _ | refine bel_gw ?_ _ _ | refine bel_drew ?_ | refine bel_drewN ?_ _)) hb)
        have hB : Below w.heap.size w w3 := below_step (by repeat (first | exact Below.refl _ _ | assumption | refine bel_al ?_ _ | refine bel_gw ?_ _ _ | refine bel_drew ?_ | refine bel_drewN ?_ _)) hb
        have p0 : At w3 ⟨w.heap.size, 0, none⟩ (.slice A l.length c) := At.step ⟨by simp [go_sem], InW.lt⟩ hb
        have HN := hide (show ∀ x ∈ l, raiB x = false from fun x hx => by have := List.any_eq_false.1 hany x hx; simpa using this)
        clear hb hown hany h
        have p1 : At (w3.alloc (bxR SA s.length SC)) ⟨w3.heap.size, 0, none⟩ (.slice SA s.length SC) := ⟨by simp [go_sem], by simp⟩
        have hb := below_alloc w3 (bxR SA s.length SC)
        replace s1 := s1.step hb
        replace sa := sa.step hb
        replace p0 := p0.step hb
        replace hB := below_step hB hb
        clear hb
        go_wp2_with fail
        generalize w3.alloc (bxR SA s.length SC) = W at *
        replace sa : Cll W.drew A l := sa
        replace s1 : Cll W.drew SA s := s1
        replace p0 : At W.drew ⟨w.heap.size, 0, none⟩ (.slice A l.length c) := p0
        replace p1 : At W.drew ⟨w3.heap.size, 0, none⟩ (.slice SA s.length SC) := p1
        replace hB := hB.drew
        have q0 : W.cell? ⟨w.heap.size, 0, none⟩ = some (.slice A l.length c) := p0.1
        have q1 : W.cell? ⟨w3.heap.size, 0, none⟩ = some (.slice SA s.length SC) := p1.1
        go_region_held3 (fun w' => w'.cell? ⟨w.heap.size, 0, none⟩ = some (.slice A l.length c) ∧ w'.cell? ⟨w3.heap.size, 0, none⟩ = some (.slice SA s.length SC)) (exact ⟨p0.1, p1.1⟩)
          (first
            | (go_at_call 22; (with_reducible refine (HTS.out _ s1).mono ?_); rintro e w4 ⟨A2, c2, rfl, s2, hb⟩; replace sa := sa.step hb; replace s1 := s1.step hb; replace p0 := p0.step hb; replace p1 := p1.step hb; replace hB := below_step hB hb; clear hb)
            | (go_at_call 22; (with_reducible refine (HTL.out _ sa).mono ?_); rintro e w5 ⟨A3, c3, rfl, s3, hb⟩; replace sa := sa.step hb; replace s1 := s1.step hb; replace p0 := p0.step hb; replace p1 := p1.step hb; replace s2 := s2.step hb; replace hB := below_step hB hb; clear hb)
            | (go_at_call 17; (with_reducible refine (HTE.out _ _ _ _ _ s2 s3).mono ?_); rintro e w6 ⟨rfl, hb⟩; replace sa := sa.step hb; replace s1 := s1.step hb; replace p0 := p0.step hb; replace p1 := p1.step hb; replace s2 := s2.step hb; replace s3 := s3.step hb; replace hB := below_step hB hb; clear hb)
            | (go_at_call 26; (with_reducible refine (HTQ.out _ s1).mono ?_); rintro e w7 ⟨rfl, hb⟩; replace sa := sa.step hb; replace s1 := s1.step hb; replace p0 := p0.step hb; replace p1 := p1.step hb; replace s2 := s2.step hb; replace s3 := s3.step hb; replace hB := below_step hB hb; clear hb)
            | (go_at_call 26; (with_reducible refine (HTR.out _ sa).mono ?_); rintro e w8 ⟨rfl, hb⟩; replace sa := sa.step hb; replace s1 := s1.step hb; replace p0 := p0.step hb; replace p1 := p1.step hb; replace s2 := s2.step hb; replace s3 := s3.step hb; replace hB := below_step hB hb; clear hb)
            )
        haveI : InW w.heap.size w8 := ⟨p0.2⟩
        haveI : InW w3.heap.size w8 := ⟨p1.2⟩
        have q0 : w8.cell? ⟨w.heap.size, 0, none⟩ = some (.slice A l.length c) := p0.1
        have q1 : w8.cell? ⟨w3.heap.size, 0, none⟩ = some (.slice SA s.length SC) := p1.1
        clear p0 p1
        go_wp2
        go_loopw [5] (fun i wr => ∃ (k : Nat), k ≤ l.length ∧ i = .int .i64 k ∧ Below w8.heap.size w8 wr) (fun i _ => l.length - (intOf i).toNat)
        case atStart => exact ⟨0, Nat.zero_le _, rfl, Below.refl _ _⟩
        case round =>
          obtain ⟨k, hk, rfl, hbw⟩ := hrel
          obtain ⟨⟨d9, os9⟩, rfl⟩ := gw_of_below hbw
          by_cases hlt : k < l.length
          · have hlts : k < s.length := by have := HSL.out; omega
            obtain ⟨b, off, x, rfl, hb, hp, hx⟩ := Reads.atC sa hlt
            obtain ⟨b', off', y, rfl, hb', hp', hy⟩ := Reads.atC s1 hlts
            have hy1 : y = upC x := by
              have h1 := hp'
              rw [HS.out, List.getElem?_map, hp] at h1
              simpa using h1.symm
            have hxm := List.mem_of_getElem? hp
            have hxw := HW.out x hxm
            have hxr := HN.out x hxm
            subst hy1
            obtain ⟨xn, xi, xc, xr, xh, xg⟩ := x
            obtain ⟨g0, g1, g2, g3, g4, g5⟩ := hx
            obtain ⟨e0, e1, e2, e3, e4, e5⟩ := hy
            obtain ⟨hxw1, hxw2⟩ := hxw
            haveI : InW b w8 := ⟨hb⟩
            haveI : InW b' w8 := ⟨hb'⟩
            have i0 : (0 : Int) ≤ (k : Int) := by omega
            have i1 : (k : Int) < (l.length : Int) := by omega
            have i2 : (k : Int) < (s.length : Int) := by omega
            clear hp hp' hxm
            cases xg
            · have hc2 : xc < 18446744073709551615 := by
                simp only at hxw2
                simp [raiB] at hxr; omega
              simp only [upC, Bool.false_eq_true, if_false] at g0 g1 g2 g3 g4 g5 e0 e1 e2 e3 e4 e5 hxw1 hxw2
              have heq : eqC ⟨xn, xi, xc + 1, xr, xh, false⟩ ⟨xn, xi, xc + 1, xr, xh, false⟩ = true := by simp [eqC]
              clear hxr
              go_wp2
              go_quiet (fail)
              go_wp2
              go_roundw
              case rel => exact ⟨k + 1, by omega, by go_num, (by repeat (first | exact Below.refl _ _ | assumption | refine bel_al ?_ _ | refine bel_gw ?_ _ _ | refine bel_drew ?_ | refine bel_drewN ?_ _))⟩
              case measure => simp [intOf]; omega
            · simp only [upC, if_true] at g0 g1 g2 g3 g4 g5 e0 e1 e2 e3 e4 e5
              have heq : eqC ⟨xn, xi, xc, xr, xh, true⟩ ⟨xn, xi, xc, xr, xh, true⟩ = true := by simp [eqC]
              clear hxr
              go_wp2
              go_quiet (fail)
              go_wp2
              go_roundw
              case rel => exact ⟨k + 1, by omega, by go_num, (by repeat (first | exact Below.refl _ _ | assumption | refine bel_al ?_ _ | refine bel_gw ?_ _ _ | refine bel_drew ?_ | refine bel_drewN ?_ _))⟩
              case measure => simp [intOf]; omega
          · go_wp2_with fail
            with_reducible refine (awake_t _).mono ?_
            rintro e w10 ⟨rfl, hb⟩
            go_wp2
            go_ret
            exact ⟨rfl, below_step (below_step hB hbw) hb⟩
      · rw [hany] at hown
        simp only [if_true] at hown ⊢
        obtain ⟨⟨d3, os3⟩, rfl⟩ := gw_of_below hb
        clear hown hany
        go_wp2_with fail
        with_reducible refine (awake_t _).mono ?_
        rintro e w10 ⟨rfl, hb⟩
        obtain ⟨⟨d4, os4⟩, rfl⟩ := gw_of_below hb
        go_wp2
        go_ret
        exact ⟨rfl, (by repeat (first | exact Below.refl _ _ | assumption | refine bel_al ?_ _ | refine bel_gw ?_ _ _ | refine bel_drew ?_ | refine bel_drewN ?_ _))⟩
end Go.Proofs.Ytoajcdcdbkjefaa
