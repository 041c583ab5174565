/-
  Contracts: layer 17's heavy, join, awake; the reference's Same.
-/
import Derived.Test.YtoajcdcdbkjefaaReg7
namespace Go.Proofs.Ytoajcdcdbkjefaa
set_option linter.unusedSimpArgs false
set_option linter.unusedVariables false
set_option linter.unusedSectionVars false
open Go.RowKit Go.Sort Go.Lib

set_option maxHeartbeats 400000 in
theorem heavy_b (A : Option Addr) (c : Nat) (l : List Cl) (w : World) (hn : l.length ≤ 9223372036854775807) :
    Calls Try.prog 8 #[.agg #[.slice A l.length c]] w (RetB w (decide (300 < l.length))) := by
  go_enter Try.func8, Try.ntmps8
  go_wp2
  go_ret
  exact ⟨ret_b (by rw [decide_eq_decide]; omega), (by repeat (first | exact Below.refl _ _ | assumption | refine bel_al ?_ _ | refine bel_gw ?_ _ _ | refine bel_drew ?_ | refine bel_drewN ?_ _))⟩

set_option maxHeartbeats 400000 in
theorem join_b (a b : Int) (w : World) : Calls Try.prog 28 #[.int .i64 a, .int .u64 b] w fun e w' =>
    e = .returned (.agg #[.int .i64 1, .int .i64 a, .int .u64 b, .int .u64 4, .int .u64 9, .slice none 0 0, .int .u64 0, .int .i64 0, .int .u64 0, .slice none 0 0, .slice none 0 0]) ∧ Below w.heap.size w w' := by
  go_enter Try.func28, Try.ntmps28
  go_wp2
  exact bodyPost_ret (v := .agg #[.int .i64 1, .int .i64 a, .int .u64 b, .int .u64 4, .int .u64 9, .slice none 0 0, .int .u64 0, .int .i64 0, .int .u64 0, .slice none 0 0, .slice none 0 0]) (by simp [results, Try.results28, go_sem]) rfl ⟨rfl, (by repeat (first | exact Below.refl _ _ | assumption | refine bel_al ?_ _ | refine bel_gw ?_ _ _ | refine bel_drew ?_ | refine bel_drewN ?_ _))⟩

def c5 : Cl := ⟨5, 2, 9, 4, 3, false⟩
set_option maxRecDepth 100000 in
set_option maxHeartbeats 4000000 in
theorem awake_t (w : World) : Calls Try.prog 10 #[] w (RetB w true) := by
  have hE : ∀ W, Cll W none [] := fun W => Reads.none_
  have hH := hide (show hearR (takenR []) 3 1 1 1 5 2 4 9 [] = ([c5], 3) by decide)
  have hG := hide (show goneR (silB 16) (takenR [c5]) = [{ c5 with gone := true }] by decide)
  have hP := hide (show livesL ((takenR [c5]).filter (goes (silB 16))) = [(5, 2)] by decide)
  have hF := hide (show findR (takenR [c5]) 5 = some c5 by decide)
  have hL := hide (show livesL ((takenR [{ c5 with gone := true }]).filter (fun x => !x.gone)) = [] by decide)
  have hM := hide (show maxR ((takenR [c5]).filter (fun x => !x.gone)) = 4 by decide)
  have HE := hide hE
  clear hE
  go_enter Try.func10, Try.ntmps10
  go_wp2_with fail
  with_reducible refine (join_b 5 2 _).mono ?_
  rintro e w1 ⟨rfl, hb⟩
  obtain ⟨⟨d1, os1⟩, rfl⟩ := gw_of_below hb
  clear hb
  go_wp2_with fail
  have H := hear_s none 0 [] 3 1 1 1 5 2 4 9 none 0 [] (.int .u64 0) (.int .i64 0) (.int .u64 0) (.slice none 0 0) (.slice none 0 0) (gw w d1 os1) (HE.out _) (by simp) Reads.none_ (by simp)
  rw [hH.out] at H
  refine Calls.mono H ?_
  rintro e w2 ⟨v, rfl, hown, hb⟩
  obtain ⟨RA, RC, rfl, _, _⟩ := own_slice hown
  have hc : Cll w2 RA [c5] := Reads.of_own hown
  obtain ⟨⟨d2, os2⟩, rfl⟩ := gw_more hb
  clear hb hown H
  simp only [List.length_singleton] at *
  go_wp2_with fail
  have S := silent_s RA RC [c5] 16 ((gw w d2 os2).alloc (bxR RA 1 RC)) (hc.step (by repeat (first | exact Below.refl _ _ | assumption | refine bel_al ?_ _ | refine bel_gw ?_ _ _ | refine bel_drew ?_ | refine bel_drewN ?_ _))) (by simp) (by omega) (by omega)
  rw [hG.out, hP.out] at S
  refine Calls.mono S ?_
  rintro e w3 ⟨v, PA, PC, rfl, hown, hpr, hb⟩
  obtain ⟨GA, GC, rfl, _, _⟩ := own_slice hown
  have hg : Cll w3 GA [{ c5 with gone := true }] := Reads.of_own hown
  obtain ⟨⟨d3, os3⟩, rfl⟩ := gw_of_below hb
  clear hb hown hpr S
  simp only [List.length_singleton] at *
  go_wp2_with fail
  have F := find_s RA RC [c5] 5 ((gw ((gw w d2 os2).alloc (bxR RA 1 RC)) d3 os3).alloc (bxR GA 1 GC)) (hc.step (by repeat (first | exact Below.refl _ _ | assumption | refine bel_al ?_ _ | refine bel_gw ?_ _ _ | refine bel_drew ?_ | refine bel_drewN ?_ _))) (by simp)
  rw [hF.out] at F
  refine Calls.mono F ?_
  rintro e w4 ⟨rfl, hb⟩
  obtain ⟨⟨d4, os4⟩, rfl⟩ := gw_of_below hb
  clear hb F
  simp only [fV, c5]
  go_wp2_with fail
  have L := regLives_s GA GC [{ c5 with gone := true }] ((gw ((gw ((gw w d2 os2).alloc (bxR RA 1 RC)) d3 os3).alloc (bxR GA 1 GC)) d4 os4).alloc (bxC ⟨5, 2, 9, 4, 3, false⟩)) (hg.step (by repeat (first | exact Below.refl _ _ | assumption | refine bel_al ?_ _ | refine bel_gw ?_ _ _ | refine bel_drew ?_ | refine bel_drewN ?_ _))) (by simp)
  rw [hL.out] at L
  refine Calls.mono L ?_
  rintro e w5 ⟨LA, LC, rfl, hown, hb⟩
  obtain ⟨⟨d5, os5⟩, rfl⟩ := gw_of_below hb
  clear hb hown L
  simp only [List.length_nil] at *
  go_wp2_with fail
  have M := round_s RA RC [c5] (gw ((gw ((gw ((gw w d2 os2).alloc (bxR RA 1 RC)) d3 os3).alloc (bxR GA 1 GC)) d4 os4).alloc (bxC ⟨5, 2, 9, 4, 3, false⟩)) d5 os5) (hc.step (by repeat (first | exact Below.refl _ _ | assumption | refine bel_al ?_ _ | refine bel_gw ?_ _ _ | refine bel_drew ?_ | refine bel_drewN ?_ _))) (by simp)
  rw [hM.out] at M
  refine Calls.mono M ?_
  rintro e w6 ⟨rfl, hb⟩
  obtain ⟨⟨d6, os6⟩, rfl⟩ := gw_of_below hb
  clear hb M
  go_wp2
  go_ret
  exact ⟨rfl, (by repeat (first | exact Below.refl _ _ | assumption | refine bel_al ?_ _ | refine bel_gw ?_ _ _ | refine bel_drew ?_ | refine bel_drewN ?_ _))⟩

theorem Reads.lenC {w : World} {B : Nat} {A : Option Addr} {n : Nat} {l : List Cl} (h : Reads w B 6 A n (ccs l)) : n = l.length := by have := h.1; rw [ccs_len] at this; omega
theorem list_ext_take {l m : List Cl} (hl : l.length = m.length) (h : ∀ j, j < l.length → l[j]? = m[j]?) : l = m := by
  apply List.ext_getElem?
  intro j
  rcases Nat.lt_or_ge j l.length with hj | hj
  · exact h j hj
  · rw [List.getElem?_eq_none hj, List.getElem?_eq_none (by omega)]
set_option maxRecDepth 100000 in
set_option maxHeartbeats 2000000 in
theorem refSame_s (A A' : Option Addr) (c c' : Nat) (l m : List Cl) (w : World) (h : Cll w A l) (h' : Cll w A' m) (hn : l.length ≤ 1000000) (hm : m.length ≤ 1000000) :
    Calls Try.prog 12 #[.agg #[.slice A l.length c], .agg #[.slice A' m.length c']] w (RetB w (decide (l = m))) := by
  by_cases hl : l.length = m.length
  · have hlb : (((l.length : Int)) != (m.length : Int)) = false := by simp [hl]
    have HL := hide hl
    clear hl
    go_enter Try.func12, Try.ntmps12
    go_wp2
    go_loopw [5] (fun i wr => ∃ (k q : Nat), k ≤ l.length ∧ i = .int .i64 k ∧ (∀ j, j < k → l[j]? = m[j]?) ∧ wr = ((w.alloc (bxR A l.length c)).alloc (bxR A' m.length c')).drewN q) (fun i _ => l.length - (intOf i).toNat)
    case atStart => exact ⟨0, 0, Nat.zero_le _, rfl, fun _ h => absurd h (by omega), rfl⟩
    case round =>
      obtain ⟨k, q, hk, rfl, hall, rfl⟩ := hrel
      have HA := hide hall
      clear hall
      by_cases hlt : k < l.length
      · have hltm : k < m.length := by have := HL.out; omega
        obtain ⟨b, off, x, rfl, hb, hp, hx⟩ := Reads.atC h hlt
        obtain ⟨b', off', y, rfl, hb', hp', hy⟩ := Reads.atC h' hltm
        obtain ⟨g0, g1, g2, g3, g4, g5⟩ := hx
        obtain ⟨e0, e1, e2, e3, e4, e5⟩ := hy
        haveI : InW b w := ⟨hb⟩
        haveI : InW b' w := ⟨hb'⟩
        have i0 : (0 : Int) ≤ (k : Int) := by omega
        have i1 : (k : Int) < (l.length : Int) := by omega
        have i2 : (k : Int) < (m.length : Int) := by omega
        have HP := hide hp
        have HP' := hide hp'
        clear hp hp' h h'
        cases he : eqC x y
        · have H := hide (show decide (l = m) = false by
            rw [decide_eq_false_iff_not]
            intro e
            have h1 := HP.out
            rw [e, HP'.out] at h1
            injection h1 with h1
            rw [h1, eqC] at he; simp at he)
          go_wp2
          go_quiet (fail)
          go_wp2
          go_ret
          exact ⟨ret_b H.out.symm, (by repeat (first | exact Below.refl _ _ | assumption | refine bel_al ?_ _ | refine bel_gw ?_ _ _ | refine bel_drew ?_ | refine bel_drewN ?_ _))⟩
        · have H := hide (show ∀ j, j < k + 1 → l[j]? = m[j]? by
            intro j hj
            rcases Nat.lt_or_eq_of_le (Nat.lt_succ_iff.1 hj) with h1 | h1
            · exact HA.out j h1
            · subst h1; rw [HP.out, HP'.out]; unfold eqC at he; simpa using he)
          go_wp2
          go_quiet (fail)
          go_wp2
          go_roundw
          case rel => exact ⟨k + 1, _, by omega, by go_num, H.out, rfl⟩
          case measure => simp [intOf]; omega
      · have H := hide (show decide (l = m) = true by
          rw [decide_eq_true_eq]
          exact list_ext_take HL.out (fun j hj => HA.out j (by omega)))
        go_wp2
        go_ret
        exact ⟨ret_b H.out.symm, (by repeat (first | exact Below.refl _ _ | assumption | refine bel_al ?_ _ | refine bel_gw ?_ _ _ | refine bel_drew ?_ | refine bel_drewN ?_ _))⟩
  · have hlb : (((l.length : Int)) != (m.length : Int)) = true := by rw [bne_iff_ne]; omega
    have H := hide (show decide (l = m) = false by rw [decide_eq_false_iff_not]; intro e; exact hl (by rw [e]))
    clear hl
    go_enter Try.func12, Try.ntmps12
    go_wp2
    go_ret
    exact ⟨ret_b H.out.symm, (by repeat (first | exact Below.refl _ _ | assumption | refine bel_al ?_ _ | refine bel_gw ?_ _ _ | refine bel_drew ?_ | refine bel_drewN ?_ _))⟩
end Go.Proofs.Ytoajcdcdbkjefaa
