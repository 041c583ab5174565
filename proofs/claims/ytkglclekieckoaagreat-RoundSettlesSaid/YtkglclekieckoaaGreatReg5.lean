/-
  Contracts: registry.Round, registry.Raise, registry.nobodyElse.
-/
import Derived.Test.YtkglclekieckoaaGreatReg4
namespace Go.Proofs.YtkglclekieckoaaGreat
set_option linter.unusedSimpArgs false
set_option linter.unusedVariables false
set_option linter.unusedSectionVars false
open Go.RowKit Go.Sort Go.Lib

/-- the greatest round -/
def maxR (l : List Cl) : Int := l.foldl (fun a x => max a x.rnd) 0
theorem maxR_snoc (l : List Cl) (x : Cl) : maxR (l ++ [x]) = max (maxR l) x.rnd := by simp [maxR, List.foldl_append]
def RetU (w : World) (n : Int) (e : Ending) (w' : World) : Prop := e = .returned (.int .u64 n) ∧ Below w.heap.size w w'
set_option maxHeartbeats 2000000 in
theorem round_s (A : Option Addr) (c : Nat) (l : List Cl) (w : World) (h : Cll w A l) (hn : l.length ≤ 1000000) :
    Calls Tryz.prog 35 #[.agg #[.slice A l.length c]] w (RetU w (maxR ((takenR l).filter (fun x => !x.gone)))) := by
  have T := hide (fun W (hW : Cll W A l) => taken_s A c l W hW hn)
  have hml := takenR_len l
  generalize takenR l = m at T hml ⊢
  obtain ⟨L, hL⟩ : ∃ L, L = m.filter (fun x => !x.gone) := ⟨_, rfl⟩
  have hl2 : L.length ≤ m.length := by rw [hL]; exact List.length_filter_le _ _
  rw [← hL]
  have HL := hide hL
  clear hL
  go_enter Tryz.func35, Tryz.ntmps35
  go_wp2_with fail
  with_reducible refine (T.out _ (h.step (by repeat (first | exact Below.refl _ _ | assumption | refine bel_al ?_ _ | refine bel_gw ?_ _ _ | refine bel_drew ?_ | refine bel_drewN ?_ _)))).mono ?_
  rintro e w1 ⟨v, rfl, hown, hb⟩
  obtain ⟨RA, RC, rfl, hrc, _⟩ := own_slice hown
  have hB := below_step (below_alloc _ _) hb
  have hc : Cll w1 RA m := Reads.of_own hown
  clear hb hown h
  go_wp2_with fail
  with_reducible refine (who_there RA RC m (fun x => !x.gone) w1 hc (by omega) (fun x W _ => there_b x W)).mono ?_
  rw [← HL.out]
  rintro e w2 ⟨A2, c2, rfl, hown2, hb⟩
  replace hB := below_step hB hb
  have hc2 : Cll w2 A2 L := Reads.of_own hown2
  clear hb hown2 hc
  go_wp2
  go_loopw [3, 10] (fun v i wr => ∃ (k : Nat), k ≤ L.length ∧ i = .int .i64 k ∧ v = .int .u64 (maxR (L.take k)) ∧ Below w2.heap.size w2 wr) (fun _ i _ => L.length - (intOf i).toNat)
  case atStart => exact ⟨0, Nat.zero_le _, rfl, rfl, Below.refl _ _⟩
  case round =>
    obtain ⟨k, hk, rfl, rfl, hbw⟩ := hrel
    by_cases hlt : k < L.length
    · obtain ⟨b1, off, x, rfl, hb1, hp, hx⟩ := (Reads.below hc2 hbw).atC hlt
      obtain ⟨xn, xi, xc, xr, xh, xg⟩ := x
      obtain ⟨g0, g1, g2, g3, g4, g5⟩ := hx
      simp only at g0 g1 g2 g3 g4 g5
      have HST := hide (show maxR (L.take (k + 1)) = max (maxR (L.take k)) xr by rw [take_succ_of hp, maxR_snoc])
      clear hp
      generalize maxR (L.take k) = q at HST ⊢
      go_wp2
      go_roundw
      case rel =>
        refine ⟨k + 1, by omega, by go_num, ?_, hbw.alloc (by have := hbw.size; omega) _⟩
        rw [HST.out]
        try (first | rfl | (congr 1; omega))
      case measure => simp [intOf]; omega
    · have H := hide (show L.take k = L by rw [List.take_of_length_le (by omega)])
      rw [H.out]
      go_wp2
      go_ret
      exact ⟨rfl, below_step hB hbw⟩

def nobB (l : List (Int × Int)) (a b : Int) : Bool := decide (l.length = 0) || (decide (l.length = 1) && decide (l.head? = some (a, b)))
/-- numbers raised -/
def upC (x : Cl) : Cl := if x.gone = true then x else { x with cid := x.cid + 1 }
def upR (m : List Cl) (k : Nat) : List Cl := (m.take k).map upC ++ m.drop k
theorem upR_len (m : List Cl) (k : Nat) : (upR m k).length = m.length := by unfold upR; simp; omega
theorem upR_get {m : List Cl} {k : Nat} {x : Cl} (h : m[k]? = some x) : (upR m k)[k]? = some x := by
  unfold upR
  have hk := (List.getElem?_eq_some_iff.1 h).1
  rw [List.getElem?_append_right (by simp; omega)]
  simp [Nat.min_eq_left (Nat.le_of_lt hk), h]
theorem upR_step {m : List Cl} {k : Nat} {x : Cl} (h : m[k]? = some x) : upR m (k + 1) = (upR m k).set k (upC x) := by
  have hk := (List.getElem?_eq_some_iff.1 h).1
  unfold upR
  rw [take_succ_of h, List.map_append, List.set_append_right _ _ (by simp; omega)]
  rw [List.drop_eq_getElem_cons hk, List.length_map, List.length_take, Nat.min_eq_left (Nat.le_of_lt hk), Nat.sub_self, List.set_cons_zero]
  simp
def raiseR (m : List Cl) : List Cl × Bool := if m.any raiB then (m, false) else (m.map upC, true)
set_option maxRecDepth 100000 in
set_option maxHeartbeats 4000000 in
theorem raise_s (A : Option Addr) (c : Nat) (l : List Cl) (w : World) (h : Cll w A l) (hn : l.length ≤ 1000000) (hw : ∀ x ∈ l, 0 ≤ x.cid ∧ x.cid ≤ 18446744073709551615) :
    Calls Tryz.prog 70 #[.agg #[.slice A l.length c]] w (RetD w (raiseR (takenR l)).1 (raiseR (takenR l)).2) := by
  have T := hide (fun W (hW : Cll W A l) => taken_s A c l W hW hn)
  have hml := takenR_len l
  have hw' : ∀ x ∈ takenR l, 0 ≤ x.cid ∧ x.cid ≤ 18446744073709551615 := by
    intro x hx; unfold takenR at hx; split at hx
    · exact hw x hx
    · simp at hx
  generalize takenR l = m at T hml hw' ⊢
  have HW := hide hw'
  obtain ⟨F, hF⟩ : ∃ F, F = m.filter raiB := ⟨_, rfl⟩
  have HF := hide hF
  clear hw hw' hF
  go_enter Tryz.func70, Tryz.ntmps70
  go_wp2_with fail
  with_reducible refine (T.out _ (h.step (by repeat (first | exact Below.refl _ _ | assumption | refine bel_al ?_ _ | refine bel_gw ?_ _ _ | refine bel_drew ?_ | refine bel_drewN ?_ _)))).mono ?_
  rintro e w1 ⟨v, rfl, hown, hb⟩
  obtain ⟨RA, RC, rfl, hrc, _⟩ := own_slice hown
  obtain ⟨⟨d1, os1⟩, rfl⟩ := gw_of_below hb
  clear hb h
  go_wp2_with fail
  have hc : Cll (gw ((w.alloc (bxR RA m.length RC)).alloc (bxR none 0 0)) d1 os1) RA m := Reads.of_own (own_swap hown (by simp) (by simp))
  have HO := hide (show OwnC (gw ((w.alloc (bxR RA m.length RC)).alloc (bxR none 0 0)) d1 os1) (w.heap.size + 2) (.slice RA m.length RC) m from own_base (own_swap hown (by simp) (by simp)) (by simp))
  clear hown
  with_reducible refine (who_raise RA RC m raiB _ hc (by omega) (fun x W _ => raise1_b x W)).mono ?_
  rw [← HF.out]
  rintro e w2 ⟨A2, c2, rfl, hown2, hb⟩
  have HO2 := hide (own_below HO.out hb (Nat.le_refl _))
  obtain ⟨⟨d2, os2⟩, rfl⟩ := gw_of_below hb
  rw [gw_gw] at HO2 ⊢
  generalize os1 ++ os2 = os at HO2 ⊢
  clear hb hown2 hc HO
  cases hany : m.any raiB
  · have HR := hide (show raiseR m = (m.map upC, true) by simp [raiseR, hany])
    have hf0 : decide (0 < F.length) = false := by
      rw [HF.out]
      simp only [decide_eq_false_iff_not, Nat.not_lt, Nat.le_zero_eq, List.length_eq_zero_iff, List.filter_eq_nil_iff]
      intro x hx; have := List.any_eq_false.1 hany x hx; simpa using this
    have HN := hide (show ∀ x ∈ m, raiB x = false from fun x hx => by have := List.any_eq_false.1 hany x hx; simpa using this)
    clear hany
    go_wp2
    go_loopw [16] (fun i wr => ∃ (k : Nat), k ≤ m.length ∧ i = .int .i64 k ∧ OwnC wr (w.heap.size + 2) (.slice RA m.length RC) (upR m k) ∧ Below ((w.alloc (bxR RA m.length RC)).alloc (bxR none 0 0)).heap.size ((w.alloc (bxR RA m.length RC)).alloc (bxR none 0 0)) wr) (fun i _ => m.length - (intOf i).toNat)
    case atStart => exact ⟨0, Nat.zero_le _, rfl, by simpa [upR] using HO2.out, below_gw _ _ _⟩
    case round =>
      obtain ⟨k, hk, rfl, hown, hbw⟩ := hrel
      rw [OwnC, upR_len] at hown
      by_cases hlt : k < m.length
      · obtain ⟨g, cap, hv, hgb, hg⟩ := hown.form (by omega)
        injection hv with hv1 hv2 hv3
        subst hv1 hv3
        have hp : m[k]? = some m[k] := List.getElem?_eq_getElem hlt
        have hat := own_atC hown (upR_get hp)
        have hcw := HW.out _ (List.mem_of_getElem? hp)
        have hnr := HN.out _ (List.mem_of_getElem? hp)
        generalize m[k] = x at hp hat hcw hnr
        obtain ⟨xn, xi, xc, xr, xh, xg⟩ := x
        obtain ⟨g0, g1, g2, g3, g4, g5⟩ := hat
        simp only at g0 g1 g2 g3 g4 g5 hcw
        have hfr := hown.frozenAt
        have HOW := hide hown
        have HB := hide hbw
        obtain ⟨hc0, hc1⟩ := hcw
        obtain ⟨⟨d3, os3⟩, rfl⟩ := gw_of_below hbw
        haveI : InW g (gw ((w.alloc (bxR (some ⟨g, 0, none⟩) m.length RC)).alloc (bxR none 0 0)) d3 os3) := ⟨hg⟩
        have HP := hide hp
        clear hown hp hbw
        cases xg
        · have hc2 : xc < 18446744073709551615 := by
            simp [raiB] at hnr; omega
          have HU := hide (show upC ⟨xn, xi, xc, xr, xh, false⟩ = ⟨xn, xi, xc + 1, xr, xh, false⟩ by simp [upC])
          clear hnr
          go_wp2
          go_roundw
          case rel =>
            obtain ⟨r1, r2⟩ := own_setC HOW.out (i := k) 2 (y := ⟨xn, xi, xc + 1, xr, xh, false⟩) (v := .int .u64 (xc + 1)) (upR_get HP.out) (by omega) rfl
            refine ⟨k + 1, by omega, by go_num, ?_, (HB.out.grown r2 HB.out.size (fun q hq => by injection hq with hq; subst hq; simp; omega)).alloc (by simp; have := HB.out.size; simp at this; omega) _⟩
            rw [OwnC, upR_len, upR_step HP.out, HU.out]
            exact r1.alloc _
          case measure => simp [intOf]; omega
        · have HU := hide (show upC ⟨xn, xi, xc, xr, xh, true⟩ = ⟨xn, xi, xc, xr, xh, true⟩ by simp [upC])
          go_wp2
          go_roundw
          case rel =>
            refine ⟨k + 1, by omega, by go_num, ?_, bel_al HB.out _⟩
            rw [OwnC, upR_len, upR_step HP.out, HU.out, set_self (upR_get HP.out)]
            exact HOW.out.alloc _
          case measure => simp [intOf]; omega
      · have H := hide (show upR m k = m.map upC by rw [upR, List.take_of_length_le (by omega), List.drop_eq_nil_of_le (by omega), List.append_nil])
        rw [H.out] at hown
        obtain ⟨⟨d3, os3⟩, rfl⟩ := gw_of_below hbw
        have HOW := hide hown
        clear hown hbw
        go_wp2
        rw [HR.out]
        refine bodyPost_ret (v := .tuple #[.agg #[.slice RA m.length RC], .bool true]) (by simp [results, Tryz.results70, go_sem]) rfl ?_
        refine ⟨_, rfl, ?_, (by repeat (first | exact Below.refl _ _ | assumption | refine bel_al ?_ _ | refine bel_gw ?_ _ _ | refine bel_drew ?_ | refine bel_drewN ?_ _))⟩
        rw [OwnC, List.length_map]
        exact own_base (own_swap HOW.out (by simp) (by simp)) (by omega)
  · have HR := hide (show raiseR m = (m, false) by simp [raiseR, hany])
    have hf0 : decide (0 < F.length) = true := by
      rw [HF.out]
      obtain ⟨x, hx, hr⟩ := List.any_eq_true.1 hany
      simp only [decide_eq_true_eq]
      exact List.length_pos_of_mem (List.mem_filter.2 ⟨hx, hr⟩)
    clear hany
    go_wp2
    rw [HR.out]
    refine bodyPost_ret (v := .tuple #[.agg #[.slice RA m.length RC], .bool false]) (by simp [results, Tryz.results70, go_sem]) rfl ?_
    exact ⟨_, rfl, own_base (own_swap HO2.out (by simp) (by simp)) (by omega), (by repeat (first | exact Below.refl _ _ | assumption | refine bel_al ?_ _ | refine bel_gw ?_ _ _ | refine bel_drew ?_ | refine bel_drewN ?_ _))⟩

end Go.Proofs.YtkglclekieckoaaGreat
