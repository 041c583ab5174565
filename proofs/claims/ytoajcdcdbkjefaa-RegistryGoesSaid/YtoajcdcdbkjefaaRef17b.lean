/-
  Contracts: the reference's Lives, Raise of layer 17.
-/
import Derived.Test.YtoajcdcdbkjefaaRef17
namespace Go.Proofs.Ytoajcdcdbkjefaa
set_option linter.unusedSimpArgs false
set_option linter.unusedVariables false
set_option linter.unusedSectionVars false
open Go.RowKit Go.Sort Go.Lib

@[go_sem] theorem cell?_gw_succ (w : World) (d : Nat) (os : Array Obj) (a : Addr) : (gw w (d + 1) os).cell? a = (gw w d os).cell? a := rfl
@[go_sem] theorem frozen?_gw_succ (w : World) (d : Nat) (os : Array Obj) (a : Addr) : (gw w (d + 1) os).frozen? a = (gw w d os).frozen? a := rfl

set_option maxRecDepth 100000 in
set_option maxHeartbeats 2000000 in
theorem ref17Lives_s (A : Option Addr) (c : Nat) (l : List Cl) (w : World) (h : Cll w A l) (hn : l.length ≤ 1000000) (hw : ∀ x ∈ l, 0 ≤ x.i) :
    Calls Try.prog 23 #[.agg #[.slice A l.length c]] w (RetP w (livesL ((takenR l).filter (fun x => !x.gone)))) := by
  have T := hide (fun W (hW : Cll W A l) => ref17Own_s A c l W hW hn hw)
  have hml := takenR_len l
  generalize takenR l = m at T hml ⊢
  clear hw
  go_enter Try.func23, Try.ntmps23
  go_wp2_with fail
  with_reducible refine (T.out _ (h.step (by repeat (first | exact Below.refl _ _ | assumption | refine bel_al ?_ _ | refine bel_gw ?_ _ _ | refine bel_drew ?_ | refine bel_drewN ?_ _)))).mono ?_
  rintro e w1 ⟨v, rfl, hown, hb⟩
  obtain ⟨RA, RC, rfl, hrc, _⟩ := own_slice hown
  obtain ⟨⟨d1, os1⟩, rfl⟩ := gw_of_below hb
  have hc : Cll (gw (w.alloc (bxR RA m.length RC)) d1 os1) RA m := Reads.of_own (own_swap hown (by simp) (by simp))
  clear hb h hown
  go_wp2
  go_loopw [3, 4] (fun v i wr => ∃ (k : Nat) (L : List (Int × Int)), k ≤ m.length ∧ i = .int .i64 k ∧ L = livesL ((m.take k).filter (fun x => !x.gone)) ∧ wr.ownsRow (gw (w.alloc (bxR RA m.length RC)) d1 os1).heap.size 27 2 v L.length (pcs L) ∧ Below (gw (w.alloc (bxR RA m.length RC)) d1 os1).heap.size (gw (w.alloc (bxR RA m.length RC)) d1 os1) wr) (fun _ i _ => m.length - (intOf i).toNat)
  case atStart => exact ⟨0, [], Nat.zero_le _, rfl, rfl, World.ownsRow_nil _ _ _ _, Below.refl _ _⟩
  case round =>
    obtain ⟨k, L, hk, rfl, hL, hown, hbw⟩ := hrel
    have HL := hide hL
    have hLl : L.length ≤ m.length := by
      rw [hL, livesL, List.length_map]
      exact Nat.le_trans (List.length_filter_le _ _) (by rw [List.length_take]; omega)
    have HB := hide hbw
    obtain ⟨⟨d2, os2⟩, rfl⟩ := gw_of_below hbw
    have HO := hide hown
    clear hL hown hbw
    by_cases hlt : k < m.length
    · obtain ⟨b1, off, x, rfl, hb, hp, hx⟩ := Reads.atC hc hlt
      obtain ⟨xn, xi, xc, xr, xh, xg⟩ := x
      obtain ⟨g0, g1, g2, g3, g4, g5⟩ := hx
      simp only at g0 g1 g2 g3 g4 g5
      haveI : InW b1 (gw (w.alloc (bxR (some ⟨b1, off, none⟩) m.length RC)) d1 os1) := ⟨hb⟩
      have HST := hide (show livesL ((m.take (k + 1)).filter (fun x => !x.gone)) = L ++ (if xg then [] else [(xn, xi)]) by
        rw [take_succ_of hp, List.filter_append, livesL, List.map_append, HL.out]; cases xg <;> simp [livesL])
      clear hp
      cases xg
      · go_wp2_with (at_builtin; go_must (refine wpList_append_any _ Try.okP (by rfl) (.tmp 21) (.tmp 28) (by rfl) (gw (w.alloc (bxR (some ⟨b1, off, none⟩) m.length RC)) d1 os1).heap.size _ _ (pcs L) (by rfl) (HO.out.alloc _) _ (some ⟨(gw (gw (w.alloc (bxR (some ⟨b1, off, none⟩) m.length RC)) d1 os1) d2 os2).heap.size, 0, none⟩) 1 1 (pcs [(xn, xi)]) (by rfl) (reads_oneP _ xn xi _ rfl) (pc_one _) (by unfold maxLen; omega) (by omega) (by simp [size_gwe]; omega) ?_); intro v1 w4 hown1 hg1 hnil1 hat1)
        go_roundw
        case rel =>
          refine ⟨k + 1, L ++ [(xn, xi)], by omega, by go_num, by rw [HST.out]; simp, ?_, ?_⟩
          · rw [List.length_append, pcs_app]; exact hown1
          · exact (bel_al HB.out _).grown hg1 (by simp [size_gwe]; omega) (fun g hg => (HO.out.lt g hg).1)
        case measure => simp [intOf]; omega
      · go_wp2
        go_roundw
        case rel => exact ⟨k + 1, L, by omega, by go_num, by rw [HST.out]; simp, HO.out, HB.out⟩
        case measure => simp [intOf]; omega
    · have H := hide (show livesL (m.filter (fun x => !x.gone)) = L by rw [HL.out, List.take_of_length_le (by omega)])
      have hown := HO.out
      obtain ⟨A2, c2, rfl, _, _⟩ := own_slice hown
      go_wp2
      go_ret
      rw [H.out]
      exact ⟨A2, c2, rfl, own_base hown (by (try simp [size_gwe]) <;> omega), below_step (bel_gw (bel_al (Below.refl _ _) _) _ _) HB.out⟩

set_option maxRecDepth 100000 in
set_option maxHeartbeats 4000000 in
theorem ref17Raise_s (A : Option Addr) (c : Nat) (l : List Cl) (w : World) (h : Cll w A l) (hn : l.length ≤ 1000000) (hwi : ∀ x ∈ l, 0 ≤ x.i) (hw : ∀ x ∈ l, 0 ≤ x.cid ∧ x.cid ≤ 18446744073709551615) :
    Calls Try.prog 20 #[.agg #[.slice A l.length c]] w (RetD w (raiseR (takenR l)).1 (raiseR (takenR l)).2) := by
  have T := hide (fun W (hW : Cll W A l) => ref17Own_s A c l W hW hn hwi)
  have hml := takenR_len l
  have hw' : ∀ x ∈ takenR l, 0 ≤ x.cid ∧ x.cid ≤ 18446744073709551615 := by
    intro x hx; unfold takenR at hx; split at hx
    · exact hw x hx
    · simp at hx
  generalize takenR l = m at T hml hw' ⊢
  have HW := hide hw'
  clear hw hw' hwi
  go_enter Try.func20, Try.ntmps20
  go_wp2_with fail
  with_reducible refine (T.out _ (h.step (by repeat (first | exact Below.refl _ _ | assumption | refine bel_al ?_ _ | refine bel_gw ?_ _ _ | refine bel_drew ?_ | refine bel_drewN ?_ _)))).mono ?_
  rintro e w1 ⟨v, rfl, hown, hb⟩
  obtain ⟨RA, RC, rfl, hrc, _⟩ := own_slice hown
  obtain ⟨⟨d1, os1⟩, rfl⟩ := gw_of_below hb
  have HO := hide (show OwnC (gw ((w.alloc (bxR RA m.length RC)).alloc (bxR none 0 0)) d1 os1) (w.heap.size + 2) (.slice RA m.length RC) m from own_base (own_swap hown (by simp) (by simp)) (by simp))
  clear hb h hown
  go_wp2
  go_loop [4] (fun i => ∃ (k : Nat), k ≤ m.length ∧ i = .int .i64 k ∧ (m.take k).any raiB = false) (fun i => m.length - (intOf i).toNat)
  case atStart => exact ⟨0, Nat.zero_le _, rfl, by simp⟩
  case round =>
    obtain ⟨k, hk, rfl, hany⟩ := hrel
    have HA := hide hany
    clear hany
    by_cases hlt : k < m.length
    · obtain ⟨g, cap, hv, hgb, hg⟩ := HO.out.form (by omega)
      injection hv with hv1 hv2 hv3
      subst hv1 hv3
      have hp : m[k]? = some m[k] := List.getElem?_eq_getElem hlt
      have hat := own_atC HO.out hp
      generalize m[k] = x at hp hat
      obtain ⟨xn, xi, xc, xr, xh, xg⟩ := x
      obtain ⟨g0, g1, g2, g3, g4, g5⟩ := hat
      simp only at g0 g1 g2 g3 g4 g5
      have HP := hide hp
      clear hp
      have hst : (m.take (k + 1)).any raiB = raiB ⟨xn, xi, xc, xr, xh, xg⟩ := by rw [take_succ_of HP.out, List.any_append, HA.out]; simp
      have HST := hide hst
      clear hst
      cases xg
      · by_cases hx : xc = 18446744073709551615
        · have hxb : (xc == 18446744073709551615) = true := by simp [hx]
          have HR := hide (show raiseR m = (m, false) by
            unfold raiseR
            rw [if_pos]
            rw [List.any_eq_true]
            exact ⟨_, List.mem_of_getElem? HP.out, by simp [raiB, hx]⟩)
          clear hx
          go_wp2
          rw [HR.out]
          refine bodyPost_ret (v := .tuple #[.agg #[.slice (some ⟨g, 0, none⟩) m.length RC], .bool false]) (by simp [results, Try.results20, go_sem]) rfl ?_
          exact ⟨_, rfl, own_base (own_swap HO.out (by simp) (by simp)) (by omega), (by repeat (first | exact Below.refl _ _ | assumption | refine bel_al ?_ _ | refine bel_gw ?_ _ _ | refine bel_drew ?_ | refine bel_drewN ?_ _))⟩
        · have hxb : (xc == 18446744073709551615) = false := by simpa using hx
          have HS := hide (show (m.take (k + 1)).any raiB = false by rw [HST.out]; simp [raiB, hx])
          clear hx
          go_wp2
          go_round
          case rel => exact ⟨k + 1, by omega, by go_num, HS.out⟩
          case measure => simp [intOf]; omega
      · have HS := hide (show (m.take (k + 1)).any raiB = false by rw [HST.out]; simp [raiB])
        go_wp2
        go_round
        case rel => exact ⟨k + 1, by omega, by go_num, HS.out⟩
        case measure => simp [intOf]; omega
    · have hany : m.any raiB = false := by have := HA.out; rwa [List.take_of_length_le (by omega)] at this
      have HR := hide (show raiseR m = (m.map upC, true) by simp [raiseR, hany])
      have HN := hide (show ∀ x ∈ m, raiB x = false from fun x hx => by have := List.any_eq_false.1 hany x hx; simpa using this)
      clear hany HA
      go_wp2
      go_loopw [5] (fun i wr => ∃ (k : Nat), k ≤ m.length ∧ i = .int .i64 k ∧ OwnC wr (w.heap.size + 2) (.slice RA m.length RC) (upR m k) ∧ Below ((w.alloc (bxR RA m.length RC)).alloc (bxR none 0 0)).heap.size ((w.alloc (bxR RA m.length RC)).alloc (bxR none 0 0)) wr) (fun i _ => m.length - (intOf i).toNat)
      case atStart => exact ⟨0, Nat.zero_le _, rfl, by simpa [upR] using HO.out, below_gw _ _ _⟩
      case round =>
        obtain ⟨k, hk, rfl, hown, hbw⟩ := hrel
        rw [OwnC, upR_len] at hown
        clear HO
        by_cases hlt : k < m.length
        · obtain ⟨g, cap, hv, hgb, hg⟩ := hown.form (by omega)
          injection hv with hv1 hv2 hv3
          subst hv1 hv3
          have hp : m[k]? = some m[k] := List.getElem?_eq_getElem hlt
          have hat := own_atC hown (upR_get hp)
          have hcw := HW.out _ (List.mem_of_getElem? hp)
          have hnr := HN.out _ (List.mem_of_getElem? hp)
          generalize m[k] = x at hp hat hcw hnr
          obtain ⟨xn, xi, xc, xr, xh, xg⟩ := x
          obtain ⟨g0, g1, g2, g3, g4, g5⟩ := hat
          simp only at g0 g1 g2 g3 g4 g5 hcw
          have hfr := hown.frozenAt
          have HOW := hide hown
          have HB := hide hbw
          obtain ⟨hc0, hc1⟩ := hcw
          obtain ⟨⟨d3, os3⟩, rfl⟩ := gw_of_below hbw
          haveI : InW g (gw _ d3 os3) := ⟨hg⟩
          have HP := hide hp
          have i0 : (0 : Int) ≤ (k : Int) := by omega
          have i1 : (k : Int) < (m.length : Int) := by omega
          clear hown hp hbw
          cases xg
          · have hc2 : xc < 18446744073709551615 := by
              simp [raiB] at hnr; omega
            have HU := hide (show upC ⟨xn, xi, xc, xr, xh, false⟩ = ⟨xn, xi, xc + 1, xr, xh, false⟩ by simp [upC])
            clear hnr
            go_wp2
            go_region
            go_wp2
            go_roundw
            case rel =>
              obtain ⟨r1, r2⟩ := own_setC (own_swap (d' := d3 + 1) HOW.out rfl (by simp)) (i := k) 2 (y := ⟨xn, xi, xc + 1, xr, xh, false⟩) (v := .int .u64 (xc + 1)) (upR_get HP.out) (by omega) rfl
              refine ⟨k + 1, by omega, by go_num, ?_, (below_gw _ (d3 + 1) os3).grown r2 (size_gw _ _ _) (fun q hq => by injection hq with hq; subst hq; simp; omega)⟩
              rw [OwnC, upR_len, upR_step HP.out, HU.out]
              exact r1
            case measure => simp [intOf]; omega
          · have HU := hide (show upC ⟨xn, xi, xc, xr, xh, true⟩ = ⟨xn, xi, xc, xr, xh, true⟩ by simp [upC])
            go_wp2
            go_roundw
            case rel =>
              refine ⟨k + 1, by omega, by go_num, ?_, HB.out⟩
              rw [OwnC, upR_len, upR_step HP.out, HU.out, set_self (upR_get HP.out)]
              exact HOW.out
            case measure => simp [intOf]; omega
        · have H := hide (show upR m k = m.map upC by rw [upR, List.take_of_length_le (by omega), List.drop_eq_nil_of_le (by omega), List.append_nil])
          rw [H.out] at hown
          obtain ⟨⟨d3, os3⟩, rfl⟩ := gw_of_below hbw
          have HOW := hide hown
          clear hown hbw
          go_wp2
          rw [HR.out]
          refine bodyPost_ret (v := .tuple #[.agg #[.slice RA m.length RC], .bool true]) (by simp [results, Try.results20, go_sem]) rfl ?_
          refine ⟨_, rfl, ?_, (by repeat (first | exact Below.refl _ _ | assumption | refine bel_al ?_ _ | refine bel_gw ?_ _ _ | refine bel_drew ?_ | refine bel_drewN ?_ _))⟩
          rw [OwnC, List.length_map]
          exact own_base (own_swap HOW.out (by simp) (by simp)) (by omega)
end Go.Proofs.Ytoajcdcdbkjefaa
