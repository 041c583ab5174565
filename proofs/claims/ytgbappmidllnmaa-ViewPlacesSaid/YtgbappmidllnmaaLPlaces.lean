/-
  Layer 4: the reference's Place, Start; the law ViewPlaces: true for every input.
-/
import Derived.Test.YtgbappmidllnmaaLView2
namespace Go.Proofs.Ytgbappmidllnmaa
set_option linter.unusedSimpArgs false
set_option linter.unusedVariables false
set_option linter.unusedSectionVars false
open Go.RowKit

set_option maxHeartbeats 1000000 in
theorem refPlace_s (x : Vw) (a b : Int) (w : World) (h : x.Ok w) :
    Calls Try.prog 25 #[x.v, .agg #[.int .i64 a, .int .u64 b]] w fun e w' => e = .returned (placeV x.ms (a, b)) ∧ Below w.heap.size w w' := by
  obtain ⟨r, n, i, MA, mc, ms, UA, uc, us⟩ := x
  obtain ⟨h1, h2, h3, h4⟩ := h
  simp only at h1 h2 h3 h4
  unfold Vw.v
  simp only
  have HM := hide h1
  clear h1 h2
  go_enter Try.func25, Try.ntmps25
  go_wp2
  go_loopw [6] (fun i' wr => ∃ k q : Nat, k ≤ ms.length ∧ i' = .int .i64 k ∧ wr = ((w.alloc (bxV r n i MA ms.length mc UA us.length uc)).alloc (bx a b)).drewN q ∧ (a, b) ∉ ms.take k) (fun i _ => ms.length - (intOf i).toNat)
  case atStart => exact ⟨0, 0, Nat.zero_le _, rfl, rfl, by simp⟩
  case round =>
    obtain ⟨k, q, hk, rfl, rfl, hnot⟩ := hrel
    have HN := hide hnot
    clear hnot
    by_cases hlt : k < ms.length
    · obtain ⟨bb, off, ⟨pn, pi⟩, rfl, hb, hp, g1, g2⟩ := HM.out.at2 hlt
      have HP := hide hp
      clear hp
      haveI : InW bb w := ⟨hb⟩
      simp only at g1 g2
      have i0 : (0 : Int) ≤ (k : Int) := by omega
      have i1 : (k : Int) < (ms.length : Int) := by omega
      cases he : eqP pn pi a b
      · have H := hide (show (a, b) ∉ ms.take (k + 1) by
          rw [take_succ_of HP.out, List.mem_append, List.mem_singleton]
          rintro (h | h)
          · exact HN.out h
          · rw [Prod.mk.injEq] at h; simp [eqP, h.1, h.2] at he)
        go_wp2
        go_quiet (fail)
        go_wp2
        go_roundw
        case rel => exact ⟨k + 1, _, by omega, by go_num, rfl, H.out⟩
        case measure => simp [intOf]; omega
      · have hp2 : ms[k]? = some (a, b) := by
          rw [eqP_iff] at he; rw [← he]; exact HP.out
        have H := hide (show placeV ms (a, b) = .tuple #[.int .i64 (k : Int), .bool true] by
          unfold placeV; rw [if_pos (List.mem_of_getElem? hp2), idxOf_take HN.out hp2])
        clear hp2
        go_wp2
        go_quiet (fail)
        go_wp2
        rw [H.out]
        refine bodyPost_ret (v := .tuple #[.int .i64 (k : Int), .bool true]) (by simp [results, Try.results25, go_sem]) rfl ⟨rfl, (by repeat (first | exact Below.refl _ _ | assumption | refine bel_al ?_ _ | refine bel_gw ?_ _ _ | refine bel_drew ?_ | refine bel_drewN ?_ _))⟩
    · have H := hide (show placeV ms (a, b) = .tuple #[.int .i64 0, .bool false] by
        have := HN.out; rw [List.take_of_length_le (by omega)] at this; unfold placeV; rw [if_neg this])
      go_wp2
      rw [H.out]
      refine bodyPost_ret (v := .tuple #[.int .i64 0, .bool false]) (by simp [results, Try.results25, go_sem]) rfl ⟨rfl, (by repeat (first | exact Below.refl _ _ | assumption | refine bel_al ?_ _ | refine bel_gw ?_ _ _ | refine bel_drew ?_ | refine bel_drewN ?_ _))⟩
set_option maxHeartbeats 400000 in
theorem refStart_s (x : Vw) (a b : Int) (w : World) (h : x.Ok w) :
    Calls Try.prog 27 #[x.v, .agg #[.int .i64 a, .int .u64 b]] w fun e w' => e = .returned (startV x.ms x.us (a, b)) ∧ Below w.heap.size w w' := by
  have T := hide (fun W (hW : x.Ok W) => refPlace_s x a b W hW)
  obtain ⟨r, n, i, MA, mc, ms, UA, uc, us⟩ := x
  have HOK := hide h
  obtain ⟨h1, h2, h3, h4⟩ := h
  unfold Vw.v placeV at T
  simp only at h1 h2 h3 h4 T
  unfold Vw.v startV
  simp only
  by_cases hin : (a, b) ∈ ms
  · rw [if_pos hin] at T
    have hix : ms.idxOf (a, b) < ms.length := List.idxOf_lt_length_iff.2 hin
    obtain ⟨k, hk⟩ : ∃ k, k = ms.idxOf (a, b) := ⟨_, rfl⟩
    rw [← hk] at T hix ⊢
    by_cases hu : k < us.length
    · rw [if_pos ⟨hin, hu⟩]
      obtain ⟨bu, off, y, rfl, hbu, hy, g1⟩ := h2.atU hu
      have e : us.getD k 0 = y := by simp [List.getD, hy]
      rw [e]
      haveI : InW bu w := ⟨hbu⟩
      have hge : ¬ ((us.length : Int) ≤ (k : Int)) := by omega
      have hd : (decide ((us.length : Int) ≤ (k : Int))) = false := by simp; omega
      clear e hy hin hk
      go_enter Try.func27, Try.ntmps27
      go_wp2_with fail
      with_reducible refine (T.out _ (HOK.out.step (by repeat (first | exact Below.refl _ _ | assumption | refine bel_al ?_ _ | refine bel_gw ?_ _ _ | refine bel_drew ?_ | refine bel_drewN ?_ _)))).mono ?_
      rintro e w1 ⟨rfl, hb⟩
      obtain ⟨⟨d, os⟩, rfl⟩ := gw_of_below hb
      clear hb
      go_wp2
      refine bodyPost_ret (v := .tuple #[.int .u64 y, .bool true]) (by simp [results, Try.results27, go_sem]) rfl ⟨rfl, (by repeat (first | exact Below.refl _ _ | assumption | refine bel_al ?_ _ | refine bel_gw ?_ _ _ | refine bel_drew ?_ | refine bel_drewN ?_ _))⟩
    · rw [if_neg (by omega)]
      have hd : (decide ((us.length : Int) ≤ (k : Int))) = true := by simp; omega
      clear hin hk
      go_enter Try.func27, Try.ntmps27
      go_wp2_with fail
      with_reducible refine (T.out _ (HOK.out.step (by repeat (first | exact Below.refl _ _ | assumption | refine bel_al ?_ _ | refine bel_gw ?_ _ _ | refine bel_drew ?_ | refine bel_drewN ?_ _)))).mono ?_
      rintro e w1 ⟨rfl, hb⟩
      obtain ⟨⟨d, os⟩, rfl⟩ := gw_of_below hb
      clear hb
      go_wp2
      refine bodyPost_ret (v := .tuple #[.int .u64 0, .bool false]) (by simp [results, Try.results27, go_sem]) rfl ⟨rfl, (by repeat (first | exact Below.refl _ _ | assumption | refine bel_al ?_ _ | refine bel_gw ?_ _ _ | refine bel_drew ?_ | refine bel_drewN ?_ _))⟩
  · rw [if_neg hin] at T
    rw [if_neg (fun h => hin h.1)]
    clear hin
    go_enter Try.func27, Try.ntmps27
    go_wp2_with fail
    with_reducible refine (T.out _ (HOK.out.step (by repeat (first | exact Below.refl _ _ | assumption | refine bel_al ?_ _ | refine bel_gw ?_ _ _ | refine bel_drew ?_ | refine bel_drewN ?_ _)))).mono ?_
    rintro e w1 ⟨rfl, hb⟩
    obtain ⟨⟨d, os⟩, rfl⟩ := gw_of_below hb
    clear hb
    go_wp2
    refine bodyPost_ret (v := .tuple #[.int .u64 0, .bool false]) (by simp [results, Try.results27, go_sem]) rfl ⟨rfl, (by repeat (first | exact Below.refl _ _ | assumption | refine bel_al ?_ _ | refine bel_gw ?_ _ _ | refine bel_drew ?_ | refine bel_drewN ?_ _))⟩
theorem placeV_two (l : List Pr) (p : Pr) : ∃ (a : Int) (b : Bool), placeV l p = .tuple #[.int .i64 a, .bool b] := by unfold placeV; split <;> exact ⟨_, _, rfl⟩
theorem startV_two (l : List Pr) (u : List Int) (p : Pr) : ∃ (a : Int) (b : Bool), startV l u p = .tuple #[.int .u64 a, .bool b] := by unfold startV; split <;> exact ⟨_, _, rfl⟩
set_option maxRecDepth 100000 in
set_option maxHeartbeats 2000000 in
theorem viewPlaces_true (x : Vw) (n i : Int) (w : World) (hm : Sl w x.MA x.ms) (hu : Ul w x.UA x.us) (_ : x.Wf) :
    Calls Try.prog 4 #[x.v, .agg #[.int .i64 n, .int .u64 i]] w (RetB w true) := by
  have TA := hide (fun W => awake4_t W)
  have TH := hide (fun W => heavy4_s x W)
  have T1 := hide (fun W (hW : x.Ok W) => place_s x n i W hW)
  have T2 := hide (fun W (hW : x.Ok W) => refPlace_s x n i W hW)
  have T3 := hide (fun W (hW : x.Ok W) => start_s x n i W hW)
  have T4 := hide (fun W (hW : x.Ok W) => refStart_s x n i W hW)
  obtain ⟨pa, pb, hpv⟩ := placeV_two x.ms (n, i)
  obtain ⟨sa, sb, hsv⟩ := startV_two x.ms x.us (n, i)
  rw [hpv] at T1 T2
  rw [hsv] at T3 T4
  clear hpv hsv
  have e1 : (pa == pa) = true := by simp
  have e2 : (pb == pb) = true := by simp
  have e3 : (sa == sa) = true := by simp
  have e4 : (sb == sb) = true := by simp
  cases hh : hvV x
  · have HOK := hide (Vw.ok_of hm hu hh)
    rw [hh] at TH
    obtain ⟨r, a, b, MA, mc, ms, UA, uc, us⟩ := x
    clear hm hu hh
    unfold Vw.v at TH T1 T2 T3 T4 ⊢
    simp only at TH T1 T2 T3 T4 ⊢
    go_enter Try.func4, Try.ntmps4
    go_wp2_with fail
    (with_reducible refine (TH.out _).mono ?_)
    rintro e w3 ⟨rfl, hb⟩
    obtain ⟨⟨d1, os1⟩, rfl⟩ := gw_of_below hb
    clear hb
    go_wp2_with fail
    (with_reducible refine (T1.out _ (HOK.out.step (by repeat (first | exact Below.refl _ _ | assumption | refine bel_al ?_ _ | refine bel_gw ?_ _ _ | refine bel_drew ?_ | refine bel_drewN ?_ _)))).mono ?_)
    rintro e w3 ⟨rfl, hb⟩
    obtain ⟨⟨d2, os2⟩, rfl⟩ := gw_of_below hb
    clear hb
    go_wp2_with fail
    (with_reducible refine (T2.out _ (HOK.out.step (by repeat (first | exact Below.refl _ _ | assumption | refine bel_al ?_ _ | refine bel_gw ?_ _ _ | refine bel_drew ?_ | refine bel_drewN ?_ _)))).mono ?_)
    rintro e w3 ⟨rfl, hb⟩
    obtain ⟨⟨d3, os3⟩, rfl⟩ := gw_of_below hb
    clear hb
    go_wp2_with fail
    (with_reducible refine (T3.out _ (HOK.out.step (by repeat (first | exact Below.refl _ _ | assumption | refine bel_al ?_ _ | refine bel_gw ?_ _ _ | refine bel_drew ?_ | refine bel_drewN ?_ _)))).mono ?_)
    rintro e w3 ⟨rfl, hb⟩
    obtain ⟨⟨d4, os4⟩, rfl⟩ := gw_of_below hb
    clear hb
    go_wp2_with fail
    (with_reducible refine (T4.out _ (HOK.out.step (by repeat (first | exact Below.refl _ _ | assumption | refine bel_al ?_ _ | refine bel_gw ?_ _ _ | refine bel_drew ?_ | refine bel_drewN ?_ _)))).mono ?_)
    rintro e w3 ⟨rfl, hb⟩
    obtain ⟨⟨d5, os5⟩, rfl⟩ := gw_of_below hb
    clear hb
    go_wp2_with fail
    (with_reducible refine (TA.out _).mono ?_)
    rintro e w3 ⟨rfl, hb⟩
    obtain ⟨⟨d6, os6⟩, rfl⟩ := gw_of_below hb
    clear hb
    go_wp2
    go_ret
    exact ⟨rfl, (by repeat (first | exact Below.refl _ _ | assumption | refine bel_al ?_ _ | refine bel_gw ?_ _ _ | refine bel_drew ?_ | refine bel_drewN ?_ _))⟩
  · rw [hh] at TH
    obtain ⟨r, a, b, MA, mc, ms, UA, uc, us⟩ := x
    clear hm hu hh
    unfold Vw.v at TH ⊢
    simp only at TH ⊢
    go_enter Try.func4, Try.ntmps4
    go_wp2_with fail
    (with_reducible refine (TH.out _).mono ?_)
    rintro e w3 ⟨rfl, hb⟩
    obtain ⟨⟨d1, os1⟩, rfl⟩ := gw_of_below hb
    clear hb
    go_wp2_with fail
    (with_reducible refine (TA.out _).mono ?_)
    rintro e w3 ⟨rfl, hb⟩
    obtain ⟨⟨d6, os6⟩, rfl⟩ := gw_of_below hb
    clear hb
    go_wp2
    go_ret
    exact ⟨rfl, (by repeat (first | exact Below.refl _ _ | assumption | refine bel_al ?_ _ | refine bel_gw ?_ _ _ | refine bel_drew ?_ | refine bel_drewN ?_ _))⟩
end Go.Proofs.Ytgbappmidllnmaa
