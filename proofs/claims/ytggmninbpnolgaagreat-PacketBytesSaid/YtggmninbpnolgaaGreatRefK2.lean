/-
  Layer 6: contracts of the reference: servers, Advert.
-/
import Derived.Test.YtggmninbpnolgaaGreatRefK
namespace Go.Proofs.YtggmninbpnolgaaGreat
set_option linter.unusedSimpArgs false
set_option linter.unusedVariables false
set_option linter.unusedSectionVars false
open Go.RowKit

set_option maxHeartbeats 1000000 in
theorem rservers_s (A : Option Addr) (c : Nat) (l : List Pr) (w : World) (h : Sl w A l) (hn : l.length ≤ 1000000) (h0 : ∀ p ∈ l, 0 ≤ p.2) : Calls Tryz.prog 51 #[.slice A l.length c] w (RetB w (l.all fun p => servB p.1 p.2)) := by
  have H0 := hide h0
  haveI : Src w A l.length 2 (pcs l) := ⟨h⟩
  clear h h0
  go_enter Tryz.func51, Tryz.ntmps51
  go_wp2
  go_loopw [3] (fun j wr => ∃ m : Nat, m ≤ l.length ∧ j = .int .i64 m ∧ Below w.heap.size w wr ∧ (l.take m).all (fun p => servB p.1 p.2) = true) (fun j _ => l.length - (intOf j).toNat)
  case atStart => exact ⟨0, Nat.zero_le _, rfl, blw, rfl⟩
  case round =>
    obtain ⟨m, hm, rfl, hB, htk⟩ := hrel
    haveI : Blw w wr := ⟨hB⟩
    have HN := hide htk
    clear htk hB
    by_cases hlt : m < l.length
    · obtain ⟨b, off, ⟨pn, pi⟩, rfl, hb, hp, g1, g2⟩ := (show Sl wr A l from src).at2 hlt
      have HP := hide hp
      have T := hide (fun W => rserv_s pn pi W (H0.out (pn, pi) (List.mem_of_getElem? hp)))
      haveI : InW b wr := ⟨hb⟩
      have i1 : (m : Int) < (l.length : Int) := by omega
      simp only at g1 g2
      clear hp
      cases hs : servB pn pi with
      | false =>
        rw [hs] at T
        have H := hide (show (l.all fun p => servB p.1 p.2) = false by
          rw [List.all_eq_false]
          exact ⟨(pn, pi), List.mem_of_getElem? HP.out, by simp [hs]⟩)
        clear hs
        go_wp2_with fail
        (with_reducible refine (T.out _).mono ?_)
        rintro e w1 ⟨rfl, hb1⟩
        haveI : Stp _ w1 := ⟨hb1⟩
        clear hb1
        go_wp2
        go_ret
        exact ⟨ret_b H.out.symm, blw⟩
      | true =>
        rw [hs] at T
        have H := hide (show (l.take (m + 1)).all (fun p => servB p.1 p.2) = true by
          rw [take_succ_of HP.out, List.all_append, HN.out]
          simp [hs])
        clear hs
        go_wp2_with fail
        (with_reducible refine (T.out _).mono ?_)
        rintro e w1 ⟨rfl, hb1⟩
        haveI : Stp _ w1 := ⟨hb1⟩
        clear hb1
        go_wp2
        go_roundw
        case rel => exact ⟨m + 1, by omega, by go_num, blw, H.out⟩
        case measure => simp [intOf]; omega
    · have H := hide (show (l.all fun p => servB p.1 p.2) = true by
        have := HN.out
        rwa [List.take_of_length_le (by omega)] at this)
      obtain rfl : m = l.length := by omega
      go_wp2
      go_ret
      exact ⟨ret_b H.out.symm, blw⟩
end Go.Proofs.YtggmninbpnolgaaGreat
