/-
  Layer 14: the law FanNone: true for every input.
-/
import Derived.Test.YthkkadbgggaenaaFan26
import Derived.Test.YthkkadbgggaenaaOpenF
namespace Go.Proofs.Ythkkadbgggaenaa
set_option linter.unusedSimpArgs false
set_option linter.unusedVariables false
set_option linter.unusedSectionVars false
open Go.RowKit

set_option maxRecDepth 100000 in
theorem fanNone_true (A : Option Addr) (c : Nat) (hs : List Hd) (YA : Option Addr) (yc : Nat) (ws : List Wy) (w : World) (h : Reads w w.heap.size 4 A hs.length (hcs hs)) (h' : Reads w w.heap.size 3 YA ws.length (wcs ws)) (hwf : ∀ y ∈ ws, (-9223372036854775808 ≤ y.h ∧ y.h ≤ 9223372036854775807)) :
    Calls Try.prog 5 #[.slice A hs.length c, .slice YA ws.length yc] w (RetB w true) := by
  by_cases h1 : hs.length ≤ 300
  · by_cases h2 : ws.length ≤ 300
    · exact fanNoneY A c hs YA yc ws w h h' h1 h2 hwf
    · have TA := hide (fun W => awake14_t W)
      have l1 : decide ((300 : Int) < (hs.length : Int)) = false := decide_eq_false (by omega)
      have l2 : decide ((300 : Int) < (ws.length : Int)) = true := decide_eq_true (by omega)
      have l3 : decide (300 < hs.length) = false := decide_eq_false (by omega)
      have l4 : decide (300 < ws.length) = true := decide_eq_true (by omega)
      clear h h' hwf h1 h2
      go_enter Try.func5, Try.ntmps5
      go_wp2_with fail
      (with_reducible refine (TA.out _).mono ?_)
      rintro e w3 ⟨rfl, hb⟩
      haveI : Stp _ w3 := ⟨hb⟩
      clear hb
      go_wp2
      go_ret
      exact ⟨rfl, blw⟩
  · have TA := hide (fun W => awake14_t W)
    have l1 : decide ((300 : Int) < (hs.length : Int)) = true := decide_eq_true (by omega)
    have l3 : decide (300 < hs.length) = true := decide_eq_true (by omega)
    clear h h' hwf h1
    go_enter Try.func5, Try.ntmps5
    go_wp2_with fail
    (with_reducible refine (TA.out _).mono ?_)
    rintro e w3 ⟨rfl, hb⟩
    haveI : Stp _ w3 := ⟨hb⟩
    clear hb
    go_wp2
    go_ret
    exact ⟨rfl, blw⟩
end Go.Proofs.Ythkkadbgggaenaa
