/-
  Layer 6: packets in memory; contracts: count, life, server, sent.
-/
import Derived.Test.YthkkadbgggaenaaTc
import Derived.Test.YthkkadbgggaenaaLives
import Derived.Test.YthkkadbgggaenaaInts
namespace Go.Proofs.Ythkkadbgggaenaa
set_option linter.unusedSimpArgs false
set_option linter.unusedVariables false
set_option linter.unusedSectionVars false
open Go.RowKit

theorem Sl.tc {a W : World} {A : Option Addr} {l : List Pr} (h : Sl a A l) [b : Blw a W] : Sl W A l := h.step b.h
/-- a head -/
structure Hd where
  d : Int
  c : Int
  s : Int
  i : Int
  deriving Inhabited, DecidableEq
def hc (h : Hd) : List Value := [.int .i64 h.d, .int .u64 h.c, .int .u64 h.s, .int .u64 h.i]
def hcs (l : List Hd) : List Value := l.flatMap hc
theorem hc_len (h : Hd) : (hc h).length = 4 := rfl
theorem hc_one (l : List Hd) : ∀ u ∈ hcs l, u.oneCell' = true := by
  intro u hu
  obtain ⟨p, _, hp⟩ := List.mem_flatMap.1 hu
  simp [hc] at hp
  rcases hp with rfl | rfl | rfl | rfl <;> rfl
theorem hcs_app (l m : List Hd) : hcs (l ++ m) = hcs l ++ hcs m := List.flatMap_append
theorem hcs_len (l : List Hd) : (hcs l).length = l.length * 4 := flat_length hc_len l
theorem Reads.at4 {w : World} {B : Nat} {A : Option Addr} {n k : Nat} {l : List Hd} (h : Reads w B 4 A n (hcs l)) (hk : k < n) :
    ∃ b off p, A = some ⟨b, off, none⟩ ∧ b < B ∧ l[k]? = some p ∧ w.cell? ⟨b, off + k * 4, none⟩ = some (.int .i64 p.d) ∧ w.cell? ⟨b, off + k * 4 + 1, none⟩ = some (.int .u64 p.c) ∧ w.cell? ⟨b, off + k * 4 + 2, none⟩ = some (.int .u64 p.s) ∧ w.cell? ⟨b, off + k * 4 + 3, none⟩ = some (.int .u64 p.i) := by
  obtain ⟨b, off, rfl, hb, hcl⟩ := h.2 (by omega)
  have hl : k < l.length := by have := h.1; rw [hcs_len] at this; omega
  have hp : l[k]? = some l[k] := List.getElem?_eq_getElem hl
  refine ⟨b, off, l[k], rfl, hb, hp, ?_, ?_, ?_, ?_⟩
  · exact hcl (k * 4 + 0) _ (by rw [hcs, flat_get hc_len l k 0 _ hp (by omega)]; rfl)
  · rw [Nat.add_assoc]; exact hcl (k * 4 + 1) _ (by rw [hcs, flat_get hc_len l k 1 _ hp (by omega)]; rfl)
  · rw [Nat.add_assoc]; exact hcl (k * 4 + 2) _ (by rw [hcs, flat_get hc_len l k 2 _ hp (by omega)]; rfl)
  · rw [Nat.add_assoc]; exact hcl (k * 4 + 3) _ (by rw [hcs, flat_get hc_len l k 3 _ hp (by omega)]; rfl)

/-! ### numbers, lives -/
def countB (x m : Int) : Bool := decide (m ≤ x) && decide (x ≤ 34359738367)
def lifeB (n i : Int) : Bool := mayB n i && countB i 1
def servB (n i : Int) : Bool := lifeB n i && decide (n ≤ 4)
theorem count_s (x m : Int) (w : World) : Calls Try.prog 149 #[.int .u64 x, .int .u64 m] w fun e w' => e = .returned (.bool (countB x m)) ∧ w = w' := by
  by_cases h1 : m ≤ x
  · by_cases h2 : x ≤ 34359738367
    · have H := hide (show countB x m = true by simp [countB, h1, h2])
      go_enter Try.func149, Try.ntmps149
      go_wp2
      go_ret
      exact ⟨ret_b H.out.symm, rfl⟩
    · have H := hide (show countB x m = false by simp [countB, h2])
      go_enter Try.func149, Try.ntmps149
      go_wp2
      go_ret
      exact ⟨ret_b H.out.symm, rfl⟩
  · have H := hide (show countB x m = false by simp [countB, h1])
    go_enter Try.func149, Try.ntmps149
    go_wp2
    go_ret
    exact ⟨ret_b H.out.symm, rfl⟩
set_option maxHeartbeats 400000 in
theorem life_s (n i : Int) (w : World) : Calls Try.prog 175 #[.agg #[.int .i64 n, .int .u64 i]] w (RetB w (lifeB n i)) := by
  have TM := hide (fun W => may_b n i W)
  have TC := hide (fun W => count_s i 1 W)
  unfold lifeB
  cases hm : mayB n i with
  | false =>
    rw [hm] at TM
    clear hm
    go_enter Try.func175, Try.ntmps175
    go_wp2_with (go_at_call 92; (with_reducible refine (TM.out _).mono ?_); rintro e w1 ⟨rfl, hb⟩; haveI : Stp _ w1 := ⟨hb⟩; clear hb)
    go_ret
    exact ⟨rfl, blw⟩
  | true =>
    rw [hm] at TM
    clear hm
    cases hc : countB i 1 with
    | _ =>
      rw [hc] at TC
      clear hc
      go_enter Try.func175, Try.ntmps175
      go_wp2_with (first
        | (go_at_call 92; (with_reducible refine (TM.out _).mono ?_); rintro e w1 ⟨rfl, hb⟩; haveI : Stp _ w1 := ⟨hb⟩; clear hb)
        | (go_at_call 149; (with_reducible refine (TC.out _).mono ?_); rintro e w2 ⟨rfl, rfl⟩))
      go_ret
      exact ⟨rfl, blw⟩
set_option maxHeartbeats 400000 in
theorem serv_s (n i : Int) (w : World) : Calls Try.prog 148 #[.agg #[.int .i64 n, .int .u64 i]] w (RetB w (servB n i)) := by
  have TM := hide (fun W => life_s n i W)
  unfold servB
  cases hm : lifeB n i with
  | false =>
    rw [hm] at TM
    clear hm
    go_enter Try.func148, Try.ntmps148
    go_wp2_with (go_at_call 175; (with_reducible refine (TM.out _).mono ?_); rintro e w1 ⟨rfl, hb⟩; haveI : Stp _ w1 := ⟨hb⟩; clear hb)
    go_ret
    exact ⟨rfl, blw⟩
  | true =>
    rw [hm] at TM
    clear hm
    go_enter Try.func148, Try.ntmps148
    go_wp2_with (go_at_call 175; (with_reducible refine (TM.out _).mono ?_); rintro e w1 ⟨rfl, hb⟩; haveI : Stp _ w1 := ⟨hb⟩; clear hb)
    go_ret
    exact ⟨ret_b (by simp), blw⟩
end Go.Proofs.Ythkkadbgggaenaa
