/-
  Contracts: layer 3's heavy; slices.Grow of nil, slices.Concat at lives; proc.Union.
-/
import Derived.Test.YtgbappmidllnmaaSet
import Derived.Lib.AppendZeros
namespace Go.Proofs.Ytgbappmidllnmaa
set_option linter.unusedSimpArgs false
set_option linter.unusedVariables false
set_option linter.unusedSectionVars false
open Go.RowKit Go.Sort Go.Lib

/-- a list of lives where it lies: its address, its capacity, its lives -/
structure Sv where
  A : Option Addr
  c : Nat
  l : List (Int × Int)
  deriving Inhabited
def Sv.v (x : Sv) : Value := .slice x.A x.l.length x.c
def svs (xs : List Sv) : List Value := xs.map Sv.v
def Sv.ok (w : World) (B : Nat) (x : Sv) : Prop := Reads w B 2 x.A x.l.length (pcs x.l)
theorem Sv.ok_below {w w' : World} {B : Nat} {x : Sv} (h : x.ok w B) (hb : Below B w w') : x.ok w' B := Reads.below h hb
theorem svs_len (xs : List Sv) : (svs xs).length = xs.length * 1 := by simp [svs]
theorem Reads.atS {w : World} {B : Nat} {A : Option Addr} {n k : Nat} {xs : List Sv} (h : Reads w B 1 A n (svs xs)) (hk : k < n) :
    ∃ b off x, A = some ⟨b, off, none⟩ ∧ b < B ∧ xs[k]? = some x ∧ w.cell? ⟨b, off + k, none⟩ = some (.slice x.A x.l.length x.c) := by
  obtain ⟨b, off, rfl, hb, hc⟩ := h.2 (by omega)
  have hl : k < xs.length := by have := h.1; rw [svs_len] at this; omega
  exact ⟨b, off, xs[k], rfl, hb, List.getElem?_eq_getElem hl, hc k _ (by simp [svs, hl, Sv.v])⟩

def hvB (xs : List Sv) : Bool := xs.any (fun x => decide (300 < x.l.length)) || decide (20 < xs.length)

set_option maxHeartbeats 400000 in
theorem heavy_any (A : Option Addr) (c : Nat) (xs : List Sv) (w : World) (hR : Reads w w.heap.size 1 A xs.length (svs xs)) (hn : xs.length ≤ 9223372036854775807) :
    Calls Try.prog 29 #[.slice A xs.length c] w fun e w' => e = .returned (.bool (hvB xs)) ∧ w = w' := by
  go_enter Try.func29, Try.ntmps29
  go_wp2
  go_loop [3] (fun i => ∃ k : Nat, k ≤ xs.length ∧ i = .int .i64 k ∧ (xs.take k).any (fun x => decide (300 < x.l.length)) = false) (fun i => xs.length - (intOf i).toNat)
  case atStart => exact ⟨0, Nat.zero_le _, rfl, by simp⟩
  case round =>
    obtain ⟨k, hk, rfl, hno⟩ := hrel
    have HN := hide hno
    clear hno
    by_cases hlt : k < xs.length
    · obtain ⟨b, off, x, rfl, hb, hx, g1⟩ := hR.atS hlt
      have HX := hide hx
      clear hx hR
      by_cases hlong : 300 < x.l.length
      · have H := hide (show hvB xs = true by
          unfold hvB; rw [List.any_eq_true.2 ⟨x, List.mem_of_getElem? HX.out, by simpa using hlong⟩]; rfl)
        go_wp2
        go_ret
        exact ⟨ret_b H.out.symm, rfl⟩
      · have H := hide (show (xs.take (k + 1)).any (fun x => decide (300 < x.l.length)) = false by
          rw [take_succ_of HX.out, List.any_append, HN.out]; simp; omega)
        go_wp2
        go_round
        case rel => exact ⟨k + 1, by omega, by go_num, H.out⟩
        case measure => simp [intOf]; omega
    · have H := hide (show hvB xs = decide (20 < (xs.length : Int)) by
        unfold hvB
        have := HN.out
        rw [List.take_of_length_le (by omega)] at this
        rw [this, Bool.false_or, decide_eq_decide]; omega)
      go_wp2
      go_ret
      exact ⟨ret_b (by rw [H.out]), rfl⟩


def flatS (xs : List Sv) : List (Int × Int) := xs.flatMap Sv.l
theorem flatS_take {xs : List Sv} {k : Nat} {x : Sv} (h : xs[k]? = some x) : flatS (xs.take (k + 1)) = flatS (xs.take k) ++ x.l := by
  rw [take_succ_of h]; simp [flatS]
theorem flatS_le (xs : List Sv) (k : Nat) : (flatS (xs.take k)).length ≤ (flatS xs).length := by
  have : flatS xs = flatS (xs.take k) ++ flatS (xs.drop k) := by
    unfold flatS; rw [← List.flatMap_append, List.take_append_drop]
  rw [this, List.length_append]; omega

/-- the lives of all lists -/
def unionL (xs : List Sv) : List (Int × Int) := sortedL (flatS xs)
end Go.Proofs.Ytgbappmidllnmaa
