/-
  Contracts: layer 3's heavy; slices.Grow of nil, slices.Concat at lives; proc.Union.
-/
import Derived.Test.YtgpmcpinnaggmaaSet
import Derived.Lib.AppendZeros
namespace Go.Proofs.Ytgpmcpinnaggmaa
set_option linter.unusedSimpArgs false
set_option linter.unusedVariables false
set_option linter.unusedSectionVars false
open Go.RowKit Go.Sort Go.Lib

/-- a list of lives where it lies: its address, its capacity, its lives -/
structure Sv where
  A : Option Addr
  c : Nat
  l : List (Int × Int)
  deriving Inhabited
def Sv.v (x : Sv) : Value := .slice x.A x.l.length x.c
def svs (xs : List Sv) : List Value := xs.map Sv.v
def Sv.ok (w : World) (B : Nat) (x : Sv) : Prop := Reads w B 2 x.A x.l.length (pcs x.l)
theorem Sv.ok_below {w w' : World} {B : Nat} {x : Sv} (h : x.ok w B) (hb : Below B w w') : x.ok w' B := Reads.below h hb
theorem svs_len (xs : List Sv) : (svs xs).length = xs.length * 1 := by simp [svs]
theorem Reads.atS {w : World} {B : Nat} {A : Option Addr} {n k : Nat} {xs : List Sv} (h : Reads w B 1 A n (svs xs)) (hk : k < n) :
    ∃ b off x, A = some ⟨b, off, none⟩ ∧ b < B ∧ xs[k]? = some x ∧ w.cell? ⟨b, off + k, none⟩ = some (.slice x.A x.l.length x.c) := by
  obtain ⟨b, off, rfl, hb, hc⟩ := h.2 (by omega)
  have hl : k < xs.length := by have := h.1; rw [svs_len] at this; omega
  exact ⟨b, off, xs[k], rfl, hb, List.getElem?_eq_getElem hl, hc k _ (by simp [svs, hl, Sv.v])⟩

def hvB (xs : List Sv) : Bool := xs.any (fun x => decide (300 < x.l.length)) || decide (20 < xs.length)

def flatS (xs : List Sv) : List (Int × Int) := xs.flatMap Sv.l
theorem flatS_take {xs : List Sv} {k : Nat} {x : Sv} (h : xs[k]? = some x) : flatS (xs.take (k + 1)) = flatS (xs.take k) ++ x.l := by
  rw [take_succ_of h]; simp [flatS]
theorem flatS_le (xs : List Sv) (k : Nat) : (flatS (xs.take k)).length ≤ (flatS xs).length := by
  have : flatS xs = flatS (xs.take k) ++ flatS (xs.drop k) := by
    unfold flatS; rw [← List.flatMap_append, List.take_append_drop]
  rw [this, List.length_append]; omega

/-- the lives of all lists -/
def unionL (xs : List Sv) : List (Int × Int) := sortedL (flatS xs)
end Go.Proofs.Ytgpmcpinnaggmaa
