/-
  Layer 6: packets are written: contracts: advert, data, ack, Encode.
-/
import Derived.Test.YtniogmefbjfoaaaGreatPkE
import Derived.Test.YtniogmefbjfoaaaGreatTxt
import Derived.Test.YtniogmefbjfoaaaGreatTcL
namespace Go.Proofs.YtniogmefbjfoaaaGreat
set_option linter.unusedSimpArgs false
set_option linter.unusedVariables false
set_option linter.unusedSectionVars false
open Go.RowKit

def lsB {α : Type} (f : α → List Int) (l : List α) : List Int := (l.length : Int) :: l.flatMap f
def topB (n i hp : Int) : List Int := procB (n, i) ++ [hp]
def advE (an ai sq : Int) (ps : List Pr) : List Int := procB (an, ai) ++ (uintB sq ++ lsB procB ps)
def datE (n i hp : Int) (hs : List Hd) (bs0 : List Int) : List Int := topB n i hp ++ (lsB hdB hs ++ txtB bs0)
def ackE (n i hp : Int) (hs : List Hd) : List Int := topB n i hp ++ lsB haB hs
theorem topB_len (n i hp : Int) : (topB n i hp).length ≤ 12 := by
  have := procB1_len (n, i); simp only [topB, List.length_append, List.length_singleton]; omega
theorem lsB_len {α : Type} {f : α → List Int} {B : Nat} (hB : ∀ x, (f x).length ≤ B) (l : List α) (hl : l.length ≤ 255) : (lsB f l).length ≤ 255 * B + 1 := by
  have h1 := flat_len hB l
  have h2 := Nat.mul_le_mul_right B hl
  simp only [lsB, List.length_cons]; omega
section
variable (g : Nat) (v : Value) (bs : List Int) (k n i hp : Int) (HA : Option Addr) (hcp : Nat) (hs : List Hd) (BA : Option Addr) (bcp : Nat) (bs0 : List Int) (an ai sq : Int) (PA : Option Addr) (pcp : Nat) (ps : List Pr)
end
def RetKE (w : World) (bs : List Int) (e : Ending) (w' : World) : Prop := ∃ v, e = .returned (.tuple #[v, .int .i64 0]) ∧ OwnB w' w.heap.size v bs ∧ Below w.heap.size w w'
end Go.Proofs.YtniogmefbjfoaaaGreat
