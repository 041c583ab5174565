/-
  Bytes that are turned into strings, found by instances.
-/
import Derived.Test.YtmleeohaaipdcaaTc
import Derived.Test.YtmleeohaaipdcaaAwake4
namespace Go.Proofs.Ytmleeohaaipdcaa
set_option linter.unusedSimpArgs false
set_option linter.unusedVariables false
set_option linter.unusedSectionVars false
open Go.RowKit

/-- the slice (A, n) reads as these bytes -/
class RdY (W : World) (A : Option Addr) (n : Nat) (bs : outParam (List Int)) : Prop where
  h : Reads W W.heap.size 1 A n (bcs bs)
instance RdY.stp (X W : World) (A : Option Addr) (n : Nat) (bs : List Int) [s : Stp X W] [k : RdY X A n bs] : RdY W A n bs := ⟨(k.h.below s.h).more s.h.size⟩
@[go_sem] theorem conv_tc (W : World) (A : Option Addr) (n c : Nat) (bs : List Int) [k : RdY W A n bs] : (convert 28 9 (.slice A n c)).run Try.prog W = .ok (.string (strOfNums bs)) W := by
  have e : n = bs.length := by have := k.h.1; rw [bcs_len] at this; omega
  subst e
  exact conv_reads k.h
end Go.Proofs.Ytmleeohaaipdcaa
