/-
  Agreements and turns are read and stored whole: one step each; what that leaves is found by instances.
-/
import Derived.Test.YtniogmefbjfoaaaTc
import Derived.Deep.MidRow
namespace Go.Proofs.Ytniogmefbjfoaaa
set_option linter.unusedSimpArgs false
set_option linter.unusedVariables false
set_option linter.unusedSectionVars false
open Go.RowKit

theorem below_setRow {B : Nat} {a w : World} (h : Below B a w) {m : Nat} (hm : B ≤ m) (cs : Array Value) : Below B a (w.setRow m cs) :=
  ⟨h.os, h.tape, h.output, by rw [setRow_size]; exact h.size, fun i hi => (setRow_other _ _ _ _ (by omega)).trans (h.block i hi)⟩
instance (priority := high) BoxAt.rowAt (W : World) (m : Nat) (new : Array Value) (cs : Array Value) (t : TypeId) [k : BoxAt W m cs t] : BoxAt (W.setRow m new) m new t := ⟨setRow_heap _ _ _ _ _ _ k.eq⟩
instance (priority := low) BoxAt.rowNe (W : World) (n m : Nat) (new : Array Value) (cs : Array Value) (t : TypeId) [k : BoxAt W n cs t] [e : NeN n m] : BoxAt (W.setRow m new) n cs t := ⟨by rw [setRow_other _ _ _ _ e.h]; exact k.eq⟩
instance Blw.row (a W : World) (m : Nat) (cs : Array Value) [k : Blw a W] [l : LeN a.heap.size m] : Blw a (W.setRow m cs) := ⟨below_setRow k.h l.h cs⟩
@[go_sem] theorem size_setRow' (w : World) (m : Nat) (cs : Array Value) : (w.setRow m cs).heap.size = w.heap.size := setRow_size _ _ _
end Go.Proofs.Ytniogmefbjfoaaa
