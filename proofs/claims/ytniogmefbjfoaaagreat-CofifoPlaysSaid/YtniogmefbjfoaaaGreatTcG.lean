/-
  Worlds of which all but one block is kept; rows of the frame's own between other ones: found by instances.
-/
import Derived.Test.YtniogmefbjfoaaaGreatTc
import Derived.Test.YtniogmefbjfoaaaGreatRdr
namespace Go.Proofs.YtniogmefbjfoaaaGreat
set_option linter.unusedSimpArgs false
set_option linter.unusedVariables false
set_option linter.unusedSectionVars false
open Go.RowKit

/-- all but block g is kept -/
class StpG (g : outParam Nat) (X : outParam World) (W : World) : Prop where
  h : X.grownBy W (some g)
theorem StpG.blk {g : Nat} {X W : World} (s : StpG g X W) {n : Nat} (h : n < X.heap.size) (e : n ≠ g) : W.heap[n]? = X.heap[n]? := s.h.block n h (fun e' => e (by injection e'))
theorem StpG.bel {g B : Nat} {X W : World} (s : StpG g X W) (h : B ≤ g) (hB : B ≤ X.heap.size) : Below B X W := (Below.refl _ _).grown s.h hB (fun k hk => by injection hk with hk; omega)
instance (priority := low) BoxAt.stpG (X W : World) (g n : Nat) (cs : Array Value) (t : TypeId) [s : StpG g X W] [k : BoxAt X n cs t] [e : NeN n g] : BoxAt W n cs t := ⟨by rw [s.blk k.lt e.h]; exact k.eq⟩
instance (priority := low) Blw.stpG (a X W : World) (g : Nat) [s : StpG g X W] [k : Blw a X] [l : LeN a.heap.size g] : Blw a W := ⟨k.h.trans (s.bel l.h k.size)⟩
instance (priority := low) Kpf.stpG (B : Nat) (a X W : World) (g : Nat) [s : StpG g X W] [k : Kpf B a X] [l : LtN g B] : Kpf B a W := ⟨Nat.le_trans k.s s.h.size, fun i h1 h2 => (s.blk (Nat.lt_of_lt_of_le h2 k.s) (by have := l.h; omega)).trans (k.h i h1 h2)⟩
/-- a row of blocks from lo on, below hi -/
structure Own2 (W : World) (lo hi : Nat) (e : TypeId) (k : Nat) (v : Value) (n : Nat) (xs : List Value) : Prop where
  h : W.ownsRow lo e k v n xs
  b : ∀ r, v.ownBlock = some r → r < hi
class Kp2 (lo hi : Nat) (a W : World) : Prop where
  s : hi ≤ W.heap.size
  h : ∀ k, lo ≤ k → k < hi → W.heap[k]? = a.heap[k]?
instance Kp2.stp (lo hi : Nat) (a X W : World) [s : Stp X W] [k : Kp2 lo hi a X] : Kp2 lo hi a W := ⟨Nat.le_trans k.s s.h.size, fun i h1 h2 => (s.h.block i (Nat.lt_of_lt_of_le h2 k.s)).trans (k.h i h1 h2)⟩
instance Kp2.set (lo hi : Nat) (a W : World) (m i : Nat) (v : Value) [k : Kp2 lo hi a W] [l : LtN m lo] : Kp2 lo hi a (W.setCell ⟨m, i, none⟩ v) := ⟨by simpa [World.setCell] using k.s, fun j h1 h2 => by
  rw [Below.heap_setCell _ _ _ _ (by have := l.h; show j ≠ m; omega)]; exact k.h j h1 h2⟩
instance (priority := low) Kp2.stpG (lo hi : Nat) (a X W : World) (g : Nat) [s : StpG g X W] [k : Kp2 lo hi a X] [l : LtN g lo] : Kp2 lo hi a W := ⟨Nat.le_trans k.s s.h.size, fun i h1 h2 => (s.blk (Nat.lt_of_lt_of_le h2 k.s) (by have := l.h; omega)).trans (k.h i h1 h2)⟩
instance (priority := low) Kp2.stpB (lo hi : Nat) (a X W : World) (N : Nat) [s : StpB N X W] [k : Kp2 lo hi a X] [l : LeN hi N] : Kp2 lo hi a W := ⟨Nat.le_trans k.s s.h.size, fun i h1 h2 => (s.h.block i (Nat.lt_of_lt_of_le h2 l.h)).trans (k.h i h1 h2)⟩
theorem Own2.tc {a W : World} {lo hi : Nat} {e : TypeId} {k n : Nat} {v : Value} {xs : List Value} (h : Own2 a lo hi e k v n xs) [b : Kp2 lo hi a W] : Own2 W lo hi e k v n xs := by
  refine ⟨⟨h.h.1, h.h.2.imp id ?_⟩, h.b⟩
  rintro ⟨g, cap, cur, rfl, hbase, hg, h1⟩
  refine ⟨g, cap, cur, rfl, hbase, ?_, h1⟩
  rw [b.h g hbase (h.b g rfl)]; exact hg
theorem Own2.of {W : World} {lo hi : Nat} {e : TypeId} {k n : Nat} {v : Value} {xs : List Value} (h : W.ownsRow lo e k v n xs) (hh : W.heap.size ≤ hi) : Own2 W lo hi e k v n xs := ⟨h, fun r hr => Nat.lt_of_lt_of_le (h.lt r hr).2 hh⟩
theorem Kp2.rf {lo hi : Nat} {a : World} (h : hi ≤ a.heap.size) : Kp2 lo hi a a := ⟨h, fun _ _ _ => rfl⟩
theorem reads_u1x (W : World) (m : Nat) (x : Int) [h : BoxAt W m #[.int .u64 x] 22] : Reads W W.heap.size 1 (some ⟨m, 0, none⟩) 1 (ucs [x]) :=
  ⟨rfl, fun _ => ⟨_, _, rfl, h.lt, fun j u hu => by
    cases j with
    | zero => simp [ucs] at hu; subst hu; rw [cell?_box]; rfl
    | succ j => simp [ucs] at hu⟩⟩
theorem grown_belowT {B : Nat} {w w' : World} {row : Option Nat} (h : w.grownBy w' row) (hB : B ≤ w.heap.size) (hr : ∀ k, row = some k → B ≤ k) : Below B w w' := (Below.refl _ _).grown h hB hr
/-- all of a but block g is kept in W -/
class Gby (g : Nat) (a W : World) : Prop where
  h : a.grownBy W (some g)
instance (priority := high) Gby.rf (g : Nat) (a : World) : Gby g a a := ⟨World.grownBy.refl a _⟩
instance Gby.stp (g : Nat) (a X W : World) [s : Stp X W] [k : Gby g a X] : Gby g a W := ⟨⟨s.h.os.trans k.h.os, s.h.tape.trans k.h.tape, s.h.output.trans k.h.output, Nat.le_trans k.h.size s.h.size, fun i hi hr => (s.h.block i (Nat.lt_of_lt_of_le hi k.h.size)).trans (k.h.block i hi hr)⟩⟩
instance (priority := low) Gby.stpG (g : Nat) (a X W : World) [s : StpG g X W] [k : Gby g a X] : Gby g a W := ⟨⟨s.h.os.trans k.h.os, s.h.tape.trans k.h.tape, s.h.output.trans k.h.output, Nat.le_trans k.h.size s.h.size, fun i hi hr => (s.h.block i (Nat.lt_of_lt_of_le hi k.h.size) hr).trans (k.h.block i hi hr)⟩⟩
instance (priority := low) Gby.stpB (g : Nat) (a X W : World) (N : Nat) [s : StpB N X W] [k : Gby g a X] [l : LeN a.heap.size N] : Gby g a W := ⟨⟨s.h.os.trans k.h.os, s.h.tape.trans k.h.tape, s.h.output.trans k.h.output, Nat.le_trans k.h.size s.h.size, fun i hi hr => (s.h.block i (Nat.lt_of_lt_of_le hi l.h)).trans (k.h.block i hi hr)⟩⟩
instance Gby.set (g : Nat) (a W : World) (m i : Nat) (v : Value) [k : Gby g a W] [l : LeN a.heap.size m] : Gby g a (W.setCell ⟨m, i, none⟩ v) := ⟨⟨k.h.os, k.h.tape, k.h.output, by simpa [World.setCell] using k.h.size, fun j hj hr => by rw [Below.heap_setCell _ _ _ _ (by have := l.h; show j ≠ m; omega)]; exact k.h.block j hj hr⟩⟩
end Go.Proofs.YtniogmefbjfoaaaGreat
