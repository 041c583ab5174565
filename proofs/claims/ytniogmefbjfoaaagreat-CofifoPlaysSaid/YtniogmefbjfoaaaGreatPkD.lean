/-
  Layer 6: packets are read: contracts: lives, heads.
-/
import Derived.Test.YtniogmefbjfoaaaGreatPk3
import Derived.Test.YtniogmefbjfoaaaGreatTcG
import Derived.Test.YtniogmefbjfoaaaGreatRdr
namespace Go.Proofs.YtniogmefbjfoaaaGreat
set_option linter.unusedSimpArgs false
set_option linter.unusedVariables false
set_option linter.unusedSectionVars false
open Go.RowKit

theorem Tryz.okHd : ElemOk Tryz.prog 38 93 4 32 := elemOk_of (.agg #[.int .i64 0, .int .u64 0, .int .u64 0, .int .u64 0]) Tryz.underlying38 (by kernel_rfl) rfl (by omega)
def OwnH (w : World) (base : Nat) (v : Value) (l : List Hd) : Prop := w.ownsRow base 93 4 v l.length (hcs l)
/-- lives are read, whatever becomes of the reader -/
def rLvs : Nat → RS → List Pr → List Pr × RS
  | 0, s, acc => (acc, s)
  | k + 1, s, acc => rLvs k (rGet s).2 (acc ++ [(rGet s).1])
def rLives (s : RS) : List Pr × RS := rLvs (rU8 s).1.toNat (rU8 s).2 []
/-- a head is read, heads are -/
def rHd (ack : Bool) (s : RS) : Hd × RS :=
  let a := rU8 s
  let b := rUint a.2
  let c := rUint b.2
  let d := if ack then rUint c.2 else (0, c.2)
  (⟨a.1, b.1, c.1, d.1⟩, d.2)
def rHds (ack : Bool) : Nat → RS → List Hd → List Hd × RS
  | 0, s, acc => (acc, s)
  | k + 1, s, acc => rHds ack k (rHd ack s).2 (acc ++ [(rHd ack s).1])
def rHeads (ack : Bool) (s : RS) : List Hd × RS := rHds ack (rU8 s).1.toNat (rU8 s).2 []
theorem reads_h1x (W : World) (m : Nat) (h : Hd) [k : BoxAt W m #[.int .i64 h.d, .int .u64 h.c, .int .u64 h.s, .int .u64 h.i] 93] : Reads W W.heap.size 4 (some ⟨m, 0, none⟩) 1 (hcs [h]) :=
  ⟨rfl, fun _ => ⟨_, _, rfl, k.lt, fun j u hu => by
    rw [Nat.zero_add, cell?_box]
    simpa [hcs, hc] using hu⟩⟩
end Go.Proofs.YtniogmefbjfoaaaGreat
