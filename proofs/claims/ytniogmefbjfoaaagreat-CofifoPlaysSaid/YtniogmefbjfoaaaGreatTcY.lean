/-
  Layer 2: contract: (*code.Reader).Text.
-/
import Derived.Test.YtniogmefbjfoaaaGreatTcG
import Derived.Test.YtniogmefbjfoaaaGreatTcL
import Derived.Test.YtniogmefbjfoaaaGreatRdr
import Derived.Lib.ConvBytes
namespace Go.Proofs.YtniogmefbjfoaaaGreat
set_option linter.unusedSimpArgs false
set_option linter.unusedVariables false
set_option linter.unusedSectionVars false
open Go.RowKit

theorem numGo_nn : ∀ (bs : List Int) (i : Nat) (X : Int), 0 ≤ X → 0 ≤ (numGo i X bs).1 := by
  intro bs
  induction bs with
  | nil => intro i X _; simp [numGo]
  | cons c cs ih =>
    intro i X hX
    have hp : (0 : Int) ≤ 128 ^ i := Int.pow_nonneg (by omega)
    have hn : 0 ≤ c % 128 * 128 ^ i := Int.mul_nonneg (by omega) hp
    rw [numGo]
    split
    · simp
    · split
      · split
        · simp
        · simp only; omega
      · exact ih _ _ (by omega)
theorem numV_nonneg (bs : List Int) (bad : Bool) : 0 ≤ (numV bs bad).1 := by
  unfold numV
  split
  · simp
  · exact numGo_nn bs 0 0 (Int.le_refl _)
/-- a text is read -/
def rText (most : Nat) (s : RS) : List Int × RS :=
  if (numV s.1 s.2).2 = 0 ∨ (most : Int) < (numV s.1 s.2).1 ∨ ((s.1.length : Int) - ((numV s.1 s.2).2 : Int)) < (numV s.1 s.2).1 then ([], (s.1, true))
  else ((s.1.drop (numV s.1 s.2).2).take (numV s.1 s.2).1.toNat, ((s.1.drop (numV s.1 s.2).2).drop (numV s.1 s.2).1.toNat, false))
end Go.Proofs.YtniogmefbjfoaaaGreat

namespace Go.Proofs.YtniogmefbjfoaaaGreat
set_option linter.unusedSimpArgs false
set_option linter.unusedVariables false
set_option linter.unusedSectionVars false
open Go.RowKit

/-- block n of W, whole -/
class BlkAt (W : World) (n : Nat) (o : outParam Obj) : Prop where
  h : W.heap[n]? = some o
theorem BlkAt.lt {W : World} {n : Nat} {o : Obj} (h : BlkAt W n o) : n < W.heap.size := (Array.getElem?_eq_some_iff.1 h.h).1
instance BlkAt.stp (X W : World) (n : Nat) (o : Obj) [s : Stp X W] [k : BlkAt X n o] : BlkAt W n o := ⟨(s.h.block n k.lt).trans k.h⟩
instance (priority := low) BlkAt.set (W : World) (n m i : Nat) (v : Value) (o : Obj) [k : BlkAt W n o] [e : NeN n m] : BlkAt (W.setCell ⟨m, i, none⟩ v) n o := ⟨by rw [Below.heap_setCell _ _ _ _ e.h]; exact k.h⟩
instance (priority := low) BlkAt.stpG (X W : World) (g n : Nat) (o : Obj) [s : StpG g X W] [k : BlkAt X n o] [e : NeN n g] : BlkAt W n o := ⟨(s.blk k.lt e.h).trans k.h⟩
/-- the world behind the making of bytes -/
def bytesW (w : World) (t : List Int) : World := Lib.bytesWorld w 5 (strOfNums t)
def capB (w : World) (t : List Int) : Nat := grownCap w (strOfNums t).size 0 5
theorem strOf_size' (bs : List Int) : (strOfNums bs).size = bs.length := by simp [strOfNums, ByteArray.size]
@[go_sem] theorem conv_sb (w : World) (t : List Int) : (convert 9 37 (.string (strOfNums t))).run Tryz.prog w = .ok (.slice (some ⟨w.heap.size, 0, none⟩) t.length (capB w t)) (bytesW w t) := by
  have := Lib.run_convert_string_bytes (P := Tryz.prog) w 9 37 5 (strOfNums t) Tryz.underlying9 Tryz.underlying37 Tryz.underlying5
  rw [strOf_size'] at this
  rw [capB, strOf_size']; exact this
theorem bytesW_size (w : World) (t : List Int) : (bytesW w t).heap.size = w.heap.size + 1 := by
  simp [bytesW, Lib.bytesWorld, World.freeze, World.alloc, World.drew, -World.alloc_eq, -World.drew_eq]
instance Stp.bytesW (w : World) (t : List Int) : Stp w (bytesW w t) := ⟨⟨rfl, rfl, rfl, by rw [bytesW_size]; omega, fun k hk => Lib.bytesWorld_at_old w _ _ k hk⟩⟩
instance Sz.bytesW (w : World) (t : List Int) (n : Nat) [z : Sz w n] : Sz (bytesW w t) (n + 1) := ⟨by rw [bytesW_size, z.eq]⟩
theorem bytesW_blk (w : World) (t : List Int) : BlkAt (bytesW w t) w.heap.size (.cells (Lib.bytesCells w 5 (strOfNums t)) 5 ((Lib.bytesCells w 5 (strOfNums t)).size, (Lib.bytesCells w 5 (strOfNums t)).size + 1)) := ⟨Lib.bytesWorld_at_new w _ _⟩
theorem bytes_read {W w : World} {n : Nat} {t : List Int} {fz : Nat × Nat} (h : BlkAt W n (.cells (Lib.bytesCells w 5 (strOfNums t)) 5 fz)) (hok : bOK t) : Reads W W.heap.size 1 (some ⟨n, 0, none⟩) t.length (bcs t) := by
  refine ⟨by rw [bcs_len], fun _ => ⟨_, _, rfl, h.lt, fun j u hu => ?_⟩⟩
  have hj : j < t.length := by have := (List.getElem?_eq_some_iff.1 hu).1; rw [bcs_len] at this; omega
  rw [Nat.zero_add]
  unfold World.cell?
  simp only [h.h]
  have e : (Lib.bytesCells w 5 (strOfNums t))[j]? = some u := by
    rw [← hu]
    unfold Lib.bytesCells strOfNums bcs
    have hb := (hok (t[j]) (List.getElem_mem hj))
    rw [Array.getElem?_append_left (by simpa using hj)]
    simp [hj]
    omega
  simp [e]
end Go.Proofs.YtniogmefbjfoaaaGreat
