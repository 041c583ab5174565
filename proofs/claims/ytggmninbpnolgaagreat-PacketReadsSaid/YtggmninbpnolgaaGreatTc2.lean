/-
  Bytes that are written behind a box of the frame's own: what is known between two steps, found by instances.
-/
import Derived.Test.YtggmninbpnolgaaGreatTc
import Derived.Test.YtggmninbpnolgaaGreatRb
namespace Go.Proofs.YtggmninbpnolgaaGreat
set_option linter.unusedSimpArgs false
set_option linter.unusedVariables false
set_option linter.unusedSectionVars false
open Go.RowKit
theorem sl_tc {w W : World} {A : Option Addr} {l : List Pr} [s : Src w A l.length 2 (pcs l)] [b : Blw w W] : Sl W A l := src
theorem sl_p1x (W : World) (m : Nat) (n i : Int) [h : BoxAt W m #[.int .i64 n, .int .u64 i] 24] : Sl W (some ⟨m, 0, none⟩) [(n, i)] := reads_p1x W m n i
/-- while bytes are written: a box of the frame's own, the bytes so far -/
structure PB (w : World) (cs : Array Value) (t : TypeId) (v : Value) (bs : List Int) (W : World) : Prop where
  k : BoxAt W w.heap.size cs t
  oa : OwnB W (w.heap.size + 1) v bs
  hB : Below w.heap.size w W
section
variable {w W W' : World} {cs : Array Value} {t : TypeId} {v v' : Value} {bs bs' : List Int}
theorem PB.tc (h : PB w cs t v bs W) [b : Blw W W'] : PB w cs t v bs W' := ⟨⟨by rw [b.h.block _ h.k.lt]; exact h.k.eq⟩, own_below h.oa b.h (Nat.le_refl _), below_step h.hB b.h⟩
theorem PB.app (h : PB w cs t v bs W) (ho : W'.ownsRow (w.heap.size + 1) 5 1 v' (bs.length + bs'.length) (bcs bs ++ bcs bs')) (hg : W.grownBy W' v.ownBlock) : PB w cs t v' (bs ++ bs') W' := by
  have hlo : ∀ k, v.ownBlock = some k → w.heap.size + 1 ≤ k := fun k hk => (h.oa.lt k hk).1
  refine ⟨⟨by rw [hg.block _ h.k.lt (fun e => by have := hlo _ e.symm; omega)]; exact h.k.eq⟩, ?_, h.hB.grown hg h.hB.size (fun k hk => by have := hlo k hk; omega)⟩
  rw [OwnB, List.length_append, bcs_app]; exact ho
theorem PB.sz (h : PB w cs t v bs W) : w.heap.size + 1 ≤ W.heap.size := h.k.lt
theorem PB.blw (h : PB w cs t v bs W) : Blw w W := ⟨h.hB⟩
theorem PB.ret (h : PB w cs t v bs W) : OwnB W w.heap.size v bs := own_base h.oa (by omega)
/-- the first bytes: a literal of one -/
theorem PB.one (w : World) (cs : Array Value) (t : TypeId) (x : Int) : PB w cs t (.slice (some ⟨w.heap.size + 1, 0, none⟩) 1 1) [x] ((w.alloc (.cells cs t)).alloc (.cells #[.int .u8 x] 5)) := by
  refine ⟨inferInstance, ?_, Blw.h (a := w)⟩
  have := World.ownsRow_lit (base := w.heap.size + 1) (e := 5) (size := 1) (w.alloc (.cells cs t)) #[.int .u8 x] 1 (by simp) (by unfold maxLen; omega) rfl
  rw [World.size_alloc] at this; exact this
end
end Go.Proofs.YtggmninbpnolgaaGreat
