/-
  Worlds that have grown, read by the walk itself: cells, marks and stores pass what lies behind; which block lies in which world is found by instances.
-/
import Derived.Test.YtgpmcpinnaggmaaBase
namespace Go.Proofs.Ytgpmcpinnaggmaa
set_option linter.unusedSimpArgs false
set_option linter.unusedVariables false
set_option linter.unusedSectionVars false
open Go.RowKit

/-- the number of blocks of a world, in the walk's own spelling -/
class Sz (w : World) (n : outParam Nat) : Prop where
  eq : w.heap.size = n
/-- block n is there -/
class InW (n : Nat) (w : World) : Prop where
  lt : n < w.heap.size
instance (priority := low) Sz.base (w : World) : Sz w w.heap.size := ⟨rfl⟩
instance Sz.alloc (w : World) (n : Nat) (o : Obj) [h : Sz w n] : Sz (w.alloc o) (n + 1) := ⟨by rw [World.size_alloc, h.eq]⟩
instance Sz.setCell (w : World) (n : Nat) (a : Addr) (v : Value) [h : Sz w n] : Sz (w.setCell a v) n := ⟨by rw [← h.eq]; simp⟩
instance Sz.drew (w : World) (n : Nat) [h : Sz w n] : Sz w.drew n := ⟨h.eq⟩
instance Sz.drewN (w : World) (n q : Nat) [h : Sz w n] : Sz (w.drewN q) n := ⟨h.eq⟩
instance InW.top (w : World) (n : Nat) (o : Obj) [h : Sz w n] : InW n (w.alloc o) := ⟨by rw [World.size_alloc, h.eq]; omega⟩
instance InW.alloc (w : World) (n : Nat) (o : Obj) [h : InW n w] : InW n (w.alloc o) := ⟨by rw [World.size_alloc]; have := h.lt; omega⟩
instance InW.gw (w : World) (n d : Nat) (os : Array Obj) [h : InW n w] : InW n (gw w d os) := ⟨lt_gw h.lt⟩
instance InW.setCell (w : World) (n : Nat) (a : Addr) (v : Value) [h : InW n w] : InW n (w.setCell a v) := ⟨by have := h.lt; simpa using this⟩
instance InW.drew (w : World) (n : Nat) [h : InW n w] : InW n w.drew := ⟨h.lt⟩
instance InW.drewN (w : World) (n q : Nat) [h : InW n w] : InW n (w.drewN q) := ⟨h.lt⟩

@[go_sem] theorem inW_lt (n : Nat) (w : World) [h : InW n w] : (n < w.heap.size) = True := eq_true h.lt
@[go_sem] theorem cell?_gw (w : World) (d : Nat) (os : Array Obj) (n i : Nat) [hn : InW n w] : (gw w d os).cell? ⟨n, i, none⟩ = w.cell? ⟨n, i, none⟩ := (below_gw w d os).cell (p := ⟨n, i, none⟩) hn.lt
@[go_sem] theorem frozen?_gw (w : World) (d : Nat) (os : Array Obj) (n i : Nat) [hn : InW n w] : (gw w d os).frozen? ⟨n, i, none⟩ = w.frozen? ⟨n, i, none⟩ := (below_gw w d os).frozen (p := ⟨n, i, none⟩) hn.lt
@[go_sem] theorem setCell_gw (w : World) (d : Nat) (os : Array Obj) (n i : Nat) (v : Value) [hn : InW n w] : (gw w d os).setCell ⟨n, i, none⟩ v = gw (w.setCell ⟨n, i, none⟩ v) d os := by
  have hn := hn.lt
  unfold World.setCell gw
  congr 1
  apply Array.ext_getElem?
  intro k
  simp only [Array.getElem?_modify, Array.getElem?_append, Array.size_modify]
  by_cases hk : k < w.heap.size
  · simp [hk]
  · simp [hk]; omega
@[go_sem] theorem cell?_al (w : World) (o : Obj) (n i : Nat) [hn : InW n w] : (w.alloc o).cell? ⟨n, i, none⟩ = w.cell? ⟨n, i, none⟩ := World.cell?_alloc_past o n i hn.lt
@[go_sem] theorem frozen?_al (w : World) (o : Obj) (n i : Nat) [hn : InW n w] : (w.alloc o).frozen? ⟨n, i, none⟩ = w.frozen? ⟨n, i, none⟩ := World.frozen?_alloc_past o n i hn.lt
@[go_sem] theorem setCell_al (w : World) (o : Obj) (n i : Nat) (v : Value) [hn : InW n w] : (w.alloc o).setCell ⟨n, i, none⟩ v = (w.setCell ⟨n, i, none⟩ v).alloc o := World.setCell_alloc_past o n i v hn.lt
@[go_sem] theorem cell?_at (w : World) (c : Array Value) (t : TypeId) (n i : Nat) [hn : Sz w n] : (w.alloc (.cells c t)).cell? ⟨n, i, none⟩ = c[i]? := World.cell?_alloc_at c t n i hn.eq.symm
@[go_sem] theorem frozen?_at (w : World) (c : Array Value) (t : TypeId) (n i : Nat) [hn : Sz w n] : (w.alloc (.cells c t)).frozen? ⟨n, i, none⟩ = false := World.frozen?_alloc_at c t n i hn.eq.symm
@[go_sem] theorem setCell_at (w : World) (c : Array Value) (t : TypeId) (n i : Nat) (v : Value) [hn : Sz w n] : (w.alloc (.cells c t)).setCell ⟨n, i, none⟩ v = w.alloc (.cells (c.setIfInBounds i v) t) := World.setCell_alloc_at c t n i v hn.eq.symm
@[go_sem] theorem gw_drew (w : World) (d : Nat) (os : Array Obj) : (gw w d os).drew = gw w (d + 1) os := rfl

theorem bel_al {a w : World} (h : Below a.heap.size a w) (o : Obj) : Below a.heap.size a (w.alloc o) := h.alloc h.size o
theorem bel_gw {a w : World} (h : Below a.heap.size a w) (d : Nat) (os : Array Obj) : Below a.heap.size a (gw w d os) := below_step h (below_gw w d os)
theorem bel_drew {a w : World} (h : Below a.heap.size a w) : Below a.heap.size a w.drew := h.drew
theorem bel_drewN {a w : World} (h : Below a.heap.size a w) (n : Nat) : Below a.heap.size a (w.drewN n) := below_drewN h n
/-- a row that lies behind, while blocks ahead of it are written -/
theorem own_swap {W W' : World} {d d' : Nat} {os : Array Obj} {base : Nat} {e : TypeId} {k n : Nat} {v : Value} {xs : List Value} (h : (gw W d os).ownsRow base e k v n xs) (hs : W'.heap.size = W.heap.size) (hb : W.heap.size ≤ base) : (gw W' d' os).ownsRow base e k v n xs := by
  refine ⟨h.1, h.2.imp id ?_⟩
  rintro ⟨g, cap, cur, rfl, hbase, hg, h1⟩
  refine ⟨g, cap, cur, rfl, hbase, ?_, h1⟩
  rw [← hg]
  simp only [gw, Array.getElem?_append, hs]
  rw [if_neg (by omega), if_neg (by omega)]
theorem gw_more {W w' : World} {d : Nat} {os : Array Obj} (h : Below (gw W d os).heap.size (gw W d os) w') : ∃ p : GW, w' = gw W p.d p.os := by
  obtain ⟨⟨d', os'⟩, rfl⟩ := gw_of_below h
  exact ⟨⟨d', os ++ os'⟩, gw_gw _ _ _ _ _⟩
theorem gw_more1 {W w' : World} {d : Nat} {os : Array Obj} {o : Obj} (h : Below ((gw W d os).alloc o).heap.size ((gw W d os).alloc o) w') : ∃ p : GW, w' = gw W p.d p.os := gw_of_below (below_step (bel_al (below_gw W d os) o) h)
end Go.Proofs.Ytgpmcpinnaggmaa
