/-
  What worlds keep of one another, found by instances: the world right ahead of a world, boxes, rows that came in.
-/
import Derived.Test.YtkglclekieckoaaGreatWt
namespace Go.Proofs.YtkglclekieckoaaGreat
set_option linter.unusedSimpArgs false
set_option linter.unusedVariables false
set_option linter.unusedSectionVars false
open Go.RowKit

/-- the world right ahead of W: all that was there is as it was -/
class Stp (X : outParam World) (W : World) : Prop where
  h : Below X.heap.size X W
instance Stp.al (w : World) (o : Obj) : Stp w (w.alloc o) := ⟨below_alloc w o⟩
instance Stp.dr (w : World) : Stp w w.drew := ⟨(Below.refl _ _).drew⟩
instance Stp.drN (w : World) (n : Nat) : Stp w (w.drewN n) := ⟨below_drewN (Below.refl _ _) n⟩
instance Stp.gw (w : World) (d : Nat) (os : Array Obj) : Stp w (gw w d os) := ⟨below_gw w d os⟩
/-- all of a is as it was in W -/
class Blw (a W : World) : Prop where
  h : Below a.heap.size a W
instance (priority := high) Blw.rf (a : World) : Blw a a := ⟨Below.refl _ _⟩
instance Blw.stp (a X W : World) [s : Stp X W] [k : Blw a X] : Blw a W := ⟨below_step k.h s.h⟩
theorem blw {a W : World} [k : Blw a W] : Below a.heap.size a W := k.h
theorem Blw.size {a W : World} (k : Blw a W) : a.heap.size ≤ W.heap.size := k.h.size

instance BoxAt.stp (X W : World) (n : Nat) (cs : Array Value) (t : TypeId) [s : Stp X W] [k : BoxAt X n cs t] : BoxAt W n cs t := ⟨by rw [s.h.block n k.lt]; exact k.eq⟩
instance (priority := high) BoxAt.top (w : World) (n : Nat) (cs : Array Value) (t : TypeId) [h : Sz w n] : BoxAt (w.alloc (.cells cs t)) n cs t := ⟨by have := boxTop w cs t; rw [h.eq] at this; exact this.eq⟩

/-- a slice that came in, at the world w -/
class Src (w : outParam World) (A : Option Addr) (n : Nat) (k : outParam Nat) (xs : outParam (List Value)) : Prop where
  h : Reads w w.heap.size k A n xs
theorem src {w W : World} {A : Option Addr} {n k : Nat} {xs : List Value} [s : Src w A n k xs] [b : Blw w W] : Reads W W.heap.size k A n xs := (s.h.below b.h).more b.h.size
theorem srcB {w W : World} {A : Option Addr} {n k : Nat} {xs : List Value} [s : Src w A n k xs] [b : Blw w W] : Reads W w.heap.size k A n xs := s.h.below b.h

theorem own_tc {a W : World} {base : Nat} {e : TypeId} {k n : Nat} {v : Value} {xs : List Value} (h : a.ownsRow base e k v n xs) [b : Blw a W] : W.ownsRow base e k v n xs := own_below h b.h (Nat.le_refl _)
theorem reads_b1x (W : World) (m : Nat) (x : Int) [h : BoxAt W m #[.int .u8 x] 5] : Reads W W.heap.size 1 (some ⟨m, 0, none⟩) 1 (bcs [x]) :=
  ⟨rfl, fun _ => ⟨_, _, rfl, h.lt, fun j u hu => by
    cases j with
    | zero => simp [bcs] at hu; subst hu; rw [cell?_box]; rfl
    | succ j => simp [bcs] at hu⟩⟩
theorem reads_b1e (W : World) (m : Nat) (x y : Int) (e : x = y) [h : BoxAt W m #[.int .u8 x] 5] : Reads W W.heap.size 1 (some ⟨m, 0, none⟩) 1 (bcs [y]) := by subst e; exact reads_b1x W m x
theorem reads_p1x (W : World) (m : Nat) (n i : Int) [h : BoxAt W m #[.int .i64 n, .int .u64 i] 25] : Reads W W.heap.size 2 (some ⟨m, 0, none⟩) 1 (pcs [(n, i)]) :=
  ⟨rfl, fun _ => ⟨_, _, rfl, h.lt, fun j u hu => by
    match j, hu with
    | 0, hu => simp [pcs, pc] at hu; subst hu; rw [cell?_box]; rfl
    | 1, hu => simp [pcs, pc] at hu; subst hu; rw [cell?_box]; rfl
    | j + 2, hu => simp [pcs, pc] at hu⟩⟩
/-! single cells -/
class CellAt (W : World) (b i : Nat) (v : outParam Value) : Prop where
  lt : b < W.heap.size
  h : W.cell? ⟨b, i, none⟩ = some v
instance CellAt.stp (X W : World) (b i : Nat) (v : Value) [s : Stp X W] [k : CellAt X b i v] : CellAt W b i v := ⟨Nat.lt_of_lt_of_le k.lt s.h.size, (s.h.cell (p := ⟨b, i, none⟩) k.lt).trans k.h⟩
@[go_sem] theorem cell?_ca (W : World) (b i : Nat) (v : Value) [k : CellAt W b i v] : W.cell? ⟨b, i, none⟩ = some v := k.h
/-! block numbers -/
class LeN (a b : Nat) : Prop where
  h : a ≤ b
instance (priority := high) LeN.rf (a : Nat) : LeN a a := ⟨Nat.le_refl _⟩
instance LeN.s (a b : Nat) [h : LeN a b] : LeN a (b + 1) := ⟨Nat.le_succ_of_le h.h⟩
class LtN (a b : Nat) : Prop where
  h : a < b
instance (priority := high) LtN.rf (a : Nat) : LtN a (a + 1) := ⟨Nat.lt_succ_self _⟩
instance LtN.s (a b : Nat) [h : LtN a b] : LtN a (b + 1) := ⟨Nat.lt_succ_of_lt h.h⟩
class NeN (a b : Nat) : Prop where
  h : a ≠ b
instance NeN.l (a b : Nat) [h : LtN a b] : NeN a b := ⟨Nat.ne_of_lt h.h⟩
instance NeN.g (a b : Nat) [h : LtN b a] : NeN a b := ⟨(Nat.ne_of_lt h.h).symm⟩

/-! stores into boxes -/
instance BoxAt.setAt (W : World) (m i : Nat) (v : Value) (cs : Array Value) (t : TypeId) [k : BoxAt W m cs t] : BoxAt (W.setCell ⟨m, i, none⟩ v) m (cs.setIfInBounds i v) t := ⟨by
  have h := k.eq
  simp [World.setCell, Array.getElem?_modify, h]⟩
instance (priority := low) BoxAt.setNe (W : World) (n m i : Nat) (v : Value) (cs : Array Value) (t : TypeId) [k : BoxAt W n cs t] [e : NeN n m] : BoxAt (W.setCell ⟨m, i, none⟩ v) n cs t := ⟨by rw [Below.heap_setCell _ _ _ _ e.h]; exact k.eq⟩
instance Blw.set (a W : World) (m i : Nat) (v : Value) [k : Blw a W] [l : LeN a.heap.size m] : Blw a (W.setCell ⟨m, i, none⟩ v) := ⟨k.h.setCell (p := ⟨m, i, none⟩) l.h v⟩
/-- all below block B is kept -/
class StpB (B : outParam Nat) (X : outParam World) (W : World) : Prop where
  h : Below B X W
instance (priority := low) Blw.stpB (a X W : World) (B : Nat) [s : StpB B X W] [k : Blw a X] [l : LeN a.heap.size B] : Blw a W := ⟨k.h.trans (s.h.mono l.h)⟩
instance (priority := low) BoxAt.stpB (X W : World) (B n : Nat) (cs : Array Value) (t : TypeId) [s : StpB B X W] [k : BoxAt X n cs t] [l : LtN n B] : BoxAt W n cs t := ⟨by rw [s.h.block n l.h]; exact k.eq⟩
/-- a's blocks from B on are as they were -/
class Kpf (B : Nat) (a W : World) : Prop where
  s : a.heap.size ≤ W.heap.size
  h : ∀ k, B ≤ k → k < a.heap.size → W.heap[k]? = a.heap[k]?
instance (priority := high) Kpf.rf (B : Nat) (a : World) : Kpf B a a := ⟨Nat.le_refl _, fun _ _ _ => rfl⟩
instance Kpf.stp (B : Nat) (a X W : World) [s : Stp X W] [k : Kpf B a X] : Kpf B a W := ⟨Nat.le_trans k.s s.h.size, fun i h1 h2 => (s.h.block i (Nat.lt_of_lt_of_le h2 k.s)).trans (k.h i h1 h2)⟩
instance Kpf.set (B : Nat) (a W : World) (m i : Nat) (v : Value) [k : Kpf B a W] [l : LtN m B] : Kpf B a (W.setCell ⟨m, i, none⟩ v) := ⟨by simpa [World.setCell] using k.s, fun j h1 h2 => by
  rw [Below.heap_setCell _ _ _ _ (by have := l.h; show j ≠ m; omega)]; exact k.h j h1 h2⟩
instance (priority := low) Kpf.setHi (B : Nat) (a W : World) (m i : Nat) (v : Value) [k : Kpf B a W] [l : LeN a.heap.size m] : Kpf B a (W.setCell ⟨m, i, none⟩ v) := ⟨by simpa [World.setCell] using k.s, fun j h1 h2 => by
  rw [Below.heap_setCell _ _ _ _ (by have := l.h; show j ≠ m; omega)]; exact k.h j h1 h2⟩
theorem own_kp {a W : World} {base : Nat} {e : TypeId} {k n : Nat} {v : Value} {xs : List Value} (h : a.ownsRow base e k v n xs) [b : Kpf base a W] : W.ownsRow base e k v n xs := by
  refine ⟨h.1, h.2.imp id ?_⟩
  rintro ⟨g, cap, cur, rfl, hbase, hg, h1⟩
  refine ⟨g, cap, cur, rfl, hbase, ?_, h1⟩
  rw [b.h g hbase (Array.getElem?_eq_some_iff.1 hg).1]; exact hg
/-! append, its source found behind its value -/
theorem step_append_w {P : Program} {w : World} {ops : Array Oper} {o : Oper} {a : Act} {K : Act → World → Prop} {Q : Exit → Act → World → Prop} {R : Prop} {t e : TypeId} {k bytes : Nat} (E : ElemOk P t e k bytes) (hgd : o.guard = none) (s x : Operand)
    (ho : o.op = .call { callee := .builtin .append, args := #[s, x], argTypes := #[t, t] }) (base : Nat)
    (v : Value) (n : Nat) (xs : List Value) (m : Nat) (news : List Value) (hs : a.eval s = v) (hown : w.ownsRow base e k v n xs)
    (hx : ∃ A c, a.eval x = .slice A m c ∧ Reads w w.heap.size k A m news) (h1 : ∀ u ∈ news, u.oneCell' = true)
    (h63 : n + m ≤ maxLen) (hbytes : (n + m) * bytes ≤ 140737488355328) (hbase : base ≤ w.heap.size)
    (h : ∀ v' w', w'.ownsRow base e k v' (n + m) (xs ++ news) → w.grownBy w' v.ownBlock → K (a.put o.dst v') w') :
    if Region.wanted o (yielded ops a.tmps) = true then Oper.wp P o a w K Q else R := by
  obtain ⟨A, c, hx, hr⟩ := hx
  exact step_append_any w E hgd s x ho base v n xs hs hown _ A m c news hx hr h1 h63 hbytes hbase fun v' w' h2 h3 _ _ => h v' w' h2 h3
theorem wpList_append_w {P : Program} {w : World} {ops : Array Oper} {rest : List Oper} {o : Oper} {a : Act} {Q : Exit → Act → World → Prop} {t e : TypeId} {k bytes : Nat} (E : ElemOk P t e k bytes) (hgd : o.guard = none) (s x : Operand)
    (ho : o.op = .call { callee := .builtin .append, args := #[s, x], argTypes := #[t, t] }) (base : Nat)
    (v : Value) (n : Nat) (xs : List Value) (m : Nat) (news : List Value) (hs : a.eval s = v) (hown : w.ownsRow base e k v n xs)
    (hx : ∃ A c, a.eval x = .slice A m c ∧ Reads w w.heap.size k A m news) (h1 : ∀ u ∈ news, u.oneCell' = true)
    (h63 : n + m ≤ maxLen) (hbytes : (n + m) * bytes ≤ 140737488355328) (hbase : base ≤ w.heap.size)
    (h : ∀ v' w', w'.ownsRow base e k v' (n + m) (xs ++ news) → w.grownBy w' v.ownBlock → wpList P ops Q rest (a.put o.dst v') w') : wpList P ops Q (o :: rest) a w := by
  obtain ⟨A, c, hx, hr⟩ := hx
  exact wpList_append_any w E hgd s x ho base v n xs hs hown _ A m c news hx hr h1 h63 hbytes hbase fun v' w' h2 h3 _ _ => h v' w' h2 h3
end Go.Proofs.YtkglclekieckoaaGreat
