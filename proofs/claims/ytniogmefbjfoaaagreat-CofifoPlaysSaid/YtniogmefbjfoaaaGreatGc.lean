/-
  Worlds of which all but some blocks is kept, and what is read there: rows (as in layer 18's texts, by themselves).
-/
import Derived.Test.YtniogmefbjfoaaaGreatTcG
namespace Go.Proofs.YtniogmefbjfoaaaGreat
set_option linter.unusedSimpArgs false
set_option linter.unusedVariables false
set_option linter.unusedSectionVars false
open Go.RowKit

/-- all of X but the blocks in C is as it was -/
structure Gr (C : List Nat) (X W : World) : Prop where
  os : W.os = X.os
  tape : W.tape = X.tape
  out : W.output = X.output
  size : X.heap.size ≤ W.heap.size
  blk : ∀ i, i < X.heap.size → i ∉ C → W.heap[i]? = X.heap[i]?
theorem Gr.refl (C : List Nat) (X : World) : Gr C X X := ⟨rfl, rfl, rfl, Nat.le_refl _, fun _ _ _ => rfl⟩
theorem Gr.of {C : List Nat} {X W : World} (h : Below X.heap.size X W) : Gr C X W := ⟨h.os, h.tape, h.output, h.size, fun i hi _ => h.block i hi⟩
theorem Gr.ofB {C : List Nat} {B : Nat} {X W : World} (h : Below B X W) (hC : ∀ i, i < X.heap.size → B ≤ i → i ∈ C) : Gr C X W := ⟨h.os, h.tape, h.output, h.size, fun i hi hc => h.block i (by
  by_cases e : i < B
  · exact e
  · exact absurd (hC i hi (by omega)) hc)⟩
theorem Gr.set {C : List Nat} (X : World) {m : Nat} (i : Nat) (v : Value) (h : m ∈ C) : Gr C X (X.setCell ⟨m, i, none⟩ v) := ⟨rfl, rfl, rfl, by simp [World.setCell], fun j _ hc => Below.heap_setCell _ _ _ _ (fun e => hc (by rw [e]; exact h))⟩
theorem Gr.grown {C : List Nat} {X W : World} {r : Option Nat} (h : X.grownBy W r) (hr : ∀ k, r = some k → k ∈ C) : Gr C X W := ⟨h.os, h.tape, h.output, h.size, fun i hi hc => h.block i hi (fun e => hc (hr i e.symm))⟩
theorem Gr.below {C : List Nat} {B : Nat} {X W : World} (h : Gr C X W) (hB : B ≤ X.heap.size) (hc : ∀ i ∈ C, B ≤ i) : Below B X W := ⟨h.os, h.tape, h.out, h.size, fun i hi => h.blk i (by omega) (fun hm => by have := hc i hm; omega)⟩
theorem Gr.mono' {C D : List Nat} {X W : World} (h : Gr C X W) (hs : ∀ i ∈ C, i ∈ D) : Gr D X W := ⟨h.os, h.tape, h.out, h.size, fun i hi hd => h.blk i hi (fun hc => hd (hs i hc))⟩
theorem Gr.trans {C : List Nat} {X Y Z : World} (h : Gr C X Y) (k : Gr C Y Z) : Gr C X Z := ⟨k.os.trans h.os, k.tape.trans h.tape, k.out.trans h.out, Nat.le_trans h.size k.size, fun i hi hc => (k.blk i (Nat.lt_of_lt_of_le hi h.size) hc).trans (h.blk i hi hc)⟩
/-- all but the blocks in C is kept; what is written from then on lies in C'; new blocks may be among these -/
structure Tr (C C' : List Nat) (X W : World) : Prop where
  g : Gr C X W
  n : ∀ i ∈ C', i ∈ C ∨ X.heap.size ≤ i
theorem Tr.refl (C : List Nat) (X : World) : Tr C C X X := ⟨Gr.refl _ _, fun _ h => .inl h⟩
theorem Tr.of {C : List Nat} {X W : World} (h : Gr C X W) : Tr C C X W := ⟨h, fun _ h => .inl h⟩
theorem Tr.bel {C : List Nat} {X W : World} (h : Below X.heap.size X W) : Tr C C X W := .of (.of h)
theorem Tr.set {C : List Nat} (X : World) {m : Nat} (i : Nat) (v : Value) (h : m ∈ C) : Tr C C X (X.setCell ⟨m, i, none⟩ v) := .of (.set X i v h)
theorem Tr.trans {C C' C'' : List Nat} {X Y Z : World} (h : Tr C C' X Y) (k : Tr C' C'' Y Z) : Tr C C'' X Z := by
  refine ⟨⟨k.g.os.trans h.g.os, k.g.tape.trans h.g.tape, k.g.out.trans h.g.out, Nat.le_trans h.g.size k.g.size, fun i hi hc => ?_⟩, fun i hi => ?_⟩
  · exact (k.g.blk i (Nat.lt_of_lt_of_le hi h.g.size) (fun hm => by
      rcases h.n i hm with h1 | h1
      · exact hc h1
      · omega)).trans (h.g.blk i hi hc)
  · rcases k.n i hi with h1 | h1
    · exact h.n i h1
    · exact .inr (Nat.le_trans h.g.size h1)
/-- less or more may be written from now on -/
theorem Tr.re {C C' D : List Nat} {X W : World} (h : Tr C C' X W) (hd : ∀ i ∈ D, i ∈ C' ∨ X.heap.size ≤ i) : Tr C D X W := ⟨h.g, fun i hi => by
  rcases hd i hi with h1 | h1
  · exact h.n i h1
  · exact .inr h1⟩
theorem Tr.ge {C C' : List Nat} {B : Nat} {X W : World} (h : Tr C C' X W) (hc : ∀ i ∈ C, B ≤ i) (hB : B ≤ X.heap.size) : ∀ i ∈ C', B ≤ i := fun i hi => by
  rcases h.n i hi with h1 | h1
  · exact hc i h1
  · omega
theorem Tr.box {C C' : List Nat} {X W : World} (h : Tr C C' X W) {n : Nat} {cs : Array Value} {t : TypeId} (hb : BoxAt X n cs t) (hn : n ∉ C) : BoxAt W n cs t ∧ n ∉ C' := by
  refine ⟨⟨by rw [h.g.blk n hb.lt hn]; exact hb.eq⟩, fun hm => ?_⟩
  rcases h.n n hm with h1 | h1
  · exact hn h1
  · have := hb.lt; omega
/-! ### what is read, and never written -/
def RO (W : World) (C : List Nat) (k : Nat) (A : Option Addr) (n : Nat) (xs : List Value) : Prop := Reads W W.heap.size k A n xs ∧ (0 < n → ∀ a, A = some a → a.block ∉ C)
section
variable {X W : World} {C C' : List Nat} {k n : Nat} {A : Option Addr} {xs : List Value}
theorem RO.tr (h : RO X C k A n xs) (t : Tr C C' X W) : RO W C' k A n xs := by
  refine ⟨⟨h.1.1, fun hn => ?_⟩, fun hn a ha hc => ?_⟩
  · obtain ⟨b, off, e, hb, hc⟩ := h.1.2 hn
    have hnc := h.2 hn _ e
    refine ⟨b, off, e, Nat.lt_of_lt_of_le hb t.g.size, fun j u hu => ?_⟩
    rw [World.cell?_of_block (w := X) (t.g.blk b hb hnc)]
    exact hc j u hu
  · obtain ⟨b, off, e, hb, _⟩ := h.1.2 hn
    rw [e] at ha
    injection ha with ha
    subst ha
    rcases t.n _ hc with h1 | h1
    · exact h.2 hn _ e h1
    · simp only at h1; omega
theorem RO.nil (W : World) (C : List Nat) (k : Nat) (A : Option Addr) : RO W C k A 0 [] := ⟨⟨by simp, fun h => absurd h (by omega)⟩, fun h => absurd h (by omega)⟩
/-- a row in new memory -/
theorem RO.own {base : Nat} {e : TypeId} {c : Nat} (h : W.ownsRow base e k (.slice A n c) n xs) (hC : ∀ i ∈ C, i < base) : RO W C k A n xs := by
  refine ⟨Reads.of_own h, fun hn a ha hm => ?_⟩
  obtain ⟨g, cap, hv, hb, _⟩ := h.form hn
  rw [ha] at hv
  injection hv with e1
  injection e1 with e1
  subst e1
  have := hC _ hm
  simp only at this
  omega
theorem RO.new {B : Nat} (h : Reads W W.heap.size k A n xs) (hA : ∀ a, A = some a → B ≤ a.block) (hC : ∀ i ∈ C, i < B) : RO W C k A n xs := ⟨h, fun _ a ha hm => by have := hC _ hm; have := hA a ha; omega⟩
/-- a row that was there ahead of all that is written -/
theorem RO.old {B : Nat} (h : Reads W B k A n xs) (hB : B ≤ W.heap.size) (hC : ∀ i ∈ C, B ≤ i) : RO W C k A n xs := ⟨h.more hB, fun hn a ha hm => by
  obtain ⟨b, off, e, hb, _⟩ := h.2 hn
  rw [e] at ha
  injection ha with ha
  subst ha
  have := hC _ hm
  simp only at this
  omega⟩
end
/-! found by instances -/
class InL (m : Nat) (C : List Nat) : Prop where
  h : m ∈ C
instance (priority := high) InL.hd (m : Nat) (C : List Nat) : InL m (m :: C) := ⟨List.mem_cons_self⟩
instance InL.app (m : Nat) (C D : List Nat) [h : InL m C] : InL m (C ++ D) := ⟨List.mem_append_left _ h.h⟩
instance InL.tl (m x : Nat) (C : List Nat) [h : InL m C] : InL m (x :: C) := ⟨List.mem_cons_of_mem _ h.h⟩
/-- from a to W all but the blocks in C is kept -/
class Trc (C : List Nat) (a W : World) : Prop where
  h : Tr C C a W
instance (priority := high) Trc.rf (C : List Nat) (a : World) : Trc C a a := ⟨.refl _ _⟩
instance Trc.stp (C : List Nat) (a X W : World) [s : Stp X W] [k : Trc C a X] : Trc C a W := ⟨k.h.trans (.bel s.h)⟩
instance Trc.set (C : List Nat) (a W : World) (m i : Nat) (v : Value) [k : Trc C a W] [l : InL m C] : Trc C a (W.setCell ⟨m, i, none⟩ v) := ⟨k.h.trans (.set W i v l.h)⟩
theorem RO.tc {a W : World} {C : List Nat} {k n : Nat} {A : Option Addr} {xs : List Value} (h : RO a C k A n xs) [t : Trc C a W] : RO W C k A n xs := h.tr t.h
/-- block b is not frozen -/
class FrzAt (W : World) (b : Nat) : Prop where
  lt : b < W.heap.size
  h : ∀ i, W.frozen? ⟨b, i, none⟩ = false
instance FrzAt.stp (X W : World) (b : Nat) [s : Stp X W] [k : FrzAt X b] : FrzAt W b := ⟨Nat.lt_of_lt_of_le k.lt s.h.size, fun i => (s.h.frozen (p := ⟨b, i, none⟩) k.lt).trans (k.h i)⟩
instance FrzAt.set (W : World) (b m i : Nat) (v : Value) [k : FrzAt W b] : FrzAt (W.setCell ⟨m, i, none⟩ v) b := ⟨by simpa [World.setCell] using k.lt, fun j => by rw [World.frozen?_setCell]; exact k.h j⟩
@[go_sem] theorem frozen?_fz (W : World) (b i : Nat) [k : FrzAt W b] : W.frozen? ⟨b, i, none⟩ = false := k.h i
theorem FrzAt.own {W : World} {base g n c k : Nat} {e : TypeId} {xs : List Value} (h : W.ownsRow base e k (.slice (some ⟨g, 0, none⟩) n c) n xs) (hg : g < W.heap.size) : FrzAt W g := ⟨hg, fun i => h.frozenAt i⟩
instance (priority := low) CellAt.setNe (W : World) (b i m j : Nat) (u v : Value) [k : CellAt W b i v] [e : NeN b m] : CellAt (W.setCell ⟨m, j, none⟩ u) b i v := ⟨by simpa [World.setCell] using k.lt, by
  have := k.h
  unfold World.cell? at this ⊢
  rw [Below.heap_setCell _ _ _ _ e.h]
  exact this⟩
/-! append, with the block of what comes of it -/
theorem step_append_x {P : Program} {w : World} {ops : Array Oper} {o : Oper} {a : Act} {K : Act → World → Prop} {Q : Exit → Act → World → Prop} {R : Prop} {t e : TypeId} {k bytes : Nat} (E : ElemOk P t e k bytes) (hgd : o.guard = none) (s x : Operand)
    (ho : o.op = .call { callee := .builtin .append, args := #[s, x], argTypes := #[t, t] }) (base : Nat)
    (v : Value) (n : Nat) (xs : List Value) (m : Nat) (news : List Value) (hs : a.eval s = v) (hown : w.ownsRow base e k v n xs)
    (hx : ∃ A c, a.eval x = .slice A m c ∧ Reads w w.heap.size k A m news) (h1 : ∀ u ∈ news, u.oneCell' = true)
    (h63 : n + m ≤ maxLen) (hbytes : (n + m) * bytes ≤ 140737488355328) (hbase : base ≤ w.heap.size)
    (h : ∀ v' w', w'.ownsRow base e k v' (n + m) (xs ++ news) → w.grownBy w' v.ownBlock → (v'.ownBlock = v.ownBlock ∨ v'.ownBlock = some w.heap.size) → K (a.put o.dst v') w') :
    if Region.wanted o (yielded ops a.tmps) = true then Oper.wp P o a w K Q else R := by
  obtain ⟨A, c, hx, hr⟩ := hx
  exact step_append_any w E hgd s x ho base v n xs hs hown _ A m c news hx hr h1 h63 hbytes hbase fun v' w' h2 h3 _ h4 => h v' w' h2 h3 h4
theorem wpList_append_x {P : Program} {w : World} {ops : Array Oper} {rest : List Oper} {o : Oper} {a : Act} {Q : Exit → Act → World → Prop} {t e : TypeId} {k bytes : Nat} (E : ElemOk P t e k bytes) (hgd : o.guard = none) (s x : Operand)
    (ho : o.op = .call { callee := .builtin .append, args := #[s, x], argTypes := #[t, t] }) (base : Nat)
    (v : Value) (n : Nat) (xs : List Value) (m : Nat) (news : List Value) (hs : a.eval s = v) (hown : w.ownsRow base e k v n xs)
    (hx : ∃ A c, a.eval x = .slice A m c ∧ Reads w w.heap.size k A m news) (h1 : ∀ u ∈ news, u.oneCell' = true)
    (h63 : n + m ≤ maxLen) (hbytes : (n + m) * bytes ≤ 140737488355328) (hbase : base ≤ w.heap.size)
    (h : ∀ v' w', w'.ownsRow base e k v' (n + m) (xs ++ news) → w.grownBy w' v.ownBlock → (v'.ownBlock = v.ownBlock ∨ v'.ownBlock = some w.heap.size) → wpList P ops Q rest (a.put o.dst v') w') : wpList P ops Q (o :: rest) a w := by
  obtain ⟨A, c, hx, hr⟩ := hx
  exact wpList_append_any w E hgd s x ho base v n xs hs hown _ A m c news hx hr h1 h63 hbytes hbase fun v' w' h2 h3 _ h4 => h v' w' h2 h3 h4
theorem own_same {w w' : World} {base : Nat} {e : TypeId} {k n : Nat} {v : Value} {xs : List Value} (h : w.ownsRow base e k v n xs) (hs : ∀ i, v.ownBlock = some i → w'.heap[i]? = w.heap[i]?) : w'.ownsRow base e k v n xs := by
  refine ⟨h.1, h.2.imp id ?_⟩
  rintro ⟨g, cap, cur, rfl, hbase, hg', h1⟩
  exact ⟨g, cap, cur, rfl, hbase, (hs g rfl).trans hg', h1⟩
end Go.Proofs.YtniogmefbjfoaaaGreat
