/-
  Layer 18: agreements, and what becomes of them, in plain words: no program in sight.
-/
import Derived.Test.YtkglclekieckoaaGreatPv2
import Derived.Test.YtkglclekieckoaaGreatReg7
import Derived.Test.YtkglclekieckoaaGreatNot
import Derived.Test.YtkglclekieckoaaGreatTcG
namespace Go.Proofs.YtkglclekieckoaaGreat
set_option linter.unusedSimpArgs false
set_option linter.unusedVariables false
set_option linter.unusedSectionVars false
open Go.RowKit

/-! what is left of a thing when nobody asks where it lies -/
def Pp.br (x : Pp) : Pp := ⟨x.n, x.i, x.rd, none, 0, x.ss, none, 0, x.cs, none, 0, x.us⟩
def Vw.br (x : Vw) : Vw := ⟨x.r, x.n, x.i, none, 0, x.ms, none, 0, x.us⟩
def Nt.br (x : Nt) : Nt := ⟨x.k, x.n, x.i, x.rd, x.cd, none, 0, x.st, x.vw.br⟩
@[simp] theorem Pp.br_br (x : Pp) : x.br.br = x.br := rfl
@[simp] theorem Vw.br_br (x : Vw) : x.br.br = x.br := rfl
@[simp] theorem Nt.br_br (x : Nt) : x.br.br = x.br := rfl
/-- what is told to somebody -/
structure Te where
  n : Int
  i : Int
  nt : Nt
  deriving Inhabited
def Te.br (x : Te) : Te := ⟨x.n, x.i, x.nt.br⟩
@[simp] theorem Te.br_br (x : Te) : x.br.br = x.br := rfl
/-- an agreement -/
structure Ag where
  n : Int
  i : Int
  rd : Int
  SA : Option Addr
  sc : Nat
  ss : List Pr
  LA : Option Addr
  lc : Nat
  cl : List Cl
  TA : Option Addr
  tc : Nat
  td : List Pr
  GA : Option Addr
  gc : Nat
  gt : List Pp
  dn : Bool
  sp : Bool
  vw : Vw
  deriving Inhabited
def Ag.br (x : Ag) : Ag := ⟨x.n, x.i, x.rd, none, 0, x.ss, none, 0, x.cl, none, 0, x.td, none, 0, x.gt.map Pp.br, x.dn, x.sp, x.vw.br⟩
/-- a turn -/
structure Tu where
  A : Option Addr
  c : Nat
  ts : List Te
  sd : Bool
  pp : Pp
  md : Bool
  vw : Vw
  deriving Inhabited
def Tu.br (x : Tu) : Tu := ⟨none, 0, x.ts.map Te.br, x.sd, x.pp.br, x.md, x.vw.br⟩
abbrev pq0 : Pp := ⟨0, 0, 0, none, 0, [], none, 0, [], none, 0, []⟩
abbrev tu0 : Tu := ⟨none, 0, [], false, pq0, false, vw0⟩
def Ag.sv (a : Ag) : Pr := (a.n, a.i)
/-! what the program does -/
/-- the lives of its own clients -/
def ownL (a : Ag) : List Pr := livesL ((takenR a.cl).filter (fun x => !x.gone))
/-- of lives in order: of each node the last one -/
def lastOf : List Pr → List Pr
  | [] => []
  | [x] => [x]
  | x :: y :: l => if y.1 = x.1 then lastOf (y :: l) else x :: lastOf (y :: l)
def knownL (a : Ag) : List Pr := a.gt.foldl (fun L p => if p.sv ≠ a.sv ∧ p.sv ∈ a.ss then sortedL (L ++ p.cs) else L) (ownL a)
def whomL (a : Ag) : List Pr := if 6 < (lastOf (knownL a)).length then ownL a else lastOf (knownL a)
/-- proposals, with that one for its node's -/
def gotL (L : List Pp) (p : Pp) : List Pp := L.filter (fun g => decide (g.n < p.n)) ++ p :: L.filter (fun g => decide (p.n < g.n))
def startT (a : Ag) (p : Pr) (cid : Int) : Te := ⟨p.1, p.2, ⟨4, a.n, a.i, 0, cid, none, 0, a.td, vw0⟩⟩
def comeT (p : Pr) (v : Vw) : Te := ⟨p.1, p.2, ⟨5, 0, 0, 0, 0, none, 0, [], v⟩⟩
def thereL (l : List Cl) : List Cl := l.filter (fun x => !x.gone)
/-- its own proposal -/
def myP (a : Ag) : Pp := ⟨a.n, a.i, a.rd, none, 0, a.ss, none, 0, livesL (thereL a.cl), none, 0, (thereL a.cl).map Cl.cid⟩
/-- an agreement with a round begun -/
def begunA (a : Ag) (n : Int) : Ag := { a with rd := n, cl := (raiseR (takenR a.cl)).1, dn := false }
def toldA (a : Ag) : Ag := { a with td := whomL a }
def putA (a : Ag) : Ag := { a with gt := gotL a.gt (myP a) }
def sentT (a : Ag) (t : Tu) : Tu := { t with ts := t.ts ++ (thereL a.cl).map (fun c => startT a (c.n, c.i) c.cid), sd := true, pp := myP a }
def proposeP (a : Ag) (t : Tu) (n : Int) : Ag × Tu :=
  if n = 0 ∨ n = 18446744073709551615 ∨ (raiseR (takenR a.cl)).2 = false then ({ a with sp := true }, t)
  else (putA (toldA (begunA a n)), sentT (toldA (begunA a n)) t)
/-- one more, as numbers of 64 bits go -/
def upU (n : Int) : Int := if n = 18446744073709551615 then 0 else n + 1
/-- of servers, their proposals -/
def propsG (L : List Pp) : List Pr → Option (List Pp)
  | [] => some []
  | s :: ss => match L.find? fun p => decide (p.sv = s) with
    | none => none
    | some p => match propsG L ss with
      | none => none
      | some l => some (p :: l)
def propsL (a : Ag) : Option (List Pp) := propsG a.gt a.ss
/-- is somebody in a proposal that its clients were not told of? -/
def strange (l : List Pp) (td : List Pr) : Bool := l.any fun p => p.cs.any fun c => !decide (c ∈ td)
def doneA (a : Ag) : Ag := { a with dn := true }
/-- the view of a proposal's form -/
def vwOf (x : (Int × Int × Int) × List Pr × List Int) : Vw := ⟨x.1.1, x.1.2.1, x.1.2.2, none, 0, x.2.1, none, 0, x.2.2⟩
/-- one go at a view; the third: once more? -/
def agree1 (a : Ag) (t : Tu) : (Ag × Tu) × Bool :=
  if a.dn || a.sp then ((a, t), false)
  else match propsL a with
    | none => ((a, t), false)
    | some l =>
      if agreeB l = false then ((a, t), false)
      else if strange l a.td then (proposeP a t (upU a.rd), true)
      else match viewP l with
        | none => ((doneA a, t), false)
        | some x => (({ doneA a with vw := vwOf x }, { t with md := true, vw := vwOf x, ts := t.ts ++ (ownL a).map fun p => comeT p (vwOf x) }), false)
def agreeP (a : Ag) (t : Tu) : Ag × Tu := if (agree1 a t).2 then (agree1 (agree1 a t).1.1 (agree1 a t).1.2).1 else (agree1 a t).1
/-- may these be the servers of an agreement? -/
def togetherB (l : List Pr) : Bool := l.all (fun p => decide (p.1 ≤ 4)) && (decide (0 < l.length) && (decide (l.length ≤ 4) && (setB l && decide ((nodesL l).length = l.length))))
def mostL (a : Ag) : Int := a.gt.foldl (fun n p => if p.sv ∈ a.ss then max n p.rd else n) (max a.rd (maxR (thereL (takenR a.cl))))
def renewP (a : Ag) (ss : List Pr) (cl : List Cl) : Ag × Tu :=
  if a.sp || (!togetherB ss || (!decide (a.sv ∈ ss) || !mayR cl)) then (a, tu0)
  else
    let b : Ag := { a with ss := ss, cl := cl }
    agreeP (proposeP b tu0 (upU (mostL b))).1 (proposeP b tu0 (upU (mostL b))).2
/-- does a proposal come too late? -/
def lateB (L : List Pp) (p : Pp) : Bool := L.any fun g => (decide (g.n = p.n) && decide (p.i < g.i)) || (decide (g.sv = p.sv) && decide (p.rd ≤ g.rd))
def takeP (a : Ag) (p : Pp) : Ag × Tu :=
  if a.sp || (!p.mayB || decide (p.n = a.n)) then (a, tu0)
  else if lateB a.gt p then (a, tu0)
  else
    let b : Ag := { a with gt := gotL a.gt p.br }
    if p.sv ∈ a.ss then
      (if a.rd < p.rd then agreeP (proposeP b tu0 p.rd).1 (proposeP b tu0 p.rd).2 else agreeP b tu0)
    else (b, tu0)
def mineP (a : Ag) : Option Pp := a.gt.find? fun p => decide (p.sv = a.sv)
def newA (n i : Int) : Ag := ⟨n, i, 0, none, 0, [(n, i)], none, 0, [], none, 0, [], none, 0, [], false, false, vw0⟩
end Go.Proofs.YtkglclekieckoaaGreat

namespace Go.Proofs.YtkglclekieckoaaGreat
set_option linter.unusedSimpArgs false
set_option linter.unusedVariables false
set_option linter.unusedSectionVars false
open Go.RowKit

/-- all of X but the blocks in C is as it was -/
structure Gr (C : List Nat) (X W : World) : Prop where
  os : W.os = X.os
  tape : W.tape = X.tape
  out : W.output = X.output
  size : X.heap.size ≤ W.heap.size
  blk : ∀ i, i < X.heap.size → i ∉ C → W.heap[i]? = X.heap[i]?
theorem Gr.refl (C : List Nat) (X : World) : Gr C X X := ⟨rfl, rfl, rfl, Nat.le_refl _, fun _ _ _ => rfl⟩
theorem Gr.of {C : List Nat} {X W : World} (h : Below X.heap.size X W) : Gr C X W := ⟨h.os, h.tape, h.output, h.size, fun i hi _ => h.block i hi⟩
theorem Gr.ofB {C : List Nat} {B : Nat} {X W : World} (h : Below B X W) (hC : ∀ i, i < X.heap.size → B ≤ i → i ∈ C) : Gr C X W := ⟨h.os, h.tape, h.output, h.size, fun i hi hc => h.block i (by
  by_cases e : i < B
  · exact e
  · exact absurd (hC i hi (by omega)) hc)⟩
theorem Gr.set {C : List Nat} (X : World) {m : Nat} (i : Nat) (v : Value) (h : m ∈ C) : Gr C X (X.setCell ⟨m, i, none⟩ v) := ⟨rfl, rfl, rfl, by simp [World.setCell], fun j _ hc => Below.heap_setCell _ _ _ _ (fun e => hc (by rw [e]; exact h))⟩
theorem Gr.grown {C : List Nat} {X W : World} {r : Option Nat} (h : X.grownBy W r) (hr : ∀ k, r = some k → k ∈ C) : Gr C X W := ⟨h.os, h.tape, h.output, h.size, fun i hi hc => h.block i hi (fun e => hc (hr i e.symm))⟩
theorem Gr.below {C : List Nat} {B : Nat} {X W : World} (h : Gr C X W) (hB : B ≤ X.heap.size) (hc : ∀ i ∈ C, B ≤ i) : Below B X W := ⟨h.os, h.tape, h.out, h.size, fun i hi => h.blk i (by omega) (fun hm => by have := hc i hm; omega)⟩
theorem Gr.mono' {C D : List Nat} {X W : World} (h : Gr C X W) (hs : ∀ i ∈ C, i ∈ D) : Gr D X W := ⟨h.os, h.tape, h.out, h.size, fun i hi hd => h.blk i hi (fun hc => hd (hs i hc))⟩
theorem Gr.trans {C : List Nat} {X Y Z : World} (h : Gr C X Y) (k : Gr C Y Z) : Gr C X Z := ⟨k.os.trans h.os, k.tape.trans h.tape, k.out.trans h.out, Nat.le_trans h.size k.size, fun i hi hc => (k.blk i (Nat.lt_of_lt_of_le hi h.size) hc).trans (h.blk i hi hc)⟩
/-- all but the blocks in C is kept; what is written from then on lies in C'; new blocks may be among these -/
structure Tr (C C' : List Nat) (X W : World) : Prop where
  g : Gr C X W
  n : ∀ i ∈ C', i ∈ C ∨ X.heap.size ≤ i
theorem Tr.refl (C : List Nat) (X : World) : Tr C C X X := ⟨Gr.refl _ _, fun _ h => .inl h⟩
theorem Tr.of {C : List Nat} {X W : World} (h : Gr C X W) : Tr C C X W := ⟨h, fun _ h => .inl h⟩
theorem Tr.bel {C : List Nat} {X W : World} (h : Below X.heap.size X W) : Tr C C X W := .of (.of h)
theorem Tr.set {C : List Nat} (X : World) {m : Nat} (i : Nat) (v : Value) (h : m ∈ C) : Tr C C X (X.setCell ⟨m, i, none⟩ v) := .of (.set X i v h)
theorem Tr.trans {C C' C'' : List Nat} {X Y Z : World} (h : Tr C C' X Y) (k : Tr C' C'' Y Z) : Tr C C'' X Z := by
  refine ⟨⟨k.g.os.trans h.g.os, k.g.tape.trans h.g.tape, k.g.out.trans h.g.out, Nat.le_trans h.g.size k.g.size, fun i hi hc => ?_⟩, fun i hi => ?_⟩
  · exact (k.g.blk i (Nat.lt_of_lt_of_le hi h.g.size) (fun hm => by
      rcases h.n i hm with h1 | h1
      · exact hc h1
      · omega)).trans (h.g.blk i hi hc)
  · rcases k.n i hi with h1 | h1
    · exact h.n i h1
    · exact .inr (Nat.le_trans h.g.size h1)
/-- less or more may be written from now on -/
theorem Tr.re {C C' D : List Nat} {X W : World} (h : Tr C C' X W) (hd : ∀ i ∈ D, i ∈ C' ∨ X.heap.size ≤ i) : Tr C D X W := ⟨h.g, fun i hi => by
  rcases hd i hi with h1 | h1
  · exact h.n i h1
  · exact .inr h1⟩
theorem Tr.ge {C C' : List Nat} {B : Nat} {X W : World} (h : Tr C C' X W) (hc : ∀ i ∈ C, B ≤ i) (hB : B ≤ X.heap.size) : ∀ i ∈ C', B ≤ i := fun i hi => by
  rcases h.n i hi with h1 | h1
  · exact hc i h1
  · omega
theorem Tr.box {C C' : List Nat} {X W : World} (h : Tr C C' X W) {n : Nat} {cs : Array Value} {t : TypeId} (hb : BoxAt X n cs t) (hn : n ∉ C) : BoxAt W n cs t ∧ n ∉ C' := by
  refine ⟨⟨by rw [h.g.blk n hb.lt hn]; exact hb.eq⟩, fun hm => ?_⟩
  rcases h.n n hm with h1 | h1
  · exact hn h1
  · have := hb.lt; omega
/-! ### what is read, and never written -/
def RO (W : World) (C : List Nat) (k : Nat) (A : Option Addr) (n : Nat) (xs : List Value) : Prop := Reads W W.heap.size k A n xs ∧ (0 < n → ∀ a, A = some a → a.block ∉ C)
section
variable {X W : World} {C C' : List Nat} {k n : Nat} {A : Option Addr} {xs : List Value}
theorem RO.tr (h : RO X C k A n xs) (t : Tr C C' X W) : RO W C' k A n xs := by
  refine ⟨⟨h.1.1, fun hn => ?_⟩, fun hn a ha hc => ?_⟩
  · obtain ⟨b, off, e, hb, hc⟩ := h.1.2 hn
    have hnc := h.2 hn _ e
    refine ⟨b, off, e, Nat.lt_of_lt_of_le hb t.g.size, fun j u hu => ?_⟩
    rw [World.cell?_of_block (w := X) (t.g.blk b hb hnc)]
    exact hc j u hu
  · obtain ⟨b, off, e, hb, _⟩ := h.1.2 hn
    rw [e] at ha
    injection ha with ha
    subst ha
    rcases t.n _ hc with h1 | h1
    · exact h.2 hn _ e h1
    · simp only at h1; omega
theorem RO.nil (W : World) (C : List Nat) (k : Nat) (A : Option Addr) : RO W C k A 0 [] := ⟨⟨by simp, fun h => absurd h (by omega)⟩, fun h => absurd h (by omega)⟩
/-- a row in new memory -/
theorem RO.own {base : Nat} {e : TypeId} {c : Nat} (h : W.ownsRow base e k (.slice A n c) n xs) (hC : ∀ i ∈ C, i < base) : RO W C k A n xs := by
  refine ⟨Reads.of_own h, fun hn a ha hm => ?_⟩
  obtain ⟨g, cap, hv, hb, _⟩ := h.form hn
  rw [ha] at hv
  injection hv with e1
  injection e1 with e1
  subst e1
  have := hC _ hm
  simp only at this
  omega
theorem RO.new {B : Nat} (h : Reads W W.heap.size k A n xs) (hA : ∀ a, A = some a → B ≤ a.block) (hC : ∀ i ∈ C, i < B) : RO W C k A n xs := ⟨h, fun _ a ha hm => by have := hC _ hm; have := hA a ha; omega⟩
/-- a row that was there ahead of all that is written -/
theorem RO.old {B : Nat} (h : Reads W B k A n xs) (hB : B ≤ W.heap.size) (hC : ∀ i ∈ C, B ≤ i) : RO W C k A n xs := ⟨h.more hB, fun hn a ha hm => by
  obtain ⟨b, off, e, hb, _⟩ := h.2 hn
  rw [e] at ha
  injection ha with ha
  subst ha
  have := hC _ hm
  simp only at this
  omega⟩
end
/-! found by instances -/
class InL (m : Nat) (C : List Nat) : Prop where
  h : m ∈ C
instance (priority := high) InL.hd (m : Nat) (C : List Nat) : InL m (m :: C) := ⟨List.mem_cons_self⟩
instance InL.app (m : Nat) (C D : List Nat) [h : InL m C] : InL m (C ++ D) := ⟨List.mem_append_left _ h.h⟩
instance InL.tl (m x : Nat) (C : List Nat) [h : InL m C] : InL m (x :: C) := ⟨List.mem_cons_of_mem _ h.h⟩
/-- from a to W all but the blocks in C is kept -/
class Trc (C : List Nat) (a W : World) : Prop where
  h : Tr C C a W
instance (priority := high) Trc.rf (C : List Nat) (a : World) : Trc C a a := ⟨.refl _ _⟩
instance Trc.stp (C : List Nat) (a X W : World) [s : Stp X W] [k : Trc C a X] : Trc C a W := ⟨k.h.trans (.bel s.h)⟩
instance Trc.set (C : List Nat) (a W : World) (m i : Nat) (v : Value) [k : Trc C a W] [l : InL m C] : Trc C a (W.setCell ⟨m, i, none⟩ v) := ⟨k.h.trans (.set W i v l.h)⟩
theorem RO.tc {a W : World} {C : List Nat} {k n : Nat} {A : Option Addr} {xs : List Value} (h : RO a C k A n xs) [t : Trc C a W] : RO W C k A n xs := h.tr t.h
/-- block b is not frozen -/
class FrzAt (W : World) (b : Nat) : Prop where
  lt : b < W.heap.size
  h : ∀ i, W.frozen? ⟨b, i, none⟩ = false
instance FrzAt.stp (X W : World) (b : Nat) [s : Stp X W] [k : FrzAt X b] : FrzAt W b := ⟨Nat.lt_of_lt_of_le k.lt s.h.size, fun i => (s.h.frozen (p := ⟨b, i, none⟩) k.lt).trans (k.h i)⟩
instance FrzAt.set (W : World) (b m i : Nat) (v : Value) [k : FrzAt W b] : FrzAt (W.setCell ⟨m, i, none⟩ v) b := ⟨by simpa [World.setCell] using k.lt, fun j => by rw [World.frozen?_setCell]; exact k.h j⟩
@[go_sem] theorem frozen?_fz (W : World) (b i : Nat) [k : FrzAt W b] : W.frozen? ⟨b, i, none⟩ = false := k.h i
theorem FrzAt.own {W : World} {base g n c k : Nat} {e : TypeId} {xs : List Value} (h : W.ownsRow base e k (.slice (some ⟨g, 0, none⟩) n c) n xs) (hg : g < W.heap.size) : FrzAt W g := ⟨hg, fun i => h.frozenAt i⟩
instance (priority := low) CellAt.setNe (W : World) (b i m j : Nat) (u v : Value) [k : CellAt W b i v] [e : NeN b m] : CellAt (W.setCell ⟨m, j, none⟩ u) b i v := ⟨by simpa [World.setCell] using k.lt, by
  have := k.h
  unfold World.cell? at this ⊢
  rw [Below.heap_setCell _ _ _ _ e.h]
  exact this⟩
/-! append, with the block of what comes of it -/
theorem step_append_x {P : Program} {w : World} {ops : Array Oper} {o : Oper} {a : Act} {K : Act → World → Prop} {Q : Exit → Act → World → Prop} {R : Prop} {t e : TypeId} {k bytes : Nat} (E : ElemOk P t e k bytes) (hgd : o.guard = none) (s x : Operand)
    (ho : o.op = .call { callee := .builtin .append, args := #[s, x], argTypes := #[t, t] }) (base : Nat)
    (v : Value) (n : Nat) (xs : List Value) (m : Nat) (news : List Value) (hs : a.eval s = v) (hown : w.ownsRow base e k v n xs)
    (hx : ∃ A c, a.eval x = .slice A m c ∧ Reads w w.heap.size k A m news) (h1 : ∀ u ∈ news, u.oneCell' = true)
    (h63 : n + m ≤ maxLen) (hbytes : (n + m) * bytes ≤ 140737488355328) (hbase : base ≤ w.heap.size)
    (h : ∀ v' w', w'.ownsRow base e k v' (n + m) (xs ++ news) → w.grownBy w' v.ownBlock → (v'.ownBlock = v.ownBlock ∨ v'.ownBlock = some w.heap.size) → K (a.put o.dst v') w') :
    if Region.wanted o (yielded ops a.tmps) = true then Oper.wp P o a w K Q else R := by
  obtain ⟨A, c, hx, hr⟩ := hx
  exact step_append_any w E hgd s x ho base v n xs hs hown _ A m c news hx hr h1 h63 hbytes hbase fun v' w' h2 h3 _ h4 => h v' w' h2 h3 h4
theorem wpList_append_x {P : Program} {w : World} {ops : Array Oper} {rest : List Oper} {o : Oper} {a : Act} {Q : Exit → Act → World → Prop} {t e : TypeId} {k bytes : Nat} (E : ElemOk P t e k bytes) (hgd : o.guard = none) (s x : Operand)
    (ho : o.op = .call { callee := .builtin .append, args := #[s, x], argTypes := #[t, t] }) (base : Nat)
    (v : Value) (n : Nat) (xs : List Value) (m : Nat) (news : List Value) (hs : a.eval s = v) (hown : w.ownsRow base e k v n xs)
    (hx : ∃ A c, a.eval x = .slice A m c ∧ Reads w w.heap.size k A m news) (h1 : ∀ u ∈ news, u.oneCell' = true)
    (h63 : n + m ≤ maxLen) (hbytes : (n + m) * bytes ≤ 140737488355328) (hbase : base ≤ w.heap.size)
    (h : ∀ v' w', w'.ownsRow base e k v' (n + m) (xs ++ news) → w.grownBy w' v.ownBlock → (v'.ownBlock = v.ownBlock ∨ v'.ownBlock = some w.heap.size) → wpList P ops Q rest (a.put o.dst v') w') : wpList P ops Q (o :: rest) a w := by
  obtain ⟨A, c, hx, hr⟩ := hx
  exact wpList_append_any w E hgd s x ho base v n xs hs hown _ A m c news hx hr h1 h63 hbytes hbase fun v' w' h2 h3 _ h4 => h v' w' h2 h3 h4
def Te.cl (x : Te) : List Value := [.int .i64 x.n, .int .u64 x.i, .int .i64 x.nt.k, .int .i64 x.nt.n, .int .u64 x.nt.i, .int .u64 x.nt.rd, .int .u64 x.nt.cd, .slice x.nt.SA x.nt.st.length x.nt.sc, .int .u64 x.nt.vw.r, .int .i64 x.nt.vw.n, .int .u64 x.nt.vw.i, .slice x.nt.vw.MA x.nt.vw.ms.length x.nt.vw.mc, .slice x.nt.vw.UA x.nt.vw.us.length x.nt.vw.uc]
theorem Te.cl_len (x : Te) : x.cl.length = 13 := rfl
def tes (l : List Te) : List Value := l.flatMap Te.cl
theorem tes_len (l : List Te) : (tes l).length = l.length * 13 := flat_length Te.cl_len l
theorem tes_app (l m : List Te) : tes (l ++ m) = tes l ++ tes m := List.flatMap_append
theorem tes_one (l : List Te) : ∀ u ∈ tes l, u.oneCell' = true := by
  intro u hu
  obtain ⟨p, _, hp⟩ := List.mem_flatMap.1 hu
  simp [Te.cl] at hp
  rcases hp with rfl | rfl | rfl | rfl | rfl | rfl | rfl | rfl | rfl | rfl | rfl | rfl | rfl <;> rfl
theorem Tryz.okTe : ElemOk Tryz.prog 39 117 13 152 := elemOk_of (.agg #[.int .i64 0, .int .u64 0, .int .i64 0, .int .i64 0, .int .u64 0, .int .u64 0, .int .u64 0, .slice none 0 0, .int .u64 0, .int .i64 0, .int .u64 0, .slice none 0 0, .slice none 0 0]) Tryz.underlying39 (by kernel_rfl) rfl (by omega)
theorem Tryz.okPq : ElemOk Tryz.prog 31 41 6 96 := elemOk_of (.agg #[.int .i64 0, .int .u64 0, .int .u64 0, .slice none 0 0, .slice none 0 0, .slice none 0 0]) Tryz.underlying31 (by kernel_rfl) rfl (by omega)
theorem own_same {w w' : World} {base : Nat} {e : TypeId} {k n : Nat} {v : Value} {xs : List Value} (h : w.ownsRow base e k v n xs) (hs : ∀ i, v.ownBlock = some i → w'.heap[i]? = w.heap[i]?) : w'.ownsRow base e k v n xs := by
  refine ⟨h.1, h.2.imp id ?_⟩
  rintro ⟨g, cap, cur, rfl, hbase, hg', h1⟩
  exact ⟨g, cap, cur, rfl, hbase, (hs g rfl).trans hg', h1⟩
/-- blocks that somebody else writes: nothing that is told lies in them -/
class Avoid where
  D : List Nat
theorem Gr.av {C D : List Nat} {X W : World} (h : Gr C X W) : Gr (C ++ D) X W := h.mono' (fun i hi => List.mem_append_left _ hi)
theorem Tr.av {C C' D : List Nat} {X W : World} (h : Tr C C' X W) : Tr (C ++ D) (C' ++ D) X W := ⟨h.g.av, fun i hi => by
  rcases List.mem_append.1 hi with h1 | h1
  · rcases h.n i h1 with h2 | h2
    · exact .inl (List.mem_append_left _ h2)
    · exact .inr h2
  · exact .inl (List.mem_append_right _ h1)⟩
variable [Avoid]
structure PpO (W : World) (C : List Nat) (x : Pp) : Prop where
  s : RO W (C ++ Avoid.D) 2 x.SA x.ss.length (pcs x.ss)
  sl : x.ss.length ≤ 1000000
  c : RO W (C ++ Avoid.D) 2 x.CA x.cs.length (pcs x.cs)
  cl : x.cs.length ≤ 1000000
  u : RO W (C ++ Avoid.D) 1 x.UA x.us.length (ucs x.us)
  ul : x.us.length ≤ 1000000
structure VwO (W : World) (C : List Nat) (x : Vw) : Prop where
  m : RO W (C ++ Avoid.D) 2 x.MA x.ms.length (pcs x.ms)
  ml : x.ms.length ≤ 1000000
  u : RO W (C ++ Avoid.D) 1 x.UA x.us.length (ucs x.us)
  ul : x.us.length ≤ 1000000
structure NtO (W : World) (C : List Nat) (x : Nt) : Prop where
  s : RO W (C ++ Avoid.D) 2 x.SA x.st.length (pcs x.st)
  sl : x.st.length ≤ 1000000
  vk : VwO W C x.vw
section
variable {X W : World} {C C' : List Nat}
theorem PpO.tr {x : Pp} (h : PpO X C x) (t : Tr C C' X W) : PpO W C' x := ⟨h.s.tr t.av, h.sl, h.c.tr t.av, h.cl, h.u.tr t.av, h.ul⟩
theorem VwO.tr {x : Vw} (h : VwO X C x) (t : Tr C C' X W) : VwO W C' x := ⟨h.m.tr t.av, h.ml, h.u.tr t.av, h.ul⟩
theorem NtO.tr {x : Nt} (h : NtO X C x) (t : Tr C C' X W) : NtO W C' x := ⟨h.s.tr t.av, h.sl, h.vk.tr t⟩
theorem PpO.tc {x : Pp} (h : PpO X C x) [t : Trc C X W] : PpO W C x := h.tr t.h
theorem VwO.tc {x : Vw} (h : VwO X C x) [t : Trc C X W] : VwO W C x := h.tr t.h
theorem NtO.tc {x : Nt} (h : NtO X C x) [t : Trc C X W] : NtO W C x := h.tr t.h
theorem PpO.ok {x : Pp} (h : PpO W C x) : x.Ok W := ⟨h.s.1, h.sl, h.c.1, h.cl, h.u.1, h.ul⟩
theorem VwO.ok {x : Vw} (h : VwO W C x) : x.Ok W := ⟨h.m.1, h.u.1, h.ml, h.ul⟩
theorem NtO.ok {x : Nt} (h : NtO W C x) : x.Ok W := ⟨h.s.1, h.sl, h.vk.ok⟩
end
/-- what an agreement is made of can be read, and is not written -/
structure AgO (W : World) (C : List Nat) (a : Ag) : Prop where
  s : RO W (C ++ Avoid.D) 2 a.SA a.ss.length (pcs a.ss)
  sl : a.ss.length ≤ 1000000
  c : RO W (C ++ Avoid.D) 6 a.LA a.cl.length (ccs a.cl)
  cl : a.cl.length ≤ 1000000
  t : RO W (C ++ Avoid.D) 2 a.TA a.td.length (pcs a.td)
  tl : a.td.length ≤ 1000000
  p : ∀ p ∈ a.gt, PpO W C p
  pl : a.gt.length ≤ 1000
  v : VwO W C a.vw
theorem AgO.tr {X W : World} {C C' : List Nat} {a : Ag} (h : AgO X C a) (t : Tr C C' X W) : AgO W C' a := ⟨h.s.tr t.av, h.sl, h.c.tr t.av, h.cl, h.t.tr t.av, h.tl, fun p hp => (h.p p hp).tr t, h.pl, h.v.tr t⟩
/-- an agreement that came in -/
structure Ag.Ok (W : World) (a : Ag) : Prop where
  o : AgO W [] a
  g : RO W Avoid.D 6 a.GA a.gt.length (pps a.gt)
theorem Ag.Ok.step {X W : World} {a : Ag} (h : a.Ok X) (hb : Below X.heap.size X W) : a.Ok W := ⟨h.o.tr (.bel hb), h.g.tr (.bel hb)⟩
abbrev Ag.cs (a : Ag) : Array Value := #[.int .i64 a.n, .int .u64 a.i, .int .u64 a.rd, .slice a.SA a.ss.length a.sc, .slice a.LA a.cl.length a.lc, .slice a.TA a.td.length a.tc, .slice a.GA a.gt.length a.gc, .bool a.dn, .bool a.sp, .int .u64 a.vw.r, .int .i64 a.vw.n, .int .u64 a.vw.i, .slice a.vw.MA a.vw.ms.length a.vw.mc, .slice a.vw.UA a.vw.us.length a.vw.uc]
abbrev Ag.v (a : Ag) : Value := .agg a.cs
/-! ### tells, turns -/
structure TuO (W : World) (C : List Nat) (u : Tu) : Prop where
  t : ∀ x ∈ u.ts, NtO W C x.nt
  tl : u.ts.length ≤ 1000
  p : PpO W C u.pp
  v : VwO W C u.vw
theorem TuO.tr {X W : World} {C C' : List Nat} {u : Tu} (h : TuO X C u) (r : Tr C C' X W) : TuO W C' u := ⟨fun x hx => (h.t x hx).tr r, h.tl, h.p.tr r, h.v.tr r⟩
structure Tu.Ok (W : World) (t : Tu) : Prop where
  o : TuO W [] t
  g : RO W Avoid.D 13 t.A t.ts.length (tes t.ts)
theorem Tu.Ok.step {X W : World} {t : Tu} (h : t.Ok X) (hb : Below X.heap.size X W) : t.Ok W := ⟨h.o.tr (.bel hb), h.g.tr (.bel hb)⟩
abbrev Tu.cs (t : Tu) : Array Value := #[.slice t.A t.ts.length t.c, .bool t.sd, .int .i64 t.pp.n, .int .u64 t.pp.i, .int .u64 t.pp.rd, .slice t.pp.SA t.pp.ss.length t.pp.sc, .slice t.pp.CA t.pp.cs.length t.pp.cc, .slice t.pp.UA t.pp.us.length t.pp.uc, .bool t.md, .int .u64 t.vw.r, .int .i64 t.vw.n, .int .u64 t.vw.i, .slice t.vw.MA t.vw.ms.length t.vw.mc, .slice t.vw.UA t.vw.us.length t.vw.uc]
abbrev Tu.v (t : Tu) : Value := .agg t.cs
abbrev mkC (a : Ag) (t : Tu) : Array Value := #[.int .i64 a.n, .int .u64 a.i, .int .u64 a.rd, .slice a.SA a.ss.length a.sc, .slice a.LA a.cl.length a.lc, .slice a.TA a.td.length a.tc, .slice a.GA a.gt.length a.gc, .bool a.dn, .bool a.sp, .int .u64 a.vw.r, .int .i64 a.vw.n, .int .u64 a.vw.i, .slice a.vw.MA a.vw.ms.length a.vw.mc, .slice a.vw.UA a.vw.us.length a.vw.uc, .slice t.A t.ts.length t.c, .bool t.sd, .int .i64 t.pp.n, .int .u64 t.pp.i, .int .u64 t.pp.rd, .slice t.pp.SA t.pp.ss.length t.pp.sc, .slice t.pp.CA t.pp.cs.length t.pp.cc, .slice t.pp.UA t.pp.us.length t.pp.uc, .bool t.md, .int .u64 t.vw.r, .int .i64 t.vw.n, .int .u64 t.vw.i, .slice t.vw.MA t.vw.ms.length t.vw.mc, .slice t.vw.UA t.vw.us.length t.vw.uc]
/-- an agreement in a turn that is being made, in block g; C: what may be written -/
structure MK (W : World) (C : List Nat) (g : Nat) (a : Ag) (t : Tu) : Prop where
  bx : BoxAt W g (mkC a t) 92
  gC : g ∈ C
  lt : ∀ i ∈ C ++ Avoid.D, i < W.heap.size
  go : W.ownsRow 0 41 6 (.slice a.GA a.gt.length a.gc) a.gt.length (pps a.gt)
  goC : ∀ b, (Value.slice a.GA a.gt.length a.gc).ownBlock = some b → b ∈ C ∧ b ≠ g
  tw : W.ownsRow 0 117 13 (.slice t.A t.ts.length t.c) t.ts.length (tes t.ts)
  twC : ∀ b, (Value.slice t.A t.ts.length t.c).ownBlock = some b → b ∈ C ∧ b ≠ g ∧ (Value.slice a.GA a.gt.length a.gc).ownBlock ≠ some b
  ao : AgO W C a
  uo : TuO W C t
theorem MK.ltC {W : World} {C : List Nat} {g : Nat} {a : Ag} {t : Tu} (h : MK W C g a t) : ∀ i ∈ C, i < W.heap.size := fun i hi => h.lt i (List.mem_append_left _ hi)
theorem MK.below {X W : World} {C : List Nat} {g : Nat} {a : Ag} {t : Tu} (h : MK X C g a t) (hb : Below X.heap.size X W) : MK W C g a t :=
  ⟨⟨by rw [hb.block g h.bx.lt]; exact h.bx.eq⟩, h.gC, fun i hi => Nat.lt_of_lt_of_le (h.lt i hi) hb.size, own_same h.go (fun i hi => hb.block i (h.lt i (List.mem_append_left _ (h.goC i hi).1))), h.goC, own_same h.tw (fun i hi => hb.block i (h.lt i (List.mem_append_left _ (h.twC i hi).1))), h.twC, h.ao.tr (.bel hb), h.uo.tr (.bel hb)⟩
/-- a store into a block of somebody else's -/
theorem MK.other {X W : World} {C : List Nat} {g : Nat} {a : Ag} {t : Tu} (h : MK X C g a t) {D : List Nat} (hg : Gr D X W) (hD : ∀ i ∈ D, i ∉ C) (ha : AgO W C a) (ht : TuO W C t) : MK W C g a t :=
  ⟨⟨by rw [hg.blk g h.bx.lt (fun hm => hD g hm h.gC)]; exact h.bx.eq⟩, h.gC, fun i hi => Nat.lt_of_lt_of_le (h.lt i hi) hg.size, own_same h.go (fun i hi => hg.blk i (h.lt i (List.mem_append_left _ (h.goC i hi).1)) (fun hm => hD i hm (h.goC i hi).1)), h.goC, own_same h.tw (fun i hi => hg.blk i (h.lt i (List.mem_append_left _ (h.twC i hi).1)) (fun hm => hD i hm (h.twC i hi).1)), h.twC, ha, ht⟩
end Go.Proofs.YtkglclekieckoaaGreat
