/-
  Writers and readers in memory: what a step of theirs keeps; boxes that are read by the walk itself. Plain worlds, no code.
-/
import Derived.Test.YtniogmefbjfoaaaGreatBase
import Derived.Test.YtniogmefbjfoaaaGreatCmp
import Derived.Laws.BitsLemmas
namespace Go.Proofs.YtniogmefbjfoaaaGreat
set_option linter.unusedSimpArgs false
set_option linter.unusedVariables false
set_option linter.unusedSectionVars false
open Go.RowKit

/-- block n of w holds these cells -/
class BoxAt (w : World) (n : Nat) (cs : outParam (Array Value)) (t : outParam TypeId) : Prop where
  eq : w.heap[n]? = some (.cells cs t (0, 0))
theorem BoxAt.lt {w : World} {n : Nat} {cs : Array Value} {t : TypeId} (h : BoxAt w n cs t) : n < w.heap.size := (Array.getElem?_eq_some_iff.1 h.eq).1
instance InW.ofBox (w : World) (n : Nat) (cs : Array Value) (t : TypeId) [h : BoxAt w n cs t] : InW n w := ⟨h.lt⟩
@[go_sem] theorem cell?_box (w : World) (n i : Nat) (cs : Array Value) (t : TypeId) [h : BoxAt w n cs t] : w.cell? ⟨n, i, none⟩ = cs[i]? := by simp [World.cell?, h.eq]
@[go_sem] theorem frozen?_box (w : World) (n i : Nat) (cs : Array Value) (t : TypeId) [h : BoxAt w n cs t] : w.frozen? ⟨n, i, none⟩ = false := by simp [World.frozen?, h.eq]
theorem BoxAt.alloc' {w : World} {n : Nat} {cs : Array Value} {t : TypeId} (h : BoxAt w n cs t) (o : Obj) : BoxAt (w.alloc o) n cs t := ⟨by rw [Below.heap_alloc _ _ _ h.lt]; exact h.eq⟩
theorem boxTop (w : World) (cs : Array Value) (t : TypeId) : BoxAt (w.alloc (.cells cs t)) w.heap.size cs t := ⟨heap_alloc_new _ _⟩

/-- kept but for the writer at block g whose row is v's: w becomes w', v becomes v' -/
structure WStep (g : Nat) (v : Value) (w : World) (v' : Value) (w' : World) : Prop where
  os : w'.os = w.os
  tape : w'.tape = w.tape
  output : w'.output = w.output
  size : w.heap.size ≤ w'.heap.size
  block : ∀ k, k < w.heap.size → k ≠ g → v.ownBlock ≠ some k → w'.heap[k]? = w.heap[k]?
  own : v'.ownBlock = v.ownBlock ∨ ∃ k, w.heap.size ≤ k ∧ v'.ownBlock = some k
theorem WStep.refl (g : Nat) (v : Value) (w : World) : WStep g v w v w := ⟨rfl, rfl, rfl, Nat.le_refl _, fun _ _ _ _ => rfl, .inl rfl⟩
theorem WStep.below {g : Nat} {v : Value} {w w' : World} (h : Below w.heap.size w w') : WStep g v w v w' := ⟨h.os, h.tape, h.output, h.size, fun k hk _ _ => h.block k hk, .inl rfl⟩
theorem WStep.trans {g : Nat} {v v1 v2 : Value} {w w1 w2 : World} (h : WStep g v w v1 w1) (k : WStep g v1 w1 v2 w2) : WStep g v w v2 w2 where
  os := k.os.trans h.os
  tape := k.tape.trans h.tape
  output := k.output.trans h.output
  size := Nat.le_trans h.size k.size
  block i hi hg hv := by
    rw [k.block i (Nat.lt_of_lt_of_le hi h.size) hg, h.block i hi hg hv]
    rcases h.own with e | ⟨n, hn, e⟩
    · rw [e]; exact hv
    · rw [e]; intro e'; injection e' with e'; omega
  own := by
    rcases k.own with e | ⟨n, hn, e⟩
    · rw [e]; exact h.own
    · exact .inr ⟨n, Nat.le_trans h.size hn, e⟩

/-- a block that is not the writer's -/
theorem WStep.boxAt {w w' : World} {g n : Nat} {v v' : Value} {cs : Array Value} {t : TypeId} (k : WStep g v w v' w') (b : BoxAt w n cs t) (hg : n ≠ g) (hv : v.ownBlock ≠ some n) : BoxAt w' n cs t :=
  ⟨by rw [k.block n b.lt hg hv]; exact b.eq⟩
/-- a slice that lies apart from the writer -/
def RdW (w : World) (g : Nat) (v : Value) (k : Nat) (A : Option Addr) (n : Nat) (xs : List Value) : Prop :=
  xs.length = n * k ∧ (0 < n → ∃ b off, A = some ⟨b, off, none⟩ ∧ b < w.heap.size ∧ b ≠ g ∧ v.ownBlock ≠ some b ∧ ∀ j u, xs[j]? = some u → w.cell? ⟨b, off + j, none⟩ = some u)
theorem RdW.reads {w : World} {g : Nat} {v : Value} {k n : Nat} {A : Option Addr} {xs : List Value} (h : RdW w g v k A n xs) : Reads w w.heap.size k A n xs :=
  ⟨h.1, fun hn => by obtain ⟨b, off, e, hb, _, _, hc⟩ := h.2 hn; exact ⟨b, off, e, hb, hc⟩⟩
theorem RdW.step {w w' : World} {g : Nat} {v v' : Value} {k n : Nat} {A : Option Addr} {xs : List Value} (h : RdW w g v k A n xs) (s : WStep g v w v' w') : RdW w' g v' k A n xs :=
  ⟨h.1, fun hn => by
    obtain ⟨b, off, e, hb, hg, hv, hc⟩ := h.2 hn
    refine ⟨b, off, e, Nat.lt_of_lt_of_le hb s.size, hg, ?_, fun j u hu => (World.cell?_of_block (a := ⟨b, off + j, none⟩) (s.block b hb hg hv)).trans (hc j u hu)⟩
    rcases s.own with e' | ⟨m, hm, e'⟩
    · rw [e']; exact hv
    · rw [e']; intro e2; injection e2 with e2; omega⟩
theorem RdW.nil {w : World} {g : Nat} {v : Value} {k : Nat} {A : Option Addr} : RdW w g v k A 0 [] := ⟨by simp, fun h => absurd h (by omega)⟩

/-! ### readers -/
end Go.Proofs.YtniogmefbjfoaaaGreat

namespace Go.Proofs.YtniogmefbjfoaaaGreat
set_option linter.unusedSimpArgs false
set_option linter.unusedVariables false
set_option linter.unusedSectionVars false
open Go.RowKit

theorem Tryz.okB : ElemOk Tryz.prog 37 5 1 1 := elemOk_of (.int .u8 0) Tryz.underlying37 (by kernel_rfl) rfl (by omega)

theorem and127 {x : Int} (h0 : 0 ≤ x) (h1 : x ≤ 18446744073709551615) : bits .and .u64 x 127 = x % 128 := bits_mask .u64 64 (by decide) (fun n h h' => IntWalk.u64_in _ ⟨by omega, by omega⟩) 7 (by decide) x h0 (by omega)
theorem or128 {y : Int} (h0 : 0 ≤ y) (h1 : y < 128) : bits .or .u64 y 128 = y + 128 := by
  obtain ⟨n, rfl⟩ := Int.eq_ofNat_of_zero_le h0
  have e := (bits_nat .u64 64 (by decide) (fun n h h' => IntWalk.u64_in _ ⟨by omega, by omega⟩) n 128 (by omega) (by omega)).2
  have e2 := Nat.two_pow_add_eq_or_of_lt (i := 7) (b := n) (by omega) 1
  have e3 : bits .or .u64 (n : Int) 128 = ((n ||| 128 : Nat) : Int) := e
  rw [e3, Nat.or_comm]
  simp at e2
  rw [← e2]; omega

/-- short numbers, one behind the other -/
def uintsB (l : List Int) : List Int := l.flatMap uintB
theorem uintsB_take {l : List Int} {k : Nat} {x : Int} (h : l[k]? = some x) : uintsB (l.take (k + 1)) = uintsB (l.take k) ++ uintB x := by
  rw [List.take_add_one, h]; simp [uintsB]
theorem uintsB_len (l : List Int) : (uintsB l).length ≤ l.length * 10 := by
  induction l with
  | nil => simp [uintsB]
  | cons x l ih =>
    have := uintB_len x
    simp [uintsB] at ih ⊢; omega
def ucs (l : List Int) : List Value := l.map (Value.int .u64)
theorem ucs_len (l : List Int) : (ucs l).length = l.length * 1 := by simp [ucs]
def wfU64 (x : Int) : Prop := 0 ≤ x ∧ x ≤ 18446744073709551615
theorem RdW.atU {w : World} {g : Nat} {v : Value} {A : Option Addr} {n k : Nat} {l : List Int} (h : RdW w g v 1 A n (ucs l)) (hk : k < n) :
    ∃ b off x, A = some ⟨b, off, none⟩ ∧ b < w.heap.size ∧ l[k]? = some x ∧ w.cell? ⟨b, off + k, none⟩ = some (.int .u64 x) := by
  obtain ⟨b, off, rfl, hb, _, _, hc⟩ := h.2 (by omega)
  have hl : k < l.length := by have := h.1; rw [ucs_len] at this; omega
  exact ⟨b, off, l[k], rfl, hb, List.getElem?_eq_getElem hl, hc k _ (by simp [ucs, hl])⟩
/-- a life's bytes -/
def procB (p : Int × Int) : List Int := p.1 % 256 :: uintB p.2
def procsB (l : List (Int × Int)) : List Int := l.flatMap procB
theorem procsB_take {l : List (Int × Int)} {k : Nat} {x : Int × Int} (h : l[k]? = some x) : procsB (l.take (k + 1)) = procsB (l.take k) ++ [x.1 % 256] ++ uintB x.2 := by
  rw [List.take_add_one, h]; simp [procsB, procB]
theorem procsB_len (l : List (Int × Int)) : (procsB l).length ≤ l.length * 11 := by
  induction l with
  | nil => simp [procsB]
  | cons x l ih =>
    have := uintB_len x.2
    simp [procsB, procB] at ih ⊢; omega
theorem RdW.at2 {w : World} {g : Nat} {v : Value} {A : Option Addr} {n k : Nat} {l : List (Int × Int)} (h : RdW w g v 2 A n (pcs l)) (hk : k < n) :
    ∃ b off p, A = some ⟨b, off, none⟩ ∧ b < w.heap.size ∧ l[k]? = some p ∧ w.cell? ⟨b, off + k * 2, none⟩ = some (.int .i64 p.1) ∧ w.cell? ⟨b, off + k * 2 + 1, none⟩ = some (.int .u64 p.2) := h.reads.at2 hk
end Go.Proofs.YtniogmefbjfoaaaGreat

namespace Go.Proofs.YtniogmefbjfoaaaGreat
set_option linter.unusedSimpArgs false
set_option linter.unusedVariables false
set_option linter.unusedSectionVars false
open Go.RowKit

/-- the bytes of a view's name -/
def vidB (r n i : Int) : List Int := uintB r ++ procB (n, i)
theorem vidB_len (r n i : Int) : (vidB r n i).length ≤ 21 := by
  have := uintB_len r
  have := uintB_len i
  simp [vidB, procB]; omega
/-- the bytes of a view -/
def viewB (r n i : Int) (ms : List (Int × Int)) (us : List Int) : List Int := vidB r n i ++ [(ms.length : Int) % 256] ++ procsB ms ++ uintsB us
/-- bytes of one's own -/
def OwnB (w : World) (base : Nat) (v : Value) (bs : List Int) : Prop := w.ownsRow base 5 1 v bs.length (bcs bs)
set_option maxHeartbeats 400000 in
theorem cloneB_s (A : Option Addr) (c : Nat) (bs : List Int) (w : World) (h : Reads w w.heap.size 1 A bs.length (bcs bs)) (hn : bs.length ≤ 1000000) :
    Calls Tryz.prog 56 #[.slice A bs.length c] w fun e w' => ∃ v, e = .returned v ∧ OwnB w' w.heap.size v bs ∧ Below w.heap.size w w' := by
  cases A with
  | none =>
    have h0 : bs.length = 0 := by
      rcases Nat.eq_zero_or_pos bs.length with h' | h'
      · exact h'
      · obtain ⟨_, _, h'', _⟩ := h.2 h'; cases h''
    have hl : bs = [] := List.eq_nil_of_length_eq_zero h0
    subst hl
    clear h h0
    have hnil : ∀ W c, (binOp .eql 37 (.slice none 0 c) (.slice none 0 0)).run Tryz.prog W = .ok (.bool true) W := fun W c => Lib.run_eql_slice_nil W 37 5 none 0 c 0 0 Tryz.underlying37
    rw [show ([] : List Int).length = 0 from rfl]
    go_enter Tryz.func56, Tryz.ntmps56
    go_wp2
    go_ret
    exact ⟨_, rfl, World.ownsRow_nil _ _ _ _, Below.refl _ _⟩
  | some ad =>
    have hnil : ∀ W, (binOp .eql 37 (.slice (some ad) bs.length c) (.slice none 0 0)).run Tryz.prog W = .ok (.bool false) W := fun W => Lib.run_eql_slice_nil W 37 5 (some ad) bs.length c 0 0 Tryz.underlying37
    go_enter Tryz.func56, Tryz.ntmps56
    go_wp2_with (at_builtin; go_must (refine wpList_append_any _ Tryz.okB (by rfl) (.tmp 5) (.tmp 6) (by rfl) w.heap.size (.slice (some ⟨w.heap.size, 0, none⟩) 0 0) 0 [] (by rfl) (World.ownsRow_lit w #[] 0 (Nat.le_refl _) (by unfold maxLen; omega) rfl) w.heap.size (some ad) bs.length c (bcs bs) (by rfl) (h.alloc (Nat.le_refl _) _) (bcs_one bs) (by unfold maxLen; omega) (by omega) (by simp) ?_); intro v1 w1 hown1 hg1 hnil1 hat1)
    go_ret
    rw [Nat.zero_add, List.nil_append] at hown1
    exact ⟨_, rfl, hown1, (below_alloc w _).grown hg1 (by simp) (by simp [Value.ownBlock])⟩
end Go.Proofs.YtniogmefbjfoaaaGreat

namespace Go.Proofs.YtniogmefbjfoaaaGreat
set_option linter.unusedSimpArgs false
set_option linter.unusedVariables false
set_option linter.unusedSectionVars false
open Go.RowKit

/-- the world right ahead of W: all that was there is as it was -/
class Stp (X : outParam World) (W : World) : Prop where
  h : Below X.heap.size X W
instance Stp.al (w : World) (o : Obj) : Stp w (w.alloc o) := ⟨below_alloc w o⟩
instance Stp.dr (w : World) : Stp w w.drew := ⟨(Below.refl _ _).drew⟩
instance Stp.drN (w : World) (n : Nat) : Stp w (w.drewN n) := ⟨below_drewN (Below.refl _ _) n⟩
instance Stp.gw (w : World) (d : Nat) (os : Array Obj) : Stp w (gw w d os) := ⟨below_gw w d os⟩
/-- all of a is as it was in W -/
class Blw (a W : World) : Prop where
  h : Below a.heap.size a W
instance (priority := high) Blw.rf (a : World) : Blw a a := ⟨Below.refl _ _⟩
instance Blw.stp (a X W : World) [s : Stp X W] [k : Blw a X] : Blw a W := ⟨below_step k.h s.h⟩
theorem blw {a W : World} [k : Blw a W] : Below a.heap.size a W := k.h
theorem Blw.size {a W : World} (k : Blw a W) : a.heap.size ≤ W.heap.size := k.h.size

instance BoxAt.stp (X W : World) (n : Nat) (cs : Array Value) (t : TypeId) [s : Stp X W] [k : BoxAt X n cs t] : BoxAt W n cs t := ⟨by rw [s.h.block n k.lt]; exact k.eq⟩
instance (priority := high) BoxAt.top (w : World) (n : Nat) (cs : Array Value) (t : TypeId) [h : Sz w n] : BoxAt (w.alloc (.cells cs t)) n cs t := ⟨by have := boxTop w cs t; rw [h.eq] at this; exact this.eq⟩

/-- a slice that came in, at the world w -/
class Src (w : outParam World) (A : Option Addr) (n : Nat) (k : outParam Nat) (xs : outParam (List Value)) : Prop where
  h : Reads w w.heap.size k A n xs
theorem src {w W : World} {A : Option Addr} {n k : Nat} {xs : List Value} [s : Src w A n k xs] [b : Blw w W] : Reads W W.heap.size k A n xs := (s.h.below b.h).more b.h.size
theorem srcB {w W : World} {A : Option Addr} {n k : Nat} {xs : List Value} [s : Src w A n k xs] [b : Blw w W] : Reads W w.heap.size k A n xs := s.h.below b.h

theorem own_tc {a W : World} {base : Nat} {e : TypeId} {k n : Nat} {v : Value} {xs : List Value} (h : a.ownsRow base e k v n xs) [b : Blw a W] : W.ownsRow base e k v n xs := own_below h b.h (Nat.le_refl _)
theorem reads_b1x (W : World) (m : Nat) (x : Int) [h : BoxAt W m #[.int .u8 x] 5] : Reads W W.heap.size 1 (some ⟨m, 0, none⟩) 1 (bcs [x]) :=
  ⟨rfl, fun _ => ⟨_, _, rfl, h.lt, fun j u hu => by
    cases j with
    | zero => simp [bcs] at hu; subst hu; rw [cell?_box]; rfl
    | succ j => simp [bcs] at hu⟩⟩
theorem reads_b1e (W : World) (m : Nat) (x y : Int) (e : x = y) [h : BoxAt W m #[.int .u8 x] 5] : Reads W W.heap.size 1 (some ⟨m, 0, none⟩) 1 (bcs [y]) := by subst e; exact reads_b1x W m x
theorem reads_p1x (W : World) (m : Nat) (n i : Int) [h : BoxAt W m #[.int .i64 n, .int .u64 i] 24] : Reads W W.heap.size 2 (some ⟨m, 0, none⟩) 1 (pcs [(n, i)]) :=
  ⟨rfl, fun _ => ⟨_, _, rfl, h.lt, fun j u hu => by
    match j, hu with
    | 0, hu => simp [pcs, pc] at hu; subst hu; rw [cell?_box]; rfl
    | 1, hu => simp [pcs, pc] at hu; subst hu; rw [cell?_box]; rfl
    | j + 2, hu => simp [pcs, pc] at hu⟩⟩
/-! single cells -/
class CellAt (W : World) (b i : Nat) (v : outParam Value) : Prop where
  lt : b < W.heap.size
  h : W.cell? ⟨b, i, none⟩ = some v
instance CellAt.stp (X W : World) (b i : Nat) (v : Value) [s : Stp X W] [k : CellAt X b i v] : CellAt W b i v := ⟨Nat.lt_of_lt_of_le k.lt s.h.size, (s.h.cell (p := ⟨b, i, none⟩) k.lt).trans k.h⟩
@[go_sem] theorem cell?_ca (W : World) (b i : Nat) (v : Value) [k : CellAt W b i v] : W.cell? ⟨b, i, none⟩ = some v := k.h
/-! block numbers -/
class LeN (a b : Nat) : Prop where
  h : a ≤ b
instance (priority := high) LeN.rf (a : Nat) : LeN a a := ⟨Nat.le_refl _⟩
instance LeN.s (a b : Nat) [h : LeN a b] : LeN a (b + 1) := ⟨Nat.le_succ_of_le h.h⟩
class LtN (a b : Nat) : Prop where
  h : a < b
instance (priority := high) LtN.rf (a : Nat) : LtN a (a + 1) := ⟨Nat.lt_succ_self _⟩
instance LtN.s (a b : Nat) [h : LtN a b] : LtN a (b + 1) := ⟨Nat.lt_succ_of_lt h.h⟩
class NeN (a b : Nat) : Prop where
  h : a ≠ b
instance NeN.l (a b : Nat) [h : LtN a b] : NeN a b := ⟨Nat.ne_of_lt h.h⟩
instance NeN.g (a b : Nat) [h : LtN b a] : NeN a b := ⟨(Nat.ne_of_lt h.h).symm⟩

/-! stores into boxes -/
instance BoxAt.setAt (W : World) (m i : Nat) (v : Value) (cs : Array Value) (t : TypeId) [k : BoxAt W m cs t] : BoxAt (W.setCell ⟨m, i, none⟩ v) m (cs.setIfInBounds i v) t := ⟨by
  have h := k.eq
  simp [World.setCell, Array.getElem?_modify, h]⟩
instance (priority := low) BoxAt.setNe (W : World) (n m i : Nat) (v : Value) (cs : Array Value) (t : TypeId) [k : BoxAt W n cs t] [e : NeN n m] : BoxAt (W.setCell ⟨m, i, none⟩ v) n cs t := ⟨by rw [Below.heap_setCell _ _ _ _ e.h]; exact k.eq⟩
instance Blw.set (a W : World) (m i : Nat) (v : Value) [k : Blw a W] [l : LeN a.heap.size m] : Blw a (W.setCell ⟨m, i, none⟩ v) := ⟨k.h.setCell (p := ⟨m, i, none⟩) l.h v⟩
/-- all below block B is kept -/
class StpB (B : outParam Nat) (X : outParam World) (W : World) : Prop where
  h : Below B X W
instance (priority := low) Blw.stpB (a X W : World) (B : Nat) [s : StpB B X W] [k : Blw a X] [l : LeN a.heap.size B] : Blw a W := ⟨k.h.trans (s.h.mono l.h)⟩
instance (priority := low) BoxAt.stpB (X W : World) (B n : Nat) (cs : Array Value) (t : TypeId) [s : StpB B X W] [k : BoxAt X n cs t] [l : LtN n B] : BoxAt W n cs t := ⟨by rw [s.h.block n l.h]; exact k.eq⟩
/-- a's blocks from B on are as they were -/
class Kpf (B : Nat) (a W : World) : Prop where
  s : a.heap.size ≤ W.heap.size
  h : ∀ k, B ≤ k → k < a.heap.size → W.heap[k]? = a.heap[k]?
instance (priority := high) Kpf.rf (B : Nat) (a : World) : Kpf B a a := ⟨Nat.le_refl _, fun _ _ _ => rfl⟩
instance Kpf.stp (B : Nat) (a X W : World) [s : Stp X W] [k : Kpf B a X] : Kpf B a W := ⟨Nat.le_trans k.s s.h.size, fun i h1 h2 => (s.h.block i (Nat.lt_of_lt_of_le h2 k.s)).trans (k.h i h1 h2)⟩
instance Kpf.set (B : Nat) (a W : World) (m i : Nat) (v : Value) [k : Kpf B a W] [l : LtN m B] : Kpf B a (W.setCell ⟨m, i, none⟩ v) := ⟨by simpa [World.setCell] using k.s, fun j h1 h2 => by
  rw [Below.heap_setCell _ _ _ _ (by have := l.h; show j ≠ m; omega)]; exact k.h j h1 h2⟩
instance (priority := low) Kpf.setHi (B : Nat) (a W : World) (m i : Nat) (v : Value) [k : Kpf B a W] [l : LeN a.heap.size m] : Kpf B a (W.setCell ⟨m, i, none⟩ v) := ⟨by simpa [World.setCell] using k.s, fun j h1 h2 => by
  rw [Below.heap_setCell _ _ _ _ (by have := l.h; show j ≠ m; omega)]; exact k.h j h1 h2⟩
theorem own_kp {a W : World} {base : Nat} {e : TypeId} {k n : Nat} {v : Value} {xs : List Value} (h : a.ownsRow base e k v n xs) [b : Kpf base a W] : W.ownsRow base e k v n xs := by
  refine ⟨h.1, h.2.imp id ?_⟩
  rintro ⟨g, cap, cur, rfl, hbase, hg, h1⟩
  refine ⟨g, cap, cur, rfl, hbase, ?_, h1⟩
  rw [b.h g hbase (Array.getElem?_eq_some_iff.1 hg).1]; exact hg
/-! append, its source found behind its value -/
theorem step_append_w {P : Program} {w : World} {ops : Array Oper} {o : Oper} {a : Act} {K : Act → World → Prop} {Q : Exit → Act → World → Prop} {R : Prop} {t e : TypeId} {k bytes : Nat} (E : ElemOk P t e k bytes) (hgd : o.guard = none) (s x : Operand)
    (ho : o.op = .call { callee := .builtin .append, args := #[s, x], argTypes := #[t, t] }) (base : Nat)
    (v : Value) (n : Nat) (xs : List Value) (m : Nat) (news : List Value) (hs : a.eval s = v) (hown : w.ownsRow base e k v n xs)
    (hx : ∃ A c, a.eval x = .slice A m c ∧ Reads w w.heap.size k A m news) (h1 : ∀ u ∈ news, u.oneCell' = true)
    (h63 : n + m ≤ maxLen) (hbytes : (n + m) * bytes ≤ 140737488355328) (hbase : base ≤ w.heap.size)
    (h : ∀ v' w', w'.ownsRow base e k v' (n + m) (xs ++ news) → w.grownBy w' v.ownBlock → K (a.put o.dst v') w') :
    if Region.wanted o (yielded ops a.tmps) = true then Oper.wp P o a w K Q else R := by
  obtain ⟨A, c, hx, hr⟩ := hx
  exact step_append_any w E hgd s x ho base v n xs hs hown _ A m c news hx hr h1 h63 hbytes hbase fun v' w' h2 h3 _ _ => h v' w' h2 h3
theorem wpList_append_w {P : Program} {w : World} {ops : Array Oper} {rest : List Oper} {o : Oper} {a : Act} {Q : Exit → Act → World → Prop} {t e : TypeId} {k bytes : Nat} (E : ElemOk P t e k bytes) (hgd : o.guard = none) (s x : Operand)
    (ho : o.op = .call { callee := .builtin .append, args := #[s, x], argTypes := #[t, t] }) (base : Nat)
    (v : Value) (n : Nat) (xs : List Value) (m : Nat) (news : List Value) (hs : a.eval s = v) (hown : w.ownsRow base e k v n xs)
    (hx : ∃ A c, a.eval x = .slice A m c ∧ Reads w w.heap.size k A m news) (h1 : ∀ u ∈ news, u.oneCell' = true)
    (h63 : n + m ≤ maxLen) (hbytes : (n + m) * bytes ≤ 140737488355328) (hbase : base ≤ w.heap.size)
    (h : ∀ v' w', w'.ownsRow base e k v' (n + m) (xs ++ news) → w.grownBy w' v.ownBlock → wpList P ops Q rest (a.put o.dst v') w') : wpList P ops Q (o :: rest) a w := by
  obtain ⟨A, c, hx, hr⟩ := hx
  exact wpList_append_any w E hgd s x ho base v n xs hs hown _ A m c news hx hr h1 h63 hbytes hbase fun v' w' h2 h3 _ _ => h v' w' h2 h3
end Go.Proofs.YtniogmefbjfoaaaGreat
