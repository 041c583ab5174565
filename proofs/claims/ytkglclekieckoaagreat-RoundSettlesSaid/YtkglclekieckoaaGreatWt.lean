/-
  Writers and readers in memory: what a step of theirs keeps; boxes that are read by the walk itself. Plain worlds, no code.
-/
import Derived.Test.YtkglclekieckoaaGreatBase
import Derived.Test.YtkglclekieckoaaGreatCmp
import Derived.Laws.BitsLemmas
namespace Go.Proofs.YtkglclekieckoaaGreat
set_option linter.unusedSimpArgs false
set_option linter.unusedVariables false
set_option linter.unusedSectionVars false
open Go.RowKit

/-- block n of w holds these cells -/
class BoxAt (w : World) (n : Nat) (cs : outParam (Array Value)) (t : outParam TypeId) : Prop where
  eq : w.heap[n]? = some (.cells cs t (0, 0))
theorem BoxAt.lt {w : World} {n : Nat} {cs : Array Value} {t : TypeId} (h : BoxAt w n cs t) : n < w.heap.size := (Array.getElem?_eq_some_iff.1 h.eq).1
instance InW.ofBox (w : World) (n : Nat) (cs : Array Value) (t : TypeId) [h : BoxAt w n cs t] : InW n w := ⟨h.lt⟩
@[go_sem] theorem cell?_box (w : World) (n i : Nat) (cs : Array Value) (t : TypeId) [h : BoxAt w n cs t] : w.cell? ⟨n, i, none⟩ = cs[i]? := by simp [World.cell?, h.eq]
@[go_sem] theorem frozen?_box (w : World) (n i : Nat) (cs : Array Value) (t : TypeId) [h : BoxAt w n cs t] : w.frozen? ⟨n, i, none⟩ = false := by simp [World.frozen?, h.eq]
theorem BoxAt.alloc' {w : World} {n : Nat} {cs : Array Value} {t : TypeId} (h : BoxAt w n cs t) (o : Obj) : BoxAt (w.alloc o) n cs t := ⟨by rw [Below.heap_alloc _ _ _ h.lt]; exact h.eq⟩
theorem boxTop (w : World) (cs : Array Value) (t : TypeId) : BoxAt (w.alloc (.cells cs t)) w.heap.size cs t := ⟨heap_alloc_new _ _⟩

/-- kept but for the writer at block g whose row is v's: w becomes w', v becomes v' -/
structure WStep (g : Nat) (v : Value) (w : World) (v' : Value) (w' : World) : Prop where
  os : w'.os = w.os
  tape : w'.tape = w.tape
  output : w'.output = w.output
  size : w.heap.size ≤ w'.heap.size
  block : ∀ k, k < w.heap.size → k ≠ g → v.ownBlock ≠ some k → w'.heap[k]? = w.heap[k]?
  own : v'.ownBlock = v.ownBlock ∨ ∃ k, w.heap.size ≤ k ∧ v'.ownBlock = some k
theorem WStep.refl (g : Nat) (v : Value) (w : World) : WStep g v w v w := ⟨rfl, rfl, rfl, Nat.le_refl _, fun _ _ _ _ => rfl, .inl rfl⟩
theorem WStep.below {g : Nat} {v : Value} {w w' : World} (h : Below w.heap.size w w') : WStep g v w v w' := ⟨h.os, h.tape, h.output, h.size, fun k hk _ _ => h.block k hk, .inl rfl⟩
theorem WStep.trans {g : Nat} {v v1 v2 : Value} {w w1 w2 : World} (h : WStep g v w v1 w1) (k : WStep g v1 w1 v2 w2) : WStep g v w v2 w2 where
  os := k.os.trans h.os
  tape := k.tape.trans h.tape
  output := k.output.trans h.output
  size := Nat.le_trans h.size k.size
  block i hi hg hv := by
    rw [k.block i (Nat.lt_of_lt_of_le hi h.size) hg, h.block i hi hg hv]
    rcases h.own with e | ⟨n, hn, e⟩
    · rw [e]; exact hv
    · rw [e]; intro e'; injection e' with e'; omega
  own := by
    rcases k.own with e | ⟨n, hn, e⟩
    · rw [e]; exact h.own
    · exact .inr ⟨n, Nat.le_trans h.size hn, e⟩

/-- a block that is not the writer's -/
theorem WStep.boxAt {w w' : World} {g n : Nat} {v v' : Value} {cs : Array Value} {t : TypeId} (k : WStep g v w v' w') (b : BoxAt w n cs t) (hg : n ≠ g) (hv : v.ownBlock ≠ some n) : BoxAt w' n cs t :=
  ⟨by rw [k.block n b.lt hg hv]; exact b.eq⟩
/-- a slice that lies apart from the writer -/
def RdW (w : World) (g : Nat) (v : Value) (k : Nat) (A : Option Addr) (n : Nat) (xs : List Value) : Prop :=
  xs.length = n * k ∧ (0 < n → ∃ b off, A = some ⟨b, off, none⟩ ∧ b < w.heap.size ∧ b ≠ g ∧ v.ownBlock ≠ some b ∧ ∀ j u, xs[j]? = some u → w.cell? ⟨b, off + j, none⟩ = some u)
theorem RdW.reads {w : World} {g : Nat} {v : Value} {k n : Nat} {A : Option Addr} {xs : List Value} (h : RdW w g v k A n xs) : Reads w w.heap.size k A n xs :=
  ⟨h.1, fun hn => by obtain ⟨b, off, e, hb, _, _, hc⟩ := h.2 hn; exact ⟨b, off, e, hb, hc⟩⟩
theorem RdW.step {w w' : World} {g : Nat} {v v' : Value} {k n : Nat} {A : Option Addr} {xs : List Value} (h : RdW w g v k A n xs) (s : WStep g v w v' w') : RdW w' g v' k A n xs :=
  ⟨h.1, fun hn => by
    obtain ⟨b, off, e, hb, hg, hv, hc⟩ := h.2 hn
    refine ⟨b, off, e, Nat.lt_of_lt_of_le hb s.size, hg, ?_, fun j u hu => (World.cell?_of_block (a := ⟨b, off + j, none⟩) (s.block b hb hg hv)).trans (hc j u hu)⟩
    rcases s.own with e' | ⟨m, hm, e'⟩
    · rw [e']; exact hv
    · rw [e']; intro e2; injection e2 with e2; omega⟩
theorem RdW.nil {w : World} {g : Nat} {v : Value} {k : Nat} {A : Option Addr} : RdW w g v k A 0 [] := ⟨by simp, fun h => absurd h (by omega)⟩

/-! ### readers -/
end Go.Proofs.YtkglclekieckoaaGreat

namespace Go.Proofs.YtkglclekieckoaaGreat
set_option linter.unusedSimpArgs false
set_option linter.unusedVariables false
set_option linter.unusedSectionVars false
open Go.RowKit

theorem and127 {x : Int} (h0 : 0 ≤ x) (h1 : x ≤ 18446744073709551615) : bits .and .u64 x 127 = x % 128 := bits_mask .u64 64 (by decide) (fun n h h' => IntWalk.u64_in _ ⟨by omega, by omega⟩) 7 (by decide) x h0 (by omega)
theorem or128 {y : Int} (h0 : 0 ≤ y) (h1 : y < 128) : bits .or .u64 y 128 = y + 128 := by
  obtain ⟨n, rfl⟩ := Int.eq_ofNat_of_zero_le h0
  have e := (bits_nat .u64 64 (by decide) (fun n h h' => IntWalk.u64_in _ ⟨by omega, by omega⟩) n 128 (by omega) (by omega)).2
  have e2 := Nat.two_pow_add_eq_or_of_lt (i := 7) (b := n) (by omega) 1
  have e3 : bits .or .u64 (n : Int) 128 = ((n ||| 128 : Nat) : Int) := e
  rw [e3, Nat.or_comm]
  simp at e2
  rw [← e2]; omega

/-- short numbers, one behind the other -/
def uintsB (l : List Int) : List Int := l.flatMap uintB
theorem uintsB_take {l : List Int} {k : Nat} {x : Int} (h : l[k]? = some x) : uintsB (l.take (k + 1)) = uintsB (l.take k) ++ uintB x := by
  rw [List.take_add_one, h]; simp [uintsB]
theorem uintsB_len (l : List Int) : (uintsB l).length ≤ l.length * 10 := by
  induction l with
  | nil => simp [uintsB]
  | cons x l ih =>
    have := uintB_len x
    simp [uintsB] at ih ⊢; omega
def ucs (l : List Int) : List Value := l.map (Value.int .u64)
theorem ucs_len (l : List Int) : (ucs l).length = l.length * 1 := by simp [ucs]
def wfU64 (x : Int) : Prop := 0 ≤ x ∧ x ≤ 18446744073709551615
theorem RdW.atU {w : World} {g : Nat} {v : Value} {A : Option Addr} {n k : Nat} {l : List Int} (h : RdW w g v 1 A n (ucs l)) (hk : k < n) :
    ∃ b off x, A = some ⟨b, off, none⟩ ∧ b < w.heap.size ∧ l[k]? = some x ∧ w.cell? ⟨b, off + k, none⟩ = some (.int .u64 x) := by
  obtain ⟨b, off, rfl, hb, _, _, hc⟩ := h.2 (by omega)
  have hl : k < l.length := by have := h.1; rw [ucs_len] at this; omega
  exact ⟨b, off, l[k], rfl, hb, List.getElem?_eq_getElem hl, hc k _ (by simp [ucs, hl])⟩
/-- a life's bytes -/
def procB (p : Int × Int) : List Int := p.1 % 256 :: uintB p.2
def procsB (l : List (Int × Int)) : List Int := l.flatMap procB
theorem procsB_take {l : List (Int × Int)} {k : Nat} {x : Int × Int} (h : l[k]? = some x) : procsB (l.take (k + 1)) = procsB (l.take k) ++ [x.1 % 256] ++ uintB x.2 := by
  rw [List.take_add_one, h]; simp [procsB, procB]
theorem procsB_len (l : List (Int × Int)) : (procsB l).length ≤ l.length * 11 := by
  induction l with
  | nil => simp [procsB]
  | cons x l ih =>
    have := uintB_len x.2
    simp [procsB, procB] at ih ⊢; omega
theorem RdW.at2 {w : World} {g : Nat} {v : Value} {A : Option Addr} {n k : Nat} {l : List (Int × Int)} (h : RdW w g v 2 A n (pcs l)) (hk : k < n) :
    ∃ b off p, A = some ⟨b, off, none⟩ ∧ b < w.heap.size ∧ l[k]? = some p ∧ w.cell? ⟨b, off + k * 2, none⟩ = some (.int .i64 p.1) ∧ w.cell? ⟨b, off + k * 2 + 1, none⟩ = some (.int .u64 p.2) := h.reads.at2 hk
end Go.Proofs.YtkglclekieckoaaGreat

namespace Go.Proofs.YtkglclekieckoaaGreat
set_option linter.unusedSimpArgs false
set_option linter.unusedVariables false
set_option linter.unusedSectionVars false
open Go.RowKit

abbrev bxI3 (r n i : Int) : Obj := .cells #[.int .u64 r, .int .i64 n, .int .u64 i] 33
/-- the bytes of a view's name -/
def vidB (r n i : Int) : List Int := uintB r ++ procB (n, i)
theorem vidB_len (r n i : Int) : (vidB r n i).length ≤ 21 := by
  have := uintB_len r
  have := uintB_len i
  simp [vidB, procB]; omega
/-- the bytes of a view -/
def viewB (r n i : Int) (ms : List (Int × Int)) (us : List Int) : List Int := vidB r n i ++ [(ms.length : Int) % 256] ++ procsB ms ++ uintsB us
abbrev bxV (r n i : Int) (MA : Option Addr) (ml mc : Nat) (UA : Option Addr) (ul uc : Nat) : Obj := .cells #[.int .u64 r, .int .i64 n, .int .u64 i, .slice MA ml mc, .slice UA ul uc] 36
/-- bytes of one's own -/
def OwnB (w : World) (base : Nat) (v : Value) (bs : List Int) : Prop := w.ownsRow base 5 1 v bs.length (bcs bs)
end Go.Proofs.YtkglclekieckoaaGreat
