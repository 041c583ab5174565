/-
  Writers and readers in memory: what a step of theirs keeps; boxes that are read by the walk itself. Plain worlds, no code.
-/
import Derived.Test.YtgpmcpinnaggmaaGw
import Derived.Test.YtgpmcpinnaggmaaBytes
namespace Go.Proofs.Ytgpmcpinnaggmaa
set_option linter.unusedSimpArgs false
set_option linter.unusedVariables false
set_option linter.unusedSectionVars false
open Go.RowKit

/-- block n of w holds these cells -/
class BoxAt (w : World) (n : Nat) (cs : outParam (Array Value)) (t : outParam TypeId) : Prop where
  eq : w.heap[n]? = some (.cells cs t (0, 0))
theorem BoxAt.lt {w : World} {n : Nat} {cs : Array Value} {t : TypeId} (h : BoxAt w n cs t) : n < w.heap.size := (Array.getElem?_eq_some_iff.1 h.eq).1
instance InW.ofBox (w : World) (n : Nat) (cs : Array Value) (t : TypeId) [h : BoxAt w n cs t] : InW n w := ⟨h.lt⟩
@[go_sem] theorem cell?_box (w : World) (n i : Nat) (cs : Array Value) (t : TypeId) [h : BoxAt w n cs t] : w.cell? ⟨n, i, none⟩ = cs[i]? := by simp [World.cell?, h.eq]
@[go_sem] theorem frozen?_box (w : World) (n i : Nat) (cs : Array Value) (t : TypeId) [h : BoxAt w n cs t] : w.frozen? ⟨n, i, none⟩ = false := by simp [World.frozen?, h.eq]
theorem BoxAt.alloc' {w : World} {n : Nat} {cs : Array Value} {t : TypeId} (h : BoxAt w n cs t) (o : Obj) : BoxAt (w.alloc o) n cs t := ⟨by rw [Below.heap_alloc _ _ _ h.lt]; exact h.eq⟩
theorem boxTop (w : World) (cs : Array Value) (t : TypeId) : BoxAt (w.alloc (.cells cs t)) w.heap.size cs t := ⟨heap_alloc_new _ _⟩

/-- kept but for the writer at block g whose row is v's: w becomes w', v becomes v' -/
structure WStep (g : Nat) (v : Value) (w : World) (v' : Value) (w' : World) : Prop where
  os : w'.os = w.os
  tape : w'.tape = w.tape
  output : w'.output = w.output
  size : w.heap.size ≤ w'.heap.size
  block : ∀ k, k < w.heap.size → k ≠ g → v.ownBlock ≠ some k → w'.heap[k]? = w.heap[k]?
  own : v'.ownBlock = v.ownBlock ∨ ∃ k, w.heap.size ≤ k ∧ v'.ownBlock = some k
theorem WStep.refl (g : Nat) (v : Value) (w : World) : WStep g v w v w := ⟨rfl, rfl, rfl, Nat.le_refl _, fun _ _ _ _ => rfl, .inl rfl⟩
theorem WStep.below {g : Nat} {v : Value} {w w' : World} (h : Below w.heap.size w w') : WStep g v w v w' := ⟨h.os, h.tape, h.output, h.size, fun k hk _ _ => h.block k hk, .inl rfl⟩
theorem WStep.trans {g : Nat} {v v1 v2 : Value} {w w1 w2 : World} (h : WStep g v w v1 w1) (k : WStep g v1 w1 v2 w2) : WStep g v w v2 w2 where
  os := k.os.trans h.os
  tape := k.tape.trans h.tape
  output := k.output.trans h.output
  size := Nat.le_trans h.size k.size
  block i hi hg hv := by
    rw [k.block i (Nat.lt_of_lt_of_le hi h.size) hg, h.block i hi hg hv]
    rcases h.own with e | ⟨n, hn, e⟩
    · rw [e]; exact hv
    · rw [e]; intro e'; injection e' with e'; omega
  own := by
    rcases k.own with e | ⟨n, hn, e⟩
    · rw [e]; exact h.own
    · exact .inr ⟨n, Nat.le_trans h.size hn, e⟩

/-- the writer at block g has written the bytes bs; its row is v -/
structure Wtr (w : World) (g : Nat) (v : Value) (bs : List Int) : Prop where
  box : w.heap[g]? = some (.cells #[v] 126 (0, 0))
  own : w.ownsRow (g + 1) 5 1 v bs.length (bcs bs)
theorem Wtr.lt {w : World} {g : Nat} {v : Value} {bs : List Int} (h : Wtr w g v bs) : g < w.heap.size := (Array.getElem?_eq_some_iff.1 h.box).1
theorem Wtr.boxAt {w : World} {g : Nat} {v : Value} {bs : List Int} (h : Wtr w g v bs) : BoxAt w g #[v] 126 := ⟨h.box⟩
theorem Wtr.below {w w' : World} {g : Nat} {v : Value} {bs : List Int} (h : Wtr w g v bs) (hb : Below w.heap.size w w') : Wtr w' g v bs :=
  ⟨by rw [hb.block g h.lt]; exact h.box, own_below h.own hb (Nat.le_refl _)⟩
theorem Wtr.row_ne {w : World} {g : Nat} {v : Value} {bs : List Int} (h : Wtr w g v bs) : v.ownBlock ≠ some g := by
  intro e; have := (h.own.lt g e).1; omega
theorem Wtr.row_lt {w : World} {g : Nat} {v : Value} {bs : List Int} (h : Wtr w g v bs) {k : Nat} (hk : w.heap.size ≤ k) : v.ownBlock ≠ some k := by
  intro e; have := (h.own.lt k e).2; omega
/-- bytes are appended and stored -/
theorem Wtr.put {w w1 : World} {g : Nat} {v v1 : Value} {bs ns : List Int} (h : Wtr w g v bs) (ho : w1.ownsRow (g + 1) 5 1 v1 (bs.length + ns.length) (bcs bs ++ bcs ns)) (hg : w.grownBy w1 v.ownBlock) (ha : v1.ownBlock = v.ownBlock ∨ v1.ownBlock = some w.heap.size) :
    Wtr (w1.setCell ⟨g, 0, none⟩ v1) g v1 (bs ++ ns) ∧ WStep g v w v1 (w1.setCell ⟨g, 0, none⟩ v1) := by
  have hlt := h.lt
  have hb1 : w1.heap[g]? = some (.cells #[v] 126 (0, 0)) := by
    rw [hg.block g hlt (fun e => h.row_ne e.symm)]; exact h.box
  have hne1 : v1.ownBlock ≠ some g := by intro e; have := (ho.lt g e).1; omega
  refine ⟨⟨?_, ?_⟩, ⟨hg.os, hg.tape, hg.output, ?_, ?_, ?_⟩⟩
  · simp [World.setCell, Array.getElem?_modify, hb1]
  · rw [List.length_append, bcs_app]
    refine ⟨ho.1, ho.2.imp id ?_⟩
    rintro ⟨r, cap, cur, rfl, hbase, hr, h1⟩
    refine ⟨r, cap, cur, rfl, hbase, ?_, h1⟩
    rw [Below.heap_setCell _ _ _ _ (by show r ≠ g; omega)]; exact hr
  · have := hg.size; simpa [World.setCell] using this
  · intro k hk hkg hkv
    rw [Below.heap_setCell _ _ _ _ hkg, hg.block k hk (fun e => hkv e.symm)]
  · rcases ha with e | e
    · exact .inl e
    · exact .inr ⟨_, Nat.le_refl _, e⟩
/-- all below the writer is kept -/
theorem WStep.to_below {w w' : World} {g B : Nat} {v v' : Value} {bs : List Int} (h : Wtr w g v bs) (k : WStep g v w v' w') (hB : B ≤ g) : Below B w w' :=
  ⟨k.os, k.tape, k.output, k.size, fun i hi => k.block i (by have := h.lt; omega) (by omega) (fun e => by have := (h.own.lt i e).1; omega)⟩
/-- a block that is not the writer's -/
theorem WStep.boxAt {w w' : World} {g n : Nat} {v v' : Value} {cs : Array Value} {t : TypeId} (k : WStep g v w v' w') (b : BoxAt w n cs t) (hg : n ≠ g) (hv : v.ownBlock ≠ some n) : BoxAt w' n cs t :=
  ⟨by rw [k.block n b.lt hg hv]; exact b.eq⟩
/-- a slice that lies apart from the writer -/
def RdW (w : World) (g : Nat) (v : Value) (k : Nat) (A : Option Addr) (n : Nat) (xs : List Value) : Prop :=
  xs.length = n * k ∧ (0 < n → ∃ b off, A = some ⟨b, off, none⟩ ∧ b < w.heap.size ∧ b ≠ g ∧ v.ownBlock ≠ some b ∧ ∀ j u, xs[j]? = some u → w.cell? ⟨b, off + j, none⟩ = some u)
theorem RdW.reads {w : World} {g : Nat} {v : Value} {k n : Nat} {A : Option Addr} {xs : List Value} (h : RdW w g v k A n xs) : Reads w w.heap.size k A n xs :=
  ⟨h.1, fun hn => by obtain ⟨b, off, e, hb, _, _, hc⟩ := h.2 hn; exact ⟨b, off, e, hb, hc⟩⟩
theorem RdW.step {w w' : World} {g : Nat} {v v' : Value} {k n : Nat} {A : Option Addr} {xs : List Value} (h : RdW w g v k A n xs) (s : WStep g v w v' w') : RdW w' g v' k A n xs :=
  ⟨h.1, fun hn => by
    obtain ⟨b, off, e, hb, hg, hv, hc⟩ := h.2 hn
    refine ⟨b, off, e, Nat.lt_of_lt_of_le hb s.size, hg, ?_, fun j u hu => (World.cell?_of_block (a := ⟨b, off + j, none⟩) (s.block b hb hg hv)).trans (hc j u hu)⟩
    rcases s.own with e' | ⟨m, hm, e'⟩
    · rw [e']; exact hv
    · rw [e']; intro e2; injection e2 with e2; omega⟩
theorem RdW.of_reads {w : World} {g : Nat} {v : Value} {bs : List Int} {k n : Nat} {A : Option Addr} {xs : List Value} (hw : Wtr w g v bs) (h : Reads w g k A n xs) : RdW w g v k A n xs :=
  ⟨h.1, fun hn => by
    obtain ⟨b, off, e, hb, hc⟩ := h.2 hn
    refine ⟨b, off, e, by have := hw.lt; omega, by omega, fun e' => ?_, hc⟩
    have := (hw.own.lt b e').1; omega⟩
theorem RdW.nil {w : World} {g : Nat} {v : Value} {k : Nat} {A : Option Addr} : RdW w g v k A 0 [] := ⟨by simp, fun h => absurd h (by omega)⟩

/-- the post of what a writer's method does -/
def RetWr (g : Nat) (v : Value) (w : World) (bs : List Int) (e : Ending) (w' : World) : Prop := e = .returned (.tuple #[]) ∧ ∃ v', Wtr w' g v' bs ∧ WStep g v w v' w'

/-! ### readers -/
/-- the reader at block g has the bytes bs left, none if it has failed (bad) -/
structure Rdr (w : World) (g : Nat) (bs : List Int) (bad : Bool) : Prop where
  box : ∃ A c, w.heap[g]? = some (.cells #[.slice A bs.length c, .bool bad] 118 (0, 0)) ∧ bs.length ≤ c ∧ c ≤ maxLen ∧ (0 < bs.length → ∃ b off, A = some ⟨b, off, none⟩ ∧ b < w.heap.size ∧ b ≠ g ∧ ∀ j u, (bcs bs)[j]? = some u → w.cell? ⟨b, off + j, none⟩ = some u)
  ok : bOK bs
end Go.Proofs.Ytgpmcpinnaggmaa
