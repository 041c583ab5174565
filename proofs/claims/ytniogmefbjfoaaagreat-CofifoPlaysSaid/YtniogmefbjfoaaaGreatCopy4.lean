/-
  Rows of numbers: what an append asks of their type.
-/
import Derived.Test.YtniogmefbjfoaaaGreatTcL
import Derived.Test.YtniogmefbjfoaaaGreatTc
import Derived.Test.YtniogmefbjfoaaaGreatRef4
import Derived.Test.YtniogmefbjfoaaaGreatBack
namespace Go.Proofs.YtniogmefbjfoaaaGreat
set_option linter.unusedSimpArgs false
set_option linter.unusedVariables false
set_option linter.unusedSectionVars false
open Go.RowKit

theorem uc_one (l : List Int) : ∀ u ∈ ucs l, u.oneCell' = true := by
  intro u hu
  obtain ⟨p, _, rfl⟩ := List.mem_map.1 hu
  rfl
theorem grown_belowB {B : Nat} {w w' : World} {row : Option Nat} (h : w.grownBy w' row) (hB : B ≤ w.heap.size) (hr : ∀ k, row = some k → B ≤ k) : Below B w w' := (Below.refl _ _).grown h hB hr
instance (priority := low) Kpf.stpB (B0 : Nat) (a X W : World) (B : Nat) [s : StpB B X W] [k : Kpf B0 a X] [l : LeN a.heap.size B] : Kpf B0 a W := ⟨by
  have := k.s; exact Nat.le_trans k.s s.h.size, fun i h1 h2 => (s.h.block i (Nat.lt_of_lt_of_le h2 l.h)).trans (k.h i h1 h2)⟩
theorem own_eB (w : World) (m : Nat) (hm : m = w.heap.size) : (w.alloc (.cells #[] 5)).ownsRow m 5 1 (.slice (some ⟨m, 0, none⟩) 0 0) 0 [] := by subst hm; exact World.ownsRow_lit w #[] 0 (Nat.le_refl _) (by unfold maxLen; omega) rfl
theorem own_eU (w : World) (m : Nat) (hm : m = w.heap.size) : (w.alloc (.cells #[] 22)).ownsRow m 22 1 (.slice (some ⟨m, 0, none⟩) 0 0) 0 [] := by subst hm; exact World.ownsRow_lit w #[] 0 (Nat.le_refl _) (by unfold maxLen; omega) rfl
end Go.Proofs.YtniogmefbjfoaaaGreat

namespace Go.Proofs.YtniogmefbjfoaaaGreat
set_option linter.unusedSimpArgs false
set_option linter.unusedVariables false
set_option linter.unusedSectionVars false
open Go.RowKit

theorem own_emptyU (w : World) : (w.alloc (.cells #[] 22)).ownsRow w.heap.size 22 1 (.slice (some ⟨w.heap.size, 0, none⟩) 0 0) 0 [] := World.ownsRow_lit w #[] 0 (Nat.le_refl _) (by unfold maxLen; omega) rfl
theorem own_apart {w w' : World} {base : Nat} {e : TypeId} {k n : Nat} {v : Value} {xs : List Value} {row : Option Nat} (h : w.ownsRow base e k v n xs) (hg : w.grownBy w' row) (hne : ∀ r, v.ownBlock = some r → row ≠ some r) : w'.ownsRow base e k v n xs := by
  refine ⟨h.1, h.2.imp id ?_⟩
  rintro ⟨r, cap, cur, rfl, hbase, hr, h1⟩
  refine ⟨r, cap, cur, rfl, hbase, ?_, h1⟩
  have hlt : r < w.heap.size := (Array.getElem?_eq_some_iff.1 hr).1
  rw [hg.block r hlt (fun e => hne r rfl e.symm)]; exact hr
theorem own_emptyP' (w : World) (m : Nat) (hm : m = w.heap.size) : (w.alloc (.cells #[] 24)).ownsRow m 24 2 (.slice (some ⟨m, 0, none⟩) 0 0) 0 [] := by subst hm; exact own_empty w
theorem own_emptyU' (w : World) (m : Nat) (hm : m = w.heap.size) : (w.alloc (.cells #[] 22)).ownsRow m 22 1 (.slice (some ⟨m, 0, none⟩) 0 0) 0 [] := by subst hm; exact own_emptyU w
theorem ob (n c m : Nat) : (Value.slice (some ⟨m, 0, none⟩) n c).ownBlock = some m := rfl
theorem BoxAt.stepN {w w' : World} {n N : Nat} {cs : Array Value} {t : TypeId} (h : BoxAt w n cs t) (hb : Below N w w') (hn : n < N) : BoxAt w' n cs t := ⟨by rw [hb.block n hn]; exact h.eq⟩
theorem BoxAt.drew' {w : World} {n : Nat} {cs : Array Value} {t : TypeId} (h : BoxAt w n cs t) : BoxAt w.drew n cs t := ⟨h.eq⟩
theorem BoxAt.set {w : World} {n m i : Nat} {v : Value} {cs : Array Value} {t : TypeId} (h : BoxAt w n cs t) (hne : n ≠ m) : BoxAt (w.setCell ⟨m, i, none⟩ v) n cs t := ⟨by rw [Below.heap_setCell _ _ _ _ hne]; exact h.eq⟩
theorem cp8 {W0 X w1 : World} {N m : Nat} {v1 : Value} {e : TypeId} {k n : Nat} {xs : List Value} (hX : Below N W0 X) (hXs : N ≤ X.heap.size) (ho : w1.ownsRow m e k v1 (0 + n) ([] ++ xs)) (hg : X.grownBy w1 (some m)) (hm : N ≤ m) : Below N W0 w1 ∧ w1.ownsRow N e k v1 n xs := by
  refine ⟨hX.grown hg hXs (fun j hj => by injection hj; omega), own_base ?_ hm⟩
  rw [Nat.zero_add, List.nil_append] at ho; exact ho
theorem set5 {w : World} {m : Nat} {a b c d e : Value} {t : TypeId} (k : BoxAt w m #[a, b, c, d, e] t) (a' b' c' d' e' : Value) :
    BoxAt (((((w.setCell ⟨m, 0, none⟩ a').setCell ⟨m, 1, none⟩ b').setCell ⟨m, 2, none⟩ c').setCell ⟨m, 3, none⟩ d').setCell ⟨m, 4, none⟩ e') m #[a', b', c', d', e'] t ∧ w.grownBy (((((w.setCell ⟨m, 0, none⟩ a').setCell ⟨m, 1, none⟩ b').setCell ⟨m, 2, none⟩ c').setCell ⟨m, 3, none⟩ d').setCell ⟨m, 4, none⟩ e') (some m) := by
  refine ⟨⟨?_⟩, grown_trans (grown_trans (grown_trans (grown_trans (grown_setCell _ _ _ _) (grown_setCell _ _ _ _)) (grown_setCell _ _ _ _)) (grown_setCell _ _ _ _)) (grown_setCell _ _ _ _)⟩
  have h0 := setCell_block w m 0 a' _ _ k.eq
  have h1 := setCell_block _ m 1 b' _ _ h0
  have h2 := setCell_block _ m 2 c' _ _ h1
  have h3 := setCell_block _ m 3 d' _ _ h2
  exact setCell_block _ m 4 e' _ _ h3
theorem apart0 {n c n' c' : Nat} (m m' : Nat) (h : m ≠ m') : ∀ r, (Value.slice (some ⟨m, 0, none⟩) n c).ownBlock = some r → (Value.slice (some ⟨m', 0, none⟩) n' c').ownBlock ≠ some r := by
  intro r hr e
  rw [ob] at hr e
  injection hr; injection e; omega
theorem apart1 {v : Value} {a b m : Nat} (h : v.ownBlock = some a ∨ v.ownBlock = some b) (ha : a ≠ m) (hb : b ≠ m) : ∀ r, v.ownBlock = some r → some m ≠ some r := by
  intro r hr e
  injection e with e
  subst e
  rcases h with h | h
  · rw [h] at hr; injection hr; omega
  · rw [h] at hr; injection hr; omega
theorem apart2 {w : World} {v : Value} {base : Nat} {e : TypeId} {k n : Nat} {xs : List Value} (h : w.ownsRow base e k v n xs) : ∀ r, v.ownBlock = some r → some w.heap.size ≠ some r := by
  intro r hr e
  injection e with e
  have := (h.lt r hr).2
  omega
end Go.Proofs.YtniogmefbjfoaaaGreat
