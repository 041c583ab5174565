/-
  Writers: what a step of theirs keeps, found by instances.
-/
import Derived.Test.YtniogmefbjfoaaaGreatTc
import Derived.Test.YtniogmefbjfoaaaGreatPk3
namespace Go.Proofs.YtniogmefbjfoaaaGreat
set_option linter.unusedSimpArgs false
set_option linter.unusedVariables false
set_option linter.unusedSectionVars false
open Go.RowKit

/-- a step of the writer's -/
class StpW (g : outParam Nat) (v : outParam Value) (X : outParam World) (v' : outParam Value) (W : World) : Prop where
  h : WStep g v X v' W
/-- the writer's row is not block n -/
class OffW (W : World) (v : Value) (n : Nat) : Prop where
  h : v.ownBlock ≠ some n
instance OffW.stp (X W : World) (v : Value) (n : Nat) [s : Stp X W] [k : OffW X v n] : OffW W v n := ⟨k.h⟩
instance (priority := low) OffW.stpW (X W : World) (g : Nat) (v v' : Value) (n : Nat) [s : StpW g v X v' W] [k : OffW X v n] [i : InW n X] : OffW W v' n := ⟨by
  rcases s.h.own with e | ⟨q, hq, e⟩
  · rw [e]; exact k.h
  · rw [e]; intro e'; injection e' with e'; have := i.lt; omega⟩
/-- the writer's row lies in W -/
class VIn (W : World) (v : Value) : Prop where
  h : ∀ k, v.ownBlock = some k → k < W.heap.size
instance VIn.stp (X W : World) (v : Value) [s : Stp X W] [k : VIn X v] : VIn W v := ⟨fun i hi => Nat.lt_of_lt_of_le (k.h i hi) s.h.size⟩
instance (priority := high) OffW.top (X : World) (o : Obj) (v : Value) (n : Nat) [k : VIn X v] [z : Sz X n] : OffW (X.alloc o) v n := ⟨fun e => by have := k.h n e; have := z.eq; omega⟩
instance (priority := low) BoxAt.stpW (X W : World) (g : Nat) (v v' : Value) (n : Nat) (cs : Array Value) (t : TypeId) [s : StpW g v X v' W] [k : BoxAt X n cs t] [e : NeN n g] [o : OffW X v n] : BoxAt W n cs t := s.h.boxAt k e.h o.h
/-- all steps of the writer's from a on -/
class Wst (g : Nat) (v : Value) (a : World) (v' : outParam Value) (W : World) : Prop where
  h : WStep g v a v' W
instance (priority := high) Wst.rf (g : Nat) (v : Value) (a : World) : Wst g v a v a := ⟨WStep.refl _ _ _⟩
instance Wst.stp (g : Nat) (v : Value) (a : World) (v' : Value) (X W : World) [s : Stp X W] [k : Wst g v a v' X] : Wst g v a v' W := ⟨k.h.trans (WStep.below s.h)⟩
instance (priority := low) Wst.stpW (g : Nat) (v : Value) (a : World) (v' v'' : Value) (X W : World) [s : StpW g v' X v'' W] [k : Wst g v a v' X] : Wst g v a v'' W := ⟨k.h.trans s.h⟩
/-- a slice that lies apart from the writer -/
class Rdw (W : World) (g : Nat) (v : Value) (A : Option Addr) (n : Nat) (k : outParam Nat) (xs : outParam (List Value)) : Prop where
  h : RdW W g v k A n xs
instance Rdw.stp (X W : World) (g : Nat) (v : Value) (A : Option Addr) (n k : Nat) (xs : List Value) [s : Stp X W] [r : Rdw X g v A n k xs] : Rdw W g v A n k xs := ⟨r.h.step (WStep.below s.h)⟩
instance (priority := low) Rdw.stpW (X W : World) (g : Nat) (v v' : Value) (A : Option Addr) (n k : Nat) (xs : List Value) [s : StpW g v X v' W] [r : Rdw X g v A n k xs] : Rdw W g v' A n k xs := ⟨r.h.step s.h⟩
theorem rdw_of {W : World} {g m k n : Nat} {v : Value} {cs : Array Value} {t : TypeId} (h : BoxAt W m cs t) (e : NeN m g) (o : OffW W v m) (hn : cs.size = n * k) : RdW W g v k (some ⟨m, 0, none⟩) n cs.toList := by
  refine ⟨by simpa using hn, fun _ => ⟨_, _, rfl, h.lt, e.h, o.h, fun j u hu => ?_⟩⟩
  rw [Nat.zero_add, cell?_box]
  simpa using hu
theorem rdw_p1 (W : World) (g : Nat) (v : Value) (m : Nat) (n i : Int) [h : BoxAt W m #[.int .i64 n, .int .u64 i] 24] [e : NeN m g] [o : OffW W v m] : RdW W g v 2 (some ⟨m, 0, none⟩) 1 (pcs [(n, i)]) := rdw_of h e o rfl
theorem rdw_u1 (W : World) (g : Nat) (v : Value) (m : Nat) (a : Int) [h : BoxAt W m #[.int .u64 a] 22] [e : NeN m g] [o : OffW W v m] : RdW W g v 1 (some ⟨m, 0, none⟩) 1 (ucs [a]) := rdw_of h e o rfl
theorem rdw_u2 (W : World) (g : Nat) (v : Value) (m : Nat) (a b : Int) [h : BoxAt W m #[.int .u64 a, .int .u64 b] 22] [e : NeN m g] [o : OffW W v m] : RdW W g v 1 (some ⟨m, 0, none⟩) 2 (ucs [a, b]) := rdw_of h e o rfl
theorem rdw_u3 (W : World) (g : Nat) (v : Value) (m : Nat) (a b c : Int) [h : BoxAt W m #[.int .u64 a, .int .u64 b, .int .u64 c] 22] [e : NeN m g] [o : OffW W v m] : RdW W g v 1 (some ⟨m, 0, none⟩) 3 (ucs [a, b, c]) := rdw_of h e o rfl
/-- a list of lives, its length ahead -/
def lstP (l : List (Int × Int)) : List Int := (l.length : Int) % 256 :: procsB l
end Go.Proofs.YtniogmefbjfoaaaGreat

namespace Go.Proofs.YtniogmefbjfoaaaGreat
set_option linter.unusedSimpArgs false
set_option linter.unusedVariables false
set_option linter.unusedSectionVars false
open Go.RowKit

/-- a head's bytes, of data, of an ack -/
def hdB (x : Hd) : List Int := x.d :: (uintB x.c ++ uintB x.s)
def haB (x : Hd) : List Int := x.d :: (uintB x.c ++ (uintB x.s ++ uintB x.i))
structure HdF (x : Hd) : Prop where
  d0 : 0 ≤ x.d
  d1 : x.d ≤ 10
  c : wfU64 x.c
  s : wfU64 x.s
  i : wfU64 x.i
theorem RdW.at4 {w : World} {g : Nat} {v : Value} {A : Option Addr} {n k : Nat} {l : List Hd} (h : RdW w g v 4 A n (hcs l)) (hk : k < n) :
    ∃ b off p, A = some ⟨b, off, none⟩ ∧ b < w.heap.size ∧ b ≠ g ∧ v.ownBlock ≠ some b ∧ l[k]? = some p ∧ w.cell? ⟨b, off + k * 4, none⟩ = some (.int .i64 p.d) ∧ w.cell? ⟨b, off + k * 4 + 1, none⟩ = some (.int .u64 p.c) ∧ w.cell? ⟨b, off + k * 4 + 2, none⟩ = some (.int .u64 p.s) ∧ w.cell? ⟨b, off + k * 4 + 3, none⟩ = some (.int .u64 p.i) := by
  obtain ⟨b, off, hA, hb, hg, hv, hcl⟩ := h.2 (by omega)
  obtain ⟨b', off', p, hA', hb', hp, g1, g2, g3, g4⟩ := h.reads.at4 hk
  rw [hA] at hA'
  injection hA' with e; injection e with e1 e2; subst e1 e2
  exact ⟨b, off, p, hA, hb, hg, hv, hp, g1, g2, g3, g4⟩
theorem flat_len {α : Type} {f : α → List Int} {B : Nat} (hB : ∀ x, (f x).length ≤ B) : ∀ l : List α, (l.flatMap f).length ≤ l.length * B
  | [] => by simp
  | x :: l => by
    rw [List.flatMap_cons, List.length_append, List.length_cons, Nat.succ_mul]
    have := hB x; have := flat_len hB l; omega
theorem hdB_len (x : Hd) : (hdB x).length ≤ 21 := by
  have := uintB_len x.c; have := uintB_len x.s; simp [hdB]; omega
theorem haB_len (x : Hd) : (haB x).length ≤ 31 := by
  have := uintB_len x.c; have := uintB_len x.s; have := uintB_len x.i; simp [haB]; omega
theorem procB1_len (x : Pr) : (procB x).length ≤ 11 := by
  have := procsB_len [x]; simpa [procsB] using this
end Go.Proofs.YtniogmefbjfoaaaGreat
