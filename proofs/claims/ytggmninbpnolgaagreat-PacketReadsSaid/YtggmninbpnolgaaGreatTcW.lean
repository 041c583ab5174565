/-
  Writers: what a step of theirs keeps, found by instances.
-/
import Derived.Test.YtggmninbpnolgaaGreatTc
import Derived.Test.YtggmninbpnolgaaGreatWt
namespace Go.Proofs.YtggmninbpnolgaaGreat
set_option linter.unusedSimpArgs false
set_option linter.unusedVariables false
set_option linter.unusedSectionVars false
open Go.RowKit

/-- the writer at block g -/
class Wr (W : World) (g : Nat) (v : outParam Value) (bs : outParam (List Int)) : Prop where
  h : Wtr W g v bs
instance Wr.stp (X W : World) (g : Nat) (v : Value) (bs : List Int) [s : Stp X W] [k : Wr X g v bs] : Wr W g v bs := ⟨k.h.below s.h⟩
/-- a step of the writer's -/
class StpW (g : outParam Nat) (v : outParam Value) (X : outParam World) (v' : outParam Value) (W : World) : Prop where
  h : WStep g v X v' W
/-- the writer's row is not block n -/
class OffW (W : World) (v : Value) (n : Nat) : Prop where
  h : v.ownBlock ≠ some n
instance OffW.stp (X W : World) (v : Value) (n : Nat) [s : Stp X W] [k : OffW X v n] : OffW W v n := ⟨k.h⟩
instance (priority := low) OffW.stpW (X W : World) (g : Nat) (v v' : Value) (n : Nat) [s : StpW g v X v' W] [k : OffW X v n] [i : InW n X] : OffW W v' n := ⟨by
  rcases s.h.own with e | ⟨q, hq, e⟩
  · rw [e]; exact k.h
  · rw [e]; intro e'; injection e' with e'; have := i.lt; omega⟩
/-- the writer's row lies in W -/
class VIn (W : World) (v : Value) : Prop where
  h : ∀ k, v.ownBlock = some k → k < W.heap.size
instance VIn.stp (X W : World) (v : Value) [s : Stp X W] [k : VIn X v] : VIn W v := ⟨fun i hi => Nat.lt_of_lt_of_le (k.h i hi) s.h.size⟩
theorem vIn {W : World} {g : Nat} {v : Value} {bs : List Int} (h : Wtr W g v bs) : VIn W v := ⟨fun i hi => (h.own.lt i hi).2⟩
instance (priority := high) OffW.top (X : World) (o : Obj) (v : Value) (n : Nat) [k : VIn X v] [z : Sz X n] : OffW (X.alloc o) v n := ⟨fun e => by have := k.h n e; have := z.eq; omega⟩
instance (priority := low) BoxAt.stpW (X W : World) (g : Nat) (v v' : Value) (n : Nat) (cs : Array Value) (t : TypeId) [s : StpW g v X v' W] [k : BoxAt X n cs t] [e : NeN n g] [o : OffW X v n] : BoxAt W n cs t := s.h.boxAt k e.h o.h
/-- all steps of the writer's from a on -/
class Wst (g : Nat) (v : Value) (a : World) (v' : outParam Value) (W : World) : Prop where
  h : WStep g v a v' W
instance (priority := high) Wst.rf (g : Nat) (v : Value) (a : World) : Wst g v a v a := ⟨WStep.refl _ _ _⟩
instance Wst.stp (g : Nat) (v : Value) (a : World) (v' : Value) (X W : World) [s : Stp X W] [k : Wst g v a v' X] : Wst g v a v' W := ⟨k.h.trans (WStep.below s.h)⟩
instance (priority := low) Wst.stpW (g : Nat) (v : Value) (a : World) (v' v'' : Value) (X W : World) [s : StpW g v' X v'' W] [k : Wst g v a v' X] : Wst g v a v'' W := ⟨k.h.trans s.h⟩
/-- a slice that lies apart from the writer -/
class Rdw (W : World) (g : Nat) (v : Value) (A : Option Addr) (n : Nat) (k : outParam Nat) (xs : outParam (List Value)) : Prop where
  h : RdW W g v k A n xs
instance Rdw.stp (X W : World) (g : Nat) (v : Value) (A : Option Addr) (n k : Nat) (xs : List Value) [s : Stp X W] [r : Rdw X g v A n k xs] : Rdw W g v A n k xs := ⟨r.h.step (WStep.below s.h)⟩
instance (priority := low) Rdw.stpW (X W : World) (g : Nat) (v v' : Value) (A : Option Addr) (n k : Nat) (xs : List Value) [s : StpW g v X v' W] [r : Rdw X g v A n k xs] : Rdw W g v' A n k xs := ⟨r.h.step s.h⟩
theorem rdw_of {W : World} {g m k n : Nat} {v : Value} {cs : Array Value} {t : TypeId} (h : BoxAt W m cs t) (e : NeN m g) (o : OffW W v m) (hn : cs.size = n * k) : RdW W g v k (some ⟨m, 0, none⟩) n cs.toList := by
  refine ⟨by simpa using hn, fun _ => ⟨_, _, rfl, h.lt, e.h, o.h, fun j u hu => ?_⟩⟩
  rw [Nat.zero_add, cell?_box]
  simpa using hu
theorem rdw_p1 (W : World) (g : Nat) (v : Value) (m : Nat) (n i : Int) [h : BoxAt W m #[.int .i64 n, .int .u64 i] 24] [e : NeN m g] [o : OffW W v m] : RdW W g v 2 (some ⟨m, 0, none⟩) 1 (pcs [(n, i)]) := rdw_of h e o rfl
theorem rdw_u1 (W : World) (g : Nat) (v : Value) (m : Nat) (a : Int) [h : BoxAt W m #[.int .u64 a] 22] [e : NeN m g] [o : OffW W v m] : RdW W g v 1 (some ⟨m, 0, none⟩) 1 (ucs [a]) := rdw_of h e o rfl
theorem rdw_u2 (W : World) (g : Nat) (v : Value) (m : Nat) (a b : Int) [h : BoxAt W m #[.int .u64 a, .int .u64 b] 22] [e : NeN m g] [o : OffW W v m] : RdW W g v 1 (some ⟨m, 0, none⟩) 2 (ucs [a, b]) := rdw_of h e o rfl
theorem rdw_u3 (W : World) (g : Nat) (v : Value) (m : Nat) (a b c : Int) [h : BoxAt W m #[.int .u64 a, .int .u64 b, .int .u64 c] 22] [e : NeN m g] [o : OffW W v m] : RdW W g v 1 (some ⟨m, 0, none⟩) 3 (ucs [a, b, c]) := rdw_of h e o rfl
theorem Wr.to {W : World} {g : Nat} {v : Value} {bs : List Int} (k : Wtr W g v bs) : Wr W g v bs := ⟨k⟩
instance (priority := low) Blw.stpW (a X W : World) (g : Nat) (v v' : Value) (bs : List Int) [s : StpW g v X v' W] [k : Blw a X] [r : Wr X g v bs] [l : LeN a.heap.size g] : Blw a W := ⟨k.h.trans (s.h.to_below r.h l.h)⟩
/-- a list of lives, its length ahead -/
def lstP (l : List (Int × Int)) : List Int := (l.length : Int) % 256 :: procsB l
end Go.Proofs.YtggmninbpnolgaaGreat
