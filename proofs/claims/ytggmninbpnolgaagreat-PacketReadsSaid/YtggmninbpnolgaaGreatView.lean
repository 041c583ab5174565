/-
  Contracts: slices.Index, Contains, Equal of uint64; view.Place, Start, Compare, First, MayId.
-/
import Derived.Test.YtggmninbpnolgaaGreatInts
import Derived.Test.YtggmninbpnolgaaGreatBase
import Derived.Test.YtggmninbpnolgaaGreatWt
import Derived.Laws.EntriesVeiled
namespace Go.Proofs.YtggmninbpnolgaaGreat
set_option linter.unusedSimpArgs false
set_option linter.unusedVariables false
set_option linter.unusedSectionVars false
open Go.RowKit

def Ul (w : World) (A : Option Addr) (l : List Int) : Prop := Reads w w.heap.size 1 A l.length (ucs l)
theorem Ul.step {w w' : World} {A : Option Addr} {l : List Int} (h : Ul w A l) (hb : Below w.heap.size w w') : Ul w' A l := (Reads.below h hb).more hb.size
theorem Reads.atU {w : World} {B : Nat} {A : Option Addr} {n k : Nat} {l : List Int} (h : Reads w B 1 A n (ucs l)) (hk : k < n) :
    ∃ b off x, A = some ⟨b, off, none⟩ ∧ b < B ∧ l[k]? = some x ∧ w.cell? ⟨b, off + k, none⟩ = some (.int .u64 x) := by
  obtain ⟨b, off, rfl, hb, hc⟩ := h.2 (by omega)
  have hl : k < l.length := by have := h.1; rw [ucs_len] at this; omega
  exact ⟨b, off, l[k], rfl, hb, List.getElem?_eq_getElem hl, hc k _ (by simp [ucs, hl])⟩
/-- a view where it lies -/
structure Vw where
  r : Int
  n : Int
  i : Int
  MA : Option Addr
  mc : Nat
  ms : List Pr
  UA : Option Addr
  uc : Nat
  us : List Int
  deriving Inhabited
def Vw.v (x : Vw) : Value := .agg #[.int .u64 x.r, .int .i64 x.n, .int .u64 x.i, .slice x.MA x.ms.length x.mc, .slice x.UA x.us.length x.uc]
structure Vw.Ok (w : World) (x : Vw) : Prop where
  m : Sl w x.MA x.ms
  u : Ul w x.UA x.us
  ml : x.ms.length ≤ 1000000
  ul : x.us.length ≤ 1000000
theorem Vw.Ok.step {w w' : World} {x : Vw} (h : x.Ok w) (hb : Below w.heap.size w w') : x.Ok w' := ⟨h.m.step hb, h.u.step hb, h.ml, h.ul⟩
/-- two views are the same -/
def Vw.eqB (x y : Vw) : Bool := decide (x.r = y.r ∧ x.n = y.n ∧ x.i = y.i ∧ x.ms = y.ms ∧ x.us = y.us)

/-! ### numbers -/
def idxU (l : List Int) (p : Int) : Int := if p ∈ l then (l.idxOf p : Int) else -1
theorem idxU_take {l : List Int} {p : Int} {k : Nat} (h : p ∉ l.take k) (hk : l[k]? = some p) : l.idxOf p = k := by
  have hl := (List.getElem?_eq_some_iff.1 hk).1
  have e : l = l.take k ++ (p :: l.drop (k + 1)) := by
    have h2 : l.drop k = p :: l.drop (k + 1) := by
      rw [List.drop_eq_getElem_cons hl]
      obtain ⟨_, h3⟩ := List.getElem?_eq_some_iff.1 hk
      rw [h3]
    rw [← h2, List.take_append_drop]
  rw [e, List.idxOf_append, if_neg h]
  rw [List.idxOf_cons_self, List.length_take]; omega
theorem idxU_neg (l : List Int) (p : Int) : decide (0 ≤ idxU l p) = decide (p ∈ l) := by
  rw [decide_eq_decide]; unfold idxU
  split
  · rename_i h; simp [h]
  · rename_i h; simp [h]
/-! ### the place of a member, its start -/
def placeV (l : List Pr) (p : Pr) : Value := if p ∈ l then .tuple #[.int .i64 (l.idxOf p : Int), .bool true] else .tuple #[.int .i64 0, .bool false]
def startV (l : List Pr) (u : List Int) (p : Pr) : Value := if p ∈ l ∧ l.idxOf p < u.length then .tuple #[.int .u64 (u.getD (l.idxOf p) 0), .bool true] else .tuple #[.int .u64 0, .bool false]
/-! ### names -/
def cmpV (a b c d e f : Int) : Int := if cmpI a d = 0 then cmpP (b, c) (e, f) else cmpI a d
/-- may a name be? -/
def mayIdB (r n i : Int) : Bool := mayB n i && (decide (r = 0) || decide (n ≤ 4))
end Go.Proofs.YtggmninbpnolgaaGreat

namespace Go.Proofs.YtggmninbpnolgaaGreat
set_option linter.unusedSimpArgs false
set_option linter.unusedVariables false
set_option linter.unusedSectionVars false
open Go.RowKit

/-! ### '==' on names of views -/
def eqI (a b c d e f : Int) : Bool := decide (a = d ∧ b = e ∧ c = f)
/-- a view is told, in new memory -/
def RetV (w : World) (r n i : Int) (ms : List Pr) (us : List Int) (e : Ending) (w' : World) : Prop :=
  ∃ MA mc UA uc, e = .returned (Vw.v ⟨r, n, i, MA, mc, ms, UA, uc, us⟩) ∧ Vw.Ok w' ⟨r, n, i, MA, mc, ms, UA, uc, us⟩ ∧ Below w.heap.size w w'
theorem reads_oneU (w : World) (a : Int) : Reads (w.alloc (.cells #[.int .u64 a] 22)) (w.heap.size + 1) 1 (some ⟨w.heap.size, 0, none⟩) 1 (ucs [a]) := by
  have := Reads.of_own (World.ownsRow_lit (base := 0) (e := 22) (size := 1) w #[.int .u64 a] 1 (Nat.zero_le _) (by unfold maxLen; omega) rfl)
  simpa [ucs] using this
theorem reads_one_at (w : World) (a b : Int) (k : Nat) (h : w.heap.size = k) : Reads (w.alloc (bx a b)) (k + 1) 2 (some ⟨k, 0, none⟩) 1 (pcs [(a, b)]) := by subst h; exact reads_one w a b
theorem reads_oneU_at (w : World) (a : Int) (k : Nat) (h : w.heap.size = k) : Reads (w.alloc (.cells #[.int .u64 a] 22)) (k + 1) 1 (some ⟨k, 0, none⟩) 1 (ucs [a]) := by subst h; exact reads_oneU w a
end Go.Proofs.YtggmninbpnolgaaGreat

namespace Go.Proofs.YtggmninbpnolgaaGreat
set_option linter.unusedSimpArgs false
set_option linter.unusedVariables false
set_option linter.unusedSectionVars false
open Go.RowKit

theorem BoxAt.step {w w' : World} {n : Nat} {cs : Array Value} {t : TypeId} (h : BoxAt w n cs t) (hb : Below w.heap.size w w') : BoxAt w' n cs t := ⟨by rw [hb.block n h.lt]; exact h.eq⟩
theorem box5 {w : World} {n : Nat} {a b c d e : Value} {t : TypeId} (h : BoxAt w n #[a, b, c, d, e] t) : w.cell? ⟨n, 0, none⟩ = some a ∧ w.cell? ⟨n, 1, none⟩ = some b ∧ w.cell? ⟨n, 2, none⟩ = some c ∧ w.cell? ⟨n, 3, none⟩ = some d ∧ w.cell? ⟨n, 4, none⟩ = some e := by
  refine ⟨?_, ?_, ?_, ?_, ?_⟩ <;> (rw [cell?_box]; rfl)
/-- may a view be that was agreed on? -/
def mayAB (x : Vw) : Bool := decide (1 ≤ (x.ms.length : Int)) && (decide ((x.ms.length : Int) ≤ 6) && (setB x.ms && ((((nodesL x.ms).length : Int) == (x.ms.length : Int)) && (((x.us.length : Int) == (x.ms.length : Int)) && !decide ((0 : Int) ∈ x.us)))))
/-- may a view be? -/
def Vw.mayB (x : Vw) : Bool := mayIdB x.r x.n x.i && (if x.r = 0 then Vw.eqB x ⟨0, x.n, x.i, none, 0, [(x.n, x.i)], none, 0, [0]⟩ else mayAB x)
end Go.Proofs.YtggmninbpnolgaaGreat
