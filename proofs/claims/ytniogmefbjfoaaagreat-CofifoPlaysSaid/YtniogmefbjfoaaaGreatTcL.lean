/-
  Contracts: slices.Index, Contains, Equal of uint64; view.Place, Start, Compare, First, MayId.
-/
import Derived.Test.YtniogmefbjfoaaaGreatInts
import Derived.Test.YtniogmefbjfoaaaGreatBase
import Derived.Test.YtniogmefbjfoaaaGreatTc
import Derived.Laws.EntriesVeiled
import Derived.Laws.BytesArg
namespace Go.Proofs.YtniogmefbjfoaaaGreat
set_option linter.unusedSimpArgs false
set_option linter.unusedVariables false
set_option linter.unusedSectionVars false
open Go.RowKit

def Ul (w : World) (A : Option Addr) (l : List Int) : Prop := Reads w w.heap.size 1 A l.length (ucs l)
theorem Ul.step {w w' : World} {A : Option Addr} {l : List Int} (h : Ul w A l) (hb : Below w.heap.size w w') : Ul w' A l := (Reads.below h hb).more hb.size
theorem Reads.atU {w : World} {B : Nat} {A : Option Addr} {n k : Nat} {l : List Int} (h : Reads w B 1 A n (ucs l)) (hk : k < n) :
    ∃ b off x, A = some ⟨b, off, none⟩ ∧ b < B ∧ l[k]? = some x ∧ w.cell? ⟨b, off + k, none⟩ = some (.int .u64 x) := by
  obtain ⟨b, off, rfl, hb, hc⟩ := h.2 (by omega)
  have hl : k < l.length := by have := h.1; rw [ucs_len] at this; omega
  exact ⟨b, off, l[k], rfl, hb, List.getElem?_eq_getElem hl, hc k _ (by simp [ucs, hl])⟩
/-- a view where it lies -/
structure Vw where
  r : Int
  n : Int
  i : Int
  MA : Option Addr
  mc : Nat
  ms : List Pr
  UA : Option Addr
  uc : Nat
  us : List Int
  deriving Inhabited
def Vw.v (x : Vw) : Value := .agg #[.int .u64 x.r, .int .i64 x.n, .int .u64 x.i, .slice x.MA x.ms.length x.mc, .slice x.UA x.us.length x.uc]
structure Vw.Ok (w : World) (x : Vw) : Prop where
  m : Sl w x.MA x.ms
  u : Ul w x.UA x.us
  ml : x.ms.length ≤ 1000000
  ul : x.us.length ≤ 1000000
theorem Vw.Ok.step {w w' : World} {x : Vw} (h : x.Ok w) (hb : Below w.heap.size w w') : x.Ok w' := ⟨h.m.step hb, h.u.step hb, h.ml, h.ul⟩
/-- two views are the same -/
def Vw.eqB (x y : Vw) : Bool := decide (x.r = y.r ∧ x.n = y.n ∧ x.i = y.i ∧ x.ms = y.ms ∧ x.us = y.us)

/-! ### numbers -/
def idxU (l : List Int) (p : Int) : Int := if p ∈ l then (l.idxOf p : Int) else -1
theorem idxU_take {l : List Int} {p : Int} {k : Nat} (h : p ∉ l.take k) (hk : l[k]? = some p) : l.idxOf p = k := by
  have hl := (List.getElem?_eq_some_iff.1 hk).1
  have e : l = l.take k ++ (p :: l.drop (k + 1)) := by
    have h2 : l.drop k = p :: l.drop (k + 1) := by
      rw [List.drop_eq_getElem_cons hl]
      obtain ⟨_, h3⟩ := List.getElem?_eq_some_iff.1 hk
      rw [h3]
    rw [← h2, List.take_append_drop]
  rw [e, List.idxOf_append, if_neg h]
  rw [List.idxOf_cons_self, List.length_take]; omega
theorem idxU_neg (l : List Int) (p : Int) : decide (0 ≤ idxU l p) = decide (p ∈ l) := by
  rw [decide_eq_decide]; unfold idxU
  split
  · rename_i h; simp [h]
  · rename_i h; simp [h]
/-! ### the place of a member, its start -/
def placeV (l : List Pr) (p : Pr) : Value := if p ∈ l then .tuple #[.int .i64 (l.idxOf p : Int), .bool true] else .tuple #[.int .i64 0, .bool false]
def startV (l : List Pr) (u : List Int) (p : Pr) : Value := if p ∈ l ∧ l.idxOf p < u.length then .tuple #[.int .u64 (u.getD (l.idxOf p) 0), .bool true] else .tuple #[.int .u64 0, .bool false]
/-! ### names -/
def cmpV (a b c d e f : Int) : Int := if cmpI a d = 0 then cmpP (b, c) (e, f) else cmpI a d
/-- may a name be? -/
def mayIdB (r n i : Int) : Bool := mayB n i && (decide (r = 0) || decide (n ≤ 4))
end Go.Proofs.YtniogmefbjfoaaaGreat

namespace Go.Proofs.YtniogmefbjfoaaaGreat
set_option linter.unusedSimpArgs false
set_option linter.unusedVariables false
set_option linter.unusedSectionVars false
open Go.RowKit

/-! ### '==' on names of views -/
def eqI (a b c d e f : Int) : Bool := decide (a = d ∧ b = e ∧ c = f)
/-- a view is told, in new memory -/
def RetV (w : World) (r n i : Int) (ms : List Pr) (us : List Int) (e : Ending) (w' : World) : Prop :=
  ∃ MA mc UA uc, e = .returned (Vw.v ⟨r, n, i, MA, mc, ms, UA, uc, us⟩) ∧ Vw.Ok w' ⟨r, n, i, MA, mc, ms, UA, uc, us⟩ ∧ Below w.heap.size w w'
theorem reads_oneU (w : World) (a : Int) : Reads (w.alloc (.cells #[.int .u64 a] 22)) (w.heap.size + 1) 1 (some ⟨w.heap.size, 0, none⟩) 1 (ucs [a]) := by
  have := Reads.of_own (World.ownsRow_lit (base := 0) (e := 22) (size := 1) w #[.int .u64 a] 1 (Nat.zero_le _) (by unfold maxLen; omega) rfl)
  simpa [ucs] using this
theorem reads_one_at (w : World) (a b : Int) (k : Nat) (h : w.heap.size = k) : Reads (w.alloc (bx a b)) (k + 1) 2 (some ⟨k, 0, none⟩) 1 (pcs [(a, b)]) := by subst h; exact reads_one w a b
theorem reads_oneU_at (w : World) (a : Int) (k : Nat) (h : w.heap.size = k) : Reads (w.alloc (.cells #[.int .u64 a] 22)) (k + 1) 1 (some ⟨k, 0, none⟩) 1 (ucs [a]) := by subst h; exact reads_oneU w a
end Go.Proofs.YtniogmefbjfoaaaGreat

namespace Go.Proofs.YtniogmefbjfoaaaGreat
set_option linter.unusedSimpArgs false
set_option linter.unusedVariables false
set_option linter.unusedSectionVars false
open Go.RowKit

theorem BoxAt.step {w w' : World} {n : Nat} {cs : Array Value} {t : TypeId} (h : BoxAt w n cs t) (hb : Below w.heap.size w w') : BoxAt w' n cs t := ⟨by rw [hb.block n h.lt]; exact h.eq⟩
theorem box5 {w : World} {n : Nat} {a b c d e : Value} {t : TypeId} (h : BoxAt w n #[a, b, c, d, e] t) : w.cell? ⟨n, 0, none⟩ = some a ∧ w.cell? ⟨n, 1, none⟩ = some b ∧ w.cell? ⟨n, 2, none⟩ = some c ∧ w.cell? ⟨n, 3, none⟩ = some d ∧ w.cell? ⟨n, 4, none⟩ = some e := by
  refine ⟨?_, ?_, ?_, ?_, ?_⟩ <;> (rw [cell?_box]; rfl)
/-- may a view be that was agreed on? -/
def mayAB (x : Vw) : Bool := decide (1 ≤ (x.ms.length : Int)) && (decide ((x.ms.length : Int) ≤ 6) && (setB x.ms && ((((nodesL x.ms).length : Int) == (x.ms.length : Int)) && (((x.us.length : Int) == (x.ms.length : Int)) && !decide ((0 : Int) ∈ x.us)))))
/-- may a view be? -/
def Vw.mayB (x : Vw) : Bool := mayIdB x.r x.n x.i && (if x.r = 0 then Vw.eqB x ⟨0, x.n, x.i, none, 0, [(x.n, x.i)], none, 0, [0]⟩ else mayAB x)
end Go.Proofs.YtniogmefbjfoaaaGreat

namespace Go.Proofs.YtniogmefbjfoaaaGreat
set_option linter.unusedSimpArgs false
set_option linter.unusedVariables false
set_option linter.unusedSectionVars false
open Go.RowKit

theorem conv_reads {w : World} {B : Nat} {A : Option Addr} {c : Nat} {bs : List Int} (h : Reads w B 1 A bs.length (bcs bs)) : (convert 37 9 (.slice A bs.length c)).run Tryz.prog w = .ok (.string (strOfNums bs)) w := by
  rcases Nat.eq_zero_or_pos bs.length with h0 | h0
  · have : bs = [] := List.eq_nil_of_length_eq_zero h0
    subst this
    cases A with
    | none => exact (run_convert_bytes_nil (P := Tryz.prog) w 37 5 Tryz.underlying37 Tryz.underlying5 0 c 9 Tryz.underlying9)
    | some a =>
      obtain ⟨b, off, t⟩ := a
      show (convert 37 9 (.slice (some ⟨b, off, t⟩) 0 c)).run Tryz.prog w = _
      rw [run_convert_bytes_string w 37 9 5 _ 0 c Tryz.underlying37 Tryz.underlying5 Tryz.underlying9, run_bytesToString w _ 0 c [] (by simp [loadCells]; rw [loadCellsFrom]; rfl)]
      rfl
  · obtain ⟨b, off, rfl, hb, hc⟩ := h.2 h0
    refine run_convert_bytes_arg (P := Tryz.prog) w 37 5 Tryz.underlying37 Tryz.underlying5 b off bs.length c bs rfl (fun i hi => ?_) 9 Tryz.underlying9
    exact hc i _ (by simp [bcs, List.getD, hi])

def fewV (w : World) : Vw := ⟨3, 1, 1, some ⟨w.heap.size + 1, 0, none⟩, 2, [(5, 2), (6, 1)], some ⟨w.heap.size + 1 + 1, 0, none⟩, 2, [4, 9]⟩
theorem few_bytes : viewB 3 1 1 [(5, 2), (6, 1)] [4, 9] = [3, 1, 1, 2, 5, 2, 6, 1, 4, 9] := by decide
theorem few_nodes : nodesL [(5, 2), (6, 1)] = [5, 6] := by
  refine ssI_ext (nodesL_spec _).1 (by simp) fun x => ?_
  rw [(nodesL_spec _).2]; simp; omega
theorem few_may (w : World) : (fewV w).mayB = true := by
  have e : nodesL (fewV w).ms = [5, 6] := few_nodes
  unfold Vw.mayB mayAB
  rw [e]
  rfl
end Go.Proofs.YtniogmefbjfoaaaGreat

namespace Go.Proofs.YtniogmefbjfoaaaGreat
set_option linter.unusedSimpArgs false
set_option linter.unusedVariables false
set_option linter.unusedSectionVars false
open Go.RowKit

/-- the slice (A, n) reads as these bytes -/
class RdY (W : World) (A : Option Addr) (n : Nat) (bs : outParam (List Int)) : Prop where
  h : Reads W W.heap.size 1 A n (bcs bs)
instance RdY.stp (X W : World) (A : Option Addr) (n : Nat) (bs : List Int) [s : Stp X W] [k : RdY X A n bs] : RdY W A n bs := ⟨(k.h.below s.h).more s.h.size⟩
@[go_sem] theorem conv_tc (W : World) (A : Option Addr) (n c : Nat) (bs : List Int) [k : RdY W A n bs] : (convert 37 9 (.slice A n c)).run Tryz.prog W = .ok (.string (strOfNums bs)) W := by
  have e : n = bs.length := by have := k.h.1; rw [bcs_len] at this; omega
  subst e
  exact conv_reads k.h
end Go.Proofs.YtniogmefbjfoaaaGreat
