/-
  Layer 8: notices in memory; contracts: notice.server, notice.May, notice.Same.
-/
import Derived.Test.YtkglclekieckoaaGreatView
import Derived.Test.YtkglclekieckoaaGreatRef4
namespace Go.Proofs.YtkglclekieckoaaGreat
set_option linter.unusedSimpArgs false
set_option linter.unusedVariables false
set_option linter.unusedSectionVars false
open Go.RowKit

/-- a notice where it lies -/
structure Nt where
  k : Int
  n : Int
  i : Int
  rd : Int
  cd : Int
  SA : Option Addr
  sc : Nat
  st : List Pr
  vw : Vw
  deriving Inhabited
def Nt.v (x : Nt) : Value := .agg #[.int .i64 x.k, .int .i64 x.n, .int .u64 x.i, .int .u64 x.rd, .int .u64 x.cd, .slice x.SA x.st.length x.sc, .int .u64 x.vw.r, .int .i64 x.vw.n, .int .u64 x.vw.i, .slice x.vw.MA x.vw.ms.length x.vw.mc, .slice x.vw.UA x.vw.us.length x.vw.uc]
structure Nt.Ok (w : World) (x : Nt) : Prop where
  s : Sl w x.SA x.st
  sl : x.st.length ≤ 1000000
  vk : x.vw.Ok w
theorem Nt.Ok.step {w w' : World} {x : Nt} (h : x.Ok w) (hb : Below w.heap.size w w') : x.Ok w' := ⟨h.s.step hb, h.sl, h.vk.step hb⟩
abbrev vw0 : Vw := ⟨0, 0, 0, none, 0, [], none, 0, []⟩
theorem vw0_ok (w : World) : vw0.Ok w := ⟨Reads.none_, Reads.none_, by simp, by simp⟩
/-- no view -/
def Vw.nilB (x : Vw) : Bool := Vw.eqB x vw0
def serverB (n i : Int) : Bool := mayB n i && decide (n ≤ 4)
/-- may a notice be? -/
def Nt.mayB (x : Nt) : Bool :=
  if x.k = 5 then eqP x.n x.i 0 0 && ((x.rd == 0) && ((x.cd == 0) && (((x.st.length : Int) == 0) && (decide (0 < x.vw.r) && x.vw.mayB))))
  else x.vw.nilB && (
    if x.k = 1 ∨ x.k = 3 then Go.Proofs.YtkglclekieckoaaGreat.mayB x.n x.i && (((x.st.length : Int) == 0) || (((x.st.length : Int) == 1) && serverB (x.st.getD 0 (0, 0)).1 (x.st.getD 0 (0, 0)).2))
    else if x.k = 2 then Go.Proofs.YtkglclekieckoaaGreat.mayB x.n x.i && ((x.rd == 0) && ((x.cd == 0) && ((x.st.length : Int) == 0)))
    else if x.k = 4 then serverB x.n x.i && ((x.rd == 0) && (decide (0 < x.cd) && (decide (1 ≤ (x.st.length : Int)) && (decide ((x.st.length : Int) ≤ 6) && (setB x.st && (((nodesL x.st).length : Int) == (x.st.length : Int)))))))
    else false)
abbrev NtV (k n i rd cd : Int) (SA : Option Addr) (sl sc : Nat) (r vn vi : Int) (MA : Option Addr) (ml mc : Nat) (UA : Option Addr) (ul uc : Nat) : Value := .agg #[.int .i64 k, .int .i64 n, .int .u64 i, .int .u64 rd, .int .u64 cd, .slice SA sl sc, .int .u64 r, .int .i64 vn, .int .u64 vi, .slice MA ml mc, .slice UA ul uc]
def RetBb (w : World) (b : Bool) (e : Ending) (w' : World) : Prop := e = .returned (.bool b) ∧ Below w.heap.size w w'
section
variable (n i rd cd : Int) (SA : Option Addr) (sc : Nat) (st : List Pr) (r vn vi : Int) (MA : Option Addr) (mc : Nat) (ms : List Pr) (UA : Option Addr) (uc : Nat) (us : List Int)
theorem same0 (W : World) (h : Vw.Ok W ⟨r, vn, vi, MA, mc, ms, UA, uc, us⟩) : Calls Tryz.prog 12 #[.agg #[.int .u64 r, .int .i64 vn, .int .u64 vi, .slice MA ms.length mc, .slice UA us.length uc], .agg #[.int .u64 0, .int .i64 0, .int .u64 0, .slice none 0 0, .slice none 0 0]] W (RetBb W (Vw.nilB ⟨r, vn, vi, MA, mc, ms, UA, uc, us⟩)) := vsame_s ⟨r, vn, vi, MA, mc, ms, UA, uc, us⟩ vw0 W h (vw0_ok W)
end
end Go.Proofs.YtkglclekieckoaaGreat

namespace Go.Proofs.YtkglclekieckoaaGreat
set_option linter.unusedSimpArgs false
set_option linter.unusedVariables false
set_option linter.unusedSectionVars false
open Go.RowKit

/-- two notices are the same -/
def Nt.eqB (x y : Nt) : Bool := (x.k == y.k) && (eqP x.n x.i y.n y.i && ((x.rd == y.rd) && ((x.cd == y.cd) && (decide (x.st = y.st) && Vw.eqB x.vw y.vw))))
/-- is it longer than is gone through? -/
def hvN (x : Nt) : Bool := decide (300 < (x.st.length : Int)) || (decide (300 < (x.vw.ms.length : Int)) || decide (300 < (x.vw.us.length : Int)))
theorem Nt.ok_of {w : World} {x : Nt} (hs : Sl w x.SA x.st) (hm : Sl w x.vw.MA x.vw.ms) (hu : Ul w x.vw.UA x.vw.us) (h : hvN x = false) : x.Ok w := by
  unfold hvN at h
  simp at h
  exact ⟨hs, by omega, ⟨hm, hu, by omega, by omega⟩⟩

/-! ### the reference's May -/
section
variable (n i rd cd : Int) (SA : Option Addr) (sc : Nat) (st : List Pr) (r vn vi : Int) (MA : Option Addr) (mc : Nat) (ms : List Pr) (UA : Option Addr) (uc : Nat) (us : List Int)
theorem refSame0 (W : World) (h : Vw.Ok W ⟨r, vn, vi, MA, mc, ms, UA, uc, us⟩) : Calls Tryz.prog 51 #[.agg #[.int .u64 r, .int .i64 vn, .int .u64 vi, .slice MA ms.length mc, .slice UA us.length uc], .agg #[.int .u64 0, .int .i64 0, .int .u64 0, .slice none 0 0, .slice none 0 0]] W (RetBb W (Vw.nilB ⟨r, vn, vi, MA, mc, ms, UA, uc, us⟩)) := refVSame_s ⟨r, vn, vi, MA, mc, ms, UA, uc, us⟩ vw0 W h (vw0_ok W)
end
/-- what is asked of a notice's numbers -/
structure Nt.Wf (x : Nt) : Prop where
  p : wfP (x.n, x.i)
  rd : wfU64 x.rd
  cd : wfU64 x.cd
  st : ∀ p ∈ x.st, wfP p
  sl : x.st.length ≤ 9223372036854775807
  vw : x.vw.Wf
theorem setB_one (p : Pr) : setB [p] = mayB p.1 p.2 := by simp [setB, okAt, List.range_succ]
end Go.Proofs.YtkglclekieckoaaGreat
