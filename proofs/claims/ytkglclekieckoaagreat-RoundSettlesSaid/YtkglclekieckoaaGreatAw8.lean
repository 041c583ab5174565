/-
  How proposals lie in memory, read from the drawn argument.
-/
import Derived.Test.YtkglclekieckoaaGreatLView2
import Derived.Test.YtkglclekieckoaaGreatPp
import Derived.Test.YtkglclekieckoaaGreatRu16
import Derived.Test.YtkglclekieckoaaGreatAgR
namespace Go.Proofs.YtkglclekieckoaaGreat
set_option linter.unusedSimpArgs false
set_option linter.unusedVariables false
set_option linter.unusedSectionVars false
open Go.ChangeShapes Go.WideShapes Go.ChangeAt Go.RowKit Go.Deep

theorem Tryz.fieldsPp : ∃ f0 f1 f2 f3 f4, Tryz.prog.underlying 41 = some (.struct #[f0, f1, f2, f3, f4]) ∧ (f0.type = 25 ∧ f0.offset = 0) ∧ (f1.type = 22 ∧ f1.offset = 2) ∧ (f2.type = 27 ∧ f2.offset = 3) ∧ (f3.type = 27 ∧ f3.offset = 4) ∧ (f4.type = 34 ∧ f4.offset = 5) := ⟨_, _, _, _, _, Tryz.underlying41, ⟨rfl, rfl⟩, ⟨rfl, rfl⟩, ⟨rfl, rfl⟩, ⟨rfl, rfl⟩, ⟨rfl, rfl⟩⟩
theorem Tryz.cellsPp : Tryz.prog.cellsOf 41 = 6 := by kernel_rfl
/-- what its numbers are -/
structure Pp.Wf (x : Pp) : Prop where
  p : wfP (x.n, x.i)
  rd : wfU64 x.rd
  ss : ∀ p ∈ x.ss, wfP p
  cs : ∀ p ∈ x.cs, wfP p
  us : ∀ u ∈ x.us, wfU64 u
  sl : x.ss.length ≤ 9223372036854775807
  cl : x.cs.length ≤ 9223372036854775807
  ul : x.us.length ≤ 9223372036854775807
/-- where its rows lie -/
structure Pp.In (w : World) (x : Pp) : Prop where
  s : Sl w x.SA x.ss
  c : Sl w x.CA x.cs
  u : Ul w x.UA x.us
section
variable {H : Type} {enc : TypeId × Value → H} {w : World} {base : Nat} {spare : Nat → Bool} {held : Bool}
set_option maxRecDepth 100000 in
theorem trod_prop {fuel : Nat} {cs : List Value} {y : DataW H × List MemPlace} (hl : cs.length = 6) (h : DataW.trod enc Tryz.prog w base spare held fuel 41 cs = some y) :
    ∃ x : Pp, cs = x.cl ∧ (x.In w ∧ x.Wf) := by
  obtain ⟨f0, f1, f2, f3, f4, hu, ⟨t0, o0⟩, ⟨t1, o1⟩, ⟨t2, o2⟩, ⟨t3, o3⟩, ⟨t4, o4⟩⟩ := Tryz.fieldsPp
  obtain ⟨xs, n, _, _, _, hxl, hf⟩ := DataW.trod_struct hu h
  have g0 := hf 0 f0 rfl
  have g1 := hf 1 f1 rfl
  have g2 := hf 2 f2 rfl
  have g3 := hf 3 f3 rfl
  have g4 := hf 4 f4 rfl
  rw [t0, o0, Tryz.cellsP] at g0
  rw [t1, o1, Tryz.cellsU] at g1
  rw [t2, o2, Tryz.cellsPs'] at g2
  rw [t3, o3, Tryz.cellsPs'] at g3
  rw [t4, o4, Tryz.cellsUs] at g4
  match cs, hl with
  | [c0, c1, c2, c3, c4, c5], _ =>
    match xs, hxl with
    | [y0, y1, y2, y3, y4], _ =>
      obtain ⟨p, e0, w0⟩ := trod_proc (by simp) g0
      obtain ⟨rd, e1, _, w1⟩ := DataW.trod_int Tryz.underlying22 g1
      obtain ⟨SA, ss, sc, e2, m1, m2, m3, m4⟩ := trod_procs g2
      obtain ⟨CA, cs', cc, e3, n1, n2, n3, n4⟩ := trod_procs g3
      obtain ⟨UA, us, uc, e4, u1, u2, u3, u4⟩ := trod_us g4
      simp [pc] at e0 e1 e2 e3 e4
      rw [flat_map1] at u3
      unfold maxLen at m2 n2 u2
      exact ⟨⟨p.1, p.2, rd, SA, sc, ss, CA, cc, cs', UA, uc, us⟩, by rw [e0.1, e0.2, e1, e2, e3, e4]; rfl, ⟨m3, n3, u3⟩, ⟨w0, bounds_u64 w1, m4, n4, u4, Nat.le_trans m1 m2, Nat.le_trans n1 n2, Nat.le_trans u1 u2⟩⟩
set_option maxRecDepth 100000 in
theorem open_prop {r : Reach} {b0 : Nat} {v : Value} {d : DataW H} {p : List MemPlace} (hv : Value.okWide Tryz.prog w r b0 41 v) (h : DataW.Trod enc Tryz.prog w base spare held 41 v d p) :
    ∃ x : Pp, v = x.v ∧ x.In w ∧ x.Wf := by
  obtain ⟨cs, rfl, hsz⟩ := okWide_struct Tryz.underlying41 hv
  obtain ⟨l⟩ := cs
  obtain ⟨fuel, hf⟩ := h
  obtain ⟨x, hq, hw⟩ := trod_prop (by simpa [Tryz.cellsPp, Value.cells] using hsz) hf
  simp [Value.cells] at hq
  exact ⟨x, by rw [hq]; rfl, hw⟩
theorem trod_props {fuel : Nat} {cs : List Value} {x : DataW H × List MemPlace} (h : DataW.trod enc Tryz.prog w base spare held fuel 31 cs = some x) :
    ∃ (A : Option Addr) (l : List Pp) (c : Nat), cs = [.slice A l.length c] ∧ l.length ≤ c ∧ c ≤ maxLen ∧ Reads w w.heap.size 6 A l.length (pps l) ∧ ∀ p ∈ l, p.In w ∧ p.Wf :=
  open_sl Pp.cl (fun p => p.In w ∧ p.Wf) Tryz.cellsPp Pp.cl_len (by omega) (fun _ _ _ hl h => trod_prop hl h) Tryz.underlying31 h
set_option maxRecDepth 100000 in
theorem open_props {r : Reach} {b0 : Nat} {v : Value} {d : DataW H} {p : List MemPlace} (hv : Value.okWide Tryz.prog w r b0 31 v) (h : DataW.Trod enc Tryz.prog w base spare held 31 v d p) :
    ∃ (A : Option Addr) (l : List Pp) (c : Nat), v = .slice A l.length c ∧ l.length ≤ c ∧ c ≤ maxLen ∧ Reads w w.heap.size 6 A l.length (pps l) ∧ ∀ p ∈ l, p.In w ∧ p.Wf := by
  obtain ⟨a0, len, cap, rfl⟩ := okWide_slice Tryz.underlying31 hv
  obtain ⟨fuel, hf⟩ := h
  obtain ⟨A, l, c, hcs, h1, h2, h3, h4⟩ := trod_props hf
  simp [Value.cells] at hcs
  obtain ⟨rfl, rfl, rfl⟩ := hcs
  exact ⟨_, l, _, rfl, h1, h2, h3, h4⟩
end
theorem Pp.ok_of {w : World} {x : Pp} (h : x.In w) (hh : hvP x = false) : x.Ok w := by
  unfold hvP at hh
  simp at hh
  exact ⟨h.s, by omega, h.c, by omega, h.u, by omega⟩
theorem Pp.Wf.nn {x : Pp} (h : x.Wf) : (∀ p ∈ x.ss, 0 ≤ p.2) ∧ ∀ p ∈ x.cs, 0 ≤ p.2 := ⟨fun p hp => (h.ss p hp).2.2.1, fun p hp => (h.cs p hp).2.2.1⟩
end Go.Proofs.YtkglclekieckoaaGreat

namespace Go.Proofs.YtkglclekieckoaaGreat
set_option linter.unusedSimpArgs false
set_option linter.unusedVariables false
set_option linter.unusedSectionVars false
open Go.RowKit

structure Ax where
  w : Int
  SA : Option Addr
  sc : Nat
  ss : List Pr
  LA : Option Addr
  lc : Nat
  cl : List Cl
  pp : Pp
  nd : Int
  deriving Inhabited
def Ax.cl' (x : Ax) : List Value := [.int .i64 x.w, .slice x.SA x.ss.length x.sc, .slice x.LA x.cl.length x.lc, .int .i64 x.pp.n, .int .u64 x.pp.i, .int .u64 x.pp.rd, .slice x.pp.SA x.pp.ss.length x.pp.sc, .slice x.pp.CA x.pp.cs.length x.pp.cc, .slice x.pp.UA x.pp.us.length x.pp.uc, .int .i64 x.nd]
theorem Ax.cl_len (x : Ax) : x.cl'.length = 10 := rfl
def axs (l : List Ax) : List Value := l.flatMap Ax.cl'
theorem axs_len (l : List Ax) : (axs l).length = l.length * 10 := flat_length Ax.cl_len l
structure AtX (w : World) (b o : Nat) (x : Ax) : Prop where
  h0 : w.cell? ⟨b, o, none⟩ = some (.int .i64 x.w)
  h1 : w.cell? ⟨b, o + 1, none⟩ = some (.slice x.SA x.ss.length x.sc)
  h2 : w.cell? ⟨b, o + 2, none⟩ = some (.slice x.LA x.cl.length x.lc)
  h3 : w.cell? ⟨b, o + 3, none⟩ = some (.int .i64 x.pp.n)
  h4 : w.cell? ⟨b, o + 4, none⟩ = some (.int .u64 x.pp.i)
  h5 : w.cell? ⟨b, o + 5, none⟩ = some (.int .u64 x.pp.rd)
  h6 : w.cell? ⟨b, o + 6, none⟩ = some (.slice x.pp.SA x.pp.ss.length x.pp.sc)
  h7 : w.cell? ⟨b, o + 7, none⟩ = some (.slice x.pp.CA x.pp.cs.length x.pp.cc)
  h8 : w.cell? ⟨b, o + 8, none⟩ = some (.slice x.pp.UA x.pp.us.length x.pp.uc)
  h9 : w.cell? ⟨b, o + 9, none⟩ = some (.int .i64 x.nd)
theorem Reads.atX {w : World} {B : Nat} {A : Option Addr} {n k : Nat} {l : List Ax} (h : Reads w B 10 A n (axs l)) (hk : k < n) :
    ∃ b off x, A = some ⟨b, off, none⟩ ∧ b < B ∧ l[k]? = some x ∧ AtX w b (off + k * 10) x := by
  obtain ⟨b, off, rfl, hb, hc⟩ := h.2 (by omega)
  have hl : k < l.length := by have := h.1; rw [axs_len] at this; omega
  have hp : l[k]? = some l[k] := List.getElem?_eq_getElem hl
  have key : ∀ j (hj : j < 10), w.cell? ⟨b, off + k * 10 + j, none⟩ = (l[k].cl')[j]? := by
    intro j hj
    have hx : (l[k].cl')[j]? = some ((l[k].cl')[j]'(by rw [Ax.cl_len]; exact hj)) := List.getElem?_eq_getElem _
    rw [Nat.add_assoc, hx]
    exact hc (k * 10 + j) _ (by rw [axs, flat_get Ax.cl_len l k j _ hp hj, hx])
  exact ⟨b, off, l[k], rfl, hb, hp, key 0 (by omega), key 1 (by omega), key 2 (by omega), key 3 (by omega), key 4 (by omega), key 5 (by omega), key 6 (by omega), key 7 (by omega), key 8 (by omega), key 9 (by omega)⟩
/-- what a drawn one is -/
structure AxRd (w : World) (x : Ax) : Prop where
  s : Sl w x.SA x.ss
  l : Cll w x.LA x.cl
  ps : Sl w x.pp.SA x.pp.ss
  pc : Sl w x.pp.CA x.pp.cs
  pu : Ul w x.pp.UA x.pp.us
  cl : clOk x.cl
  pp : ppOk x.pp
  w0 : -9223372036854775808 ≤ x.w
  w1 : x.w ≤ 9223372036854775807
def heavy1 (x : Ax) : Bool := decide (50 < x.ss.length) || (decide (50 < x.cl.length) || (decide (50 < x.pp.ss.length) || (decide (50 < x.pp.cs.length) || decide (50 < x.pp.us.length))))
def heavyB (l : List Ax) : Bool := decide (60 < l.length) || l.any heavy1
set_option maxRecDepth 100000 in
set_option maxHeartbeats 4000000 in
theorem heavy18_s (A : Option Addr) (c : Nat) (l : List Ax) (w : World) (h : Reads w w.heap.size 10 A l.length (axs l)) (hl : l.length ≤ 9223372036854775807) :
    Calls Tryz.prog 13 #[.slice A l.length c] w (RetB w (heavyB l)) := by
  haveI : Src w A l.length 10 (axs l) := ⟨h⟩
  clear h
  go_enter Tryz.func13, Tryz.ntmps13
  by_cases h60 : 60 < l.length
  · have hd : decide ((60 : Int) < (l.length : Int)) = true := decide_eq_true (by omega)
    go_wp2
    go_ret
    refine ⟨?_, blw⟩
    rw [show heavyB l = true by unfold heavyB; rw [decide_eq_true h60, Bool.true_or]]
    rfl
  · have hd : decide ((60 : Int) < (l.length : Int)) = false := decide_eq_false (by omega)
    have HV := hide (show heavyB l = l.any heavy1 by unfold heavyB; rw [decide_eq_false h60, Bool.false_or])
    go_wp2
    go_loopw [3] (fun s3 wr => ∃ m : Nat, s3 = .int .i64 m ∧ m ≤ l.length ∧ (∀ x ∈ l.take m, heavy1 x = false) ∧ Below w.heap.size w wr) (fun s3 _ => l.length - (intOf s3).toNat)
    case atStart => exact ⟨0, rfl, Nat.zero_le _, (fun x hx => by simp at hx), blw⟩
    case round =>
      obtain ⟨m, rfl, hm, hf, hB⟩ := hrel
      haveI : Stp w wr := ⟨hB⟩
      have zr := hB.size
      have HF := hide hf
      clear hf hB
      by_cases hlt : m < l.length
      · obtain ⟨b, off, x, hA, hb, hx, g0, g1, g2, g3, g4, g5, g6, g7, g8, g9⟩ := (src (w := w) (W := wr) (A := A) (n := l.length) (k := 10) (xs := axs l)).atX hlt
        subst hA
        haveI : InW b wr := ⟨hb⟩
        have HX2 := hide hx
        have i0 : (0 : Int) ≤ (m : Int) := by omega
        have i1 : (m : Int) < (l.length : Int) := by omega
        clear hx
        have HS := hide (show heavy1 x = (decide ((50 : Int) < (x.ss.length : Int)) || (decide ((50 : Int) < (x.cl.length : Int)) || (decide ((50 : Int) < (x.pp.ss.length : Int)) || (decide ((50 : Int) < (x.pp.cs.length : Int)) || decide ((50 : Int) < (x.pp.us.length : Int)))))) by
          unfold heavy1
          simp only [show ∀ n : Nat, decide (50 < n) = decide ((50 : Int) < (n : Int)) from fun n => decide_eq_decide.2 (by omega)])
        have HY := hide (fun hh : heavy1 x = true => (show heavyB l = true by rw [HV.out]; exact List.any_eq_true.2 ⟨x, List.mem_of_getElem? HX2.out, hh⟩))
        by_cases q1 : (50 : Int) < (x.ss.length : Int)
        · have d1 : decide ((50 : Int) < (x.ss.length : Int)) = true := decide_eq_true q1
          have HH := hide (HY.out (by rw [HS.out, d1]; rfl))
          go_wp2
          go_ret
          refine ⟨?_, blw⟩
          rw [HH.out]
          rfl
        · have d1 : decide ((50 : Int) < (x.ss.length : Int)) = false := decide_eq_false q1
          clear q1
          by_cases q2 : (50 : Int) < (x.cl.length : Int)
          · have d2 : decide ((50 : Int) < (x.cl.length : Int)) = true := decide_eq_true q2
            have HH := hide (HY.out (by rw [HS.out, d1, d2]; rfl))
            go_wp2
            go_ret
            refine ⟨?_, blw⟩
            rw [HH.out]
            rfl
          · have d2 : decide ((50 : Int) < (x.cl.length : Int)) = false := decide_eq_false q2
            clear q2
            by_cases q3 : (50 : Int) < (x.pp.ss.length : Int)
            · have d3 : decide ((50 : Int) < (x.pp.ss.length : Int)) = true := decide_eq_true q3
              have HH := hide (HY.out (by rw [HS.out, d1, d2, d3]; rfl))
              go_wp2
              go_ret
              refine ⟨?_, blw⟩
              rw [HH.out]
              rfl
            · have d3 : decide ((50 : Int) < (x.pp.ss.length : Int)) = false := decide_eq_false q3
              clear q3
              by_cases q4 : (50 : Int) < (x.pp.cs.length : Int)
              · have d4 : decide ((50 : Int) < (x.pp.cs.length : Int)) = true := decide_eq_true q4
                have HH := hide (HY.out (by rw [HS.out, d1, d2, d3, d4]; rfl))
                go_wp2
                go_ret
                refine ⟨?_, blw⟩
                rw [HH.out]
                rfl
              · have d4 : decide ((50 : Int) < (x.pp.cs.length : Int)) = false := decide_eq_false q4
                clear q4
                by_cases q5 : (50 : Int) < (x.pp.us.length : Int)
                · have d5 : decide ((50 : Int) < (x.pp.us.length : Int)) = true := decide_eq_true q5
                  have HH := hide (HY.out (by rw [HS.out, d1, d2, d3, d4, d5]; rfl))
                  go_wp2
                  go_ret
                  refine ⟨?_, blw⟩
                  rw [HH.out]
                  rfl
                · have d5 : decide ((50 : Int) < (x.pp.us.length : Int)) = false := decide_eq_false q5
                  clear q5
                  have HX := hide (show heavy1 x = false by rw [HS.out, d1, d2, d3, d4, d5]; rfl)
                  go_wp2
                  go_roundw
                  case rel => exact ⟨m + 1, by go_num, by omega, (fun y hy => by
                    rw [take_succ_of HX2.out] at hy
                    rcases List.mem_append.1 hy with hy | hy
                    · exact HF.out y hy
                    · rw [List.mem_singleton.1 hy]; exact HX.out), blw⟩
                  case measure => simp [intOf]; omega
      · obtain rfl : m = l.length := by omega
        have HH := hide (show heavyB l = false by
          rw [HV.out]
          refine List.any_eq_false.2 (fun x hx => ?_)
          have := HF.out x (by rw [List.take_length]; exact hx)
          simp [this])
        go_wp2
        go_ret
        refine ⟨?_, blw⟩
        rw [HH.out]
        rfl
end Go.Proofs.YtkglclekieckoaaGreat

namespace Go.Proofs.YtkglclekieckoaaGreat
set_option linter.unusedSimpArgs false
set_option linter.unusedVariables false
set_option linter.unusedSectionVars false
open Go.ChangeShapes Go.WideShapes Go.ChangeAt Go.RowKit Go.Deep

def wfC8 (c : Cl) : Prop := wfP (c.n, c.i) ∧ (0 ≤ c.cid ∧ c.cid ≤ 18446744073709551615) ∧ (0 ≤ c.rnd ∧ c.rnd ≤ 18446744073709551615) ∧ (0 ≤ c.heard ∧ c.heard ≤ 18446744073709551615)
theorem Tryz.fieldsC8 : ∃ f0 f1 f2 f3 f4, Tryz.prog.underlying 48 = some (.struct #[f0, f1, f2, f3, f4]) ∧ (f0.type = 25 ∧ f0.offset = 0) ∧ (f1.type = 22 ∧ f1.offset = 2) ∧ (f2.type = 22 ∧ f2.offset = 3) ∧ (f3.type = 22 ∧ f3.offset = 4) ∧ (f4.type = 4 ∧ f4.offset = 5) := ⟨_, _, _, _, _, Tryz.underlying48, ⟨rfl, rfl⟩, ⟨rfl, rfl⟩, ⟨rfl, rfl⟩, ⟨rfl, rfl⟩, ⟨rfl, rfl⟩⟩
theorem Tryz.cellsBool8 : Tryz.prog.cellsOf 4 = 1 := by kernel_rfl
theorem Tryz.cellsC8 : Tryz.prog.cellsOf 48 = 6 := by kernel_rfl
theorem Tryz.cellsCs8 : Tryz.prog.cellsOf 28 = 1 := by kernel_rfl
theorem Tryz.cellsR8 : Tryz.prog.cellsOf 30 = 1 := by kernel_rfl
theorem Tryz.fieldsR8 : ∃ f0, Tryz.prog.underlying 30 = some (.struct #[f0]) ∧ f0.type = 28 ∧ f0.offset = 0 := ⟨_, Tryz.underlying30, rfl, rfl⟩
theorem Tryz.fieldsX8 : ∃ f0 f1 f2 f3 f4, Tryz.prog.underlying 56 = some (.struct #[f0, f1, f2, f3, f4]) ∧ (f0.type = 3 ∧ f0.offset = 0) ∧ (f1.type = 27 ∧ f1.offset = 1) ∧ (f2.type = 30 ∧ f2.offset = 2) ∧ (f3.type = 41 ∧ f3.offset = 3) ∧ (f4.type = 3 ∧ f4.offset = 9) := ⟨_, _, _, _, _, Tryz.underlying56, ⟨rfl, rfl⟩, ⟨rfl, rfl⟩, ⟨rfl, rfl⟩, ⟨rfl, rfl⟩, ⟨rfl, rfl⟩⟩
theorem Tryz.cellsX8 : Tryz.prog.cellsOf 56 = 10 := by kernel_rfl
section
variable {H : Type} {enc : TypeId × Value → H} {w : World} {base : Nat} {spare : Nat → Bool} {held : Bool}
set_option maxRecDepth 100000 in
theorem trod_client8 {fuel : Nat} {cs : List Value} {x : DataW H × List MemPlace} (hl : cs.length = 6) (h : DataW.trod enc Tryz.prog w base spare held fuel 48 cs = some x) : ∃ c, cs = cc c ∧ wfC8 c := by
  obtain ⟨f0, f1, f2, f3, f4, hu, ⟨t0, o0⟩, ⟨t1, o1⟩, ⟨t2, o2⟩, ⟨t3, o3⟩, ⟨t4, o4⟩⟩ := Tryz.fieldsC8
  obtain ⟨xs, n, _, _, _, hxl, hf⟩ := DataW.trod_struct hu h
  have g0 := hf 0 f0 rfl
  have g1 := hf 1 f1 rfl
  have g2 := hf 2 f2 rfl
  have g3 := hf 3 f3 rfl
  have g4 := hf 4 f4 rfl
  rw [t0, o0, Tryz.cellsP] at g0
  rw [t1, o1, Tryz.cellsU] at g1
  rw [t2, o2, Tryz.cellsU] at g2
  rw [t3, o3, Tryz.cellsU] at g3
  rw [t4, o4, Tryz.cellsBool8] at g4
  match cs, hl with
  | [c0, c1, c2, c3, c4, c5], _ =>
    match xs, hxl with
    | [y0, y1, y2, y3, y4], _ =>
      obtain ⟨p, e0, w0⟩ := trod_proc (by simp) g0
      obtain ⟨a1, e1, _, w1⟩ := DataW.trod_int Tryz.underlying22 g1
      obtain ⟨a2, e2, _, w2⟩ := DataW.trod_int Tryz.underlying22 g2
      obtain ⟨a3, e3, _, w3⟩ := DataW.trod_int Tryz.underlying22 g3
      obtain ⟨a4, e4, _⟩ := DataW.trod_bool Tryz.underlying4 g4
      simp [pc] at e0 e1 e2 e3 e4
      exact ⟨⟨p.1, p.2, a1, a2, a3, a4⟩, by rw [e0.1, e0.2, e1, e2, e3, e4]; rfl, w0, bounds_u64 w1, bounds_u64 w2, bounds_u64 w3⟩
theorem trod_clients8 {fuel : Nat} {cs : List Value} {x : DataW H × List MemPlace} (h : DataW.trod enc Tryz.prog w base spare held fuel 28 cs = some x) :
    ∃ (A : Option Addr) (l : List Cl) (c : Nat), cs = [.slice A l.length c] ∧ l.length ≤ c ∧ c ≤ maxLen ∧ Cll w A l ∧ ∀ p ∈ l, wfC8 p :=
  open_sl cc wfC8 Tryz.cellsC8 cc_len (by omega) (fun _ _ _ hl h => trod_client8 hl h) Tryz.underlying28 h
set_option maxRecDepth 100000 in
theorem trod_registry8 {fuel : Nat} {cs : List Value} {x : DataW H × List MemPlace} (hl : cs.length = 1) (h : DataW.trod enc Tryz.prog w base spare held fuel 30 cs = some x) :
    ∃ (A : Option Addr) (l : List Cl) (c : Nat), cs = [.slice A l.length c] ∧ l.length ≤ c ∧ c ≤ maxLen ∧ Cll w A l ∧ ∀ p ∈ l, wfC8 p := by
  obtain ⟨f0, hu, t0, o0⟩ := Tryz.fieldsR8
  obtain ⟨xs, n, _, _, _, hxl, hf⟩ := DataW.trod_struct hu h
  have g0 := hf 0 f0 rfl
  rw [t0, o0, Tryz.cellsCs8] at g0
  match cs, hl with
  | [c0], _ =>
    match xs, hxl with
    | [y0], _ =>
      obtain ⟨A, l, c, hcs, h1⟩ := trod_clients8 g0
      simp at hcs
      exact ⟨A, l, c, by rw [hcs], h1⟩
set_option maxRecDepth 100000 in
theorem trod_act8 {fuel : Nat} {cs : List Value} {x : DataW H × List MemPlace} (hl : cs.length = 10) (h : DataW.trod enc Tryz.prog w base spare held fuel 56 cs = some x) : ∃ a : Ax, cs = a.cl' ∧ AxRd w a := by
  obtain ⟨f0, f1, f2, f3, f4, hu, ⟨t0, o0⟩, ⟨t1, o1⟩, ⟨t2, o2⟩, ⟨t3, o3⟩, ⟨t4, o4⟩⟩ := Tryz.fieldsX8
  obtain ⟨xs, n, _, _, _, hxl, hf⟩ := DataW.trod_struct hu h
  have g0 := hf 0 f0 rfl
  have g1 := hf 1 f1 rfl
  have g2 := hf 2 f2 rfl
  have g3 := hf 3 f3 rfl
  have g4 := hf 4 f4 rfl
  rw [t0, o0, Tryz.cellsI] at g0
  rw [t1, o1, Tryz.cellsPs'] at g1
  rw [t2, o2, Tryz.cellsR8] at g2
  rw [t3, o3, Tryz.cellsPp] at g3
  rw [t4, o4, Tryz.cellsI] at g4
  match cs, hl with
  | [c0, c1, c2, c3, c4, c5, c6, c7, c8, c9], _ =>
    match xs, hxl with
    | [y0, y1, y2, y3, y4], _ =>
      obtain ⟨a0, e0, _, w0⟩ := DataW.trod_int Tryz.underlying3 g0
      obtain ⟨SA, ss, sc, e1, _, _, m3, _⟩ := trod_procs g1
      obtain ⟨LA, cl, lc, e2, _, _, n3, n4⟩ := trod_registry8 (by simp) g2
      obtain ⟨pp, e3, p1, p2⟩ := trod_prop (by simp) g3
      obtain ⟨a4, e4, _, _⟩ := DataW.trod_int Tryz.underlying3 g4
      obtain ⟨b1, b2⟩ := bounds_i64 w0
      simp [Pp.cl] at e0 e1 e2 e3 e4
      exact ⟨⟨a0, SA, sc, ss, LA, lc, cl, pp, a4⟩, by rw [e0, e1, e2, e3.1, e3.2.1, e3.2.2.1, e3.2.2.2.1, e3.2.2.2.2.1, e3.2.2.2.2.2, e4]; rfl, ⟨m3, n3, p1.s, p1.c, p1.u, fun x hx => ⟨(n4 x hx).1, (n4 x hx).2.1.1, (n4 x hx).2.1.2, (n4 x hx).2.2.1.1, (n4 x hx).2.2.1.2⟩, ⟨p2.rd.2, p2.cs⟩, b1, b2⟩⟩
set_option maxRecDepth 100000 in
theorem open_acts8 {r : Reach} {b0 : Nat} {v : Value} {d : DataW H} {p : List MemPlace} (hv : Value.okWide Tryz.prog w r b0 53 v) (h : DataW.Trod enc Tryz.prog w base spare held 53 v d p) :
    ∃ (A : Option Addr) (l : List Ax) (c : Nat), v = .slice A l.length c ∧ l.length ≤ 9223372036854775807 ∧ Reads w w.heap.size 10 A l.length (axs l) ∧ ∀ y ∈ l, AxRd w y := by
  obtain ⟨a0, len, cap, rfl⟩ := okWide_slice Tryz.underlying53 hv
  obtain ⟨fuel, hf⟩ := h
  obtain ⟨A, l, c, hq, m1, m2, h3, h4⟩ := open_sl Ax.cl' (AxRd w) Tryz.cellsX8 Ax.cl_len (by omega) (fun _ _ _ hl h => trod_act8 hl h) Tryz.underlying53 hf
  simp [Value.cells] at hq
  obtain ⟨rfl, rfl, rfl⟩ := hq
  unfold maxLen at m2
  exact ⟨_, l, _, rfl, Nat.le_trans m1 m2, h3, h4⟩
end
end Go.Proofs.YtkglclekieckoaaGreat

namespace Go.Proofs.YtkglclekieckoaaGreat
set_option linter.unusedSimpArgs false
set_option linter.unusedVariables false
set_option linter.unusedSectionVars false
open Go.RowKit

theorem sorted_one (x : Pr) : sortedL [x] = [x] := sortedL_self (List.pairwise_singleton _ _)
def aloneP (n i cn ci cid rd : Int) : Pp := ⟨n, i, rd, none, 0, [(n, i)], none, 0, [(cn, ci)], none, 0, [cid]⟩
def aloneV (n i cn ci cid rd : Int) : Vw := ⟨rd, n, i, none, 0, [(cn, ci)], none, 0, [cid]⟩
theorem alone_eq {n i cn ci cid rd hd : Int} (h1 : togetherB [(n, i)] = true) (h2 : mayR [⟨cn, ci, cid, rd, hd, false⟩] = true) (h3 : 0 ≤ cid) (h4 : cid < um) (h5 : 0 ≤ rd) (h6 : rd + 1 < um) (hw : wfP (cn, ci)) :
    renewP (newA n i) [(n, i)] [⟨cn, ci, cid, rd, hd, false⟩] =
      (⟨n, i, rd + 1, none, 0, [(n, i)], none, 0, [⟨cn, ci, cid + 1, rd, hd, false⟩], none, 0, [(cn, ci)], none, 0, [aloneP n i cn ci (cid + 1) (rd + 1)], true, false, aloneV n i cn ci (cid + 1) (rd + 1)⟩,
       ⟨none, 0, [startT ⟨n, i, rd + 1, none, 0, [(n, i)], none, 0, [⟨cn, ci, cid + 1, rd, hd, false⟩], none, 0, [(cn, ci)], none, 0, [], false, false, vw0⟩ (cn, ci) (cid + 1), comeT (cn, ci) (aloneV n i cn ci (cid + 1) (rd + 1))], true, aloneP n i cn ci (cid + 1) (rd + 1), true, aloneV n i cn ci (cid + 1) (rd + 1)⟩) := by
  have hm2 : mayR [⟨cn, ci, cid + 1, rd, hd, false⟩] = true := by
    rw [mayR_iff] at h2 ⊢
    refine ⟨by unfold rising; exact List.pairwise_singleton _ _, fun x hx => ?_, by simp⟩
    rw [List.mem_singleton.1 hx]
    exact (h2.2.1 ⟨cn, ci, cid, rd, hd, false⟩ (List.mem_singleton.2 rfl) : mayB cn ci = true)
  have hc : mostL { newA n i with ss := [(n, i)], cl := [⟨cn, ci, cid, rd, hd, false⟩] } = rd := by
    unfold mostL
    simp only [takenR_of h2]
    simp [newA, thereL, maxR]
    omega
  have hup : upU rd = rd + 1 := by unfold upU um at *; rw [if_neg (by omega)]
  have hr : raiseR (takenR [(⟨cn, ci, cid, rd, hd, false⟩ : Cl)]) = ([⟨cn, ci, cid + 1, rd, hd, false⟩], true) := by
    rw [takenR_of h2]
    unfold raiseR
    rw [if_neg (by simp [raiB]; unfold um at h4; omega)]
    simp [upC]
  have hI : Ag.Inv { newA n i with ss := [(n, i)], cl := [⟨cn, ci, cid, rd, hd, false⟩] } := (new_inv n i).with h1 (List.mem_singleton.2 rfl) h2 (fun x hx => by
    rw [List.mem_singleton.1 hx]
    exact ⟨hw, h3, Int.le_of_lt h4, h5, by show rd ≤ um; omega⟩)
  have hp := propose_yes (a := { newA n i with ss := [(n, i)], cl := [⟨cn, ci, cid, rd, hd, false⟩] }) (t := tu0) (n := rd + 1) (by
    rw [show (raiseR (takenR ({ newA n i with ss := [(n, i)], cl := [(⟨cn, ci, cid, rd, hd, false⟩ : Cl)] } : Ag).cl)).2 = true from by rw [hr]]
    rintro (e | e | e)
    · omega
    · have e : rd + 1 = um := e
      omega
    · cases e)
  have hw1 := hI.sole (by rw [hr]) rfl (rd + 1)
  have hb : begunA { newA n i with ss := [(n, i)], cl := [⟨cn, ci, cid, rd, hd, false⟩] } (rd + 1) = ⟨n, i, rd + 1, none, 0, [(n, i)], none, 0, [⟨cn, ci, cid + 1, rd, hd, false⟩], none, 0, [], none, 0, [], false, false, vw0⟩ := by
    unfold begunA
    rw [hr]
    rfl
  rw [hb] at hw1
  have ht : toldA (begunA { newA n i with ss := [(n, i)], cl := [⟨cn, ci, cid, rd, hd, false⟩] } (rd + 1)) = ⟨n, i, rd + 1, none, 0, [(n, i)], none, 0, [⟨cn, ci, cid + 1, rd, hd, false⟩], none, 0, [(cn, ci)], none, 0, [], false, false, vw0⟩ := by
    rw [hb]
    unfold toldA
    rw [hw1]
    rfl
  have hmy : myP ⟨n, i, rd + 1, none, 0, [(n, i)], none, 0, [⟨cn, ci, cid + 1, rd, hd, false⟩], none, 0, [(cn, ci)], none, 0, [], false, false, vw0⟩ = aloneP n i cn ci (cid + 1) (rd + 1) := rfl
  have hmay : (aloneP n i cn ci (cid + 1) (rd + 1)).mayB = true := by
    rw [← hmy]
    exact myP_may h1 (List.mem_singleton.2 rfl) (by show 0 < rd + 1; omega) hm2 (fun x hx => by
      obtain ⟨h8, _⟩ := there_gone hx
      rw [List.mem_singleton.1 h8]
      show 0 < cid + 1
      omega)
  have hag : agreeB [aloneP n i cn ci (cid + 1) (rd + 1)] = true := by
    rw [agreeB_iff]
    refine ⟨by simp, by simp, rd + 1, [(n, i)], rfl, fun p hp => ?_, ?_⟩
    · rw [List.mem_singleton.1 hp]; exact ⟨hmay, rfl, rfl⟩
    · exact sorted_one (n, i)
  have hvw : viewP [aloneP n i cn ci (cid + 1) (rd + 1)] = some ((rd + 1, n, i), [(cn, ci)], [cid + 1]) := by
    unfold viewP
    rw [if_neg (by rw [hag]; simp), if_neg (by simp [clsP, aloneP, livesB])]
    have e : clsP [aloneP n i cn ci (cid + 1) (rd + 1)] = [(cn, ci)] := by simp [clsP, aloneP]
    rw [e, sorted_one]
    simp [aloneP, prs, lookL]
  have hown : ownL ⟨n, i, rd + 1, none, 0, [(n, i)], none, 0, [⟨cn, ci, cid + 1, rd, hd, false⟩], none, 0, [(cn, ci)], none, 0, [aloneP n i cn ci (cid + 1) (rd + 1)], false, false, vw0⟩ = [(cn, ci)] := by
    unfold ownL
    rw [takenR_of hm2]
    rfl
  unfold renewP
  rw [if_neg (by rw [h1, h2]; simp [newA, Ag.sv])]
  simp only
  rw [hc, hup, hp, ht]
  have hput : putA ⟨n, i, rd + 1, none, 0, [(n, i)], none, 0, [⟨cn, ci, cid + 1, rd, hd, false⟩], none, 0, [(cn, ci)], none, 0, [], false, false, vw0⟩ = ⟨n, i, rd + 1, none, 0, [(n, i)], none, 0, [⟨cn, ci, cid + 1, rd, hd, false⟩], none, 0, [(cn, ci)], none, 0, [aloneP n i cn ci (cid + 1) (rd + 1)], false, false, vw0⟩ := rfl
  rw [hput]
  have hpl : propsL ⟨n, i, rd + 1, none, 0, [(n, i)], none, 0, [⟨cn, ci, cid + 1, rd, hd, false⟩], none, 0, [(cn, ci)], none, 0, [aloneP n i cn ci (cid + 1) (rd + 1)], false, false, vw0⟩ = some [aloneP n i cn ci (cid + 1) (rd + 1)] := by
    simp [propsL, propsG, aloneP, Pp.sv]
  have ha : agree1 ⟨n, i, rd + 1, none, 0, [(n, i)], none, 0, [⟨cn, ci, cid + 1, rd, hd, false⟩], none, 0, [(cn, ci)], none, 0, [aloneP n i cn ci (cid + 1) (rd + 1)], false, false, vw0⟩ (sentT ⟨n, i, rd + 1, none, 0, [(n, i)], none, 0, [⟨cn, ci, cid + 1, rd, hd, false⟩], none, 0, [(cn, ci)], none, 0, [], false, false, vw0⟩ tu0) = ((⟨n, i, rd + 1, none, 0, [(n, i)], none, 0, [⟨cn, ci, cid + 1, rd, hd, false⟩], none, 0, [(cn, ci)], none, 0, [aloneP n i cn ci (cid + 1) (rd + 1)], true, false, aloneV n i cn ci (cid + 1) (rd + 1)⟩,
       ⟨none, 0, [startT ⟨n, i, rd + 1, none, 0, [(n, i)], none, 0, [⟨cn, ci, cid + 1, rd, hd, false⟩], none, 0, [(cn, ci)], none, 0, [], false, false, vw0⟩ (cn, ci) (cid + 1), comeT (cn, ci) (aloneV n i cn ci (cid + 1) (rd + 1))], true, aloneP n i cn ci (cid + 1) (rd + 1), true, aloneV n i cn ci (cid + 1) (rd + 1)⟩), false) := by
    unfold agree1
    rw [if_neg (by simp), hpl]
    simp only
    rw [if_neg (by rw [hag]; simp), if_neg (by simp [strange, aloneP]), hvw]
    simp only
    rw [hown]
    rfl
  unfold agreeP
  rw [ha]
  rfl
end Go.Proofs.YtkglclekieckoaaGreat

namespace Go.Proofs.YtkglclekieckoaaGreat
set_option linter.unusedSimpArgs false
set_option linter.unusedVariables false
set_option linter.unusedSectionVars false
open Go.RowKit

theorem life18_s (n i : Int) (w : World) : Calls Tryz.prog 8 #[.int .i64 n, .int .u64 i] w fun e w' => e = .returned (.agg #[.int .i64 n, .int .u64 i]) ∧ w.alloc (bx n i) = w' := by
  go_enter Tryz.func8, Tryz.ntmps8
  go_wp2
  refine bodyPost_ret (v := .agg #[.int .i64 n, .int .u64 i]) (by simp [results, Tryz.results8, go_sem]) rfl ?_
  exact ⟨rfl, rfl⟩
theorem reads_c1x (W : World) (m : Nat) (x : Cl) [h : BoxAt W m #[.int .i64 x.n, .int .u64 x.i, .int .u64 x.cid, .int .u64 x.rnd, .int .u64 x.heard, .bool x.gone] 48] : Reads W W.heap.size 6 (some ⟨m, 0, none⟩) 1 (ccs [x]) :=
  ⟨rfl, fun _ => ⟨_, _, rfl, h.lt, fun j u hu => by
    rw [Nat.zero_add, cell?_box]
    have e : ccs [x] = (#[.int .i64 x.n, .int .u64 x.i, .int .u64 x.cid, .int .u64 x.rnd, .int .u64 x.heard, .bool x.gone] : Array Value).toList := rfl
    rw [e] at hu
    simpa using hu⟩⟩
set_option maxRecDepth 100000 in
set_option maxHeartbeats 16000000 in
theorem awake18_t (w : World) : Calls Tryz.prog 7 #[] w (RetB w true) := by
  have TN := hide (fun W => @new18_s (avo []) 1 1 W (by intro i hi; cases hi))
  have TR := hide (fun (a : Ag) (A : Option Addr) (c : Nat) (B : Option Addr) (d : Nat) W (ha : a.br = newA 1 1) (h : @Ag.Ok (avo []) W a) (hS : Reads W W.heap.size 2 A 1 (pcs [(1, 1)])) (hL : Reads W W.heap.size 6 B 1 (ccs [⟨5, 2, 4, 7, 0, false⟩])) => (by exact renew_s [] a A c [(1, 1)] B d [⟨5, 2, 4, 7, 0, false⟩] W h (by intro i hi; cases hi) (by rw [ha]; exact new_inv 1 1) hS (by simp) hL (by simp) (fun x hx => by rw [List.mem_singleton.1 hx]; exact ⟨⟨by decide, by decide, by decide, by decide⟩, by decide, by decide, by decide, by decide⟩) : Calls Tryz.prog 9 #[a.v, .slice A 1 c, .agg #[.slice B 1 d]] W (RetAT [] W (renewP a.br [(1, 1)] [⟨5, 2, 4, 7, 0, false⟩]))))
  have HAL := hide (alone_eq (n := 1) (i := 1) (cn := 5) (ci := 2) (cid := 4) (rd := 7) (hd := 0) (by decide +kernel) (by decide +kernel) (by decide) (by decide) (by decide) (by decide) ⟨by decide, by decide, by decide, by decide⟩)
  go_enter Tryz.func7, Tryz.ntmps7
  go_wp2_with (go_at_call 8; (with_reducible refine (life18_s _ _ _).mono ?_); rintro e w9 ⟨rfl, rfl⟩)
  (with_reducible refine (TN.out _).mono ?_)
  rintro e w1 ⟨a, ha, rfl, hok, hb1⟩
  haveI : Stp _ w1 := ⟨hb1⟩
  have HA := hide ha
  have HOK := hide hok
  clear ha hok hb1 TN
  go_wp2_with (go_at_call 8; (with_reducible refine (life18_s _ _ _).mono ?_); rintro e w9 ⟨rfl, rfl⟩)
  (with_reducible refine (TR.out a _ _ _ _ _ HA.out ?_ ?_ ?_).mono ?_)
  · exact HOK.out.over (.bel blw)
  · exact reads_p1x _ _ 1 1
  · exact reads_c1x _ _ ⟨5, 2, 4, 7, 0, false⟩
  rintro e w5 ⟨b, u, hb, hu, rfl, hbo, huo, hb5⟩
  rw [HA.out, HAL.out] at hb hu
  haveI : Stp _ w5 := ⟨hb5⟩
  have h1 : b.rd = 8 := congrArg Ag.rd hb
  have h2 : b.dn = true := congrArg Ag.dn hb
  have h3 : u.ts.length = 2 := by have := congrArg (fun u : Tu => u.ts.length) hu; simpa [Tu.br] using this
  have h4 : u.md = true := congrArg Tu.md hu
  have h5 : u.sd = true := congrArg Tu.sd hu
  have h6 : u.vw.us = [5] := congrArg (fun u : Tu => u.vw.us) hu
  obtain ⟨huo1, huo2⟩ := huo
  obtain ⟨_, _, _, hv⟩ := huo1
  obtain ⟨_, _, hvu, _⟩ := hv
  have hus := hvu.1
  have h7 : u.vw.us.length = 1 := by rw [h6]; rfl
  rw [h6] at hus
  obtain ⟨bb, off, x, hA, hbb, hx, hc⟩ := Reads.atU (k := 0) hus (by simp)
  obtain rfl : x = 5 := by simpa using hx.symm
  haveI : InW bb w5 := ⟨hbb⟩
  haveI : CellAt w5 bb (off + 0) (.int .u64 5) := ⟨hbb, hc⟩
  clear hb hu hbo huo2 hvu hus hb5 h6 hx hc TR HAL
  go_wp2_with fail
  go_ret
  exact ⟨rfl, blw⟩
end Go.Proofs.YtkglclekieckoaaGreat
