/-
  How proposals lie in memory, read from the drawn argument.
-/
import Derived.Test.YtdmjopokclljlaaGreatOpenV
import Derived.Test.YtdmjopokclljlaaGreatPp
import Derived.Test.YtdmjopokclljlaaGreatPpP
import Derived.Test.YtdmjopokclljlaaGreatPv2
import Derived.Test.YtdmjopokclljlaaGreatAwake4
namespace Go.Proofs.YtdmjopokclljlaaGreat
set_option linter.unusedSimpArgs false
set_option linter.unusedVariables false
set_option linter.unusedSectionVars false
open Go.ChangeShapes Go.WideShapes Go.ChangeAt Go.RowKit Go.Deep

theorem Tryz.fieldsPp : ∃ f0 f1 f2 f3 f4, Tryz.prog.underlying 43 = some (.struct #[f0, f1, f2, f3, f4]) ∧ (f0.type = 24 ∧ f0.offset = 0) ∧ (f1.type = 22 ∧ f1.offset = 2) ∧ (f2.type = 25 ∧ f2.offset = 3) ∧ (f3.type = 25 ∧ f3.offset = 4) ∧ (f4.type = 28 ∧ f4.offset = 5) := ⟨_, _, _, _, _, Tryz.underlying43, ⟨rfl, rfl⟩, ⟨rfl, rfl⟩, ⟨rfl, rfl⟩, ⟨rfl, rfl⟩, ⟨rfl, rfl⟩⟩
theorem Tryz.cellsPp : Tryz.prog.cellsOf 43 = 6 := by kernel_rfl
/-- what its numbers are -/
structure Pp.Wf (x : Pp) : Prop where
  p : wfP (x.n, x.i)
  rd : wfU64 x.rd
  ss : ∀ p ∈ x.ss, wfP p
  cs : ∀ p ∈ x.cs, wfP p
  us : ∀ u ∈ x.us, wfU64 u
  sl : x.ss.length ≤ 9223372036854775807
  cl : x.cs.length ≤ 9223372036854775807
  ul : x.us.length ≤ 9223372036854775807
/-- where its rows lie -/
structure Pp.In (w : World) (x : Pp) : Prop where
  s : Sl w x.SA x.ss
  c : Sl w x.CA x.cs
  u : Ul w x.UA x.us
section
variable {H : Type} {enc : TypeId × Value → H} {w : World} {base : Nat} {spare : Nat → Bool} {held : Bool}
set_option maxRecDepth 100000 in
theorem trod_prop {fuel : Nat} {cs : List Value} {y : DataW H × List MemPlace} (hl : cs.length = 6) (h : DataW.trod enc Tryz.prog w base spare held fuel 43 cs = some y) :
    ∃ x : Pp, cs = x.cl ∧ (x.In w ∧ x.Wf) := by
  obtain ⟨f0, f1, f2, f3, f4, hu, ⟨t0, o0⟩, ⟨t1, o1⟩, ⟨t2, o2⟩, ⟨t3, o3⟩, ⟨t4, o4⟩⟩ := Tryz.fieldsPp
  obtain ⟨xs, n, _, _, _, hxl, hf⟩ := DataW.trod_struct hu h
  have g0 := hf 0 f0 rfl
  have g1 := hf 1 f1 rfl
  have g2 := hf 2 f2 rfl
  have g3 := hf 3 f3 rfl
  have g4 := hf 4 f4 rfl
  rw [t0, o0, Tryz.cellsP] at g0
  rw [t1, o1, Tryz.cellsU] at g1
  rw [t2, o2, Tryz.cellsPs'] at g2
  rw [t3, o3, Tryz.cellsPs'] at g3
  rw [t4, o4, Tryz.cellsUs] at g4
  match cs, hl with
  | [c0, c1, c2, c3, c4, c5], _ =>
    match xs, hxl with
    | [y0, y1, y2, y3, y4], _ =>
      obtain ⟨p, e0, w0⟩ := trod_proc (by simp) g0
      obtain ⟨rd, e1, _, w1⟩ := DataW.trod_int Tryz.underlying22 g1
      obtain ⟨SA, ss, sc, e2, m1, m2, m3, m4⟩ := trod_procs g2
      obtain ⟨CA, cs', cc, e3, n1, n2, n3, n4⟩ := trod_procs g3
      obtain ⟨UA, us, uc, e4, u1, u2, u3, u4⟩ := trod_us g4
      simp [pc] at e0 e1 e2 e3 e4
      rw [flat_map1] at u3
      unfold maxLen at m2 n2 u2
      exact ⟨⟨p.1, p.2, rd, SA, sc, ss, CA, cc, cs', UA, uc, us⟩, by rw [e0.1, e0.2, e1, e2, e3, e4]; rfl, ⟨m3, n3, u3⟩, ⟨w0, bounds_u64 w1, m4, n4, u4, Nat.le_trans m1 m2, Nat.le_trans n1 n2, Nat.le_trans u1 u2⟩⟩
set_option maxRecDepth 100000 in
theorem open_prop {r : Reach} {b0 : Nat} {v : Value} {d : DataW H} {p : List MemPlace} (hv : Value.okWide Tryz.prog w r b0 43 v) (h : DataW.Trod enc Tryz.prog w base spare held 43 v d p) :
    ∃ x : Pp, v = x.v ∧ x.In w ∧ x.Wf := by
  obtain ⟨cs, rfl, hsz⟩ := okWide_struct Tryz.underlying43 hv
  obtain ⟨l⟩ := cs
  obtain ⟨fuel, hf⟩ := h
  obtain ⟨x, hq, hw⟩ := trod_prop (by simpa [Tryz.cellsPp, Value.cells] using hsz) hf
  simp [Value.cells] at hq
  exact ⟨x, by rw [hq]; rfl, hw⟩
theorem trod_props {fuel : Nat} {cs : List Value} {x : DataW H × List MemPlace} (h : DataW.trod enc Tryz.prog w base spare held fuel 71 cs = some x) :
    ∃ (A : Option Addr) (l : List Pp) (c : Nat), cs = [.slice A l.length c] ∧ l.length ≤ c ∧ c ≤ maxLen ∧ Reads w w.heap.size 6 A l.length (pps l) ∧ ∀ p ∈ l, p.In w ∧ p.Wf :=
  open_sl Pp.cl (fun p => p.In w ∧ p.Wf) Tryz.cellsPp Pp.cl_len (by omega) (fun _ _ _ hl h => trod_prop hl h) Tryz.underlying71 h
set_option maxRecDepth 100000 in
theorem open_props {r : Reach} {b0 : Nat} {v : Value} {d : DataW H} {p : List MemPlace} (hv : Value.okWide Tryz.prog w r b0 71 v) (h : DataW.Trod enc Tryz.prog w base spare held 71 v d p) :
    ∃ (A : Option Addr) (l : List Pp) (c : Nat), v = .slice A l.length c ∧ l.length ≤ c ∧ c ≤ maxLen ∧ Reads w w.heap.size 6 A l.length (pps l) ∧ ∀ p ∈ l, p.In w ∧ p.Wf := by
  obtain ⟨a0, len, cap, rfl⟩ := okWide_slice Tryz.underlying71 hv
  obtain ⟨fuel, hf⟩ := h
  obtain ⟨A, l, c, hcs, h1, h2, h3, h4⟩ := trod_props hf
  simp [Value.cells] at hcs
  obtain ⟨rfl, rfl, rfl⟩ := hcs
  exact ⟨_, l, _, rfl, h1, h2, h3, h4⟩
end
theorem Pp.ok_of {w : World} {x : Pp} (h : x.In w) (hh : hvP x = false) : x.Ok w := by
  unfold hvP at hh
  simp at hh
  exact ⟨h.s, by omega, h.c, by omega, h.u, by omega⟩
theorem Pp.Wf.nn {x : Pp} (h : x.Wf) : (∀ p ∈ x.ss, 0 ≤ p.2) ∧ ∀ p ∈ x.cs, 0 ≤ p.2 := ⟨fun p hp => (h.ss p hp).2.2.1, fun p hp => (h.cs p hp).2.2.1⟩
end Go.Proofs.YtdmjopokclljlaaGreat

namespace Go.Proofs.YtdmjopokclljlaaGreat
set_option linter.unusedSimpArgs false
set_option linter.unusedVariables false
set_option linter.unusedSectionVars false
open Go.RowKit

def twoW (w : World) : World := ((((((((((w.alloc (bxP 1 1 3 (some ⟨w.heap.size + 1 + 1, 0, none⟩) 2 2 (some ⟨w.heap.size + 1 + 1 + 1, 0, none⟩) 1 1 (some ⟨w.heap.size + 1 + 1 + 1 + 1, 0, none⟩) 1 1)).alloc (bxP 2 4 3 (some ⟨w.heap.size + 1 + 1 + 1 + 1 + 1 + 1, 0, none⟩) 2 2 (some ⟨w.heap.size + 1 + 1 + 1 + 1 + 1 + 1 + 1, 0, none⟩) 1 1 (some ⟨w.heap.size + 1 + 1 + 1 + 1 + 1 + 1 + 1 + 1, 0, none⟩) 1 1)).alloc (.cells #[.int .i64 1, .int .u64 1, .int .i64 2, .int .u64 4] 24)).alloc (bx 5 2)).alloc (.cells #[.int .u64 9] 22)).alloc (bxP 1 1 3 (some ⟨w.heap.size + 1 + 1, 0, none⟩) 2 2 (some ⟨w.heap.size + 1 + 1 + 1, 0, none⟩) 1 1 (some ⟨w.heap.size + 1 + 1 + 1 + 1, 0, none⟩) 1 1)).alloc (.cells #[.int .i64 1, .int .u64 1, .int .i64 2, .int .u64 4] 24)).alloc (bx 6 1)).alloc (.cells #[.int .u64 2] 22)).alloc (bxP 2 4 3 (some ⟨w.heap.size + 1 + 1 + 1 + 1 + 1 + 1, 0, none⟩) 2 2 (some ⟨w.heap.size + 1 + 1 + 1 + 1 + 1 + 1 + 1, 0, none⟩) 1 1 (some ⟨w.heap.size + 1 + 1 + 1 + 1 + 1 + 1 + 1 + 1, 0, none⟩) 1 1)).drew
def ppA (n : Nat) : Pp := ⟨1, 1, 3, some ⟨n + 1 + 1, 0, none⟩, 2, [(1, 1), (2, 4)], some ⟨n + 1 + 1 + 1, 0, none⟩, 1, [(5, 2)], some ⟨n + 1 + 1 + 1 + 1, 0, none⟩, 1, [9]⟩
def ppB (n : Nat) : Pp := ⟨2, 4, 3, some ⟨n + 1 + 1 + 1 + 1 + 1 + 1, 0, none⟩, 2, [(1, 1), (2, 4)], some ⟨n + 1 + 1 + 1 + 1 + 1 + 1 + 1, 0, none⟩, 1, [(6, 1)], some ⟨n + 1 + 1 + 1 + 1 + 1 + 1 + 1 + 1, 0, none⟩, 1, [2]⟩
set_option maxRecDepth 100000 in
set_option maxHeartbeats 2000000 in
theorem two_s (w : World) : Calls Tryz.prog 42 #[] w fun e w' => e = .returned (.tuple #[PpV 1 1 3 (some ⟨w.heap.size + 1 + 1, 0, none⟩) 2 2 (some ⟨w.heap.size + 1 + 1 + 1, 0, none⟩) 1 1 (some ⟨w.heap.size + 1 + 1 + 1 + 1, 0, none⟩) 1 1, PpV 2 4 3 (some ⟨w.heap.size + 1 + 1 + 1 + 1 + 1 + 1, 0, none⟩) 2 2 (some ⟨w.heap.size + 1 + 1 + 1 + 1 + 1 + 1 + 1, 0, none⟩) 1 1 (some ⟨w.heap.size + 1 + 1 + 1 + 1 + 1 + 1 + 1 + 1, 0, none⟩) 1 1]) ∧ twoW w = w' := by
  go_enter Tryz.func42, Tryz.ntmps42
  go_wp2_with fail
  go_region_law fail
  all_goals
    go_wp2
    refine bodyPost_ret (v := .tuple #[PpV 1 1 3 (some ⟨w.heap.size + 1 + 1, 0, none⟩) 2 2 (some ⟨w.heap.size + 1 + 1 + 1, 0, none⟩) 1 1 (some ⟨w.heap.size + 1 + 1 + 1 + 1, 0, none⟩) 1 1, PpV 2 4 3 (some ⟨w.heap.size + 1 + 1 + 1 + 1 + 1 + 1, 0, none⟩) 2 2 (some ⟨w.heap.size + 1 + 1 + 1 + 1 + 1 + 1 + 1, 0, none⟩) 1 1 (some ⟨w.heap.size + 1 + 1 + 1 + 1 + 1 + 1 + 1 + 1, 0, none⟩) 1 1]) (by simp [results, Tryz.results42, go_sem]) rfl ?_
    exact ⟨rfl, rfl⟩
theorem two_below (w : World) : Below w.heap.size w (twoW w) := by unfold twoW; exact (by repeat (first | exact Below.refl _ _ | assumption | refine bel_al ?_ _ | refine bel_gw ?_ _ _ | refine bel_drew ?_ | refine bel_drewN ?_ _))
theorem two_size (w : World) : (twoW w).heap.size = w.heap.size + 10 := by unfold twoW; simp
set_option maxRecDepth 100000 in
theorem two_r2 (w : World) (k : Nat) (hk : k = 2 ∨ k = 6) : Reads (twoW w) (twoW w).heap.size 2 (some ⟨w.heap.size + k, 0, none⟩) 2 (pcs [(1, 1), (2, 4)]) := by
  refine ⟨rfl, fun _ => ⟨_, _, rfl, by rw [two_size]; omega, fun j u hu => ?_⟩⟩
  rw [Nat.zero_add]
  rcases hk with rfl | rfl
  all_goals
    unfold twoW
    match j, hu with
    | 0, hu => simp [pcs, pc] at hu; subst hu; simp [go_sem]
    | 1, hu => simp [pcs, pc] at hu; subst hu; simp [go_sem]
    | 2, hu => simp [pcs, pc] at hu; subst hu; simp [go_sem]
    | 3, hu => simp [pcs, pc] at hu; subst hu; simp [go_sem]
    | j + 4, hu => simp [pcs, pc] at hu
set_option maxRecDepth 100000 in
theorem two_r3 (w : World) : Reads (twoW w) (twoW w).heap.size 2 (some ⟨w.heap.size + 3, 0, none⟩) 1 (pcs [(5, 2)]) := by
  refine ⟨rfl, fun _ => ⟨_, _, rfl, by rw [two_size]; omega, fun j u hu => ?_⟩⟩
  rw [Nat.zero_add]
  unfold twoW
  match j, hu with
  | 0, hu => simp [pcs, pc] at hu; subst hu; simp [go_sem]
  | 1, hu => simp [pcs, pc] at hu; subst hu; simp [go_sem]
  | j + 2, hu => simp [pcs, pc] at hu
set_option maxRecDepth 100000 in
theorem two_r7 (w : World) : Reads (twoW w) (twoW w).heap.size 2 (some ⟨w.heap.size + 7, 0, none⟩) 1 (pcs [(6, 1)]) := by
  refine ⟨rfl, fun _ => ⟨_, _, rfl, by rw [two_size]; omega, fun j u hu => ?_⟩⟩
  rw [Nat.zero_add]
  unfold twoW
  match j, hu with
  | 0, hu => simp [pcs, pc] at hu; subst hu; simp [go_sem]
  | 1, hu => simp [pcs, pc] at hu; subst hu; simp [go_sem]
  | j + 2, hu => simp [pcs, pc] at hu
set_option maxRecDepth 100000 in
theorem two_r4 (w : World) : Reads (twoW w) (twoW w).heap.size 1 (some ⟨w.heap.size + 4, 0, none⟩) 1 (ucs [9]) := by
  refine ⟨rfl, fun _ => ⟨_, _, rfl, by rw [two_size]; omega, fun j u hu => ?_⟩⟩
  rw [Nat.zero_add]
  unfold twoW
  match j, hu with
  | 0, hu => simp [ucs] at hu; subst hu; simp [go_sem]
  | j + 1, hu => simp [ucs] at hu
set_option maxRecDepth 100000 in
theorem two_r8 (w : World) : Reads (twoW w) (twoW w).heap.size 1 (some ⟨w.heap.size + 8, 0, none⟩) 1 (ucs [2]) := by
  refine ⟨rfl, fun _ => ⟨_, _, rfl, by rw [two_size]; omega, fun j u hu => ?_⟩⟩
  rw [Nat.zero_add]
  unfold twoW
  match j, hu with
  | 0, hu => simp [ucs] at hu; subst hu; simp [go_sem]
  | j + 1, hu => simp [ucs] at hu
theorem okA (w : World) : (ppA w.heap.size).Ok (twoW w) := ⟨two_r2 w 2 (.inl rfl), by simp [ppA], two_r3 w, by simp [ppA], two_r4 w, by simp [ppA]⟩
theorem okB (w : World) : (ppB w.heap.size).Ok (twoW w) := ⟨two_r2 w 6 (.inr rfl), by simp [ppB], two_r7 w, by simp [ppB], two_r8 w, by simp [ppB]⟩
theorem mayA (n : Nat) : (ppA n).mayB = true := by
  show Pp.mayB ⟨1, 1, 3, none, 0, [(1, 1), (2, 4)], none, 0, [(5, 2)], none, 0, [9]⟩ = true
  unfold Pp.mayB apartB
  rw [lives_nodes, lives_nodes]
  decide
theorem mayBB (n : Nat) : (ppB n).mayB = true := by
  show Pp.mayB ⟨2, 4, 3, none, 0, [(1, 1), (2, 4)], none, 0, [(6, 1)], none, 0, [2]⟩ = true
  unfold Pp.mayB apartB
  rw [lives_nodes, lives_nodes]
  decide
theorem ss_two : SS [(1, 1), (2, 4)] := by simp [SS, ltP]
theorem agree_two (n : Nat) : agreeB [ppA n, ppB n] = true := by
  have e : sortedL ([ppA n, ppB n].map Pp.sv) = [(1, 1), (2, 4)] := sortedL_self ss_two
  simp only [agreeB, List.all_cons, List.all_nil, mayA, mayBB, e]
  simp [ppA, ppB]
theorem view_two (n : Nat) : viewP [ppA n, ppB n] = some ((3, 1, 1), [(5, 2), (6, 1)], [9, 2]) := by
  have e : clsP [ppA n, ppB n] = [(5, 2), (6, 1)] := rfl
  have e2 : sortedL [((5, 2) : Pr), (6, 1)] = [(5, 2), (6, 1)] := sortedL_self (by simp [SS, ltP])
  have e3 : prs [ppA n, ppB n] = [((5, 2), 9), ((6, 1), 2)] := rfl
  unfold viewP
  rw [if_neg (by rw [agree_two]; simp), e, e2, e3, if_neg (by decide)]
  rfl
theorem agree_one (n : Nat) : agreeB [ppA n] = false := by simp [agreeB, ppA]
theorem encA (n : Nat) : (ppA n).enc = [6, 1, 1, 3, 2, 1, 1, 2, 4, 1, 5, 2, 9] := by
  simp only [ppA, Pp.enc]
  decide
theorem fA (n : Nat) : PpF (ppA n) := ⟨⟨by simp [ppA], by simp [ppA]⟩, ⟨by simp [ppA], by simp [ppA]⟩, by simp [ppA, wfU64], by simp [ppA, wfU64], by simp [ppA, wfU64]⟩
theorem pps_two (n : Nat) : pps [ppA n, ppB n] = (ppA n).cl ++ (ppB n).cl := rfl
/-- proposals that were just laid -/
theorem pl_lit2 {w : World} {x y : Pp} (hx : x.Ok w) (hy : y.Ok w) (m : Nat) (hm : w.heap.size = m) : Pl (w.alloc (.cells (x.cl ++ y.cl).toArray 43)) (some ⟨m, 0, none⟩) [x, y] := by
  subst hm
  refine ⟨⟨by simp [pps, Pp.cl], fun _ => ⟨_, _, rfl, by simp, fun j u hu => ?_⟩⟩, fun p hp => ?_⟩
  · rw [Nat.zero_add, World.cell?_alloc_at _ _ _ _ rfl, List.getElem?_toArray]
    simpa [pps] using hu
  · simp at hp
    rcases hp with rfl | rfl
    · exact hx.step (below_alloc _ _)
    · exact hy.step (below_alloc _ _)
theorem pl_lit1 {w : World} {x : Pp} (hx : x.Ok w) (m : Nat) (hm : w.heap.size = m) : Pl (w.alloc (.cells x.cl.toArray 43)) (some ⟨m, 0, none⟩) [x] := by
  subst hm
  refine ⟨⟨by simp [pps, Pp.cl], fun _ => ⟨_, _, rfl, by simp, fun j u hu => ?_⟩⟩, fun p hp => ?_⟩
  · rw [Nat.zero_add, World.cell?_alloc_at _ _ _ _ rfl, List.getElem?_toArray]
    simpa [pps] using hu
  · simp at hp
    subst hp
    exact hx.step (below_alloc _ _)
set_option maxRecDepth 100000 in
set_option maxHeartbeats 4000000 in
theorem awake9_t (w : World) : Calls Tryz.prog 13 #[] w (RetB w true) := by
  go_enter Tryz.func13, Tryz.ntmps13
  go_wp2_with fail
  with_reducible refine (two_s w).mono ?_
  rintro e w1 ⟨rfl, hw1⟩
  have oA := okA w
  have oB := okB w
  have hB := two_below w
  rw [hw1] at oA oB hB
  have hfA := fA w.heap.size
  have hmA := mayA w.heap.size
  have hv := view_two w.heap.size
  have ha1 := agree_one w.heap.size
  have hen := encA w.heap.size
  unfold ppA ppB at *
  simp only at *
  clear hw1
  generalize (some (⟨w.heap.size + 1 + 1, 0, none⟩ : Addr)) = A2 at *
  generalize (some (⟨w.heap.size + 1 + 1 + 1, 0, none⟩ : Addr)) = A3 at *
  generalize (some (⟨w.heap.size + 1 + 1 + 1 + 1, 0, none⟩ : Addr)) = A4 at *
  generalize (some (⟨w.heap.size + 1 + 1 + 1 + 1 + 1 + 1, 0, none⟩ : Addr)) = A6 at *
  generalize (some (⟨w.heap.size + 1 + 1 + 1 + 1 + 1 + 1 + 1, 0, none⟩ : Addr)) = A7 at *
  generalize (some (⟨w.heap.size + 1 + 1 + 1 + 1 + 1 + 1 + 1 + 1, 0, none⟩ : Addr)) = A8 at *
  have T1 : Hid (Calls Tryz.prog 43 #[.slice (some ⟨w1.heap.size + 1 + 1, 0, none⟩) 2 2] (((w1.alloc (bxP 1 1 3 A2 2 2 A3 1 1 A4 1 1)).alloc (bxP 2 4 3 A6 2 2 A7 1 1 A8 1 1)).alloc (.cells #[.int .i64 1, .int .u64 1, .int .u64 3, .slice A2 2 2, .slice A3 1 1, .slice A4 1 1, .int .i64 2, .int .u64 4, .int .u64 3, .slice A6 2 2, .slice A7 1 1, .slice A8 1 1] 43)) (RetVw (((w1.alloc (bxP 1 1 3 A2 2 2 A3 1 1 A4 1 1)).alloc (bxP 2 4 3 A6 2 2 A7 1 1 A8 1 1)).alloc (.cells #[.int .i64 1, .int .u64 1, .int .u64 3, .slice A2 2 2, .slice A3 1 1, .slice A4 1 1, .int .i64 2, .int .u64 4, .int .u64 3, .slice A6 2 2, .slice A7 1 1, .slice A8 1 1] 43)) (some ((3, 1, 1), [(5, 2), (6, 1)], [9, 2])))) := hide (by
    have := pview_s (some ⟨w1.heap.size + 1 + 1, 0, none⟩) 2 [⟨1, 1, 3, A2, 2, [(1, 1), (2, 4)], A3, 1, [(5, 2)], A4, 1, [9]⟩, ⟨2, 4, 3, A6, 2, [(1, 1), (2, 4)], A7, 1, [(6, 1)], A8, 1, [2]⟩] _ (pl_lit2 (w := ((w1.alloc (bxP 1 1 3 A2 2 2 A3 1 1 A4 1 1)).alloc (bxP 2 4 3 A6 2 2 A7 1 1 A8 1 1))) ((oA.step (below_alloc _ _)).step (below_alloc _ _)) ((oB.step (below_alloc _ _)).step (below_alloc _ _)) (w1.heap.size + 1 + 1) (by simp)) (by simp) (by intro x hx p hp; simp at hx; rcases hx with rfl | rfl <;> (simp at hp; subst hp; exact ⟨by decide, by decide, by decide, by decide⟩))
    rw [hv] at this
    exact this)
  have bA := (boxTop w1 #[.int .i64 1, .int .u64 1, .int .u64 3, .slice A2 2 2, .slice A3 1 1, .slice A4 1 1] 43).alloc' (bxP 2 4 3 A6 2 2 A7 1 1 A8 1 1)
  have HB := hide hB
  have hlt : w1.heap.size < ((w1.alloc (bxP 1 1 3 A2 2 2 A3 1 1 A4 1 1)).alloc (bxP 2 4 3 A6 2 2 A7 1 1 A8 1 1)).heap.size := by simp; omega
  clear hv hB
  go_wp2_with fail
  with_reducible refine T1.out.mono ?_
  rintro e w2 ⟨MA, mc, UA, uc, rfl, okv, hb2⟩
  have bA2 := (bA.alloc' (.cells #[.int .i64 1, .int .u64 1, .int .u64 3, .slice A2 2 2, .slice A3 1 1, .slice A4 1 1, .int .i64 2, .int .u64 4, .int .u64 3, .slice A6 2 2, .slice A7 1 1, .slice A8 1 1] 43)).step hb2
  have hB2 : Below w1.heap.size w1 w2 := below_step (by repeat (first | exact Below.refl _ _ | assumption | refine bel_al ?_ _ | refine bel_gw ?_ _ _ | refine bel_drew ?_ | refine bel_drewN ?_ _)) hb2
  obtain ⟨ub, uoff, u1, hUA, hub, huk, huc⟩ := okv.u.atU (k := 1) (by simp)
  simp at huk
  subst huk
  subst hUA
  have hs2 := hB2.size
  simp only [List.length_cons, List.length_nil]
  haveI : BoxAt w2 w1.heap.size _ _ := bA2
  haveI : InW w1.heap.size w2 := ⟨bA2.lt⟩
  haveI : InW ub w2 := ⟨hub⟩
  have T2 := hide (pencode_f ⟨1, 1, 3, A2, 2, [(1, 1), (2, 4)], A3, 1, [(5, 2)], A4, 1, [9]⟩ _ ((oA.step hB2).step (below_alloc w2 (bxV 3 1 1 MA 2 mc (some ⟨ub, uoff, none⟩) 2 uc))) hfA hmA)
  rw [hen] at T2
  unfold Pp.v at T2
  simp only [List.length_cons, List.length_nil] at T2
  clear T1 hb2 okv bA hen hmA hfA
  go_wp2_with fail
  with_reducible refine T2.out.mono ?_
  rintro e w3 ⟨v3, rfl, ho3, hb3⟩
  obtain ⟨A9, c9, rfl, _, _⟩ := own_slice ho3
  simp only [List.length_cons, List.length_nil] at ho3 ⊢
  have bV3 := (boxTop w2 #[.int .u64 3, .int .i64 1, .int .u64 1, .slice MA 2 mc, .slice (some ⟨ub, uoff, none⟩) 2 uc] 30).step hb3
  have bA3 := (bA2.alloc' (bxV 3 1 1 MA 2 mc (some ⟨ub, uoff, none⟩) 2 uc)).step hb3
  have hB3 := below_step (below_step hB2 (below_alloc w2 (bxV 3 1 1 MA 2 mc (some ⟨ub, uoff, none⟩) 2 uc))) hb3
  have hu3 : w3.cell? ⟨ub, uoff + 1, none⟩ = some (.int .u64 2) := (hb3.cell (p := ⟨ub, uoff + 1, none⟩) (by simp; omega)).trans (((below_alloc w2 _).cell (p := ⟨ub, uoff + 1, none⟩) hub).trans huc)
  have hs3 := hb3.size
  simp at hs3
  haveI : BoxAt w3 w1.heap.size _ _ := bA3
  haveI : BoxAt w3 w2.heap.size _ _ := bV3
  have T3 : Hid (Calls Tryz.prog 43 #[.slice (some ⟨w3.heap.size, 0, none⟩) 1 1] (w3.alloc (.cells #[.int .i64 1, .int .u64 1, .int .u64 3, .slice A2 2 2, .slice A3 1 1, .slice A4 1 1] 43)) (RetVw (w3.alloc (.cells #[.int .i64 1, .int .u64 1, .int .u64 3, .slice A2 2 2, .slice A3 1 1, .slice A4 1 1] 43)) none)) := hide (by
    have := pview_s (some ⟨w3.heap.size, 0, none⟩) 1 [⟨1, 1, 3, A2, 2, [(1, 1), (2, 4)], A3, 1, [(5, 2)], A4, 1, [9]⟩] _ (pl_lit1 (w := w3) (oA.step hB3) w3.heap.size rfl) (by simp) (by intro x hx p hp; simp at hx; subst hx; simp at hp; subst hp; exact ⟨by decide, by decide, by decide, by decide⟩)
    rw [show viewP [⟨1, 1, 3, A2, 2, [(1, 1), (2, 4)], A3, 1, [(5, 2)], A4, 1, [9]⟩] = none from if_pos ha1] at this
    exact this)
  have HO3 := hide ho3
  clear T2 hb3 ho3 ha1 huc
  go_wp2_with fail
  with_reducible refine T3.out.mono ?_
  rintro e w4 ⟨rfl, hb4⟩
  have bV4 := (bV3.alloc' (.cells #[.int .i64 1, .int .u64 1, .int .u64 3, .slice A2 2 2, .slice A3 1 1, .slice A4 1 1] 43)).step hb4
  have hB4 := below_step (below_alloc w3 (.cells #[.int .i64 1, .int .u64 1, .int .u64 3, .slice A2 2 2, .slice A3 1 1, .slice A4 1 1] 43)) hb4
  have hBB := hide (below_step HB.out (below_step hB3 hB4))
  have hu4 : w4.cell? ⟨ub, uoff + 1, none⟩ = some (.int .u64 2) := (hB4.cell (p := ⟨ub, uoff + 1, none⟩) (by show ub < _; omega)).trans hu3
  have hcv := conv_reads (c := c9) (Reads.below (Reads.of_own (own_below HO3.out hB4 (Nat.le_refl _))) (below_alloc w4 (bxV 0 0 0 none 0 0 none 0 0)))
  rw [show strOfNums [6, 1, 1, 3, 2, 1, 1, 2, 4, 1, 5, 2, 9] = ⟨#[6, 1, 1, 3, 2, 1, 1, 2, 4, 1, 5, 2, 9]⟩ from rfl] at hcv
  simp only [List.length_cons, List.length_nil] at hcv
  have hs4 := hB4.size
  haveI : BoxAt w4 w2.heap.size _ _ := bV4
  haveI : InW w2.heap.size w4 := ⟨bV4.lt⟩
  haveI : InW ub w4 := ⟨by omega⟩
  clear T3 hb4 HO3 hu3 bA2 bA3 bV3
  go_wp2
  go_ret
  exact ⟨rfl, below_step hBB.out (by repeat (first | exact Below.refl _ _ | assumption | refine bel_al ?_ _ | refine bel_gw ?_ _ _ | refine bel_drew ?_ | refine bel_drewN ?_ _))⟩
end Go.Proofs.YtdmjopokclljlaaGreat

namespace Go.Proofs.YtdmjopokclljlaaGreat
set_option linter.unusedSimpArgs false
set_option linter.unusedVariables false
set_option linter.unusedSectionVars false
open Go.RowKit

theorem strOfNums_inj {a b : List Int} (ha : bOK a) (hb : bOK b) (h : (strOfNums a).toList = (strOfNums b).toList) : a = b := by
  have h1 : a.map (fun n => UInt8.ofNat n.toNat) = b.map (fun n => UInt8.ofNat n.toNat) := by
    rw [← strOfNums_data, ← strOfNums_data, ← ByteArray.toList_eq, ← ByteArray.toList_eq, h]
  clear h
  induction a generalizing b with
  | nil => cases b with
    | nil => rfl
    | cons y b => simp at h1
  | cons x a ih => cases b with
    | nil => simp at h1
    | cons y b =>
      simp only [List.map_cons, List.cons.injEq] at h1
      obtain ⟨x0, x1⟩ := ha x (by simp)
      obtain ⟨y0, y1⟩ := hb y (by simp)
      have h3 := congrArg UInt8.toNat h1.1
      simp only [UInt8.toNat_ofNat'] at h3
      rw [Nat.mod_eq_of_lt (by omega), Nat.mod_eq_of_lt (by omega)] at h3
      have e : x = y := by omega
      rw [e, ih ha.tail hb.tail h1.2]
theorem reads_pp2 (w : World) (x y : Pp) (m : Nat) (hm : w.heap.size = m) : Reads (w.alloc (.cells (x.cl ++ y.cl).toArray 43)) (w.alloc (.cells (x.cl ++ y.cl).toArray 43)).heap.size 6 (some ⟨m, 0, none⟩) 2 (pps [x, y]) := by
  subst hm
  refine ⟨by simp [pps, Pp.cl], fun _ => ⟨_, _, rfl, by simp, fun j u hu => ?_⟩⟩
  rw [Nat.zero_add, World.cell?_alloc_at _ _ _ _ rfl, List.getElem?_toArray]
  simpa [pps] using hu
theorem reads_pp1 (w : World) (x : Pp) (m : Nat) (hm : w.heap.size = m) : Reads (w.alloc (.cells x.cl.toArray 43)) (w.alloc (.cells x.cl.toArray 43)).heap.size 6 (some ⟨m, 0, none⟩) 1 (pps [x]) := by
  subst hm
  refine ⟨by simp [pps, Pp.cl], fun _ => ⟨_, _, rfl, by simp, fun j u hu => ?_⟩⟩
  rw [Nat.zero_add, World.cell?_alloc_at _ _ _ _ rfl, List.getElem?_toArray]
  simpa [pps] using hu
theorem heavy9_1 (x : Pp) (w : World) (m : Nat) (hm : w.heap.size = m) : Calls Tryz.prog 12 #[.slice (some ⟨m, 0, none⟩) 1 1] (w.alloc (.cells x.cl.toArray 43)) fun e w' => e = .returned (.bool (hvP x)) ∧ w.alloc (.cells x.cl.toArray 43) = w' := by
  have := heavy9_s (some ⟨m, 0, none⟩) 1 [x] _ (reads_pp1 w x m hm) (by simp)
  have e : hvPL [x] = hvP x := by simp [hvPL]
  rw [e] at this; exact this
theorem heavy9_2 (x y : Pp) (w : World) (m : Nat) (hm : w.heap.size = m) : Calls Tryz.prog 12 #[.slice (some ⟨m, 0, none⟩) 2 2] (w.alloc (.cells (x.cl ++ y.cl).toArray 43)) fun e w' => e = .returned (.bool (hvP x || hvP y)) ∧ w.alloc (.cells (x.cl ++ y.cl).toArray 43) = w' := by
  have := heavy9_s (some ⟨m, 0, none⟩) 2 [x, y] _ (reads_pp2 w x y m hm) (by simp)
  have e : hvPL [x, y] = (hvP x || hvP y) := by simp [hvPL]
  rw [e] at this; exact this
theorem PpF.of {x : Pp} (h : x.Wf) : PpF x := ⟨⟨h.p.2.2.1, h.p.2.2.2⟩, h.rd, fun p hp => ⟨(h.ss p hp).2.2.1, (h.ss p hp).2.2.2⟩, fun p hp => ⟨(h.cs p hp).2.2.1, (h.cs p hp).2.2.2⟩, h.us⟩
end Go.Proofs.YtdmjopokclljlaaGreat
