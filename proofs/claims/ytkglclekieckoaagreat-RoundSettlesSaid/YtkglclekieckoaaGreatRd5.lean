/-
  Layer 18: contracts: copies of proposals, views, registries; New.
-/
import Derived.Test.YtkglclekieckoaaGreatTr
namespace Go.Proofs.YtkglclekieckoaaGreat
set_option linter.unusedSimpArgs false
set_option linter.unusedVariables false
set_option linter.unusedSectionVars false
open Go.RowKit

abbrev OwnU (w : World) (base : Nat) (v : Value) (l : List Int) : Prop := w.ownsRow base 22 1 v l.length (ucs l)
set_option maxHeartbeats 400000 in
theorem cloneU_s (A : Option Addr) (c : Nat) (l : List Int) (w : World) (h : Ul w A l) (hn : l.length ≤ 1000000) :
    Calls Tryz.prog 92 #[.slice A l.length c] w fun e w' => ∃ v, e = .returned v ∧ OwnU w' w.heap.size v l ∧ Below w.heap.size w w' := by
  cases A with
  | none =>
    have h0 : l.length = 0 := by
      rcases Nat.eq_zero_or_pos l.length with h' | h'
      · exact h'
      · obtain ⟨_, _, h'', _⟩ := h.2 h'; cases h''
    have hl : l = [] := List.eq_nil_of_length_eq_zero h0
    subst hl
    clear h h0
    have hnil : ∀ W c, (binOp .eql 34 (.slice none 0 c) (.slice none 0 0)).run Tryz.prog W = .ok (.bool true) W := fun W c => Lib.run_eql_slice_nil W 34 22 none 0 c 0 0 Tryz.underlying34
    rw [show ([] : List Int).length = 0 from rfl]
    go_enter Tryz.func92, Tryz.ntmps92
    go_wp2
    go_ret
    exact ⟨_, rfl, World.ownsRow_nil _ _ _ _, Below.refl _ _⟩
  | some ad =>
    have hnil : ∀ W, (binOp .eql 34 (.slice (some ad) l.length c) (.slice none 0 0)).run Tryz.prog W = .ok (.bool false) W := fun W => Lib.run_eql_slice_nil W 34 22 (some ad) l.length c 0 0 Tryz.underlying34
    haveI : Src w (some ad) l.length 1 (ucs l) := ⟨h⟩
    clear h
    go_enter Tryz.func92, Tryz.ntmps92
    go_wp2_with (at_builtin; refine wpList_append_w Tryz.okU rfl (.tmp 5) (.tmp 6) rfl w.heap.size (.slice (some ⟨w.heap.size, 0, none⟩) 0 0) 0 [] l.length (ucs l) ?_ ?_ ?_ ?_ ?_ ?_ ?_ ?_; go_must ((focus (first | rfl | (simp [Act.eval, Act.put]; done))); (focus (exact (World.ownsRow_lit w #[] 0 (Nat.le_refl _) (by unfold maxLen; omega) rfl))); (focus (refine ⟨_, _, rfl, ?_⟩; exact src)); (focus (exact uc_one _)); (focus (unfold maxLen; omega)); (focus omega); (focus (first | omega | (simp; done) | (simp; omega) | exact blw.size | exact BoxAt.lt (n := w.heap.size) inferInstance)); intro v1 w1 hown1 hg1; haveI : Stp w w1 := ⟨(below_alloc w _).grown hg1 (by simp) (by simp [Value.ownBlock])⟩; rw [Nat.zero_add, List.nil_append] at hown1; have HO := hide hown1; clear hown1 hg1))
    go_ret
    exact ⟨_, rfl, HO.out, blw⟩
set_option maxHeartbeats 400000 in
theorem clonePq_s (A : Option Addr) (c : Nat) (l : List Pp) (w : World) (h : Reads w w.heap.size 6 A l.length (pps l)) (hn : l.length ≤ 1000000) :
    Calls Tryz.prog 61 #[.slice A l.length c] w fun e w' => ∃ v, e = .returned v ∧ w'.ownsRow w.heap.size 41 6 v l.length (pps l) ∧ Below w.heap.size w w' := by
  cases A with
  | none =>
    have h0 : l.length = 0 := by
      rcases Nat.eq_zero_or_pos l.length with h' | h'
      · exact h'
      · obtain ⟨_, _, h'', _⟩ := h.2 h'; cases h''
    have hl : l = [] := List.eq_nil_of_length_eq_zero h0
    subst hl
    clear h h0
    have hnil : ∀ W c, (binOp .eql 31 (.slice none 0 c) (.slice none 0 0)).run Tryz.prog W = .ok (.bool true) W := fun W c => Lib.run_eql_slice_nil W 31 41 none 0 c 0 0 Tryz.underlying31
    rw [show ([] : List Pp).length = 0 from rfl]
    go_enter Tryz.func61, Tryz.ntmps61
    go_wp2
    go_ret
    exact ⟨_, rfl, World.ownsRow_nil _ _ _ _, Below.refl _ _⟩
  | some ad =>
    have hnil : ∀ W, (binOp .eql 31 (.slice (some ad) l.length c) (.slice none 0 0)).run Tryz.prog W = .ok (.bool false) W := fun W => Lib.run_eql_slice_nil W 31 41 (some ad) l.length c 0 0 Tryz.underlying31
    haveI : Src w (some ad) l.length 6 (pps l) := ⟨h⟩
    clear h
    go_enter Tryz.func61, Tryz.ntmps61
    go_wp2_with (at_builtin; refine wpList_append_w Tryz.okPq rfl (.tmp 5) (.tmp 6) rfl w.heap.size (.slice (some ⟨w.heap.size, 0, none⟩) 0 0) 0 [] l.length (pps l) ?_ ?_ ?_ ?_ ?_ ?_ ?_ ?_; go_must ((focus (first | rfl | (simp [Act.eval, Act.put]; done))); (focus (exact (World.ownsRow_lit w #[] 0 (Nat.le_refl _) (by unfold maxLen; omega) rfl))); (focus (refine ⟨_, _, rfl, ?_⟩; exact src)); (focus (exact pps_one _)); (focus (unfold maxLen; omega)); (focus omega); (focus (first | omega | (simp; done) | (simp; omega) | exact blw.size | exact BoxAt.lt (n := w.heap.size) inferInstance)); intro v1 w1 hown1 hg1; haveI : Stp w w1 := ⟨(below_alloc w _).grown hg1 (by simp) (by simp [Value.ownBlock])⟩; rw [Nat.zero_add, List.nil_append] at hown1; have HO := hide hown1; clear hown1 hg1))
    go_ret
    exact ⟨_, rfl, HO.out, blw⟩
/-- lies in a block from B on -/
def NewA (B : Nat) (A : Option Addr) : Prop := ∀ a, A = some a → B ≤ a.block
theorem own_newA {W : World} {base : Nat} {e : TypeId} {k n m c : Nat} {A : Option Addr} {xs : List Value} (h : W.ownsRow base e k (.slice A m c) n xs) : NewA base A := by
  intro a ha
  rcases h.2 with ⟨h1, _⟩ | ⟨g, cap, cur, h1, hb, _⟩
  · rw [ha] at h1; cases h1
  · rw [ha] at h1
    injection h1 with h1
    injection h1 with h1
    subst h1
    exact hb
theorem NewA.mono {B B' : Nat} {A : Option Addr} (h : NewA B A) (hb : B' ≤ B) : NewA B' A := fun a ha => Nat.le_trans hb (h a ha)
/-- a proposal in new memory -/
structure PpN (W : World) (B : Nat) (y : Pp) : Prop where
  ok : y.Ok W
  s : NewA B y.SA
  c : NewA B y.CA
  u : NewA B y.UA
structure VwN (W : World) (B : Nat) (y : Vw) : Prop where
  ok : y.Ok W
  m : NewA B y.MA
  u : NewA B y.UA
theorem PpN.o [Avoid] {W : World} {B : Nat} {y : Pp} (h : PpN W B y) {C : List Nat} (hC : ∀ i ∈ C ++ Avoid.D, i < B) : PpO W C y := ⟨.new h.ok.s h.s hC, h.ok.sl, .new h.ok.c h.c hC, h.ok.cl, .new h.ok.u h.u hC, h.ok.ul⟩
theorem VwN.o [Avoid] {W : World} {B : Nat} {y : Vw} (h : VwN W B y) {C : List Nat} (hC : ∀ i ∈ C ++ Avoid.D, i < B) : VwO W C y := ⟨.new h.ok.m h.m hC, h.ok.ml, .new h.ok.u h.u hC, h.ok.ul⟩
theorem PpN.step {X W : World} {B : Nat} {y : Pp} (h : PpN X B y) (hb : Below X.heap.size X W) : PpN W B y := ⟨h.ok.step hb, h.s, h.c, h.u⟩
theorem VwN.step {X W : World} {B : Nat} {y : Vw} (h : VwN X B y) (hb : Below X.heap.size X W) : VwN W B y := ⟨h.ok.step hb, h.m, h.u⟩
abbrev Pp.ag (x : Pp) : Value := .agg #[.int .i64 x.n, .int .u64 x.i, .int .u64 x.rd, .slice x.SA x.ss.length x.sc, .slice x.CA x.cs.length x.cc, .slice x.UA x.us.length x.uc]
abbrev Vw.ag (x : Vw) : Value := .agg #[.int .u64 x.r, .int .i64 x.n, .int .u64 x.i, .slice x.MA x.ms.length x.mc, .slice x.UA x.us.length x.uc]
theorem PpO.old [Avoid] {w W : World} {C : List Nat} {x : Pp} (h : PpO w [] x) (hb : Below w.heap.size w W) (hC : ∀ i ∈ C, w.heap.size ≤ i) : PpO W C x := h.tr ⟨.of hb, fun i hi => .inr (hC i hi)⟩
theorem VwO.old [Avoid] {w W : World} {C : List Nat} {x : Vw} (h : VwO w [] x) (hb : Below w.heap.size w W) (hC : ∀ i ∈ C, w.heap.size ≤ i) : VwO W C x := h.tr ⟨.of hb, fun i hi => .inr (hC i hi)⟩
def RetPk (w : World) (x : Pp) (e : Ending) (w' : World) : Prop := ∃ y : Pp, y.br = x.br ∧ e = .returned y.ag ∧ PpN w' w.heap.size y ∧ Below w.heap.size w w'
set_option maxRecDepth 100000 in
set_option maxHeartbeats 2000000 in
theorem cpP_s (x : Pp) (w : World) (h : x.Ok w) : Calls Tryz.prog 53 #[x.ag] w (RetPk w x) := by
  have hsl := h.sl
  have hcl := h.cl
  have hul := h.ul
  have T1 := hide (fun W (h : Reads W W.heap.size 2 x.SA x.ss.length (pcs x.ss)) => clone_any x.SA x.sc x.ss W h hsl)
  have T2 := hide (fun W (h : Reads W W.heap.size 2 x.CA x.cs.length (pcs x.cs)) => clone_any x.CA x.cc x.cs W h hcl)
  have T3 := hide (fun W (h : Reads W W.heap.size 1 x.UA x.us.length (ucs x.us)) => cloneU_s x.UA x.uc x.us W h hul)
  haveI : Src w x.SA x.ss.length 2 (pcs x.ss) := ⟨h.s⟩
  haveI : Src w x.CA x.cs.length 2 (pcs x.cs) := ⟨h.c⟩
  haveI : Src w x.UA x.us.length 1 (ucs x.us) := ⟨h.u⟩
  clear h
  go_enter Tryz.func53, Tryz.ntmps53
  go_wp2_with fail
  (with_reducible refine (T1.out _ src).mono ?_)
  rintro e w1 ⟨v1, rfl, ho1, hb1⟩
  obtain ⟨A1, c1, rfl, _, _⟩ := own_slice ho1
  haveI : Stp _ w1 := ⟨hb1⟩
  have z1 := hb1.size
  simp at z1
  haveI : LtN w.heap.size w1.heap.size := ⟨by omega⟩
  haveI : LtN (w.heap.size + 1) w1.heap.size := ⟨by omega⟩
  have N1 := hide ((own_newA ho1).mono (B' := w.heap.size) (by simp [World.setCell] <;> omega))
  have R1 := hide (RO.own (C := [w.heap.size, w.heap.size + 1]) ho1 (by intro i hi; simp at hi; simp [World.setCell]; omega))
  clear ho1 hb1
  go_wp2_with fail
  (with_reducible refine (T2.out _ src).mono ?_)
  rintro e w2 ⟨v2, rfl, ho2, hb2⟩
  obtain ⟨A2, c2, rfl, _, _⟩ := own_slice ho2
  haveI : Stp _ w2 := ⟨hb2⟩
  have z2 := hb2.size
  simp [World.setCell] at z2
  haveI : LtN w.heap.size w2.heap.size := ⟨by omega⟩
  haveI : LtN (w.heap.size + 1) w2.heap.size := ⟨by omega⟩
  have N2 := hide ((own_newA ho2).mono (B' := w.heap.size) (by simp [World.setCell] <;> omega))
  have R2 := hide (RO.own (C := [w.heap.size, w.heap.size + 1]) ho2 (by intro i hi; simp at hi; simp [World.setCell]; omega))
  clear ho2 hb2
  go_wp2_with fail
  (with_reducible refine (T3.out _ src).mono ?_)
  rintro e w3 ⟨v3, rfl, ho3, hb3⟩
  obtain ⟨A3, c3, rfl, _, _⟩ := own_slice ho3
  haveI : Stp _ w3 := ⟨hb3⟩
  have z3 := hb3.size
  simp [World.setCell] at z3
  have N3 := hide ((own_newA ho3).mono (B' := w.heap.size) (by simp [World.setCell] <;> omega))
  have R3 := hide (RO.own (C := [w.heap.size, w.heap.size + 1]) ho3 (by intro i hi; simp at hi; simp [World.setCell]; omega))
  clear ho3 hb3
  go_wp2
  refine bodyPost_ret (v := .agg #[.int .i64 x.n, .int .u64 x.i, .int .u64 x.rd, .slice A1 x.ss.length c1, .slice A2 x.cs.length c2, .slice A3 x.us.length c3]) (by simp [results, Tryz.results53, go_sem]) rfl ?_
  exact ⟨⟨x.n, x.i, x.rd, A1, c1, x.ss, A2, c2, x.cs, A3, c3, x.us⟩, rfl, rfl, ⟨⟨R1.out.tc.1, hsl, R2.out.tc.1, hcl, R3.out.tc.1, hul⟩, N1.out, N2.out, N3.out⟩, blw⟩
def RetVk (w : World) (x : Vw) (e : Ending) (w' : World) : Prop := ∃ y : Vw, y.br = x.br ∧ e = .returned y.ag ∧ VwN w' w.heap.size y ∧ Below w.heap.size w w'
set_option maxRecDepth 100000 in
set_option maxHeartbeats 2000000 in
theorem cpV_s (x : Vw) (w : World) (h : x.Ok w) : Calls Tryz.prog 62 #[x.ag] w (RetVk w x) := by
  have hml := h.ml
  have hul := h.ul
  have T1 := hide (fun W (h : Reads W W.heap.size 2 x.MA x.ms.length (pcs x.ms)) => clone_any x.MA x.mc x.ms W h hml)
  have T3 := hide (fun W (h : Reads W W.heap.size 1 x.UA x.us.length (ucs x.us)) => cloneU_s x.UA x.uc x.us W h hul)
  haveI : Src w x.MA x.ms.length 2 (pcs x.ms) := ⟨h.m⟩
  haveI : Src w x.UA x.us.length 1 (ucs x.us) := ⟨h.u⟩
  clear h
  go_enter Tryz.func62, Tryz.ntmps62
  go_wp2_with fail
  (with_reducible refine (T1.out _ src).mono ?_)
  rintro e w1 ⟨v1, rfl, ho1, hb1⟩
  obtain ⟨A1, c1, rfl, _, _⟩ := own_slice ho1
  haveI : Stp _ w1 := ⟨hb1⟩
  have z1 := hb1.size
  simp at z1
  haveI : LtN w.heap.size w1.heap.size := ⟨by omega⟩
  haveI : LtN (w.heap.size + 1) w1.heap.size := ⟨by omega⟩
  have N1 := hide ((own_newA ho1).mono (B' := w.heap.size) (by simp [World.setCell] <;> omega))
  have R1 := hide (RO.own (C := [w.heap.size, w.heap.size + 1]) ho1 (by intro i hi; simp at hi; simp [World.setCell]; omega))
  clear ho1 hb1
  go_wp2_with fail
  (with_reducible refine (T3.out _ src).mono ?_)
  rintro e w3 ⟨v3, rfl, ho3, hb3⟩
  obtain ⟨A3, c3, rfl, _, _⟩ := own_slice ho3
  haveI : Stp _ w3 := ⟨hb3⟩
  have z3 := hb3.size
  simp [World.setCell] at z3
  have N3 := hide ((own_newA ho3).mono (B' := w.heap.size) (by simp [World.setCell] <;> omega))
  have R3 := hide (RO.own (C := [w.heap.size, w.heap.size + 1]) ho3 (by intro i hi; simp at hi; simp [World.setCell]; omega))
  clear ho3 hb3
  go_wp2
  refine bodyPost_ret (v := .agg #[.int .u64 x.r, .int .i64 x.n, .int .u64 x.i, .slice A1 x.ms.length c1, .slice A3 x.us.length c3]) (by simp [results, Tryz.results62, go_sem]) rfl ?_
  exact ⟨⟨x.r, x.n, x.i, A1, c1, x.ms, A3, c3, x.us⟩, rfl, rfl, ⟨⟨R1.out.tc.1, R3.out.tc.1, hml, hul⟩, N1.out, N3.out⟩, blw⟩
def RetRk (w : World) (l : List Cl) (e : Ending) (w' : World) : Prop := ∃ A c, e = .returned (.agg #[.slice A l.length c]) ∧ w'.ownsRow w.heap.size 48 6 (.slice A l.length c) l.length (ccs l) ∧ Below w.heap.size w w'
set_option maxRecDepth 100000 in
set_option maxHeartbeats 2000000 in
theorem cpR_s (A : Option Addr) (c : Nat) (l : List Cl) (w : World) (h : Cll w A l) (hl : l.length ≤ 1000000) : Calls Tryz.prog 34 #[.agg #[.slice A l.length c]] w (RetRk w l) := by
  have T1 := hide (fun W (h : Reads W W.heap.size 6 A l.length (ccs l)) => cloneC_s A c l W h hl)
  haveI : Src w A l.length 6 (ccs l) := ⟨h⟩
  clear h
  go_enter Tryz.func34, Tryz.ntmps34
  go_wp2_with fail
  (with_reducible refine (T1.out _ src).mono ?_)
  rintro e w1 ⟨v1, rfl, ho1, hb1⟩
  obtain ⟨A1, c1, rfl, _, _⟩ := own_slice ho1
  haveI : Stp _ w1 := ⟨hb1⟩
  have z1 := hb1.size
  simp at z1
  haveI : LtN w.heap.size w1.heap.size := ⟨by omega⟩
  haveI : LtN (w.heap.size + 1) w1.heap.size := ⟨by omega⟩
  simp only [World.size_alloc] at ho1
  have HO1 := hide ho1
  clear ho1 hb1
  go_wp2
  refine bodyPost_ret (v := .agg #[.slice A1 l.length c1]) (by simp [results, Tryz.results34, go_sem]) rfl ?_
  exact ⟨_, _, rfl, own_base (own_kp HO1.out) (by omega), blw⟩
set_option maxRecDepth 100000 in
set_option maxHeartbeats 2000000 in
theorem new18_s [Avoid] (n i : Int) (w : World) (hD : ∀ i ∈ Avoid.D, i < w.heap.size) : Calls Tryz.prog 10 #[.agg #[.int .i64 n, .int .u64 i]] w fun e w' => ∃ a : Ag, a.br = newA n i ∧ e = .returned a.v ∧ a.Ok w' ∧ Below w.heap.size w w' := by
  have HD := hide hD
  clear hD
  go_enter Tryz.func10, Tryz.ntmps10
  go_wp2
  refine bodyPost_ret (v := .agg #[.int .i64 n, .int .u64 i, .int .u64 0, .slice (some ⟨w.heap.size + 1 + 1, 0, none⟩) 1 1, .slice none 0 0, .slice none 0 0, .slice none 0 0, .bool false, .bool false, .int .u64 0, .int .i64 0, .int .u64 0, .slice none 0 0, .slice none 0 0]) (by simp [results, Tryz.results10, go_sem]) rfl ?_
  refine ⟨⟨n, i, 0, some ⟨w.heap.size + 1 + 1, 0, none⟩, 1, [(n, i)], none, 0, [], none, 0, [], none, 0, [], false, false, vw0⟩, rfl, rfl, ⟨⟨⟨?_, ?_⟩, by simp, RO.nil _ _ _ _, by simp, RO.nil _ _ _ _, by simp, (fun p hp => by cases hp), by simp, ⟨RO.nil _ _ _ _, by simp, RO.nil _ _ _ _, by simp⟩⟩, ?_⟩, blw⟩
  · exact reads_p1x _ _ n i
  · intro _ a ha hm
    injection ha with ha
    subst ha
    have := HD.out _ (by simpa using hm)
    omega
  · exact RO.nil _ _ _ _
end Go.Proofs.YtkglclekieckoaaGreat

namespace Go.Proofs.YtkglclekieckoaaGreat
set_option linter.unusedSimpArgs false
set_option linter.unusedVariables false
set_option linter.unusedSectionVars false
open Go.RowKit

theorem pps_set : ∀ (l : List Pp) (i : Nat) (t : Pp), ((((((pps l).set (i * 6) (.int .i64 t.n)).set (i * 6 + 1) (.int .u64 t.i)).set (i * 6 + 2) (.int .u64 t.rd)).set (i * 6 + 3) (.slice t.SA t.ss.length t.sc)).set (i * 6 + 4) (.slice t.CA t.cs.length t.cc)).set (i * 6 + 5) (.slice t.UA t.us.length t.uc) = pps (l.set i t) := by
  intro l
  induction l with
  | nil => intro i t; simp [pps]
  | cons x l ih =>
    intro i t
    cases i with
    | zero => simp [pps, Pp.cl]
    | succ i =>
      have := ih i t
      rw [List.set_cons_succ]
      show _ = x.cl ++ pps (l.set i t)
      rw [← this]
      show ((((((x.cl ++ pps l).set _ _).set _ _).set _ _).set _ _).set _ _).set _ _ = _
      have e : ∀ (q : Nat) (xs : List Value) (v : Value), (x.cl ++ xs).set ((i + 1) * 6 + q) v = x.cl ++ xs.set (i * 6 + q) v := fun q xs v => by
        rw [List.set_append_right _ _ (by rw [Pp.cl_len]; omega), Pp.cl_len, show (i + 1) * 6 + q - 6 = i * 6 + q by omega]
      have e0 : ∀ (xs : List Value) (v : Value), (x.cl ++ xs).set ((i + 1) * 6) v = x.cl ++ xs.set (i * 6) v := fun xs v => e 0 xs v
      rw [e0, e, e, e, e, e]
abbrev setP6 (w : World) (g i : Nat) (t : Pp) : World := (((((w.setCell ⟨g, i * 6, none⟩ (.int .i64 t.n)).setCell ⟨g, i * 6 + 1, none⟩ (.int .u64 t.i)).setCell ⟨g, i * 6 + 2, none⟩ (.int .u64 t.rd)).setCell ⟨g, i * 6 + 3, none⟩ (.slice t.SA t.ss.length t.sc)).setCell ⟨g, i * 6 + 4, none⟩ (.slice t.CA t.cs.length t.cc)).setCell ⟨g, i * 6 + 5, none⟩ (.slice t.UA t.us.length t.uc)
theorem ownP_set {w : World} {base g n cap : Nat} {l : List Pp} (h : w.ownsRow base 41 6 (.slice (some ⟨g, 0, none⟩) n cap) n (pps l)) (i : Nat) (t : Pp) :
    (setP6 w g i t).ownsRow base 41 6 (.slice (some ⟨g, 0, none⟩) n cap) n (pps (l.set i t)) ∧ w.grownBy (setP6 w g i t) (some g) := by
  obtain ⟨h0, g0⟩ := h.stored (i * 6) (.int .i64 t.n)
  obtain ⟨h1, g1⟩ := h0.stored (i * 6 + 1) (.int .u64 t.i)
  obtain ⟨h2, g2⟩ := h1.stored (i * 6 + 2) (.int .u64 t.rd)
  obtain ⟨h3, g3⟩ := h2.stored (i * 6 + 3) (.slice t.SA t.ss.length t.sc)
  obtain ⟨h4, g4⟩ := h3.stored (i * 6 + 4) (.slice t.CA t.cs.length t.cc)
  obtain ⟨h5, g5⟩ := h4.stored (i * 6 + 5) (.slice t.UA t.us.length t.uc)
  rw [pps_set] at h5
  exact ⟨h5, (((((g0.trans g1).trans g2).trans g3).trans g4).trans g5)⟩
theorem ownP_at {w : World} {base g n cap : Nat} {l : List Pp} (h : w.ownsRow base 41 6 (.slice (some ⟨g, 0, none⟩) n cap) n (pps l)) {i q a : Nat} {t : Pp} {v : Value} (hi : l[i]? = some t) (hq : q < 6) (ha : a = i * 6 + q) (hv : t.cl[q]? = some v) : w.cell? ⟨g, a, none⟩ = some v := by
  have hl : i < l.length := (List.getElem?_eq_some_iff.1 hi).1
  have hn : n = l.length := by have := h.1; rw [pps_len] at this; omega
  rw [ha, h.cellAt _ (by omega), pps, flat_get Pp.cl_len l i q _ hi hq]; exact hv
theorem map_set_self {α β : Type} (f : α → β) : ∀ (l : List α) (i : Nat) (x y : α), l[i]? = some x → f y = f x → (l.set i y).map f = l.map f
  | [], _, _, _, h, _ => by cases h
  | a :: l, 0, x, y, h, e => by simp at h; subst h; simp [e]
  | a :: l, i + 1, x, y, h, e => by simp at h; simp [map_set_self f l i x y h e]
theorem mem_set {α : Type} {l : List α} {i : Nat} {x y : α} (h : x ∈ l.set i y) : x = y ∨ x ∈ l := by
  rcases List.mem_or_eq_of_mem_set h with h | h
  · exact .inr h
  · exact .inl h
theorem BoxAt.of_cs {W : World} {n : Nat} {cs cs' : Array Value} {t : TypeId} (h : BoxAt W n cs t) (e : cs = cs') : BoxAt W n cs' t := by subst e; exact h
variable [Avoid]
/-- while proposals are copied -/
structure BG (w : World) (C : List Nat) (b : Ag) (G : List Pp) (L : List Pp) (W : World) : Prop where
  bx : BoxAt W w.heap.size (Ag.cs { b with gt := L }) 38
  go : W.ownsRow 0 41 6 (.slice b.GA L.length b.gc) L.length (pps L)
  e : L.map Pp.br = G.map Pp.br
  a : AgO W C { b with gt := L }
  tr : Below w.heap.size w W
  lt : ∀ i ∈ C ++ Avoid.D, i < W.heap.size
theorem BG.put {w W W5 : World} {C : List Nat} {b : Ag} {G L : List Pp} {m g4 B : Nat} {p y : Pp} (h : BG w C b G L W) (hA : b.GA = some ⟨g4, 0, none⟩) (hb : Below W.heap.size W W5) (hp : L[m]? = some p) (hy : y.br = p.br) (hn : PpN W5 B y) (hB : W.heap.size ≤ B) (hg : g4 ∈ C) (hne : g4 ≠ w.heap.size) (hC : ∀ i ∈ C, w.heap.size ≤ i) :
    BG w C b G (L.set m y) (setP6 W5 g4 m y) := by
  have hl : (L.set m y).length = L.length := List.length_set
  have hgo := h.go
  rw [hA] at hgo
  have hgo5 := own_same (w' := W5) hgo (fun i hi => by
    simp [Value.ownBlock] at hi; subst hi
    exact hb.block _ (h.lt _ (List.mem_append_left _ hg)))
  obtain ⟨o1, o2⟩ := ownP_set hgo5 m y
  have hgr : Gr C W5 (setP6 W5 g4 m y) := .grown o2 (fun k hk => by injection hk with hk; subst hk; exact hg)
  have htr : Tr C C W (setP6 W5 g4 m y) := (Tr.bel hb).trans (.of hgr)
  refine ⟨?_, ?_, ?_, ?_, ?_, ?_⟩
  · refine BoxAt.of_cs (cs := Ag.cs { b with gt := L }) ⟨?_⟩ ?_
    · rw [o2.block _ (Nat.lt_of_lt_of_le h.bx.lt hb.size) (fun e => hne (by injection e with e; exact e.symm)), hb.block _ h.bx.lt]
      exact h.bx.eq
    · show Ag.cs { b with gt := L } = Ag.cs { b with gt := L.set m y }
      unfold Ag.cs
      simp only [hl]
  · rw [hl, hA]; exact o1
  · rw [map_set_self Pp.br L m p y hp hy, h.e]
  · refine ⟨h.a.s.tr htr.av, h.a.sl, h.a.c.tr htr.av, h.a.cl, h.a.t.tr htr.av, h.a.tl, fun q hq => ?_, by show (L.set m y).length ≤ 1000; rw [hl]; exact h.a.pl, h.a.v.tr htr⟩
    rcases mem_set hq with rfl | hq
    · exact (hn.o (fun i hi => Nat.lt_of_lt_of_le (h.lt i hi) hB)).tr (.of hgr)
    · exact (h.a.p q hq).tr htr
  · exact h.tr.trans (htr.g.below h.tr.size hC)
  · intro i hi
    exact Nat.lt_of_lt_of_le (h.lt i hi) htr.g.size
set_option maxRecDepth 100000 in
set_option maxHeartbeats 4000000 in
theorem begin_s (a : Ag) (w : World) (h : a.Ok w) (hD : ∀ i ∈ Avoid.D, i < w.heap.size) : Calls Tryz.prog 28 #[a.v] w fun e w' => ∃ g C b, b.br = a.br ∧ e = .returned (.pointer (some ⟨g, 0, none⟩)) ∧ MK w' C g b tu0 ∧ (∀ i ∈ C, w.heap.size ≤ i) ∧ Below w.heap.size w w' := by
  have hsl := h.o.sl
  have hcl := h.o.cl
  have htl := h.o.tl
  have hgl := h.o.pl
  have T1 := hide (fun W (h : Reads W W.heap.size 2 a.SA a.ss.length (pcs a.ss)) => clone_any a.SA a.sc a.ss W h hsl)
  have T2 := hide (fun W (h : Reads W W.heap.size 6 a.LA a.cl.length (ccs a.cl)) => cpR_s a.LA a.lc a.cl W h hcl)
  have T3 := hide (fun W (h : Reads W W.heap.size 2 a.TA a.td.length (pcs a.td)) => clone_any a.TA a.tc a.td W h htl)
  have T4 := hide (fun W (h : Reads W W.heap.size 6 a.GA a.gt.length (pps a.gt)) => clonePq_s a.GA a.gc a.gt W h (by omega))
  have T5 := hide (fun W (h : a.vw.Ok W) => cpV_s a.vw W h)
  have TC := hide (fun (x : Pp) W (h : x.Ok W) => cpP_s x W h)
  haveI : Src w a.SA a.ss.length 2 (pcs a.ss) := ⟨h.o.s.1⟩
  haveI : Src w a.LA a.cl.length 6 (ccs a.cl) := ⟨h.o.c.1⟩
  haveI : Src w a.TA a.td.length 2 (pcs a.td) := ⟨h.o.t.1⟩
  haveI : Src w a.GA a.gt.length 6 (pps a.gt) := ⟨h.g.1⟩
  have HV := hide h.o.v
  have HP := hide (fun p hp => (h.o.p p hp))
  have HD := hide hD
  clear h hD
  go_enter Tryz.func28, Tryz.ntmps28
  go_wp2_with fail
  (with_reducible refine (T1.out _ src).mono ?_)
  rintro e w1 ⟨v1, rfl, ho1, hb1⟩
  obtain ⟨A1, c1, rfl, _, _⟩ := own_slice ho1
  haveI : Stp _ w1 := ⟨hb1⟩
  have z1 := hb1.size
  simp at z1
  haveI : LtN w.heap.size w1.heap.size := ⟨by omega⟩
  have R1 := hide (RO.own (C := [w.heap.size] ++ Avoid.D) ho1 (by intro i hi; rcases List.mem_append.1 hi with hi | hi ; (simp at hi; simp [World.setCell]; omega); (have := HD.out i hi; simp [World.setCell]; omega)))
  clear ho1 hb1
  go_wp2_with fail
  (with_reducible refine (T2.out _ src).mono ?_)
  rintro e w2 ⟨A2, c2, rfl, ho2, hb2⟩
  haveI : Stp _ w2 := ⟨hb2⟩
  have z2 := hb2.size
  simp [World.setCell] at z2
  haveI : LtN w.heap.size w2.heap.size := ⟨by omega⟩
  have R2 := hide (RO.own (C := [w.heap.size] ++ Avoid.D) ho2 (by intro i hi; rcases List.mem_append.1 hi with hi | hi ; (simp at hi; simp [World.setCell]; omega); (have := HD.out i hi; simp [World.setCell]; omega)))
  clear ho2 hb2
  go_wp2_with fail
  (with_reducible refine (T3.out _ src).mono ?_)
  rintro e w3 ⟨v3, rfl, ho3, hb3⟩
  obtain ⟨A3, c3, rfl, _, _⟩ := own_slice ho3
  haveI : Stp _ w3 := ⟨hb3⟩
  have z3 := hb3.size
  simp [World.setCell] at z3
  haveI : LtN w.heap.size w3.heap.size := ⟨by omega⟩
  have R3 := hide (RO.own (C := [w.heap.size] ++ Avoid.D) ho3 (by intro i hi; rcases List.mem_append.1 hi with hi | hi ; (simp at hi; simp [World.setCell]; omega); (have := HD.out i hi; simp [World.setCell]; omega)))
  clear ho3 hb3
  go_wp2_with fail
  (with_reducible refine (T4.out _ src).mono ?_)
  rintro e w4 ⟨v4, rfl, ho4, hb4⟩
  obtain ⟨A4, c4, rfl, _, _⟩ := own_slice ho4
  haveI : Stp _ w4 := ⟨hb4⟩
  have z4 := hb4.size
  simp [World.setCell] at z4
  haveI : LtN w.heap.size w4.heap.size := ⟨by omega⟩
  simp only [World.size_setCell] at ho4
  have HO4 := hide (own_base ho4 (Nat.zero_le _))
  have TT := hide ((Tr.bel (C := [w.heap.size]) hb4).trans (.set (m := w.heap.size) _ 6 (.slice A4 a.gt.length c4) (by simp)))
  obtain ⟨C, hC⟩ : ∃ C, C = w.heap.size :: (Value.slice A4 a.gt.length c4).ownBlock.toList := ⟨_, rfl⟩
  have hCg : ∀ b, (Value.slice A4 a.gt.length c4).ownBlock = some b → b ∈ C ∧ w3.heap.size ≤ b ∧ b < w4.heap.size := fun b hb => by
    have := ho4.lt b hb
    exact ⟨by rw [hC, hb]; simp, this.1, this.2⟩
  have hCm : ∀ i ∈ C, i = w.heap.size ∨ (w3.heap.size ≤ i ∧ i < w4.heap.size) := by
    intro i hi
    rw [hC] at hi
    rcases List.mem_cons.1 hi with h | h
    · exact .inl h
    · exact .inr (hCg i (by simpa using h)).2
  have hC1 : ∀ i ∈ C, w.heap.size ≤ i := fun i hi => by rcases hCm i hi with h | ⟨h, _⟩ <;> omega
  have hC2 : ∀ i ∈ C, i < w4.heap.size := fun i hi => by rcases hCm i hi with h | ⟨_, h⟩ <;> omega
  have T2C := hide (TT.out.re (D := C) (fun i hi => by
    rcases hCm i hi with h | ⟨h, _⟩
    · left; simp [h]
    · right; simpa [World.setCell] using h))
  have HC1 := hide hC1
  have HC2 := hide hC2
  have HCG := hide hCg
  have HW0 := hide (show w.heap.size ∈ C by rw [hC]; simp)
  clear hCm hC1 hC2 hCg hC ho4 hb4 TT
  go_wp2_with fail
  have B0 := hide (show BG w C ⟨a.n, a.i, a.rd, A1, c1, a.ss, A2, c2, a.cl, A3, c3, a.td, A4, c4, a.gt, a.dn, a.sp, a.vw⟩ a.gt a.gt (w4.setCell ⟨w.heap.size, 6, none⟩ (.slice A4 a.gt.length c4)) from
    ⟨inferInstance, own_same HO4.out (fun i hi => Below.heap_setCell _ _ _ _ (fun e => by have := (HCG.out i hi).2.1; simp only at e; omega)), rfl,
      ⟨R1.out.tc.tr T2C.out.av, hsl, R2.out.tc.tr T2C.out.av, hcl, R3.out.tc.tr T2C.out.av, htl, fun p hp => .old (HP.out p hp) blw HC1.out, hgl, .old HV.out blw HC1.out⟩, blw, fun i hi => by
        rcases List.mem_append.1 hi with hi | hi
        · have := HC2.out i hi; simpa [World.setCell] using this
        · have := HD.out i hi; simp [World.setCell]; omega⟩)
  go_loopw [24] (fun j wr => ∃ (m : Nat) (L : List Pp), j = .int .i64 m ∧ m ≤ a.gt.length ∧ BG w C ⟨a.n, a.i, a.rd, A1, c1, a.ss, A2, c2, a.cl, A3, c3, a.td, A4, c4, a.gt, a.dn, a.sp, a.vw⟩ a.gt L wr) (fun j _ => a.gt.length - (intOf j).toNat)
  case atStart => exact ⟨0, a.gt, rfl, Nat.zero_le _, B0.out⟩
  case round =>
    obtain ⟨m, L, rfl, hm, hbx, hgo, he, ha, htr, hlt⟩ := hrel
    have hLl : L.length = a.gt.length := by have := congrArg List.length he; simpa using this
    haveI : BoxAt wr w.heap.size #[.int .i64 a.n, .int .u64 a.i, .int .u64 a.rd, .slice A1 a.ss.length c1, .slice A2 a.cl.length c2, .slice A3 a.td.length c3, .slice A4 a.gt.length c4, .bool a.dn, .bool a.sp, .int .u64 a.vw.r, .int .i64 a.vw.n, .int .u64 a.vw.i, .slice a.vw.MA a.vw.ms.length a.vw.mc, .slice a.vw.UA a.vw.us.length a.vw.uc] 38 := BoxAt.of_cs hbx (by unfold Ag.cs; simp only [hLl])
    haveI : Stp w wr := ⟨htr⟩
    have HBG := hide (show BG w C ⟨a.n, a.i, a.rd, A1, c1, a.ss, A2, c2, a.cl, A3, c3, a.td, A4, c4, a.gt, a.dn, a.sp, a.vw⟩ a.gt L wr from ⟨hbx, hgo, he, ha, htr, hlt⟩)
    have zr := hbx.lt
    haveI : LtN w.heap.size wr.heap.size := ⟨zr⟩
    have HLL := hide hLl
    clear hbx hgo he ha htr hlt hLl
    by_cases hlt2 : m < a.gt.length
    · obtain ⟨g4, cap, hv, _, hg4⟩ := HBG.out.go.form (by have := HLL.out; omega)
      injection hv with e1 e2 e3
      simp only at e1 e3
      subst e1 e3
      have hgw := HCG.out g4 rfl
      haveI : NeN w.heap.size g4 := ⟨by omega⟩
      haveI : LtN g4 wr.heap.size := ⟨hg4⟩
      haveI : FrzAt wr g4 := .own HBG.out.go hg4
      have hp : L[m]? = some (L[m]'(by have := HLL.out; omega)) := List.getElem?_eq_getElem _
      generalize L[m]'(by have := HLL.out; omega) = p at hp
      haveI : CellAt wr g4 (m * 6) (.int .i64 p.n) := ⟨hg4, ownP_at HBG.out.go hp (q := 0) (by omega) (by omega) rfl⟩
      haveI : CellAt wr g4 (m * 6 + 1) (.int .u64 p.i) := ⟨hg4, ownP_at HBG.out.go hp (q := 1) (by omega) (by omega) rfl⟩
      haveI : CellAt wr g4 (m * 6 + 2) (.int .u64 p.rd) := ⟨hg4, ownP_at HBG.out.go hp (q := 2) (by omega) (by omega) rfl⟩
      haveI : CellAt wr g4 (m * 6 + 3) (.slice p.SA p.ss.length p.sc) := ⟨hg4, ownP_at HBG.out.go hp (q := 3) (by omega) (by omega) rfl⟩
      haveI : CellAt wr g4 (m * 6 + 4) (.slice p.CA p.cs.length p.cc) := ⟨hg4, ownP_at HBG.out.go hp (q := 4) (by omega) (by omega) rfl⟩
      haveI : CellAt wr g4 (m * 6 + 5) (.slice p.UA p.us.length p.uc) := ⟨hg4, ownP_at HBG.out.go hp (q := 5) (by omega) (by omega) rfl⟩
      have HPo := hide (HBG.out.a.p p (List.mem_of_getElem? hp)).ok
      have HPp := hide hp
      have i0 : (0 : Int) ≤ (m : Int) := by omega
      have i1 : (m : Int) < (a.gt.length : Int) := by omega
      clear hp
      go_wp2_with fail
      go_region_held3 (fun w' => w'.cell? ⟨w.heap.size, 6, none⟩ = some (.slice (some ⟨g4, 0, none⟩) a.gt.length c4) ∧ w'.cell? ⟨wr.heap.size, 0, none⟩ = some (.int .i64 p.n) ∧ w'.cell? ⟨wr.heap.size, 1, none⟩ = some (.int .u64 p.i) ∧ w'.cell? ⟨wr.heap.size, 2, none⟩ = some (.int .u64 p.rd) ∧ w'.cell? ⟨wr.heap.size, 3, none⟩ = some (.slice p.SA p.ss.length p.sc) ∧ w'.cell? ⟨wr.heap.size, 4, none⟩ = some (.slice p.CA p.cs.length p.cc) ∧ w'.cell? ⟨wr.heap.size, 5, none⟩ = some (.slice p.UA p.us.length p.uc)) ((refine ⟨?_, ?_, ?_, ?_, ?_, ?_, ?_⟩ <;> (rw [cell?_box]; rfl)))
        (first | (go_at_call 53; (with_reducible refine (TC.out p _ ?_).mono ?_); (focus (exact HPo.out.step blw)); rintro e w5 ⟨y, hy, rfl, hn, hb5⟩; haveI : Stp _ w5 := ⟨hb5⟩; have HY := hide hn; have HYE := hide hy; clear hn hb5 hy) | fail)
      all_goals
        go_wp2
        go_roundw
        case rel => exact ⟨m + 1, L.set m y, by go_num, by omega, HBG.out.put rfl blw HPp.out HYE.out HY.out (by simp [World.drew]) hgw.1 (by omega) HC1.out⟩
        case measure => simp [intOf]; omega
    · obtain rfl : m = a.gt.length := by omega
      go_wp2_with fail
      (with_reducible refine (T5.out _ (HV.out.ok.step blw)).mono ?_)
      rintro e w6 ⟨y, hy, rfl, hn, hb6⟩
      haveI : Stp _ w6 := ⟨hb6⟩
      have z6 := hb6.size
      haveI : LtN w.heap.size w6.heap.size := ⟨by omega⟩
      have HY := hide hn
      have HYE := hide hy
      have HB6 := hide hb6
      clear hn hb6 hy
      haveI : InL w.heap.size C := ⟨HW0.out⟩
      go_wp2
      go_ret
      have hA := HBG.out.a
      refine ⟨w6.heap.size, w6.heap.size :: C, ⟨a.n, a.i, a.rd, A1, c1, a.ss, A2, c2, a.cl, A3, c3, a.td, A4, c4, L, a.dn, a.sp, y⟩, ?_, rfl, ⟨?_, by simp, ?_, ?_, ?_, World.ownsRow_nil _ _ _ _, (fun b hb => by cases hb), ?_, ⟨(fun x hx => by cases hx), by simp, ⟨RO.nil _ _ _ _, by simp, RO.nil _ _ _ _, by simp, RO.nil _ _ _ _, by simp⟩, ⟨RO.nil _ _ _ _, by simp, RO.nil _ _ _ _, by simp⟩⟩⟩, ?_, blw⟩
      · unfold Ag.br
        simp only [HBG.out.e, HYE.out]
      · refine BoxAt.of_cs (@BoxAt.top _ _ _ _ ⟨?_⟩) ?_
        · simp [World.setCell]
        · simp only [mkC, HLL.out]; rfl
      · intro i hi
        simp only [World.size_alloc, World.size_setCell]
        rcases List.mem_cons.1 (show i ∈ w6.heap.size :: (C ++ Avoid.D) from hi) with rfl | hi
        · omega
        · have := HBG.out.lt i hi; omega
      · exact own_same HBG.out.go (fun i hi => by
          have h1 := HCG.out i (by rw [← hi]; simp only [HLL.out])
          exact (Trc.h (C := [w.heap.size])).g.blk i (HBG.out.lt i (List.mem_append_left _ h1.1)) (by simp; omega))
      · intro b hb
        have h1 := HCG.out b (by rw [← hb]; simp only [HLL.out])
        have h2 := HBG.out.lt b (List.mem_append_left _ h1.1)
        exact ⟨List.mem_cons_of_mem _ h1.1, by omega⟩
      · have hT : ∀ W, Trc C wr W → Tr C (w6.heap.size :: C) wr W := fun W t => t.h.re (fun i hi => by
          rcases List.mem_cons.1 hi with rfl | hi
          · exact .inr (by omega)
          · exact .inl hi)
        have hT6 : ∀ W, Trc C w6 W → Tr C (w6.heap.size :: C) w6 W := fun W t => t.h.re (fun i hi => by
          rcases List.mem_cons.1 hi with rfl | hi
          · exact .inr (Nat.le_refl _)
          · exact .inl hi)
        have key : ∀ W, Trc C wr W → Trc C w6 W → AgO W (w6.heap.size :: C) ⟨a.n, a.i, a.rd, A1, c1, a.ss, A2, c2, a.cl, A3, c3, a.td, A4, c4, L, a.dn, a.sp, y⟩ := fun W i1 i2 =>
          have t := hT W i1
          ⟨hA.s.tr t.av, hA.sl, hA.c.tr t.av, hA.cl, hA.t.tr t.av, hA.tl, fun p hp => (hA.p p hp).tr t, hA.pl, (HY.out.o (C := C) HBG.out.lt).tr (hT6 W i2)⟩
        exact key _ inferInstance inferInstance
      · intro i hi
        rcases List.mem_cons.1 hi with rfl | hi
        · have := HBG.out.tr.size; omega
        · exact HC1.out i hi
set_option maxRecDepth 100000 in
set_option maxHeartbeats 2000000 in
theorem end_s (g : Nat) (C : List Nat) (a : Ag) (t : Tu) (w : World) (h : MK w C g a t) : Calls Tryz.prog 32 #[.pointer (some ⟨g, 0, none⟩)] w fun e w' => e = .returned (.tuple #[a.v, t.v]) ∧ Below w.heap.size w w' := by
  haveI := h.bx
  clear h
  go_enter Tryz.func32, Tryz.ntmps32
  go_wp2
  go_region
  all_goals
    go_wp2
    refine bodyPost_ret (v := .tuple #[a.v, t.v]) (by simp [results, Tryz.results32, go_sem]) rfl ?_
    exact ⟨rfl, blw⟩
/-- a turn with some more told -/
def Tu.more (t : Tu) (l : List Te) (A : Option Addr) (c : Nat) : Tu := ⟨A, c, t.ts ++ l, t.sd, t.pp, t.md, t.vw⟩
theorem MK.told {w W : World} {C : List Nat} {g : Nat} {a : Ag} {t : Tu} {x : Te} {A1 : Option Addr} {c1 : Nat} (h : MK w C g a t) (hx : NtO w C x.nt) (ho : W.ownsRow 0 117 13 (.slice A1 (t.ts.length + 1) c1) (t.ts.length + 1) (tes t.ts ++ tes [x])) (hg : w.grownBy W (Value.slice t.A t.ts.length t.c).ownBlock)
    (ha : (Value.slice A1 (t.ts.length + 1) c1).ownBlock = (Value.slice t.A t.ts.length t.c).ownBlock ∨ (Value.slice A1 (t.ts.length + 1) c1).ownBlock = some w.heap.size) (hl : t.ts.length ≤ 900) :
    ∃ C', MK (W.setCell ⟨g, 14, none⟩ (.slice A1 (t.ts.length + 1) c1)) C' g a (t.more [x] A1 c1) ∧ Tr C C' w (W.setCell ⟨g, 14, none⟩ (.slice A1 (t.ts.length + 1) c1)) := by
  have hgl := h.bx.lt
  have hn : ∀ b, (Value.slice A1 (t.ts.length + 1) c1).ownBlock = some b → (b ∈ C ∨ b = w.heap.size) ∧ b ≠ g ∧ (Value.slice a.GA a.gt.length a.gc).ownBlock ≠ some b := fun b hb => by
    rcases ha with e | e
    · obtain ⟨q1, q2, q3⟩ := h.twC b (e.symm.trans hb)
      exact ⟨.inl q1, q2, q3⟩
    · rw [hb] at e
      injection e with e
      subst e
      exact ⟨.inr rfl, by omega, fun hc => by have := h.lt _ (List.mem_append_left _ (h.goC _ hc).1); omega⟩
  obtain ⟨C', hC⟩ : ∃ C', C' = (Value.slice A1 (t.ts.length + 1) c1).ownBlock.toList ++ C := ⟨_, rfl⟩
  have hin : ∀ i ∈ C, i ∈ C' := fun i hi => by rw [hC]; exact List.mem_append_right _ hi
  have hin2 : ∀ i ∈ C', i ∈ C ∨ (Value.slice A1 (t.ts.length + 1) c1).ownBlock = some i := fun i hi => by
    rw [hC] at hi
    rcases List.mem_append.1 hi with h1 | h1
    · right; simpa using h1
    · exact .inl h1
  have hin3 : ∀ b, (Value.slice A1 (t.ts.length + 1) c1).ownBlock = some b → b ∈ C' := fun b hb => by rw [hC, hb]; simp
  clear hC
  have g1 : Gr C w W := .grown hg (fun k hk => (h.twC k hk).1)
  have t1 : Tr C C' w (W.setCell ⟨g, 14, none⟩ (.slice A1 (t.ts.length + 1) c1)) := ((Tr.of g1).trans (.set W 14 _ h.gC)).re (fun i hi => by
    rcases hin2 i hi with h1 | h1
    · exact .inl h1
    · rcases (hn i h1).1 with h2 | h2
      · exact .inl h2
      · exact .inr (by omega))
  have hgt : (Value.slice t.A t.ts.length t.c).ownBlock ≠ some g := fun e => (h.twC g e).2.1 rfl
  have hbx : BoxAt W g (mkC a t) 92 := ⟨by rw [hg.block g hgl (fun e => hgt e.symm)]; exact h.bx.eq⟩
  refine ⟨C', ⟨?_, hin g h.gC, ?_, ?_, ?_, ?_, ?_, h.ao.tr t1, ⟨?_, ?_, h.uo.p.tr t1, h.uo.v.tr t1⟩⟩, t1⟩
  · exact BoxAt.of_cs (@BoxAt.setAt _ _ _ _ _ _ hbx) (by simp [Tu.more])
  · intro i hi
    have := t1.g.size
    rcases List.mem_append.1 hi with hi | hi
    rotate_left
    · have := h.lt i (List.mem_append_right _ hi); omega
    rcases hin2 i hi with h1 | h1
    · have := h.lt i (List.mem_append_left _ h1); omega
    · have := (ho.lt i h1).2
      simpa [World.setCell] using this
  · exact own_same h.go (fun i hi => by
      obtain ⟨q1, q2⟩ := h.goC i hi
      rw [Below.heap_setCell _ _ _ _ (show i ≠ g from q2)]
      exact hg.block i (h.lt i (List.mem_append_left _ q1)) (fun e => (h.twC i e.symm).2.2 hi))
  · exact fun b hb => ⟨hin b (h.goC b hb).1, (h.goC b hb).2⟩
  · rw [show (t.more [x] A1 c1).ts = t.ts ++ [x] from rfl, tes_app, List.length_append]
    exact own_same ho (fun i hi => Below.heap_setCell _ _ _ _ (show i ≠ g from (hn i hi).2.1))
  · intro b hb
    rw [show (t.more [x] A1 c1).ts.length = t.ts.length + 1 by simp [Tu.more]] at hb
    exact ⟨hin3 b hb, (hn b hb).2⟩
  · intro y hy
    rcases List.mem_append.1 hy with hy | hy
    · exact (h.uo.t y hy).tr t1
    · rw [List.mem_singleton.1 hy]; exact hx.tr t1
  · show (t.ts ++ [x]).length ≤ 1000
    simp; omega
set_option maxRecDepth 100000 in
set_option maxHeartbeats 2000000 in
theorem tell_s (g : Nat) (C : List Nat) (a : Ag) (t : Tu) (x : Te) (A : Option Addr) (c : Nat) (w : World) (h : MK w C g a t) (hA : Reads w w.heap.size 13 A 1 (tes [x])) (hx : NtO w C x.nt) (hl : t.ts.length ≤ 900) :
    Calls Tryz.prog 72 #[.pointer (some ⟨g, 0, none⟩), .slice A 1 c] w fun e w' => e = .returned (.tuple #[]) ∧ ∃ C' A' c', MK w' C' g a (t.more [x] A' c') ∧ Tr C C' w w' := by
  haveI := h.bx
  haveI : Src w A 1 13 (tes [x]) := ⟨hA⟩
  have H := hide h
  have HX := hide hx
  have z := h.bx.lt
  haveI : LtN g w.heap.size := ⟨z⟩
  clear h hA hx
  go_enter Tryz.func72, Tryz.ntmps72
  go_wp2_with (at_builtin; refine wpList_append_x Tryz.okTe rfl (.tmp 9) (.tmp 10) rfl 0 (.slice t.A t.ts.length t.c) t.ts.length (tes t.ts) 1 (tes [x]) ?_ ?_ ?_ ?_ ?_ ?_ ?_ ?_; go_must ((focus (first | rfl | (simp [Act.eval, Act.put]; done))); (focus (exact H.out.tw)); (focus (refine ⟨_, _, rfl, ?_⟩; exact src)); (focus (exact tes_one _)); (focus (unfold maxLen; omega)); (focus omega); (focus (first | omega | (simp; done) | (simp; omega) | exact blw.size | exact BoxAt.lt (n := w.heap.size) inferInstance)); intro v1 w1 ho1 hg1 ha1; obtain ⟨A1, c1, rfl, _, _⟩ := own_slice ho1; obtain ⟨C', hM, hT⟩ := H.out.told HX.out ho1 hg1 ha1 hl; haveI : BoxAt w1 g (mkC a t) 92 := ⟨by rw [hg1.block g z (fun e => (H.out.twC g e.symm).2.1 rfl)]; exact H.out.bx.eq⟩; have HM := hide hM; have HT := hide hT; clear ho1 hg1 ha1 hM hT))
  go_wp2
  go_end0
  exact ⟨rfl, C', A1, c1, HM.out, HT.out⟩
end Go.Proofs.YtkglclekieckoaaGreat

namespace Go.Proofs.YtkglclekieckoaaGreat
set_option linter.unusedSimpArgs false
set_option linter.unusedVariables false
set_option linter.unusedSectionVars false
open Go.RowKit

def ltQ (x y : Pp) : Prop := cmpP x.sv y.sv < 0
instance (x y : Pp) : Decidable (ltQ x y) := by unfold ltQ; infer_instance
/-- two neighbours change places -/
def swapQ (L : List Pp) (j : Nat) : List Pp := (L.set j (L.getD (j - 1) default)).set (j - 1) (L.getD j default)
theorem swapQ_len (L : List Pp) (j : Nat) : (swapQ L j).length = L.length := by simp [swapQ]
def innerQ : Nat → List Pp → List Pp
  | 0, L => L
  | j + 1, L => if ltQ (L.getD (j + 1) default) (L.getD j default) then innerQ j (swapQ L (j + 1)) else L
theorem innerQ_len : ∀ (j : Nat) (L : List Pp), (innerQ j L).length = L.length
  | 0, _ => rfl
  | j + 1, L => by
    rw [innerQ]
    split
    · rw [innerQ_len j, swapQ_len]
    · rfl
theorem innerQ_step {k : Nat} (L : List Pp) (hk : 0 < k) : innerQ k L = if ltQ (L.getD k default) (L.getD (k - 1) default) then innerQ (k - 1) (swapQ L k) else L := by
  obtain ⟨j, rfl⟩ : ∃ j, k = j + 1 := ⟨k - 1, by omega⟩
  rfl
/-- from place i on, k more -/
def insQ : Nat → Nat → List Pp → List Pp
  | 0, _, L => L
  | k + 1, i, L => insQ k (i + 1) (innerQ i L)
/-- a row of one's own, its cells told -/
structure RowQ (W : World) (g : Nat) (cur : Array Value) (L : List Pp) : Prop where
  b : BoxAt W g cur 41
  sz : L.length * 6 ≤ cur.size
  c : ∀ (i q : Nat) (p : Pp), L[i]? = some p → q < 6 → cur[i * 6 + q]? = p.cl[q]?
theorem Gr.set12 {g : Nat} {W X : World} (h : Gr [g] W X) (i0 i1 i2 i3 i4 i5 i6 i7 i8 i9 i10 i11 : Nat) (v0 v1 v2 v3 v4 v5 v6 v7 v8 v9 v10 v11 : Value) : Gr [g] W (((((((((((((X).setCell ⟨g, i0, none⟩ v0).setCell ⟨g, i1, none⟩ v1).setCell ⟨g, i2, none⟩ v2).setCell ⟨g, i3, none⟩ v3).setCell ⟨g, i4, none⟩ v4).setCell ⟨g, i5, none⟩ v5).setCell ⟨g, i6, none⟩ v6).setCell ⟨g, i7, none⟩ v7).setCell ⟨g, i8, none⟩ v8).setCell ⟨g, i9, none⟩ v9).setCell ⟨g, i10, none⟩ v10).setCell ⟨g, i11, none⟩ v11) := ((((((((((((h.trans (Gr.set _ i0 v0 (List.mem_singleton.2 rfl))).trans (Gr.set _ i1 v1 (List.mem_singleton.2 rfl))).trans (Gr.set _ i2 v2 (List.mem_singleton.2 rfl))).trans (Gr.set _ i3 v3 (List.mem_singleton.2 rfl))).trans (Gr.set _ i4 v4 (List.mem_singleton.2 rfl))).trans (Gr.set _ i5 v5 (List.mem_singleton.2 rfl))).trans (Gr.set _ i6 v6 (List.mem_singleton.2 rfl))).trans (Gr.set _ i7 v7 (List.mem_singleton.2 rfl))).trans (Gr.set _ i8 v8 (List.mem_singleton.2 rfl))).trans (Gr.set _ i9 v9 (List.mem_singleton.2 rfl))).trans (Gr.set _ i10 v10 (List.mem_singleton.2 rfl))).trans (Gr.set _ i11 v11 (List.mem_singleton.2 rfl)))
theorem set6_get (A : Array Value) (k : Nat) (x : Pp) (hsz : k * 6 + 6 ≤ A.size) (i r : Nat) (hr : r < 6) :
    (((((((A).setIfInBounds (k * 6) (.int .i64 x.n)).setIfInBounds (k * 6 + 1) (.int .u64 x.i)).setIfInBounds (k * 6 + 2) (.int .u64 x.rd)).setIfInBounds (k * 6 + 3) (.slice x.SA x.ss.length x.sc)).setIfInBounds (k * 6 + 4) (.slice x.CA x.cs.length x.cc)).setIfInBounds (k * 6 + 5) (.slice x.UA x.us.length x.uc))[i * 6 + r]? = if i = k then x.cl[r]? else A[i * 6 + r]? := by
  by_cases e : i = k
  · subst e
    rw [if_pos rfl]
    have h6 : r = 0 ∨ r = 1 ∨ r = 2 ∨ r = 3 ∨ r = 4 ∨ r = 5 := by omega
    rcases h6 with rfl | rfl | rfl | rfl | rfl | rfl
    · rw [Array.getElem?_setIfInBounds_ne (show i * 6 + 5 ≠ i * 6 + 0 by omega), Array.getElem?_setIfInBounds_ne (show i * 6 + 4 ≠ i * 6 + 0 by omega), Array.getElem?_setIfInBounds_ne (show i * 6 + 3 ≠ i * 6 + 0 by omega), Array.getElem?_setIfInBounds_ne (show i * 6 + 2 ≠ i * 6 + 0 by omega), Array.getElem?_setIfInBounds_ne (show i * 6 + 1 ≠ i * 6 + 0 by omega)]
      exact Array.getElem?_setIfInBounds_self_of_lt (by (try simp); omega)
    · rw [Array.getElem?_setIfInBounds_ne (show i * 6 + 5 ≠ i * 6 + 1 by omega), Array.getElem?_setIfInBounds_ne (show i * 6 + 4 ≠ i * 6 + 1 by omega), Array.getElem?_setIfInBounds_ne (show i * 6 + 3 ≠ i * 6 + 1 by omega), Array.getElem?_setIfInBounds_ne (show i * 6 + 2 ≠ i * 6 + 1 by omega)]
      exact Array.getElem?_setIfInBounds_self_of_lt (by (try simp); omega)
    · rw [Array.getElem?_setIfInBounds_ne (show i * 6 + 5 ≠ i * 6 + 2 by omega), Array.getElem?_setIfInBounds_ne (show i * 6 + 4 ≠ i * 6 + 2 by omega), Array.getElem?_setIfInBounds_ne (show i * 6 + 3 ≠ i * 6 + 2 by omega)]
      exact Array.getElem?_setIfInBounds_self_of_lt (by (try simp); omega)
    · rw [Array.getElem?_setIfInBounds_ne (show i * 6 + 5 ≠ i * 6 + 3 by omega), Array.getElem?_setIfInBounds_ne (show i * 6 + 4 ≠ i * 6 + 3 by omega)]
      exact Array.getElem?_setIfInBounds_self_of_lt (by (try simp); omega)
    · rw [Array.getElem?_setIfInBounds_ne (show i * 6 + 5 ≠ i * 6 + 4 by omega)]
      exact Array.getElem?_setIfInBounds_self_of_lt (by (try simp); omega)
    · exact Array.getElem?_setIfInBounds_self_of_lt (by (try simp); omega)
  · rw [if_neg e, Array.getElem?_setIfInBounds_ne (show k * 6 + 5 ≠ i * 6 + r by omega), Array.getElem?_setIfInBounds_ne (show k * 6 + 4 ≠ i * 6 + r by omega), Array.getElem?_setIfInBounds_ne (show k * 6 + 3 ≠ i * 6 + r by omega), Array.getElem?_setIfInBounds_ne (show k * 6 + 2 ≠ i * 6 + r by omega), Array.getElem?_setIfInBounds_ne (show k * 6 + 1 ≠ i * 6 + r by omega), Array.getElem?_setIfInBounds_ne (show k * 6 ≠ i * 6 + r by omega)]
theorem RowQ.swap {W W' : World} {g k : Nat} {cur cur' : Array Value} {L : List Pp} {p q : Pp} (h : RowQ W g cur L) (hk : 0 < k) (hkl : k < L.length) (hp : L.getD k default = p) (hq : L.getD (k - 1) default = q) (hb : BoxAt W' g cur' 41)
    (hc : cur' = (((((((((((((cur).setIfInBounds (k * 6) (.int .i64 q.n)).setIfInBounds (k * 6 + 1) (.int .u64 q.i)).setIfInBounds (k * 6 + 2) (.int .u64 q.rd)).setIfInBounds (k * 6 + 3) (.slice q.SA q.ss.length q.sc)).setIfInBounds (k * 6 + 4) (.slice q.CA q.cs.length q.cc)).setIfInBounds (k * 6 + 5) (.slice q.UA q.us.length q.uc)).setIfInBounds ((k - 1) * 6) (.int .i64 p.n)).setIfInBounds ((k - 1) * 6 + 1) (.int .u64 p.i)).setIfInBounds ((k - 1) * 6 + 2) (.int .u64 p.rd)).setIfInBounds ((k - 1) * 6 + 3) (.slice p.SA p.ss.length p.sc)).setIfInBounds ((k - 1) * 6 + 4) (.slice p.CA p.cs.length p.cc)).setIfInBounds ((k - 1) * 6 + 5) (.slice p.UA p.us.length p.uc))) : RowQ W' g cur' (swapQ L k) := by
  have hsz := h.sz
  refine ⟨hb, by rw [swapQ_len, hc]; simpa using hsz, fun i r x hx hr => ?_⟩
  rw [hc, set6_get _ (k - 1) p (by simp; omega) i r hr, set6_get _ k q (by omega) i r hr]
  unfold swapQ at hx
  rw [hp, hq] at hx
  by_cases e1 : i = k - 1
  · rw [if_pos e1]
    subst e1
    rw [List.getElem?_set_self (by simp; omega)] at hx
    injection hx with hx
    rw [hx]
  · rw [if_neg e1]
    rw [List.getElem?_set_ne (by omega)] at hx
    by_cases e2 : i = k
    · rw [if_pos e2]
      subst e2
      rw [List.getElem?_set_self (by omega)] at hx
      injection hx with hx
      rw [hx]
    · rw [if_neg e2]
      rw [List.getElem?_set_ne (by omega)] at hx
      exact h.c i r x hx hr
theorem gotCmp_s (x y : Pp) (w : World) : Calls Tryz.prog 90 #[x.ag, y.ag] w fun e w' => e = .returned (.int .i64 (cmpP x.sv y.sv)) ∧ Below w.heap.size w w' := by
  have T := hide (fun W => compare_any x.n x.i y.n y.i W)
  unfold Pp.sv
  go_enter Tryz.func90, Tryz.ntmps90
  go_wp2_with fail
  (with_reducible refine (T.out _).mono ?_)
  rintro e w1 ⟨rfl, rfl⟩
  go_wp2
  go_ret
  exact ⟨rfl, blw⟩
set_option maxRecDepth 100000 in
set_option maxHeartbeats 8000000 in
theorem insertQ_s (g c b : Nat) (cur : Array Value) (L : List Pp) (w : World) (h : RowQ w g cur L) (hb : b ≤ L.length) (hl : L.length ≤ 1000000) :
    Calls Tryz.prog 137 #[.slice (some ⟨g, 0, none⟩) L.length c, .int .i64 0, .int .i64 b, .func (.func 90) #[] #[]] w fun e w' => e = .returned (.tuple #[]) ∧ (∃ cur', cur'.size = cur.size ∧ RowQ w' g cur' (insQ (b - 1) 1 L)) ∧ Gr [g] w w' := by
  have TC := hide (fun x y W => gotCmp_s x y W)
  have HR := hide h
  clear h
  go_enter Tryz.func137, Tryz.ntmps137
  go_wp2_with fail
  go_loopw [8] (fun i wr => ∃ (m : Nat) (cur2 : Array Value) (M : List Pp), 1 ≤ m ∧ i = .int .i64 m ∧ m ≤ max b 1 ∧ cur2.size = cur.size ∧ RowQ wr g cur2 M ∧ M.length = L.length ∧ insQ (b - m) m M = insQ (b - 1) 1 L ∧ Gr [g] w wr) (fun i _ => b - (intOf i).toNat)
  case atStart => exact ⟨1, cur, L, Nat.le_refl _, by go_num, by omega, rfl, HR.out, rfl, rfl, Gr.refl _ _⟩
  case round =>
    obtain ⟨m, cur2, M, hm1, rfl, hm2, hsz2, hR, hML, hrun, hG⟩ := hrel
    have HSZ2 := hide hsz2
    clear hsz2
    have HR2 := hide hR
    have HRUN := hide hrun
    have HG := hide hG
    clear hR hrun hG
    by_cases hlt : m < b
    · have i1 : (m : Int) < (b : Int) := by omega
      go_wp2_with fail
      go_loopw [9] (fun j wr => ∃ (k : Nat) (cur3 : Array Value) (K : List Pp), k ≤ m ∧ j = .int .i64 k ∧ cur3.size = cur.size ∧ RowQ wr g cur3 K ∧ K.length = L.length ∧ innerQ k K = innerQ m M ∧ Gr [g] w wr) (fun j _ => (intOf j).toNat)
      case atStart => exact ⟨m, cur2, M, Nat.le_refl _, rfl, HSZ2.out, HR2.out, hML, rfl, HG.out⟩
      case round =>
        obtain ⟨k, cur3, K, hk2, rfl, hsz3, hR3, hKL, hrun3, hG3⟩ := hrel
        have HSZ3 := hide hsz3
        clear hsz3
        haveI := hR3.b
        have HR3 := hide hR3
        have HRUN3 := hide hrun3
        have HG3 := hide hG3
        clear hR3 hrun3 hG3
        by_cases hka : 0 < k
        · have hp : K[k]? = some (K.getD k default) := by rw [List.getElem?_eq_getElem (by omega)]; simp [List.getD, List.getElem?_eq_getElem (show k < K.length by omega)]
          have hq : K[k - 1]? = some (K.getD (k - 1) default) := by rw [List.getElem?_eq_getElem (by omega)]; simp [List.getD, List.getElem?_eq_getElem (show k - 1 < K.length by omega)]
          have HST := hide (innerQ_step K (show 0 < k by omega))
          generalize hP : K.getD k default = p at hp HST
          generalize hQ : K.getD (k - 1) default = q at hq HST
          have p0 : cur3[k * 6]? = some (.int .i64 p.n) := HR3.out.c k 0 p hp (by omega)
          have p1 : cur3[k * 6 + 1]? = some (.int .u64 p.i) := HR3.out.c k 1 p hp (by omega)
          have p2 : cur3[k * 6 + 2]? = some (.int .u64 p.rd) := HR3.out.c k 2 p hp (by omega)
          have p3 : cur3[k * 6 + 3]? = some (.slice p.SA p.ss.length p.sc) := HR3.out.c k 3 p hp (by omega)
          have p4 : cur3[k * 6 + 4]? = some (.slice p.CA p.cs.length p.cc) := HR3.out.c k 4 p hp (by omega)
          have p5 : cur3[k * 6 + 5]? = some (.slice p.UA p.us.length p.uc) := HR3.out.c k 5 p hp (by omega)
          have q0 : cur3[(k - 1) * 6]? = some (.int .i64 q.n) := HR3.out.c (k - 1) 0 q hq (by omega)
          have q1 : cur3[(k - 1) * 6 + 1]? = some (.int .u64 q.i) := HR3.out.c (k - 1) 1 q hq (by omega)
          have q2 : cur3[(k - 1) * 6 + 2]? = some (.int .u64 q.rd) := HR3.out.c (k - 1) 2 q hq (by omega)
          have q3 : cur3[(k - 1) * 6 + 3]? = some (.slice q.SA q.ss.length q.sc) := HR3.out.c (k - 1) 3 q hq (by omega)
          have q4 : cur3[(k - 1) * 6 + 4]? = some (.slice q.CA q.cs.length q.cc) := HR3.out.c (k - 1) 4 q hq (by omega)
          have q5 : cur3[(k - 1) * 6 + 5]? = some (.slice q.UA q.us.length q.uc) := HR3.out.c (k - 1) 5 q hq (by omega)
          have HPP := hide hP
          have HQQ := hide hQ
          have T := hide (fun W => TC.out p q W)
          have hgt : decide ((0 : Int) < (k : Int)) = true := decide_eq_true (by omega)
          have hgt' : decide (0 < k) = true := decide_eq_true hka
          have j0 : (0 : Int) < (k : Int) := by omega
          have j1 : (0 : Int) ≤ (k : Int) - 1 := by omega
          have j2 : (k : Int) - 1 < (L.length : Int) := by omega
          have j4 : (k : Int) < (L.length : Int) := by omega
          have j5 : (0 : Int) ≤ (k : Int) := by omega
          have j3 : ((k : Int) - 1).toNat = k - 1 := by omega
          have n1 : k - 1 < L.length := by omega
          have n2 : k < L.length := by omega
          have n3 : ¬ (k : Int) - 1 < 0 := by omega
          have n4 : (1 : Int) ≤ (k : Int) := by omega
          have n5 : 1 ≤ k := by omega
          haveI : InW g wr := ⟨BoxAt.lt HR3.out.b⟩
          have e00 : ∀ (A : Array Value) (v : Value), (A.setIfInBounds (k * 6) v)[(k - 1) * 6]? = A[(k - 1) * 6]? := fun A v => Array.getElem?_setIfInBounds_ne (by omega)
          have e01 : ∀ (A : Array Value) (v : Value), (A.setIfInBounds (k * 6) v)[(k - 1) * 6 + 1]? = A[(k - 1) * 6 + 1]? := fun A v => Array.getElem?_setIfInBounds_ne (by omega)
          have e02 : ∀ (A : Array Value) (v : Value), (A.setIfInBounds (k * 6) v)[(k - 1) * 6 + 2]? = A[(k - 1) * 6 + 2]? := fun A v => Array.getElem?_setIfInBounds_ne (by omega)
          have e03 : ∀ (A : Array Value) (v : Value), (A.setIfInBounds (k * 6) v)[(k - 1) * 6 + 3]? = A[(k - 1) * 6 + 3]? := fun A v => Array.getElem?_setIfInBounds_ne (by omega)
          have e04 : ∀ (A : Array Value) (v : Value), (A.setIfInBounds (k * 6) v)[(k - 1) * 6 + 4]? = A[(k - 1) * 6 + 4]? := fun A v => Array.getElem?_setIfInBounds_ne (by omega)
          have e05 : ∀ (A : Array Value) (v : Value), (A.setIfInBounds (k * 6) v)[(k - 1) * 6 + 5]? = A[(k - 1) * 6 + 5]? := fun A v => Array.getElem?_setIfInBounds_ne (by omega)
          have e10 : ∀ (A : Array Value) (v : Value), (A.setIfInBounds (k * 6 + 1) v)[(k - 1) * 6]? = A[(k - 1) * 6]? := fun A v => Array.getElem?_setIfInBounds_ne (by omega)
          have e11 : ∀ (A : Array Value) (v : Value), (A.setIfInBounds (k * 6 + 1) v)[(k - 1) * 6 + 1]? = A[(k - 1) * 6 + 1]? := fun A v => Array.getElem?_setIfInBounds_ne (by omega)
          have e12 : ∀ (A : Array Value) (v : Value), (A.setIfInBounds (k * 6 + 1) v)[(k - 1) * 6 + 2]? = A[(k - 1) * 6 + 2]? := fun A v => Array.getElem?_setIfInBounds_ne (by omega)
          have e13 : ∀ (A : Array Value) (v : Value), (A.setIfInBounds (k * 6 + 1) v)[(k - 1) * 6 + 3]? = A[(k - 1) * 6 + 3]? := fun A v => Array.getElem?_setIfInBounds_ne (by omega)
          have e14 : ∀ (A : Array Value) (v : Value), (A.setIfInBounds (k * 6 + 1) v)[(k - 1) * 6 + 4]? = A[(k - 1) * 6 + 4]? := fun A v => Array.getElem?_setIfInBounds_ne (by omega)
          have e15 : ∀ (A : Array Value) (v : Value), (A.setIfInBounds (k * 6 + 1) v)[(k - 1) * 6 + 5]? = A[(k - 1) * 6 + 5]? := fun A v => Array.getElem?_setIfInBounds_ne (by omega)
          have e20 : ∀ (A : Array Value) (v : Value), (A.setIfInBounds (k * 6 + 2) v)[(k - 1) * 6]? = A[(k - 1) * 6]? := fun A v => Array.getElem?_setIfInBounds_ne (by omega)
          have e21 : ∀ (A : Array Value) (v : Value), (A.setIfInBounds (k * 6 + 2) v)[(k - 1) * 6 + 1]? = A[(k - 1) * 6 + 1]? := fun A v => Array.getElem?_setIfInBounds_ne (by omega)
          have e22 : ∀ (A : Array Value) (v : Value), (A.setIfInBounds (k * 6 + 2) v)[(k - 1) * 6 + 2]? = A[(k - 1) * 6 + 2]? := fun A v => Array.getElem?_setIfInBounds_ne (by omega)
          have e23 : ∀ (A : Array Value) (v : Value), (A.setIfInBounds (k * 6 + 2) v)[(k - 1) * 6 + 3]? = A[(k - 1) * 6 + 3]? := fun A v => Array.getElem?_setIfInBounds_ne (by omega)
          have e24 : ∀ (A : Array Value) (v : Value), (A.setIfInBounds (k * 6 + 2) v)[(k - 1) * 6 + 4]? = A[(k - 1) * 6 + 4]? := fun A v => Array.getElem?_setIfInBounds_ne (by omega)
          have e25 : ∀ (A : Array Value) (v : Value), (A.setIfInBounds (k * 6 + 2) v)[(k - 1) * 6 + 5]? = A[(k - 1) * 6 + 5]? := fun A v => Array.getElem?_setIfInBounds_ne (by omega)
          have e30 : ∀ (A : Array Value) (v : Value), (A.setIfInBounds (k * 6 + 3) v)[(k - 1) * 6]? = A[(k - 1) * 6]? := fun A v => Array.getElem?_setIfInBounds_ne (by omega)
          have e31 : ∀ (A : Array Value) (v : Value), (A.setIfInBounds (k * 6 + 3) v)[(k - 1) * 6 + 1]? = A[(k - 1) * 6 + 1]? := fun A v => Array.getElem?_setIfInBounds_ne (by omega)
          have e32 : ∀ (A : Array Value) (v : Value), (A.setIfInBounds (k * 6 + 3) v)[(k - 1) * 6 + 2]? = A[(k - 1) * 6 + 2]? := fun A v => Array.getElem?_setIfInBounds_ne (by omega)
          have e33 : ∀ (A : Array Value) (v : Value), (A.setIfInBounds (k * 6 + 3) v)[(k - 1) * 6 + 3]? = A[(k - 1) * 6 + 3]? := fun A v => Array.getElem?_setIfInBounds_ne (by omega)
          have e34 : ∀ (A : Array Value) (v : Value), (A.setIfInBounds (k * 6 + 3) v)[(k - 1) * 6 + 4]? = A[(k - 1) * 6 + 4]? := fun A v => Array.getElem?_setIfInBounds_ne (by omega)
          have e35 : ∀ (A : Array Value) (v : Value), (A.setIfInBounds (k * 6 + 3) v)[(k - 1) * 6 + 5]? = A[(k - 1) * 6 + 5]? := fun A v => Array.getElem?_setIfInBounds_ne (by omega)
          have e40 : ∀ (A : Array Value) (v : Value), (A.setIfInBounds (k * 6 + 4) v)[(k - 1) * 6]? = A[(k - 1) * 6]? := fun A v => Array.getElem?_setIfInBounds_ne (by omega)
          have e41 : ∀ (A : Array Value) (v : Value), (A.setIfInBounds (k * 6 + 4) v)[(k - 1) * 6 + 1]? = A[(k - 1) * 6 + 1]? := fun A v => Array.getElem?_setIfInBounds_ne (by omega)
          have e42 : ∀ (A : Array Value) (v : Value), (A.setIfInBounds (k * 6 + 4) v)[(k - 1) * 6 + 2]? = A[(k - 1) * 6 + 2]? := fun A v => Array.getElem?_setIfInBounds_ne (by omega)
          have e43 : ∀ (A : Array Value) (v : Value), (A.setIfInBounds (k * 6 + 4) v)[(k - 1) * 6 + 3]? = A[(k - 1) * 6 + 3]? := fun A v => Array.getElem?_setIfInBounds_ne (by omega)
          have e44 : ∀ (A : Array Value) (v : Value), (A.setIfInBounds (k * 6 + 4) v)[(k - 1) * 6 + 4]? = A[(k - 1) * 6 + 4]? := fun A v => Array.getElem?_setIfInBounds_ne (by omega)
          have e45 : ∀ (A : Array Value) (v : Value), (A.setIfInBounds (k * 6 + 4) v)[(k - 1) * 6 + 5]? = A[(k - 1) * 6 + 5]? := fun A v => Array.getElem?_setIfInBounds_ne (by omega)
          have e50 : ∀ (A : Array Value) (v : Value), (A.setIfInBounds (k * 6 + 5) v)[(k - 1) * 6]? = A[(k - 1) * 6]? := fun A v => Array.getElem?_setIfInBounds_ne (by omega)
          have e51 : ∀ (A : Array Value) (v : Value), (A.setIfInBounds (k * 6 + 5) v)[(k - 1) * 6 + 1]? = A[(k - 1) * 6 + 1]? := fun A v => Array.getElem?_setIfInBounds_ne (by omega)
          have e52 : ∀ (A : Array Value) (v : Value), (A.setIfInBounds (k * 6 + 5) v)[(k - 1) * 6 + 2]? = A[(k - 1) * 6 + 2]? := fun A v => Array.getElem?_setIfInBounds_ne (by omega)
          have e53 : ∀ (A : Array Value) (v : Value), (A.setIfInBounds (k * 6 + 5) v)[(k - 1) * 6 + 3]? = A[(k - 1) * 6 + 3]? := fun A v => Array.getElem?_setIfInBounds_ne (by omega)
          have e54 : ∀ (A : Array Value) (v : Value), (A.setIfInBounds (k * 6 + 5) v)[(k - 1) * 6 + 4]? = A[(k - 1) * 6 + 4]? := fun A v => Array.getElem?_setIfInBounds_ne (by omega)
          have e55 : ∀ (A : Array Value) (v : Value), (A.setIfInBounds (k * 6 + 5) v)[(k - 1) * 6 + 5]? = A[(k - 1) * 6 + 5]? := fun A v => Array.getElem?_setIfInBounds_ne (by omega)
          clear hp hq hP hQ
          by_cases hlt3 : ltQ p q
          · have HI := hide (HRUN3.out.symm.trans (HST.out.trans (if_pos hlt3)))
            have hv : decide (cmpP p.sv q.sv < 0) = true := decide_eq_true hlt3
            generalize cmpP p.sv q.sv = v at T hv
            clear hlt3
            go_wp2_with fail
            (refine wp_region_gw (by kernel_rfl) (by kernel_rfl) ?_; (repeat (go_big_quiet_step ((first | (go_at_call 90; with_reducible exact calls_gw (T.out _)) | fail)))); refine wpQuiet_nil ?_; intro _ hw'; obtain ⟨⟨dq, osq⟩, hw''⟩ := hw'; subst hw'')
            go_wp2_with fail
            go_region
            go_wp2
            go_roundw
            case rel => exact ⟨k - 1, _, swapQ K k, by omega, by go_num, by simpa using HSZ3.out, HR3.out.swap (by omega) (by omega) HPP.out HQQ.out inferInstance rfl, by rw [swapQ_len, hKL], HI.out.symm, (Gr.set12 HG3.out _ _ _ _ _ _ _ _ _ _ _ _ _ _ _ _ _ _ _ _ _ _ _ _).trans (Gr.of (below_gw _ _ _))⟩
            case measure => simp [intOf]; omega
          · have HI := hide (HRUN3.out.symm.trans (HST.out.trans (if_neg hlt3)))
            have HINS : Hid (insQ (b - (m + 1)) (m + 1) K = insQ (b - 1) 1 L) := hide (by
              rw [← HRUN.out, show b - m = (b - (m + 1)) + 1 by omega, insQ, HI.out])
            have hv : decide (cmpP p.sv q.sv < 0) = false := decide_eq_false hlt3
            generalize cmpP p.sv q.sv = v at T hv
            clear hlt3
            go_wp2_with fail
            (refine wp_region_gw (by kernel_rfl) (by kernel_rfl) ?_; (repeat (go_big_quiet_step ((first | (go_at_call 90; with_reducible exact calls_gw (T.out _)) | fail)))); refine wpQuiet_nil ?_; intro _ hw'; obtain ⟨⟨dq, osq⟩, hw''⟩ := hw'; subst hw'')
            go_wp2
            go_roundw
            case rel => exact ⟨m + 1, cur3, K, by omega, by go_num, by omega, HSZ3.out, ⟨inferInstance, HR3.out.sz, HR3.out.c⟩, hKL, HINS.out, HG3.out.trans (Gr.of blw)⟩
            case measure => simp [intOf]; omega
        · have hgt : decide ((0 : Int) < (k : Int)) = false := decide_eq_false (by omega)
          have hgt' : decide (0 < k) = false := decide_eq_false hka
          have HI := hide (show innerQ m M = K by
            rw [← HRUN3.out, show k = 0 by omega]; rfl)
          have HINS : Hid (insQ (b - (m + 1)) (m + 1) K = insQ (b - 1) 1 L) := hide (by
            rw [← HRUN.out, show b - m = (b - (m + 1)) + 1 by omega, insQ, HI.out])
          go_wp2_with fail
          (refine wp_region_gw (by kernel_rfl) (by kernel_rfl) ?_; (repeat (go_big_quiet_step ((fail)))); refine wpQuiet_nil ?_; intro _ hw'; obtain ⟨⟨dq, osq⟩, hw''⟩ := hw'; subst hw'')
          go_wp2
          go_roundw
          case rel => exact ⟨m + 1, cur3, K, by omega, by go_num, by omega, HSZ3.out, ⟨inferInstance, HR3.out.sz, HR3.out.c⟩, hKL, HINS.out, HG3.out.trans (Gr.of blw)⟩
          case measure => simp [intOf]; omega
    · have HE := hide (show M = insQ (b - 1) 1 L by
        rw [← HRUN.out, show b - m = 0 by omega, insQ])
      go_wp2
      go_end0
      exact ⟨rfl, ⟨cur2, HSZ2.out, by rw [← HE.out]; exact HR2.out⟩, HG.out⟩
theorem RowQ.of {W : World} {B c : Nat} {A : Option Addr} {L : List Pp} (h : W.ownsRow B 41 6 (.slice A L.length c) L.length (pps L)) (hn : 0 < L.length) : ∃ g cur, A = some ⟨g, 0, none⟩ ∧ L.length ≤ c ∧ c ≤ maxLen ∧ cur.size = c * 6 ∧ RowQ W g cur L := by
  rcases h.2 with ⟨_, h0⟩ | ⟨g, cap, cur, e, hB, hg, h1, h2, h3, h4⟩
  · omega
  · injection e with e1 e2 e3
    subst e3
    refine ⟨g, cur, e1, h1, h2, h3, ⟨hg⟩, by rw [h3]; exact Nat.mul_le_mul_right 6 h1, fun i q p hp hq => ?_⟩
    have hi := (List.getElem?_eq_some_iff.1 hp).1
    have e5 : (cur.toList.take (L.length * 6))[i * 6 + q]? = (pps L)[i * 6 + q]? := by rw [h4]
    rw [List.getElem?_take_of_lt (by omega), pps, flat_get Pp.cl_len L i q p hp hq] at e5
    simpa using e5
theorem RowQ.own {W : World} {g c : Nat} {cur : Array Value} {L : List Pp} (h : RowQ W g cur L) (h1 : L.length ≤ c) (h2 : c ≤ maxLen) (h3 : cur.size = c * 6) : W.ownsRow 0 41 6 (.slice (some ⟨g, 0, none⟩) L.length c) L.length (pps L) := by
  refine ⟨pps_len L, .inr ⟨g, c, cur, rfl, Nat.zero_le _, h.b.eq, h1, h2, h3, ?_⟩⟩
  apply List.ext_getElem?
  intro j
  by_cases hj : j < L.length * 6
  · have hp : L[j / 6]? = some L[j / 6] := List.getElem?_eq_getElem (by omega)
    have e : j = j / 6 * 6 + j % 6 := by omega
    rw [List.getElem?_take_of_lt hj]
    have := h.c (j / 6) (j % 6) _ hp (by omega)
    rw [← e] at this
    have h5 := flat_get Pp.cl_len L (j / 6) (j % 6) _ hp (by omega)
    rw [← e] at h5
    rw [Array.getElem?_toList, this, pps, h5]
  · rw [List.getElem?_eq_none (by rw [List.length_take]; omega), List.getElem?_eq_none (by rw [pps_len]; omega)]
set_option maxRecDepth 100000 in
set_option maxHeartbeats 2000000 in
theorem stableQ_s (g c : Nat) (cur : Array Value) (L : List Pp) (w : World) (h : RowQ w g cur L) (hl : L.length < 20) :
    Calls Tryz.prog 113 #[.slice (some ⟨g, 0, none⟩) L.length c, .int .i64 L.length, .func (.func 90) #[] #[]] w fun e w' => e = .returned (.tuple #[]) ∧ (∃ cur', cur'.size = cur.size ∧ RowQ w' g cur' (insQ (L.length - 1) 1 L)) ∧ Gr [g] w w' := by
  have T : Hid (∀ W, RowQ W g cur L → Calls Tryz.prog 137 #[.slice (some ⟨g, 0, none⟩) L.length c, .int .i64 0, .int .i64 L.length, .func (.func 90) #[] #[]] W fun e w' => e = .returned (.tuple #[]) ∧ (∃ cur', cur'.size = cur.size ∧ RowQ w' g cur' (insQ (L.length - 1) 1 L)) ∧ Gr [g] W w') := hide (fun W h => insertQ_s g c L.length cur L W h (Nat.le_refl _) (by omega))
  have HR := hide h
  have l1 : decide ((20 : Int) ≤ (L.length : Int)) = false := decide_eq_false (by omega)
  have l2 : decide ((20 : Int) < (L.length : Int)) = false := decide_eq_false (by omega)
  have l3 : decide (20 ≤ L.length) = false := decide_eq_false (by omega)
  have l4 : decide (20 < L.length) = false := decide_eq_false (by omega)
  clear h
  go_enter Tryz.func113, Tryz.ntmps113
  go_wp2_with fail
  refine wp_loop_rounds 1 ?_
  rw [rounds_succ]
  go_wp2_with fail
  (with_reducible refine (T.out _ HR.out).mono ?_)
  rintro e w1 ⟨rfl, hr, hg⟩
  go_wp2_with fail
  refine wp_loop_rounds 1 ?_
  rw [rounds_succ]
  go_wp2
  go_end0
  exact ⟨rfl, hr, hg⟩
theorem sortStableQ_s (g c : Nat) (cur : Array Value) (L : List Pp) (w : World) (h : RowQ w g cur L) (hl : L.length < 20) :
    Calls Tryz.prog 89 #[.slice (some ⟨g, 0, none⟩) L.length c, .func (.func 90) #[] #[]] w fun e w' => e = .returned (.tuple #[]) ∧ (∃ cur', cur'.size = cur.size ∧ RowQ w' g cur' (insQ (L.length - 1) 1 L)) ∧ Gr [g] w w' := by
  have T := hide (stableQ_s g c cur L w h hl)
  go_enter Tryz.func89, Tryz.ntmps89
  go_wp2_with fail
  (with_reducible refine T.out.mono ?_)
  rintro e w1 ⟨rfl, hr, hg⟩
  go_wp2
  go_end0
  exact ⟨rfl, hr, hg⟩
end Go.Proofs.YtkglclekieckoaaGreat

namespace Go.Proofs.YtkglclekieckoaaGreat
set_option linter.unusedSimpArgs false
set_option linter.unusedVariables false
set_option linter.unusedSectionVars false
open Go.RowKit

/-! ### plain: one more is sorted in -/
theorem ltQ_iff {x y : Pp} (h : x.n ≠ y.n) : ltQ x y ↔ x.n < y.n := by
  unfold ltQ
  rw [← ltP_cmp]
  unfold ltP Pp.sv
  simp only
  omega
def riseP (L : List Pp) : Prop := L.Pairwise fun x y => x.n < y.n
theorem getD_mid (F : List Pp) (y : Pp) (R : List Pp) : (F ++ y :: R).getD F.length default = y := by simp [List.getD]
theorem snoc_ind {α : Type} {P : List α → Prop} (h0 : P []) (hs : ∀ F q, P F → P (F ++ [q])) : ∀ F, P F := fun F => by
  rw [← List.reverse_reverse F]
  induction F.reverse with
  | nil => exact h0
  | cons x l ih => rw [List.reverse_cons]; exact hs _ _ ih
theorem innerQ_at (y : Pp) : ∀ (F : List Pp), riseP F → (∀ x ∈ F, x.n ≠ y.n) → ∀ R : List Pp, innerQ F.length (F ++ y :: R) = F.filter (fun x => decide (x.n < y.n)) ++ y :: (F.filter (fun x => decide (y.n < x.n)) ++ R) := by
  intro F
  induction F using snoc_ind with
  | h0 => intro _ _ R; simp [innerQ]
  | hs F q ih =>
    intro hr hn R
    have hr' := List.pairwise_append.1 hr
    have hq : q.n ≠ y.n := hn q (by simp)
    have g1 : (F ++ [q] ++ y :: R).getD (F ++ [q]).length default = y := getD_mid (F ++ [q]) y R
    have g2 : (F ++ [q] ++ y :: R).getD ((F ++ [q]).length - 1) default = q := by
      simp
    rw [innerQ_step _ (by simp), g1, g2]
    by_cases h : y.n < q.n
    · rw [if_pos ((ltQ_iff (fun e => hq e.symm)).2 h)]
      have e : swapQ (F ++ [q] ++ y :: R) (F ++ [q]).length = F ++ y :: (q :: R) := by
        unfold swapQ
        rw [g1, g2]
        simp
      rw [e, show (F ++ [q]).length - 1 = F.length by simp, ih hr'.1 (fun x hx => hn x (by simp [hx])) (q :: R)]
      simp [List.filter_append, h, show ¬ q.n < y.n by omega]
    · have hlt : q.n < y.n := by omega
      rw [if_neg (fun h' => h ((ltQ_iff (fun e => hq e.symm)).1 h'))]
      have f1 : (F ++ [q]).filter (fun x => decide (x.n < y.n)) = F ++ [q] := List.filter_eq_self.2 (fun x hx => by
        rcases List.mem_append.1 hx with hx | hx
        · have := hr'.2.2 x hx q (by simp)
          simpa using (show x.n < y.n by omega)
        · rw [List.mem_singleton.1 hx]; simpa using hlt)
      have f2 : (F ++ [q]).filter (fun x => decide (y.n < x.n)) = [] := List.filter_eq_nil_iff.2 (fun x hx => by
        rcases List.mem_append.1 hx with hx | hx
        · have := hr'.2.2 x hx q (by simp)
          simp; omega
        · rw [List.mem_singleton.1 hx]; simp; omega)
      rw [f1, f2, List.nil_append]
theorem insQ_run {F : List Pp} {y : Pp} (hr : riseP F) : ∀ (k i : Nat), 1 ≤ i → i ≤ F.length → i + k = F.length + 1 → insQ k i (F ++ [y]) = innerQ F.length (F ++ [y]) := by
  intro k
  induction k with
  | zero => intro i h1 h2 h3; omega
  | succ k ih =>
    intro i h1 h2 h3
    rw [insQ]
    by_cases e : i = F.length
    · have : k = 0 := by omega
      subst this e
      rfl
    · have hst : innerQ i (F ++ [y]) = F ++ [y] := by
        rw [innerQ_step _ (by omega), if_neg]
        have a1 : (F ++ [y]).getD i default = F[i]'(by omega) := by simp [List.getD, List.getElem?_append_left (show i < F.length by omega), List.getElem?_eq_getElem (show i < F.length by omega)]
        have a2 : (F ++ [y]).getD (i - 1) default = F[i - 1]'(by omega) := by simp [List.getD, List.getElem?_append_left (show i - 1 < F.length by omega), List.getElem?_eq_getElem (show i - 1 < F.length by omega)]
        rw [a1, a2]
        have := List.pairwise_iff_getElem.1 hr (i - 1) i (by omega) (by omega) (by omega)
        rw [ltQ_iff (by omega)]
        omega
      rw [hst]
      exact ih (i + 1) (by omega) (by omega) (by omega)
theorem insQ_len : ∀ (k i : Nat) (L : List Pp), (insQ k i L).length = L.length
  | 0, _, _ => rfl
  | k + 1, i, L => by rw [insQ, insQ_len k, innerQ_len]
theorem insQ_last {F : List Pp} {y : Pp} (hr : riseP F) (hn : ∀ x ∈ F, x.n ≠ y.n) : insQ ((F ++ [y]).length - 1) 1 (F ++ [y]) = F.filter (fun x => decide (x.n < y.n)) ++ y :: F.filter (fun x => decide (y.n < x.n)) := by
  have h := innerQ_at y F hr hn []
  rw [List.append_nil] at h
  cases F with
  | nil => rfl
  | cons x F =>
    rw [show ((x :: F) ++ [y]).length - 1 = (x :: F).length by simp, insQ_run hr _ 1 (Nat.le_refl _) (by simp) (by omega), h]
/-! ### closures -/
theorem got1_s (x p : Pp) (m : Nat) (w : World) (h : BoxAt w m #[.int .i64 p.n, .int .u64 p.i, .int .u64 p.rd, .slice p.SA p.ss.length p.sc, .slice p.CA p.cs.length p.cc, .slice p.UA p.us.length p.uc] 41) : Calls Tryz.prog 88 #[x.ag, .pointer (some ⟨m, 0, none⟩)] w fun e w' => e = .returned (.bool (x.n == p.n)) ∧ Below w.heap.size w w' := by
  haveI := h
  clear h
  go_enter Tryz.func88, Tryz.ntmps88
  go_wp2
  go_ret
  exact ⟨rfl, blw⟩
theorem props1_s (x : Pp) (s : Pr) (m : Nat) (w : World) (h : BoxAt w m #[.int .i64 s.1, .int .u64 s.2] 25) : Calls Tryz.prog 102 #[x.ag, .pointer (some ⟨m, 0, none⟩)] w fun e w' => e = .returned (.bool (eqP x.n x.i s.1 s.2)) ∧ Below w.heap.size w w' := by
  haveI := h
  clear h
  go_enter Tryz.func102, Tryz.ntmps102
  go_wp2
  go_ret
  exact ⟨rfl, blw⟩
/-! ### the library's search and deletion -/
def idxF (t : Pp → Bool) (L : List Pp) : Int := match L.findIdx? t with | some k => k | none => -1
theorem idxF_at {t : Pp → Bool} {L : List Pp} {k : Nat} {p : Pp} (hp : L[k]? = some p) (ht : t p = true) (hf : ∀ q ∈ L.take k, t q = false) : idxF t L = k := by
  have hk := (List.getElem?_eq_some_iff.1 hp).1
  have : L.findIdx? t = some k := by
    rw [List.findIdx?_eq_some_iff_getElem]
    refine ⟨hk, ?_, fun j hj => ?_⟩
    · have e := (List.getElem?_eq_some_iff.1 hp).2
      rw [e]; exact ht
    · have := hf (L[j]'(by omega)) (List.mem_take_iff_getElem.2 ⟨j, by omega, rfl⟩)
      simp [this]
  unfold idxF
  rw [this]
theorem idxF_no {t : Pp → Bool} {L : List Pp} (hf : ∀ q ∈ L, t q = false) : idxF t L = -1 := by
  have : L.findIdx? t = none := List.findIdx?_eq_none_iff.2 hf
  unfold idxF
  rw [this]
section
variable (fn : Nat) (caps : Array Value) (t : Pp → Bool) (I : World → Prop)
set_option maxRecDepth 100000 in
set_option maxHeartbeats 2000000 in
theorem indexF_s (A : Option Addr) (c : Nat) (L : List Pp) (w : World) (h : Reads w w.heap.size 6 A L.length (pps L)) (hl : L.length ≤ 1000) (h0 : I w) (hI : ∀ X W, I X → Below X.heap.size X W → I W)
    (hcall : ∀ x W, I W → Calls Tryz.prog fn (#[x.ag] ++ caps) W fun e W' => e = .returned (.bool (t x)) ∧ Below W.heap.size W W') (hent : ∀ args W, (callFunc fn args).run Tryz.prog W = .ok (.enter fn args) W) :
    Calls Tryz.prog 101 #[.slice A L.length c, .func (.func fn) #[] caps] w fun e w' => e = .returned (.int .i64 (idxF t L)) ∧ Below w.heap.size w w' := by
  have HI := hide hI
  have H0 := hide h0
  have HC := hide hcall
  haveI : Src w A L.length 6 (pps L) := ⟨h⟩
  clear h hI h0 hcall
  go_enter Tryz.func101, Tryz.ntmps101
  go_wp2_with fail
  go_loopw [8] (fun j wr => ∃ m : Nat, j = .int .i64 m ∧ m ≤ L.length ∧ (∀ q ∈ L.take m, t q = false) ∧ Below w.heap.size w wr) (fun j _ => L.length - (intOf j).toNat)
  case atStart => exact ⟨0, rfl, Nat.zero_le _, (fun q hq => by simp at hq), blw⟩
  case round =>
    obtain ⟨m, rfl, hm, hf, hB⟩ := hrel
    haveI : Stp w wr := ⟨hB⟩
    have HF := hide hf
    clear hf hB
    by_cases hlt : m < L.length
    · obtain ⟨b, off, x, rfl, hb, hx, g0, g1, g2, g3, g4, g5⟩ := (src (w := w) (W := wr) (A := A) (n := L.length) (k := 6) (xs := pps L)).at6 hlt
      haveI : InW b wr := ⟨hb⟩
      have HX := hide hx
      have i0 : (0 : Int) ≤ (m : Int) := by omega
      have i1 : (m : Int) < (L.length : Int) := by omega
      clear hx
      go_wp2_with fail
      refine (HC.out x _ (HI.out _ _ H0.out blw)).mono ?_
      rintro e w2 ⟨rfl, hb2⟩
      haveI : Stp _ w2 := ⟨hb2⟩
      clear hb2
      cases ht : t x
      · have HT := hide ht
        clear ht
        go_wp2
        go_roundw
        case rel => exact ⟨m + 1, by go_num, by omega, (fun q hq => by
          rw [take_succ_of HX.out] at hq
          rcases List.mem_append.1 hq with hq | hq
          · exact HF.out q hq
          · rw [List.mem_singleton.1 hq]; exact HT.out), blw⟩
        case measure => simp [intOf]; omega
      · have HE := hide (idxF_at HX.out ht HF.out)
        clear ht
        go_wp2
        go_ret
        exact ⟨by rw [HE.out]; rfl, blw⟩
    · obtain rfl : m = L.length := by omega
      have HE := hide (idxF_no (t := t) (L := L) (fun q hq => HF.out q (by rw [List.take_length]; exact hq)))
      go_wp2
      go_ret
      exact ⟨by rw [HE.out]; rfl, blw⟩
/-- what has been gone through by DeleteFunc -/
structure DF (L : List Pp) (i j : Nat) (D : List Pp) : Prop where
  len : D.length = L.length
  lt : i < j
  le : j ≤ L.length
  low : D.take i = (L.take j).filter (fun x => !t x)
  ilen : ((L.take j).filter (fun x => !t x)).length = i
  high : ∀ q, j ≤ q → D[q]? = L[q]?
theorem DF.keep {t : Pp → Bool} {L D : List Pp} {i j : Nat} {x : Pp} (h : DF t L i j D) (hx : L[j]? = some x) (ht : t x = false) : DF t L (i + 1) (j + 1) (D.set i x) := by
  have hl := (List.getElem?_eq_some_iff.1 hx).1
  have h1 := h.lt
  have h2 := h.len
  refine ⟨by rw [List.length_set, h.len], by omega, by omega, ?_, ?_, fun q hq => ?_⟩
  · rw [take_succ_of hx, List.filter_append, ← h.low, List.take_add_one, List.getElem?_set_self (by omega), List.take_set_of_le (Nat.le_refl _)]
    simp [ht]
  · rw [take_succ_of hx, List.filter_append, List.length_append, h.ilen]; simp [ht]
  · rw [List.getElem?_set_ne (by omega)]; exact h.high q (by omega)
theorem DF.skip {t : Pp → Bool} {L D : List Pp} {i j : Nat} {x : Pp} (h : DF t L i j D) (hx : L[j]? = some x) (ht : t x = true) : DF t L i (j + 1) D := by
  have hl := (List.getElem?_eq_some_iff.1 hx).1
  have h1 := h.lt
  refine ⟨h.len, by omega, by omega, ?_, ?_, fun q hq => h.high q (by omega)⟩
  · rw [take_succ_of hx, List.filter_append, ← h.low]; simp [ht]
  · rw [take_succ_of hx, List.filter_append, List.length_append, h.ilen]; simp [ht]
theorem DF.start {t : Pp → Bool} {L : List Pp} {k : Nat} {x : Pp} (hx : L[k]? = some x) (ht : t x = true) (hf : ∀ q ∈ L.take k, t q = false) : DF t L k (k + 1) L := by
  have hl := (List.getElem?_eq_some_iff.1 hx).1
  have e : (L.take (k + 1)).filter (fun x => !t x) = L.take k := by
    rw [take_succ_of hx, List.filter_append, List.filter_eq_self.2 (fun q hq => by rw [hf q hq]; rfl)]
    simp [ht]
  exact ⟨rfl, by omega, by omega, e.symm, by rw [e, List.length_take]; omega, fun _ _ => rfl⟩
set_option maxRecDepth 100000 in
set_option maxHeartbeats 4000000 in
theorem deleteF_s (A : Option Addr) (c : Nat) (L : List Pp) (w : World) (h : w.ownsRow 0 41 6 (.slice A L.length c) L.length (pps L)) (hl : L.length ≤ 1000) (h0 : I w) (hI : ∀ X W, I X → Gr (Value.slice A L.length c).ownBlock.toList X W → I W)
    (hcall : ∀ x W, I W → Calls Tryz.prog fn (#[x.ag] ++ caps) W fun e W' => e = .returned (.bool (t x)) ∧ Below W.heap.size W W') (hent : ∀ args W, (callFunc fn args).run Tryz.prog W = .ok (.enter fn args) W) :
    Calls Tryz.prog 87 #[.slice A L.length c, .func (.func fn) #[] caps] w fun e w' => ∃ F, F = L.filter (fun x => !t x) ∧ e = .returned (.slice A F.length c) ∧ w'.ownsRow 0 41 6 (.slice A F.length c) F.length (pps F) ∧ Gr (Value.slice A L.length c).ownBlock.toList w w' := by
  have TI := hide (indexF_s fn caps t I A c L w (Reads.of_own h) hl h0 (fun X W hX hB => hI X W hX (.of hB)) hcall hent)
  have HO := hide h
  have HI := hide hI
  have H0 := hide h0
  have HC := hide hcall
  clear h hI h0 hcall
  by_cases hex : ∃ k x, L[k]? = some x ∧ t x = true ∧ ∀ q ∈ L.take k, t q = false
  · obtain ⟨k, x, hx, ht, hf⟩ := hex
    have hk := (List.getElem?_eq_some_iff.1 hx).1
    have TI := hide (show Calls Tryz.prog 101 #[.slice A L.length c, .func (.func fn) #[] caps] w fun e w' => e = .returned (.int .i64 (k : Int)) ∧ Below w.heap.size w w' by
      have := TI.out
      rw [idxF_at hx ht hf] at this
      exact this)
    have HDF := hide (DF.start hx ht hf)
    obtain ⟨g, cap, hv, _, hg⟩ := HO.out.form (by omega)
    injection hv with e1 e2 e3
    subst e1 e3
    have hc1 : L.length ≤ c := by
      obtain ⟨_, _, hcc, hc1, _⟩ := own_slice HO.out
      injection hcc with e1 e2 e3
      rw [e3]; exact hc1
    have HB : Hid (∀ X W : World, Below X.heap.size X W → Gr [g] X W) := hide (fun X W hb => .of hb)
    have i5 : ((k : Int) == -1) = false := by simp
    have i6 : ¬ (k : Int) = -1 := by omega
    clear hx ht hf
    go_enter Tryz.func87, Tryz.ntmps87
    go_wp2_with fail
    (with_reducible refine TI.out.mono ?_)
    rintro e w1 ⟨rfl, hb1⟩
    haveI : Stp w w1 := ⟨hb1⟩
    have HB1 := hide hb1
    clear hb1 TI
    go_wp2_with fail
    go_loopw [5, 6] (fun s5 s6 wr => ∃ (i j : Nat) (D : List Pp), s5 = .int .i64 i ∧ s6 = .int .i64 j ∧ DF t L i j D ∧ wr.ownsRow 0 41 6 (.slice (some ⟨g, 0, none⟩) L.length c) L.length (pps D) ∧ Gr [g] w wr) (fun _ s6 _ => L.length - (intOf s6).toNat)
    case atStart => exact ⟨k, k + 1, L, rfl, by go_num, HDF.out, own_tc HO.out, .of HB1.out⟩
    case round =>
      obtain ⟨i, j, D, rfl, rfl, hD, hown, hG⟩ := hrel
      have HD := hide hD
      have HW := hide hown
      have HG := hide hG
      have zr := hG.size
      have hDl := hD.len
      have hij := hD.lt
      have hjl := hD.le
      have hgr : g < wr.heap.size := by omega
      haveI : InW g wr := ⟨hgr⟩
      haveI : LtN g wr.heap.size := ⟨hgr⟩
      haveI : FrzAt wr g := .own hown hgr
      have HDL := hide hDl
      clear hD hown hG hDl
      by_cases hlt : j < L.length
      · have hx : L[j]? = some L[j] := List.getElem?_eq_getElem hlt
        generalize L[j] = x at hx
        have hx2 : D[j]? = some x := by rw [HD.out.high j (Nat.le_refl _)]; exact hx
        have hy2 : D[i]? = some (D[i]'(by have := HDL.out; omega)) := List.getElem?_eq_getElem _
        generalize D[i]'(by have := HDL.out; omega) = y at hy2
        haveI : CellAt wr g (j * 6) (.int .i64 x.n) := ⟨hgr, ownP_at HW.out hx2 (q := 0) (by omega) (by omega) rfl⟩
        haveI : CellAt wr g (j * 6 + 1) (.int .u64 x.i) := ⟨hgr, ownP_at HW.out hx2 (q := 1) (by omega) (by omega) rfl⟩
        haveI : CellAt wr g (j * 6 + 2) (.int .u64 x.rd) := ⟨hgr, ownP_at HW.out hx2 (q := 2) (by omega) (by omega) rfl⟩
        haveI : CellAt wr g (j * 6 + 3) (.slice x.SA x.ss.length x.sc) := ⟨hgr, ownP_at HW.out hx2 (q := 3) (by omega) (by omega) rfl⟩
        haveI : CellAt wr g (j * 6 + 4) (.slice x.CA x.cs.length x.cc) := ⟨hgr, ownP_at HW.out hx2 (q := 4) (by omega) (by omega) rfl⟩
        haveI : CellAt wr g (j * 6 + 5) (.slice x.UA x.us.length x.uc) := ⟨hgr, ownP_at HW.out hx2 (q := 5) (by omega) (by omega) rfl⟩
        haveI : CellAt wr g (i * 6) (.int .i64 y.n) := ⟨hgr, ownP_at HW.out hy2 (q := 0) (by omega) (by omega) rfl⟩
        haveI : CellAt wr g (i * 6 + 1) (.int .u64 y.i) := ⟨hgr, ownP_at HW.out hy2 (q := 1) (by omega) (by omega) rfl⟩
        haveI : CellAt wr g (i * 6 + 2) (.int .u64 y.rd) := ⟨hgr, ownP_at HW.out hy2 (q := 2) (by omega) (by omega) rfl⟩
        haveI : CellAt wr g (i * 6 + 3) (.slice y.SA y.ss.length y.sc) := ⟨hgr, ownP_at HW.out hy2 (q := 3) (by omega) (by omega) rfl⟩
        haveI : CellAt wr g (i * 6 + 4) (.slice y.CA y.cs.length y.cc) := ⟨hgr, ownP_at HW.out hy2 (q := 4) (by omega) (by omega) rfl⟩
        haveI : CellAt wr g (i * 6 + 5) (.slice y.UA y.us.length y.uc) := ⟨hgr, ownP_at HW.out hy2 (q := 5) (by omega) (by omega) rfl⟩
        have HX := hide hx
        have j0 : (0 : Int) ≤ (j : Int) := by omega
        have j1 : (j : Int) < (L.length : Int) := by omega
        have j2 : (0 : Int) ≤ (i : Int) := by omega
        have j3 : (i : Int) < (L.length : Int) := by omega
        haveI : NeN (i * 6) (i * 6 + 1) := ⟨by omega⟩
        haveI : NeN (i * 6) (i * 6 + 2) := ⟨by omega⟩
        haveI : NeN (i * 6) (i * 6 + 3) := ⟨by omega⟩
        haveI : NeN (i * 6) (i * 6 + 4) := ⟨by omega⟩
        haveI : NeN (i * 6) (i * 6 + 5) := ⟨by omega⟩
        haveI : NeN (i * 6 + 1) (i * 6) := ⟨by omega⟩
        haveI : NeN (i * 6 + 1) (i * 6 + 2) := ⟨by omega⟩
        haveI : NeN (i * 6 + 1) (i * 6 + 3) := ⟨by omega⟩
        haveI : NeN (i * 6 + 1) (i * 6 + 4) := ⟨by omega⟩
        haveI : NeN (i * 6 + 1) (i * 6 + 5) := ⟨by omega⟩
        haveI : NeN (i * 6 + 2) (i * 6) := ⟨by omega⟩
        haveI : NeN (i * 6 + 2) (i * 6 + 1) := ⟨by omega⟩
        haveI : NeN (i * 6 + 2) (i * 6 + 3) := ⟨by omega⟩
        haveI : NeN (i * 6 + 2) (i * 6 + 4) := ⟨by omega⟩
        haveI : NeN (i * 6 + 2) (i * 6 + 5) := ⟨by omega⟩
        haveI : NeN (i * 6 + 3) (i * 6) := ⟨by omega⟩
        haveI : NeN (i * 6 + 3) (i * 6 + 1) := ⟨by omega⟩
        haveI : NeN (i * 6 + 3) (i * 6 + 2) := ⟨by omega⟩
        haveI : NeN (i * 6 + 3) (i * 6 + 4) := ⟨by omega⟩
        haveI : NeN (i * 6 + 3) (i * 6 + 5) := ⟨by omega⟩
        haveI : NeN (i * 6 + 4) (i * 6) := ⟨by omega⟩
        haveI : NeN (i * 6 + 4) (i * 6 + 1) := ⟨by omega⟩
        haveI : NeN (i * 6 + 4) (i * 6 + 2) := ⟨by omega⟩
        haveI : NeN (i * 6 + 4) (i * 6 + 3) := ⟨by omega⟩
        haveI : NeN (i * 6 + 4) (i * 6 + 5) := ⟨by omega⟩
        haveI : NeN (i * 6 + 5) (i * 6) := ⟨by omega⟩
        haveI : NeN (i * 6 + 5) (i * 6 + 1) := ⟨by omega⟩
        haveI : NeN (i * 6 + 5) (i * 6 + 2) := ⟨by omega⟩
        haveI : NeN (i * 6 + 5) (i * 6 + 3) := ⟨by omega⟩
        haveI : NeN (i * 6 + 5) (i * 6 + 4) := ⟨by omega⟩
        clear hx hx2 hy2
        go_wp2_with fail
        refine (HC.out x _ (HI.out _ _ H0.out (HG.out.trans (.of blw)))).mono ?_
        rintro e w2 ⟨rfl, hb2⟩
        haveI : Stp _ w2 := ⟨hb2⟩
        have z2 := hb2.size
        have HW2 := hide (show w2.ownsRow 0 41 6 (.slice (some ⟨g, 0, none⟩) L.length c) L.length (pps D) from own_same HW.out (fun i hi => by
          simp [Value.ownBlock] at hi
          subst hi
          exact (blw (a := wr) (W := w2)).block _ hgr))
        have HG2 := hide (HG.out.trans (.of (blw (a := wr) (W := w2))))
        clear hb2
        cases ht : t x
        · have HK := hide (HD.out.keep HX.out ht)
          clear ht
          go_wp2
          go_roundw
          case rel =>
            have hs := ownP_set HW2.out i x
            exact ⟨i + 1, j + 1, D.set i x, by go_num, by go_num, HK.out, hs.1, HG2.out.trans (.grown hs.2 (fun k hk => by injection hk with hk; subst hk; exact List.mem_singleton.2 rfl))⟩
          case measure => simp [intOf]; omega
        · have HK := hide (HD.out.skip HX.out ht)
          clear ht
          go_wp2
          go_roundw
          case rel => exact ⟨i, j + 1, D, rfl, by go_num, HK.out, HW2.out, HG2.out⟩
          case measure => simp [intOf]; omega
      · have HF := hide (show L.filter (fun x => !t x) = D.take i ∧ (L.filter (fun x => !t x)).length = i by
          have h1 := HD.out.low; have h2 := HD.out.ilen
          rw [show j = L.length by omega, List.take_length] at h1 h2
          exact ⟨h1.symm, h2⟩)
        have hcl : ∀ ty, (Builtin.clear_ #[31] ty #[.slice (some ⟨g, i * 6, none⟩) (L.length - i) (c - i)]).run Tryz.prog wr = .ok (.tuple #[]) (wr.setCells g (i * 6) (Builtin.zeroCells #[.int .i64 0, .int .u64 0, .int .u64 0, .slice none 0 0, .slice none 0 0, .slice none 0 0] (L.length - i)).toList) := fun ty =>
          run_clear_cells wr 31 41 ty (.agg #[.int .i64 0, .int .u64 0, .int .u64 0, .slice none 0 0, .slice none 0 0, .slice none 0 0]) Tryz.underlying31 (fun _ => by kernel_rfl) (by simp [Value.cells, Value.oneCell']) (by simp [Value.cells]) g (i * 6) (L.length - i) (c - i)
            (fun q hq => by
              have hq' : q < (L.length - i) * 6 := hq
              have := HDL.out
              rw [HW.out.cellAt _ (by omega), List.getElem?_eq_getElem (by rw [pps_len]; omega)]; rfl)
            (fun q hq => HW.out.frozenAt _)
        have m0 : ¬ c = i := by omega
        have m1 : i ≤ c := by omega
        have m2 : (0 : Int) ≤ (i : Int) := by omega
        have m3 : (i : Int) ≤ (L.length : Int) := by omega
        have m4 : i ≤ L.length := by omega
        go_wp2
        go_ret
        obtain ⟨s1, s2⟩ := own_setCells (Builtin.zeroCells #[.int .i64 0, .int .u64 0, .int .u64 0, .slice none 0 0, .slice none 0 0, .slice none 0 0] (L.length - i)).toList (i * 6) wr _ (own_take HW.out m4) (Nat.le_refl _)
        refine ⟨_, rfl, ?_, ?_, HG.out.trans (.grown s2 (fun k hk => by injection hk with hk; subst hk; exact List.mem_singleton.2 rfl))⟩
        · rw [HF.out.2]; rfl
        · rw [HF.out.2, HF.out.1, pps, ← flat_take Pp.cl_len]; exact s1
  · have hno : ∀ q ∈ L, t q = false := by
      intro q hq
      cases hf : t q
      · rfl
      · exfalso
        obtain ⟨k, hk⟩ : ∃ k, L.findIdx? t = some k := by
          cases he : L.findIdx? t with
          | some k => exact ⟨k, rfl⟩
          | none => have := List.findIdx?_eq_none_iff.1 he q hq; rw [hf] at this; cases this
        obtain ⟨h1, h2, h3⟩ := List.findIdx?_eq_some_iff_getElem.1 hk
        refine hex ⟨k, L[k], List.getElem?_eq_getElem h1, h2, fun y hy => ?_⟩
        obtain ⟨j, hj, rfl⟩ := List.mem_take_iff_getElem.1 hy
        have := h3 j (by omega)
        simpa using this
    have TI := hide (show Calls Tryz.prog 101 #[.slice A L.length c, .func (.func fn) #[] caps] w fun e w' => e = .returned (.int .i64 (-1)) ∧ Below w.heap.size w w' by
      have := TI.out
      rw [idxF_no hno] at this
      exact this)
    have HF := hide (show L.filter (fun x => !t x) = L from List.filter_eq_self.2 (fun q hq => by rw [hno q hq]; rfl))
    clear hno hex
    go_enter Tryz.func87, Tryz.ntmps87
    go_wp2_with fail
    (with_reducible refine TI.out.mono ?_)
    rintro e w1 ⟨rfl, hb1⟩
    have HB1 := hide hb1
    clear hb1 TI
    go_wp2
    go_ret
    exact ⟨L, HF.out.symm, rfl, own_below HO.out HB1.out (Nat.le_refl _), .of HB1.out⟩
end
end Go.Proofs.YtkglclekieckoaaGreat

namespace Go.Proofs.YtkglclekieckoaaGreat
set_option linter.unusedSimpArgs false
set_option linter.unusedVariables false
set_option linter.unusedSectionVars false
open Go.RowKit

def Ag.withG (a : Ag) (A : Option Addr) (c : Nat) (G : List Pp) : Ag := ⟨a.n, a.i, a.rd, a.SA, a.sc, a.ss, a.LA, a.lc, a.cl, a.TA, a.tc, a.td, A, c, G, a.dn, a.sp, a.vw⟩
theorem gotL_br {L : List Pp} {y p : Pp} (hy : y.br = p.br) : ((L.filter (fun x => !(x.n == p.n))).filter (fun x => decide (x.n < y.n)) ++ y :: (L.filter (fun x => !(x.n == p.n))).filter (fun x => decide (y.n < x.n))).map Pp.br = gotL (L.map Pp.br) p.br := by
  have hn : y.n = p.n := (by rw [hy] : y.br.n = p.br.n)
  have e1 : ∀ M : List Pp, (M.filter (fun x => !(x.n == p.n))).filter (fun x => decide (x.n < p.n)) = M.filter (fun x => decide (x.n < p.n)) := fun M => by
    rw [List.filter_filter]
    apply List.filter_congr
    intro x _
    rw [Bool.eq_iff_iff]
    simp
    omega
  have e2 : ∀ M : List Pp, (M.filter (fun x => !(x.n == p.n))).filter (fun x => decide (p.n < x.n)) = M.filter (fun x => decide (p.n < x.n)) := fun M => by
    rw [List.filter_filter]
    apply List.filter_congr
    intro x _
    rw [Bool.eq_iff_iff]
    simp
    omega
  unfold gotL
  rw [hn, e1, e2, List.map_append, List.map_cons, hy, List.filter_map, List.filter_map]
  rfl
theorem reads_pq1x (W : World) (m : Nat) (y : Pp) [h : BoxAt W m #[.int .i64 y.n, .int .u64 y.i, .int .u64 y.rd, .slice y.SA y.ss.length y.sc, .slice y.CA y.cs.length y.cc, .slice y.UA y.us.length y.uc] 41] : Reads W W.heap.size 6 (some ⟨m, 0, none⟩) 1 (pps [y]) :=
  ⟨rfl, fun _ => ⟨_, _, rfl, h.lt, fun j u hu => by
    rw [Nat.zero_add, cell?_box]
    have e : pps [y] = (#[.int .i64 y.n, .int .u64 y.i, .int .u64 y.rd, .slice y.SA y.ss.length y.sc, .slice y.CA y.cs.length y.cc, .slice y.UA y.us.length y.uc] : Array Value).toList := rfl
    rw [e] at hu
    simpa using hu⟩⟩
variable [Avoid]
/-- some proposals are taken away -/
theorem MK.del {w w2 : World} {C : List Nat} {g : Nat} {a : Ag} {t : Tu} {o : Obj} {F : List Pp} (h : MK w C g a t) (hF : ∀ x ∈ F, x ∈ a.gt) (hFl : F.length ≤ 1000) (ho : w2.ownsRow 0 41 6 (.slice a.GA F.length a.gc) F.length (pps F)) (hG : Gr (Value.slice a.GA a.gt.length a.gc).ownBlock.toList (w.alloc o) w2) :
    MK (w2.setCell ⟨g, 6, none⟩ (.slice a.GA F.length a.gc)) C g (a.withG a.GA a.gc F) t ∧ Tr C C w (w2.setCell ⟨g, 6, none⟩ (.slice a.GA F.length a.gc)) := by
  have hsz : (w.alloc o).heap.size = w.heap.size + 1 := by simp
  have hob : (Value.slice a.GA F.length a.gc).ownBlock = (Value.slice a.GA a.gt.length a.gc).ownBlock := by cases a.GA <;> rfl
  have hTL : ∀ i ∈ (Value.slice a.GA a.gt.length a.gc).ownBlock.toList, i ∈ C := fun i hi => (h.goC i (by simpa using hi)).1
  have hg0 : g ∉ (Value.slice a.GA a.gt.length a.gc).ownBlock.toList := fun hm => (h.goC _ (by simpa using hm)).2 rfl
  have hgl := h.bx.lt
  have t1 : Tr C C w (w2.setCell ⟨g, 6, none⟩ (.slice a.GA F.length a.gc)) := ((Tr.bel (below_alloc w o)).trans (.of (hG.mono' hTL))).trans (.set (m := g) w2 6 _ h.gC)
  have hb2 : BoxAt w2 g (mkC a t) 92 := ⟨by rw [hG.blk g (by omega) hg0, Below.heap_alloc _ _ g hgl]; exact h.bx.eq⟩
  refine ⟨⟨.of_cs (BoxAt.setAt w2 g 6 _ (mkC a t) _) rfl, h.gC, fun i hi => Nat.lt_of_lt_of_le (h.lt i hi) t1.g.size, ?_, ?_, ?_, ?_, ?_, h.uo.tr t1⟩, t1⟩
  · exact own_same ho (fun i hi => Below.heap_setCell _ _ _ _ (fun e => hg0 (by
      have hi' : (Value.slice a.GA F.length a.gc).ownBlock = some i := hi
      rw [hob] at hi'; rw [hi']; simpa using e.symm)))
  · intro b hb
    exact h.goC b (by rw [← hob]; exact hb)
  · exact own_same h.tw (fun i hi => by
      obtain ⟨q1, q2, q3⟩ := h.twC i hi
      have hi2 := h.ltC i q1
      rw [Below.heap_setCell _ _ _ _ (show i ≠ g from q2), hG.blk i (by omega) (fun hm => q3 (by simpa using hm)), Below.heap_alloc _ _ i hi2])
  · intro b hb
    obtain ⟨q1, q2, q3⟩ := h.twC b hb
    exact ⟨q1, q2, fun e => q3 (by rw [← hob]; exact e)⟩
  · have k := h.ao
    exact ⟨k.s.tr t1.av, k.sl, k.c.tr t1.av, k.cl, k.t.tr t1.av, k.tl, fun p hp => (k.p p (hF p hp)).tr t1, hFl, k.v.tr t1⟩
/-- one more proposal -/
theorem MK.app {w W : World} {C : List Nat} {g : Nat} {a : Ag} {t : Tu} {y : Pp} {A1 : Option Addr} {c1 : Nat} (h : MK w C g a t) (hx : PpO w C y) (ho : W.ownsRow 0 41 6 (.slice A1 (a.gt.length + 1) c1) (a.gt.length + 1) (pps a.gt ++ pps [y])) (hg : w.grownBy W (Value.slice a.GA a.gt.length a.gc).ownBlock)
    (ha : (Value.slice A1 (a.gt.length + 1) c1).ownBlock = (Value.slice a.GA a.gt.length a.gc).ownBlock ∨ (Value.slice A1 (a.gt.length + 1) c1).ownBlock = some w.heap.size) (hl : a.gt.length ≤ 900) :
    ∃ C', MK (W.setCell ⟨g, 6, none⟩ (.slice A1 (a.gt.length + 1) c1)) C' g (a.withG A1 c1 (a.gt ++ [y])) t ∧ Tr C C' w (W.setCell ⟨g, 6, none⟩ (.slice A1 (a.gt.length + 1) c1)) := by
  have hgl := h.bx.lt
  have hn : ∀ b, (Value.slice A1 (a.gt.length + 1) c1).ownBlock = some b → (b ∈ C ∨ b = w.heap.size) ∧ b ≠ g ∧ (Value.slice t.A t.ts.length t.c).ownBlock ≠ some b := fun b hb => by
    rcases ha with e | e
    · obtain ⟨q1, q2⟩ := h.goC b (e.symm.trans hb)
      exact ⟨.inl q1, q2, fun e' => (h.twC b e').2.2 (e.symm.trans hb)⟩
    · rw [hb] at e
      injection e with e
      subst e
      exact ⟨.inr rfl, by omega, fun hc => by have := h.ltC _ (h.twC _ hc).1; omega⟩
  obtain ⟨C', hC⟩ : ∃ C', C' = (Value.slice A1 (a.gt.length + 1) c1).ownBlock.toList ++ C := ⟨_, rfl⟩
  have hin : ∀ i ∈ C, i ∈ C' := fun i hi => by rw [hC]; exact List.mem_append_right _ hi
  have hin2 : ∀ i ∈ C', i ∈ C ∨ (Value.slice A1 (a.gt.length + 1) c1).ownBlock = some i := fun i hi => by
    rw [hC] at hi
    rcases List.mem_append.1 hi with h1 | h1
    · right; simpa using h1
    · exact .inl h1
  have hin3 : ∀ b, (Value.slice A1 (a.gt.length + 1) c1).ownBlock = some b → b ∈ C' := fun b hb => by rw [hC, hb]; simp
  clear hC
  have g1 : Gr C w W := .grown hg (fun k hk => (h.goC k hk).1)
  have t1 : Tr C C' w (W.setCell ⟨g, 6, none⟩ (.slice A1 (a.gt.length + 1) c1)) := ((Tr.of g1).trans (.set W 6 _ h.gC)).re (fun i hi => by
    rcases hin2 i hi with h1 | h1
    · exact .inl h1
    · rcases (hn i h1).1 with h2 | h2
      · exact .inl h2
      · exact .inr (by omega))
  have hgt : (Value.slice a.GA a.gt.length a.gc).ownBlock ≠ some g := fun e => (h.goC g e).2 rfl
  have hbx : BoxAt W g (mkC a t) 92 := ⟨by rw [hg.block g hgl (fun e => hgt e.symm)]; exact h.bx.eq⟩
  have hll : (a.gt ++ [y]).length = a.gt.length + 1 := by simp
  refine ⟨C', ⟨?_, hin g h.gC, ?_, ?_, ?_, ?_, ?_, ?_, h.uo.tr t1⟩, t1⟩
  · exact BoxAt.of_cs (@BoxAt.setAt _ _ _ _ _ _ hbx) (by simp [Ag.withG])
  · intro i hi
    have := t1.g.size
    rcases List.mem_append.1 hi with hi | hi
    rotate_left
    · have := h.lt i (List.mem_append_right _ hi); omega
    rcases hin2 i hi with h1 | h1
    · have := h.ltC i h1; omega
    · have := (ho.lt i h1).2
      simpa [World.setCell] using this
  · rw [show (a.withG A1 c1 (a.gt ++ [y])).gt = a.gt ++ [y] from rfl, pps_app, hll]
    exact own_same ho (fun i hi => Below.heap_setCell _ _ _ _ (show i ≠ g from (hn i hi).2.1))
  · intro b hb
    rw [show (a.withG A1 c1 (a.gt ++ [y])).gt.length = a.gt.length + 1 from hll] at hb
    exact ⟨hin3 b hb, (hn b hb).2.1⟩
  · exact own_same h.tw (fun i hi => by
      obtain ⟨q1, q2, q3⟩ := h.twC i hi
      rw [Below.heap_setCell _ _ _ _ (show i ≠ g from q2)]
      exact hg.block i (h.ltC i q1) (fun e => q3 e.symm))
  · intro b hb
    obtain ⟨q1, q2, q3⟩ := h.twC b hb
    refine ⟨hin b q1, q2, fun e => ?_⟩
    rw [show (a.withG A1 c1 (a.gt ++ [y])).gt.length = a.gt.length + 1 from hll] at e
    exact (hn b e).2.2 hb
  · have k := h.ao
    refine ⟨k.s.tr t1.av, k.sl, k.c.tr t1.av, k.cl, k.t.tr t1.av, k.tl, fun p hp => ?_, by show (a.gt ++ [y]).length ≤ 1000; simp; omega, k.v.tr t1⟩
    rcases List.mem_append.1 hp with hp | hp
    · exact (k.p p hp).tr t1
    · rw [List.mem_singleton.1 hp]; exact hx.tr t1
/-- proposals in another order -/
theorem MK.sorted {w W : World} {C : List Nat} {g gr : Nat} {a : Ag} {t : Tu} {G : List Pp} (h : MK w C g a t) (hA : a.GA = some ⟨gr, 0, none⟩) (hG : Gr [gr] w W) (ho : W.ownsRow 0 41 6 (.slice a.GA G.length a.gc) G.length (pps G)) (hl : G.length = a.gt.length) (hm : ∀ x ∈ G, x ∈ a.gt) :
    MK W C g (a.withG a.GA a.gc G) t ∧ Tr C C w W := by
  have hob : (Value.slice a.GA a.gt.length a.gc).ownBlock = some gr := by rw [hA]; rfl
  obtain ⟨q1, q2⟩ := h.goC gr hob
  have t1 : Tr C C w W := .of (hG.mono' (fun i hi => by rw [List.mem_singleton.1 hi]; exact q1))
  refine ⟨⟨?_, h.gC, fun i hi => Nat.lt_of_lt_of_le (h.lt i hi) t1.g.size, ho, ?_, ?_, ?_, ?_, h.uo.tr t1⟩, t1⟩
  · exact BoxAt.of_cs (cs := mkC a t) ⟨by rw [hG.blk g h.bx.lt (by simp; exact fun e => q2 e.symm)]; exact h.bx.eq⟩ (by simp [Ag.withG, hl])
  · intro b hb
    exact h.goC b (by rw [← hl]; exact hb)
  · exact own_same h.tw (fun i hi => by
      obtain ⟨r1, r2, r3⟩ := h.twC i hi
      exact hG.blk i (h.ltC i r1) (by simp; exact fun e => r3 (by rw [hob, e])))
  · intro b hb
    obtain ⟨r1, r2, r3⟩ := h.twC b hb
    exact ⟨r1, r2, fun e => r3 (by rw [← hl]; exact e)⟩
  · have k := h.ao
    exact ⟨k.s.tr t1.av, k.sl, k.c.tr t1.av, k.cl, k.t.tr t1.av, k.tl, fun p hp => (k.p p (hm p hp)).tr t1, by show G.length ≤ 1000; rw [hl]; exact k.pl, k.v.tr t1⟩
set_option maxRecDepth 100000 in
set_option maxHeartbeats 4000000 in
theorem got_s (g : Nat) (C : List Nat) (a : Ag) (t : Tu) (p : Pp) (w : World) (h : MK w C g a t) (hp : PpO w C p) (hr : riseP a.gt) (hl : a.gt.length ≤ 15) :
    Calls Tryz.prog 48 #[.pointer (some ⟨g, 0, none⟩), p.ag] w fun e w' => e = .returned (.tuple #[]) ∧ ∃ C' A c G, MK w' C' g (a.withG A c G) t ∧ G.map Pp.br = gotL (a.gt.map Pp.br) p.br ∧ Tr C C' w w' := by
  have hb0 : w.heap.size ∉ (Value.slice a.GA a.gt.length a.gc).ownBlock.toList := fun hm => by
    have := h.ltC _ (h.goC _ (by simpa using hm)).1
    omega
  have hg0 : g ∉ (Value.slice a.GA a.gt.length a.gc).ownBlock.toList := fun hm => (h.goC _ (by simpa using hm)).2 rfl
  have TD := hide (fun W (hW : W.ownsRow 0 41 6 (.slice a.GA a.gt.length a.gc) a.gt.length (pps a.gt)) (hb : BoxAt W w.heap.size #[.int .i64 p.n, .int .u64 p.i, .int .u64 p.rd, .slice p.SA p.ss.length p.sc, .slice p.CA p.cs.length p.cc, .slice p.UA p.us.length p.uc] 41) =>
    deleteF_s 88 #[.pointer (some ⟨w.heap.size, 0, none⟩)] (fun x => x.n == p.n) (fun W => BoxAt W w.heap.size #[.int .i64 p.n, .int .u64 p.i, .int .u64 p.rd, .slice p.SA p.ss.length p.sc, .slice p.CA p.cs.length p.cc, .slice p.UA p.us.length p.uc] 41) a.GA a.gc a.gt W hW (by omega) hb
      (fun X Y hX hG => ⟨by rw [hG.blk _ hX.lt hb0]; exact hX.eq⟩)
      (fun x Y hY => by have := got1_s x p w.heap.size Y hY; simpa using this)
      (enters_of Tryz.func88 (by kernel_rfl) rfl))
  have HG0 := hide hg0
  have HB0 := hide hb0
  have TC := hide (fun W (h : p.Ok W) => cpP_s p W h)
  haveI := h.bx
  have z := h.bx.lt
  haveI : LtN g w.heap.size := ⟨z⟩
  have H := hide h
  have HP := hide hp
  clear h hp hb0 hg0
  go_enter Tryz.func48, Tryz.ntmps48
  go_wp2_with fail
  (with_reducible refine (TD.out _ (own_tc H.out.go) inferInstance).mono ?_)
  rintro e w2 ⟨F, hF, rfl, ho2, hG2⟩
  have z2 := hG2.size
  simp only [World.size_alloc] at z2
  haveI : BoxAt w2 g (mkC a t) 92 := ⟨by rw [hG2.blk _ (by simp; omega) HG0.out]; exact (inferInstance : BoxAt (w.alloc _) g (mkC a t) 92).eq⟩
  haveI : BoxAt w2 w.heap.size #[.int .i64 p.n, .int .u64 p.i, .int .u64 p.rd, .slice p.SA p.ss.length p.sc, .slice p.CA p.cs.length p.cc, .slice p.UA p.us.length p.uc] 41 := ⟨by rw [hG2.blk _ (by simp) HB0.out]; exact (boxTop w _ _).eq⟩
  haveI : LtN g w2.heap.size := ⟨by omega⟩
  haveI : LtN w.heap.size w2.heap.size := ⟨by omega⟩
  have hFl : F.length ≤ 15 := by rw [hF]; exact Nat.le_trans (List.length_filter_le _ _) hl
  have hFl : F.length ≤ 15 := by rw [hF]; exact Nat.le_trans (List.length_filter_le _ _) hl
  have hFl : F.length ≤ 15 := by rw [hF]; exact Nat.le_trans (List.length_filter_le _ _) hl
  have HF := hide hF
  obtain ⟨hM2, hT2⟩ := H.out.del (fun x hx => by rw [hF] at hx; exact (List.mem_filter.1 hx).1) (by omega) ho2 hG2
  have HM2 := hide hM2
  have HT2 := hide hT2
  have HPO := hide (HP.out.tr hT2).ok
  clear TD hF ho2 hG2 hM2 hT2
  go_wp2_with fail
  generalize hwz : w2.setCell ⟨g, 6, none⟩ (.slice a.GA F.length a.gc) = wz at HM2 HT2 HPO ⊢
  have zz : wz.heap.size = w2.heap.size := by rw [← hwz]; simp [World.setCell]
  haveI : BoxAt wz g #[.int .i64 a.n, .int .u64 a.i, .int .u64 a.rd, .slice a.SA a.ss.length a.sc, .slice a.LA a.cl.length a.lc, .slice a.TA a.td.length a.tc, .slice a.GA F.length a.gc, .bool a.dn, .bool a.sp, .int .u64 a.vw.r, .int .i64 a.vw.n, .int .u64 a.vw.i, .slice a.vw.MA a.vw.ms.length a.vw.mc, .slice a.vw.UA a.vw.us.length a.vw.uc, .slice t.A t.ts.length t.c, .bool t.sd, .int .i64 t.pp.n, .int .u64 t.pp.i, .int .u64 t.pp.rd, .slice t.pp.SA t.pp.ss.length t.pp.sc, .slice t.pp.CA t.pp.cs.length t.pp.cc, .slice t.pp.UA t.pp.us.length t.pp.uc, .bool t.md, .int .u64 t.vw.r, .int .i64 t.vw.n, .int .u64 t.vw.i, .slice t.vw.MA t.vw.ms.length t.vw.mc, .slice t.vw.UA t.vw.us.length t.vw.uc] 92 := .of_cs HM2.out.bx rfl
  haveI : BoxAt wz w.heap.size #[.int .i64 p.n, .int .u64 p.i, .int .u64 p.rd, .slice p.SA p.ss.length p.sc, .slice p.CA p.cs.length p.cc, .slice p.UA p.us.length p.uc] 41 := by
    rw [← hwz]
    infer_instance
  haveI : LtN g wz.heap.size := ⟨by omega⟩
  haveI : LtN w.heap.size wz.heap.size := ⟨by omega⟩
  clear hwz
  go_region_law (first
    | (go_simp; go_at_call 53; (with_reducible refine (TC.out _ ?_).mono ?_); (focus (exact HPO.out.step blw)); rintro e w3 ⟨y, hy, rfl, hn, hb3⟩; haveI : Stp _ w3 := ⟨hb3⟩; have HY := hide (hn.o (C := C) (fun i hi => Nat.lt_of_lt_of_le (show i < wz.heap.size from by have := H.out.lt i hi; omega) (blw (a := wz)).size)); have HYE := hide hy; clear hn hy hb3)
    | (refine step_append_x Tryz.okPq rfl (.tmp 20) (.tmp 23) rfl 0 (.slice a.GA F.length a.gc) F.length (pps F) 1 (pps [y]) ?_ ?_ ?_ ?_ ?_ ?_ ?_ ?_; go_must ((focus (first | rfl | (simp [Act.eval, Act.put]; done))); (focus (exact own_tc HM2.out.go)); (focus (refine ⟨_, _, by first | rfl | (simp [Act.eval, Act.put]; done), ?_⟩; exact reads_pq1x _ _ y)); (focus (exact pps_one _)); (focus (unfold maxLen; omega)); (focus omega); (focus (first | omega | (simp; done) | (simp; omega) | exact blw.size | exact BoxAt.lt (n := w.heap.size) inferInstance)); intro v4 w4 ho4 hg4 ha4; obtain ⟨A4, c4, rfl, _, _⟩ := own_slice ho4; haveI : BoxAt w4 g #[.int .i64 a.n, .int .u64 a.i, .int .u64 a.rd, .slice a.SA a.ss.length a.sc, .slice a.LA a.cl.length a.lc, .slice a.TA a.td.length a.tc, .slice a.GA F.length a.gc, .bool a.dn, .bool a.sp, .int .u64 a.vw.r, .int .i64 a.vw.n, .int .u64 a.vw.i, .slice a.vw.MA a.vw.ms.length a.vw.mc, .slice a.vw.UA a.vw.us.length a.vw.uc, .slice t.A t.ts.length t.c, .bool t.sd, .int .i64 t.pp.n, .int .u64 t.pp.i, .int .u64 t.pp.rd, .slice t.pp.SA t.pp.ss.length t.pp.sc, .slice t.pp.CA t.pp.cs.length t.pp.cc, .slice t.pp.UA t.pp.us.length t.pp.uc, .bool t.md, .int .u64 t.vw.r, .int .i64 t.vw.n, .int .u64 t.vw.i, .slice t.vw.MA t.vw.ms.length t.vw.mc, .slice t.vw.UA t.vw.us.length t.vw.uc] 92 := BoxAt.gr inferInstance hg4 (fun e => (HM2.out.goC g e).2 rfl); obtain ⟨C', hM4, hT4⟩ := (HM2.out.below blw).app (HY.out.tr (.bel blw)) ho4 hg4 ha4 (by show F.length ≤ 900; omega); have HO4 := hide ho4; have HM4 := hide (show MK (w4.setCell ⟨g, 6, none⟩ (.slice A4 (F.length + 1) c4)) C' g (a.withG A4 c4 (F ++ [y])) t from hM4); have HT4 := hide (show Tr C C' w (w4.setCell ⟨g, 6, none⟩ (.slice A4 (F.length + 1) c4)) from (HT2.out.trans (.bel blw)).trans hT4); clear ho4 hg4 ha4 hM4 hT4))
    | fail)
  all_goals
    obtain ⟨g4, cur, hA4, h1, h2, h3, hRow⟩ := RowQ.of HM4.out.go (by show 0 < (F ++ [y]).length; simp)
    have hA4' : A4 = some ⟨g4, 0, none⟩ := hA4
    subst hA4'
    have hll : (F ++ [y]).length = F.length + 1 := by simp
    have TS := hide (sortStableQ_s g4 c4 cur (F ++ [y]) _ hRow (by simp; omega))
    rw [hll] at TS
    have hyn : y.n = p.n := (by rw [HYE.out] : y.br.n = p.br.n)
    have hne : ∀ x ∈ F, x.n ≠ y.n := fun x hx => by
      rw [HF.out] at hx
      have := (List.mem_filter.1 hx).2
      simp at this
      omega
    have hri : riseP F := by rw [HF.out]; exact hr.filter _
    have HIL := hide (insQ_last hri hne)
    have HCC := hide (show (F ++ [y]).length ≤ c4 ∧ c4 ≤ maxLen ∧ cur.size = c4 * 6 from ⟨h1, h2, h3⟩)
    clear hA4 h1 h2 h3 hRow hll hyn hne hri
    go_wp2_with fail
    (with_reducible refine TS.out.mono ?_)
    rintro e w6 ⟨rfl, ⟨cur', hs, hR6⟩, hG6⟩
    have hll : (F ++ [y]).length = F.length + 1 := by simp
    rw [← hll, HIL.out] at hR6
    have hyn : y.n = p.n := (by rw [HYE.out] : y.br.n = p.br.n)
    have hlen : (F.filter (fun x => decide (x.n < y.n)) ++ y :: F.filter (fun x => decide (y.n < x.n))).length = (F ++ [y]).length := by
      have hpm : (insQ ((F ++ [y]).length - 1) 1 (F ++ [y])).length = (F ++ [y]).length := insQ_len _ _ _
      rw [HIL.out] at hpm
      exact hpm
    have ho6 := hR6.own (c := c4) (by rw [hlen]; exact HCC.out.1) HCC.out.2.1 (hs.trans HCC.out.2.2)
    obtain ⟨hM6, hT6⟩ := HM4.out.sorted (gr := g4) rfl hG6 ho6 hlen (fun x hx => by
      show x ∈ F ++ [y]
      rcases List.mem_append.1 hx with hx | hx
      · exact List.mem_append_left _ (List.mem_filter.1 hx).1
      · rcases List.mem_cons.1 hx with rfl | hx
        · simp
        · exact List.mem_append_left _ (List.mem_filter.1 hx).1)
    have HE := hide (show (F.filter (fun x => decide (x.n < y.n)) ++ y :: F.filter (fun x => decide (y.n < x.n))).map Pp.br = gotL (a.gt.map Pp.br) p.br by rw [HF.out]; exact gotL_br HYE.out)
    have HT6 := hide (HT4.out.trans hT6)
    have HM6 := hide hM6
    clear hs hR6 hG6 hlen ho6 hM6 hT6 hyn hll
    go_wp2
    go_end0
    exact ⟨rfl, _, _, _, _, HM6.out, HE.out, HT6.out⟩
end Go.Proofs.YtkglclekieckoaaGreat
