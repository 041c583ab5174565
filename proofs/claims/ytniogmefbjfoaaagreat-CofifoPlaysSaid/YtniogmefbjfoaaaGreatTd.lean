/-
  Layer 16: answers in memory; takeData: the end of its code.
-/
import Derived.Test.YtniogmefbjfoaaaGreatNd
import Derived.Test.YtniogmefbjfoaaaGreatRi
namespace Go.Proofs.YtniogmefbjfoaaaGreat
set_option linter.unusedSimpArgs false
set_option linter.unusedVariables false
set_option linter.unusedSectionVars false
open Go.RowKit Go.Maps

/-- a text in memory -/
structure Cb where
  n : Int
  i : Int
  b : Bd
  deriving Inhabited
def cbc (x : Cb) : List Value := [.int .i64 x.n, .int .u64 x.i, .slice x.b.A x.b.bs.length x.b.c]
def cbs (l : List Cb) : List Value := l.flatMap cbc
theorem cbc_len (x : Cb) : (cbc x).length = 3 := rfl
theorem cbs_len (l : List Cb) : (cbs l).length = l.length * 3 := flat_length cbc_len l
theorem cbs_app (l m : List Cb) : cbs (l ++ m) = cbs l ++ cbs m := List.flatMap_append
theorem cbs_one (l : List Cb) : ∀ u ∈ cbs l, u.oneCell' = true := by
  intro u hu
  obtain ⟨p, _, hp⟩ := List.mem_flatMap.1 hu
  simp [cbc] at hp
  rcases hp with rfl | rfl | rfl <;> rfl
theorem Tryz.okCb : ElemOk Tryz.prog 50 58 3 40 := elemOk_of (.agg #[.int .i64 0, .int .u64 0, .slice none 0 0]) Tryz.underlying50 (by kernel_rfl) rfl (by omega)
def Cb.pl (x : Cb) : (Int × Int) × List Int := ((x.n, x.i), x.b.bs)
/-- a row of texts, all of it in new memory -/
structure CbG (base : Nat) (W : World) (v : Value) (cs : List Cb) : Prop where
  row : W.ownsRow base 58 3 v cs.length (cbs cs)
  el : ∀ x ∈ cs, BdP base W (ownL v) x.b
theorem CbG.nil (base : Nat) (W : World) : CbG base W (.slice none 0 0) [] := ⟨World.ownsRow_nil _ _ _ _, fun _ h => by cases h⟩
theorem BdP.re {base : Nat} {W : World} {E D : List Nat} {p : Bd} (h : BdP base W E p) (hd : ∀ i ∈ D, i ∈ E ∨ i < base ∨ W.heap.size ≤ i) : BdP base W D p := ⟨⟨h.r.1, fun h0 a ha hm => by
  rcases hd _ hm with h1 | h1 | h1
  · exact h.r.2 h0 a ha h1
  · have := h.n a ha; omega
  · obtain ⟨b, off, e, hb, _⟩ := h.r.1.2 h0
    rw [e] at ha
    injection ha with ha
    subst ha
    simp only at h1
    omega⟩, h.n, h.f⟩
theorem CbG.gr {base : Nat} {X W : World} {v : Value} {ps : List Cb} {C : List Nat} (h : CbG base X v ps) (hg : Gr C X W) (hC : ∀ i ∈ C, i < base) : CbG base W v ps :=
  ⟨own_same h.row (fun i hi => hg.blk i (h.row.lt i hi).2 (fun hm => by have := hC i hm; have := (h.row.lt i hi).1; omega)), fun p hp => by
    have h1 := ((h.el p hp).re (D := C ++ ownL v) (fun i hi => by
      rcases List.mem_append.1 hi with h2 | h2
      · exact .inr (.inl (hC i h2))
      · exact .inl h2)).tr (.of (hg.mono' (fun i hi => List.mem_append_left _ hi)))
    exact h1.re (fun i hi => .inl (List.mem_append_right _ hi))⟩
theorem CbG.step {base : Nat} {X W : World} {v : Value} {ps : List Cb} (h : CbG base X v ps) (hb : Below X.heap.size X W) : CbG base W v ps := h.gr (C := []) (.of hb) (fun _ h => by cases h)
theorem CbG.lo {base lo : Nat} {W : World} {v : Value} {ps : List Cb} (h : CbG base W v ps) (hl : lo ≤ base) : CbG lo W v ps := ⟨own_lo h.row hl, fun p hp => ⟨(h.el p hp).r, fun a ha => Nat.le_trans hl ((h.el p hp).n a ha), (h.el p hp).f⟩⟩
/-- an answer in memory -/
def AnsM (base : Nat) (W : World) (v : Value) (a : An) : Prop := ∃ pv ps bv cs fv, v = .agg #[pv, bv, fv] ∧ PmG base W pv ps ∧ ps.map Pm.x = a.ps ∧ CbG base W bv cs ∧ cs.map Cb.pl = a.bs ∧ W.ownsRow base 3 1 fv a.fl.length (ics a.fl)
abbrev nilA : Value := .agg #[.slice none 0 0, .slice none 0 0, .slice none 0 0]
theorem AnsM.nil (base : Nat) (W : World) : AnsM base W nilA an0 := ⟨_, [], _, [], _, rfl, .nil _ _, rfl, .nil _ _, rfl, World.ownsRow_nil _ _ _ _⟩
theorem AnsM.lo {base lo : Nat} {W : World} {v : Value} {a : An} (h : AnsM base W v a) (hl : lo ≤ base) : AnsM lo W v a := by
  obtain ⟨pv, ps, bv, cs, fv, h1, h2, h3, h4, h5, h6⟩ := h
  exact ⟨pv, ps, bv, cs, fv, h1, h2.lo hl, h3, h4.lo hl, h5, own_lo h6 hl⟩
theorem AnsM.gr {base : Nat} {X W : World} {v : Value} {a : An} {C : List Nat} (h : AnsM base X v a) (hg : Gr C X W) (hC : ∀ i ∈ C, i < base) : AnsM base W v a := by
  obtain ⟨pv, ps, bv, cs, fv, h1, h2, h3, h4, h5, h6⟩ := h
  exact ⟨pv, ps, bv, cs, fv, h1, h2.gr hg hC, h3, h4.gr hg hC, h5, own_same h6 (fun i hi => hg.blk i (h6.lt i hi).2 (fun hm => by have := hC i hm; have := (h6.lt i hi).1; omega))⟩
/-- an answer in memory, what its packets and texts are made of from B0 on -/
def AnsI (base B0 : Nat) (W : World) (v : Value) (a : An) : Prop := ∃ pv ps bv cs fv, v = .agg #[pv, bv, fv] ∧ PmG base W pv ps ∧ ps.map Pm.x = a.ps ∧ CbG base W bv cs ∧ cs.map Cb.pl = a.bs ∧ W.ownsRow base 3 1 fv a.fl.length (ics a.fl) ∧ (∀ p ∈ ps, PmP B0 W (ownL pv) p) ∧ ∀ c ∈ cs, BdP B0 W (ownL bv) c.b
theorem AnsI.m {base B0 : Nat} {W : World} {v : Value} {a : An} (h : AnsI base B0 W v a) : AnsM base W v a := by
  obtain ⟨pv, ps, bv, cs, fv, h1, h2, h3, h4, h5, h6, _⟩ := h
  exact ⟨pv, ps, bv, cs, fv, h1, h2, h3, h4, h5, h6⟩
theorem AnsM.i {base : Nat} {W : World} {v : Value} {a : An} (h : AnsM base W v a) : AnsI base base W v a := by
  obtain ⟨pv, ps, bv, cs, fv, h1, h2, h3, h4, h5, h6⟩ := h
  exact ⟨pv, ps, bv, cs, fv, h1, h2, h3, h4, h5, h6, h2.el, h4.el⟩
theorem AnsI.lo {base B0 lo : Nat} {W : World} {v : Value} {a : An} (h : AnsI base B0 W v a) (hl : lo ≤ base) : AnsI lo B0 W v a := by
  obtain ⟨pv, ps, bv, cs, fv, h1, h2, h3, h4, h5, h6, h7, h8⟩ := h
  exact ⟨pv, ps, bv, cs, fv, h1, h2.lo hl, h3, h4.lo hl, h5, own_lo h6 hl, h7, h8⟩
theorem AnsI.nil (base B0 : Nat) (W : World) : AnsI base B0 W nilA an0 := ⟨_, [], _, [], _, rfl, .nil _ _, rfl, .nil _ _, rfl, World.ownsRow_nil _ _ _ _, (fun _ h => by cases h), (fun _ h => by cases h)⟩
theorem AnsI.gr {base B0 : Nat} {X W : World} {v : Value} {a : An} {C : List Nat} (h : AnsI base B0 X v a) (hg : Gr C X W) (hC : ∀ i ∈ C, i < base) (hB : base ≤ B0) : AnsI base B0 W v a := by
  obtain ⟨pv, ps, bv, cs, fv, h1, h2, h3, h4, h5, h6, h7, h8⟩ := h
  refine ⟨pv, ps, bv, cs, fv, h1, h2.gr hg hC, h3, h4.gr hg hC, h5, own_same h6 (fun i hi => hg.blk i (h6.lt i hi).2 (fun hm => by have := hC i hm; have := (h6.lt i hi).1; omega)), fun p hp => ?_, fun p hp => ?_⟩
  · exact (((h7 p hp).re (D := C ++ ownL pv) (fun i hi => by
      rcases List.mem_append.1 hi with h2 | h2
      · exact .inr (.inl (by have := hC i h2; omega))
      · exact .inl h2)).tr (.of (hg.mono' (fun i hi => List.mem_append_left _ hi)))).re (fun i hi => .inl (List.mem_append_right _ hi))
  · exact (((h8 p hp).re (D := C ++ ownL bv) (fun i hi => by
      rcases List.mem_append.1 hi with h2 | h2
      · exact .inr (.inl (by have := hC i h2; omega))
      · exact .inl h2)).tr (.of (hg.mono' (fun i hi => List.mem_append_left _ hi)))).re (fun i hi => .inl (List.mem_append_right _ hi))
theorem frame135 {T : Array Value} (h : T.size = 135) : ∃ f : Nat → Value, (∀ j v, T[j]? = some v → f j = v) ∧ T = #[f 0, f 1, f 2, f 3, f 4, f 5, f 6, f 7, f 8, f 9, f 10, f 11, f 12, f 13, f 14, f 15, f 16, f 17, f 18, f 19, f 20, f 21, f 22, f 23, f 24, f 25, f 26, f 27, f 28, f 29, f 30, f 31, f 32, f 33, f 34, f 35, f 36, f 37, f 38, f 39, f 40, f 41, f 42, f 43, f 44, f 45, f 46, f 47, f 48, f 49, f 50, f 51, f 52, f 53, f 54, f 55, f 56, f 57, f 58, f 59, f 60, f 61, f 62, f 63, f 64, f 65, f 66, f 67, f 68, f 69, f 70, f 71, f 72, f 73, f 74, f 75, f 76, f 77, f 78, f 79, f 80, f 81, f 82, f 83, f 84, f 85, f 86, f 87, f 88, f 89, f 90, f 91, f 92, f 93, f 94, f 95, f 96, f 97, f 98, f 99, f 100, f 101, f 102, f 103, f 104, f 105, f 106, f 107, f 108, f 109, f 110, f 111, f 112, f 113, f 114, f 115, f 116, f 117, f 118, f 119, f 120, f 121, f 122, f 123, f 124, f 125, f 126, f 127, f 128, f 129, f 130, f 131, f 132, f 133, f 134] := by
  obtain ⟨f, hf, hT⟩ := frame_lsf h
  exact ⟨f, hf, hT⟩
theorem reads_cb1x (W : World) (q : Nat) (p : Cb) [h : BoxAt W q #[.int .i64 p.n, .int .u64 p.i, .slice p.b.A p.b.bs.length p.b.c] 58] : Reads W W.heap.size 3 (some ⟨q, 0, none⟩) 1 (cbs [p]) :=
  ⟨rfl, fun _ => ⟨_, _, rfl, h.lt, fun j u hu => by
    have hj : (cbc p)[j]? = some u := by simpa [cbs] using hu
    rw [Nat.zero_add, cell?_box, ← hj]
    simp [cbc]⟩⟩
end Go.Proofs.YtniogmefbjfoaaaGreat

namespace Go.Proofs.YtniogmefbjfoaaaGreat
set_option linter.unusedSimpArgs false
set_option linter.unusedVariables false
set_option linter.unusedSectionVars false
open Go.RowKit Go.Maps

/-- what the region reads -/
def TeS (x b13 : Nat) (mn mi : Int) (d : Hd) (w' : World) : Prop := w'.cell? ⟨x, 0, none⟩ = some (.int .i64 mn) ∧ w'.cell? ⟨x, 1, none⟩ = some (.int .u64 mi) ∧ w'.cell? ⟨b13, 0, none⟩ = some (.int .i64 d.d) ∧ w'.cell? ⟨b13, 1, none⟩ = some (.int .u64 d.c) ∧ w'.cell? ⟨b13, 2, none⟩ = some (.int .u64 d.s) ∧ w'.cell? ⟨b13, 3, none⟩ = some (.int .u64 d.i)
theorem TeS.gr {x b13 : Nat} {mn mi : Int} {d : Hd} {W W' : World} {C : List Nat} (h : TeS x b13 mn mi d W) (hb : Gr C W W') (hC : ∀ j ∈ C, j ≠ x ∧ j ≠ b13) : TeS x b13 mn mi d W' := by
  have key : ∀ {b o : Nat} {u : Value}, W.cell? ⟨b, o, none⟩ = some u → b ∉ C → W'.cell? ⟨b, o, none⟩ = some u := fun {b o u} h1 h2 => by
    rw [World.cell?_of_block (w := W) (hb.blk b (World.block_lt_of_cell? W _ h1) h2)]
    exact h1
  have nx : x ∉ C := fun hm => (hC _ hm).1 rfl
  have nb : b13 ∉ C := fun hm => (hC _ hm).2 rfl
  exact ⟨key h.1 nx, key h.2.1 nx, key h.2.2.1 nb, key h.2.2.2.1 nb, key h.2.2.2.2.1 nb, key h.2.2.2.2.2 nb⟩
theorem TeS.step {x b13 : Nat} {mn mi : Int} {d : Hd} {W W' : World} (h : TeS x b13 mn mi d W) (hb : Below W.heap.size W W') : TeS x b13 mn mi d W' := h.gr (C := []) (.of hb) (fun _ h => by cases h)
set_option maxRecDepth 100000 in
set_option maxHeartbeats 8000000 in
theorem td_last (R : Ending → World → Prop) (W : World) (base x b5 b8 b10 g : Nat) (mn mi n i : Int) (V1 V2 bv : Value) (c1 : Cm) (cs : List Cb) (bl : List ((Int × Int) × List Int)) (T : Array Value) (hz : T.size = 135)
    (h0 : T[0]? = some (.pointer (some ⟨x, 0, none⟩))) (h5 : T[5]? = some (.pointer (some ⟨b5, 0, none⟩))) (h8 : T[8]? = some (.pointer (some ⟨b8, 0, none⟩))) (h9 : T[9]? = some (.pointer (some ⟨g, 0, none⟩))) (h10 : T[10]? = some (.pointer (some ⟨b10, 0, none⟩)))
    (bx : BoxAt W x #[.int .i64 mn, .int .u64 mi, V1, V2] 64) (bb5 : BoxAt W b5 #[.int .i64 n, .int .u64 i] 24) (bb8 : BoxAt W b8 #[.slice none 0 0, .slice none 0 0, .slice none 0 0] 52) (bb10 : BoxAt W b10 #[.slice none 0 0, bv, .slice none 0 0] 52) (bg : BoxAt W g (cmcs c1) 115)
    (hcb : CbG base W bv cs) (hcl : cs.map Cb.pl = bl) (hz8 : b8 < base) (hz10 : b10 < base) (hzb : base ≤ W.heap.size) (h810 : b8 ≠ b10) (hx10 : x ≠ b10) (hx8 : x ≠ b8)
    (hR : ∀ e W', (∃ v, e = .returned v ∧ AnsM base W' v ⟨[⟨3, mn, mi, 8, [⟨n, c1.c, c1.g, i⟩], [], 0, 0, 0, []⟩], bl, []⟩ ∧ Gr [b8, b10] W W') → R e W') :
    Code.wp Tryz.prog (cdP [true, true, true, true, true, true] (Tryz.f38.body.getD .skip)) (bodyPost Tryz.prog Tryz.f38 R) ⟨T, []⟩ W := by
  obtain ⟨f, hf, hT'⟩ := frame135 hz
  have HR := hide hR
  subst hT'
  have e0 := hf 0 _ h0
  have e5 := hf 5 _ h5
  have e8 := hf 8 _ h8
  have e9 := hf 9 _ h9
  have e10 := hf 10 _ h10
  rw [e0, e5, e8, e9, e10]
  clear hR hz hf h0 e0 h5 e5 h8 e8 h9 e9 h10 e10
  haveI := bx
  haveI := bb5
  haveI := bb8
  haveI := bb10
  haveI := bg
  haveI : LtN x W.heap.size := ⟨bx.lt⟩
  haveI : LtN b5 W.heap.size := ⟨bb5.lt⟩
  haveI : LtN b8 W.heap.size := ⟨bb8.lt⟩
  haveI : LtN b10 W.heap.size := ⟨bb10.lt⟩
  haveI : LtN g W.heap.size := ⟨bg.lt⟩
  haveI : NeN b8 b10 := ⟨h810⟩
  haveI : NeN b10 b8 := ⟨h810.symm⟩
  have HCB := hide hcb
  have HCL := hide hcl
  have obv : ∃ A c, bv = .slice A cs.length c := by obtain ⟨A, c, e, _⟩ := own_slice hcb.row; exact ⟨A, c, e⟩
  clear hcb hcl
  conv => arg 2; dsimp only [cdP, Tryz.f38, Option.getD]
  conv => arg 4; zeta
  go_upto_region 12 with fail
  go_cut [13] (fun s13 wx => ∃ b13, s13 = .pointer (some ⟨b13, 0, none⟩) ∧ BoxAt wx b13 #[.int .i64 n, .int .u64 c1.c, .int .u64 c1.g, .int .u64 i] 93 ∧ W.heap.size ≤ b13 ∧ Below W.heap.size W wx)
  case first =>
    go_region_held3 (fun w' => w'.cell? ⟨b5, 0, none⟩ = some (.int .i64 n) ∧ w'.cell? ⟨b5, 1, none⟩ = some (.int .u64 i) ∧ w'.cell? ⟨g, 1, none⟩ = some (.int .u64 c1.c) ∧ w'.cell? ⟨g, 2, none⟩ = some (.int .u64 c1.g)) ((refine ⟨?_, ?_, ?_, ?_⟩ <;> (rw [cell?_box]; rfl))) (fail)
    all_goals
      go_wp2
      go_meet
      case rel => exact ⟨_, rfl, inferInstance, by first | omega | (simp; omega) | (simp; done), blw⟩
  case rest =>
    obtain ⟨b13, rfl, hb13, z13, hBa⟩ := hcut
    obtain ⟨wa, rfl⟩ : ∃ wa, wa = wc := ⟨wc, rfl⟩
    haveI : Stp W wa := ⟨hBa⟩
    haveI := hb13
    have hza : base ≤ wa.heap.size := Nat.le_trans hzb hBa.size
    have h1310 : b10 ≠ b13 := by have := bb10.lt; omega
    haveI : LtN b8 wa.heap.size := ⟨Nat.lt_of_lt_of_le bb8.lt hBa.size⟩
    haveI : LtN b10 wa.heap.size := ⟨Nat.lt_of_lt_of_le bb10.lt hBa.size⟩
    clear hBa
    obtain ⟨BVA, bvc, rfl⟩ := obv
    go_upto_region 13 with fail
    have hS0 : TeS x b13 mn mi ⟨n, c1.c, c1.g, i⟩ wa.drew := ⟨by rw [cell?_box]; rfl, by rw [cell?_box]; rfl, by rw [cell?_box]; rfl, by rw [cell?_box]; rfl, by rw [cell?_box]; rfl, by rw [cell?_box]; rfl⟩
    refine wp_region_held_drew (S := TeS x b13 mn mi ⟨n, c1.c, c1.g, i⟩) (by kernel_rfl) hS0 (fun hS => ?_)
    refine wpAnyH_take (i := 0) (v := .pointer (some ⟨b10, 0, none⟩)) rfl (by kernel_rfl) (by kernel_rfl) (by kernel_rfl) (fun _ _ _ h => h) (Or.inl ⟨by rfl, ?_⟩) hS ?_
    · intro w' hSw
      obtain ⟨h1, h2, h3, h4, h5, h6⟩ := hSw
      go_simp
    simp only [Act.put, List.setIfInBounds_toArray, List.set_cons_zero, List.set_cons_succ]
    refine wpAnyH_take (i := 2) (v := .pointer (some ⟨x, 0, none⟩)) rfl (by kernel_rfl) (by kernel_rfl) (by kernel_rfl) (fun _ _ _ h => h) (Or.inl ⟨by rfl, ?_⟩) hS ?_
    · intro w' hSw
      obtain ⟨h1, h2, h3, h4, h5, h6⟩ := hSw
      go_simp
    simp only [Act.put, List.setIfInBounds_toArray, List.set_cons_zero, List.set_cons_succ]
    refine wpAnyH_take (i := 3) (v := .pointer (some ⟨x, 0, none⟩)) rfl (by kernel_rfl) (by kernel_rfl) (by kernel_rfl) (fun _ _ _ h => h) (Or.inl ⟨by rfl, ?_⟩) hS ?_
    · intro w' hSw
      obtain ⟨h1, h2, h3, h4, h5, h6⟩ := hSw
      go_simp
    simp only [Act.put, List.setIfInBounds_toArray, List.set_cons_zero, List.set_cons_succ]
    refine wpAnyH_take (i := 4) (v := .pointer (some ⟨x, 0, none⟩)) rfl (by kernel_rfl) (by kernel_rfl) (by kernel_rfl) (fun _ _ _ h => h) (Or.inl ⟨by rfl, ?_⟩) hS ?_
    · intro w' hSw
      obtain ⟨h1, h2, h3, h4, h5, h6⟩ := hSw
      go_simp
    simp only [Act.put, List.setIfInBounds_toArray, List.set_cons_zero, List.set_cons_succ]
    refine wpAnyH_take (i := 5) (v := .agg #[.int .i64 mn, .int .u64 mi]) rfl (by kernel_rfl) (by kernel_rfl) (by kernel_rfl) (fun _ _ _ h => h) (Or.inl ⟨by rfl, ?_⟩) hS ?_
    · intro w' hSw
      obtain ⟨h1, h2, h3, h4, h5, h6⟩ := hSw
      go_simp
    simp only [Act.put, List.setIfInBounds_toArray, List.set_cons_zero, List.set_cons_succ]
    refine wpAnyH_take (i := 6) (v := .agg #[.int .i64 n, .int .u64 c1.c, .int .u64 c1.g, .int .u64 i]) rfl (by kernel_rfl) (by kernel_rfl) (by kernel_rfl) (fun _ _ _ h => h) (Or.inl ⟨by rfl, ?_⟩) hS ?_
    · intro w' hSw
      obtain ⟨h1, h2, h3, h4, h5, h6⟩ := hSw
      go_simp
    simp only [Act.put, List.setIfInBounds_toArray, List.set_cons_zero, List.set_cons_succ]
    refine wpAnyH_ready (rs := [1, 7]) (by kernel_rfl) (by simp) ?_
    refine AllReadyH.cons rfl (fun K hK => ?_) (AllReadyH.cons rfl (fun K hK => ?_) AllReadyH.nil)
    · go_simp
      refine hK.out _ _ hS (fun hS => ?_)
      clear hK K
      (try simp only [Act.put, List.setIfInBounds_toArray, List.set_cons_zero, List.set_cons_succ])
      refine wpAnyH_ready (rs := [7]) (by kernel_rfl) (by simp) ?_
      refine AllReadyH.cons rfl (fun K hK => ?_) AllReadyH.nil
      go_simp
      refine hK.out _ _ (TeS.step hS (below_alloc _ _)) (fun hS => ?_)
      clear hK K
      (try simp only [Act.put, List.setIfInBounds_toArray, List.set_cons_zero, List.set_cons_succ])
      refine wpAnyH_take (i := 8) (v := .agg #[.int .i64 3, .int .i64 mn, .int .u64 mi, .int .i64 8, .slice (some ⟨wa.heap.size, 0, none⟩) 1 1, .slice none 0 0, .int .i64 0, .int .u64 0, .int .u64 0, .slice none 0 0]) rfl (by kernel_rfl) (by kernel_rfl) (by kernel_rfl) (fun _ _ _ h => h) (Or.inl ⟨by rfl, ?_⟩) hS ?_
      · intro w' hSw
        obtain ⟨h1, h2, h3, h4, h5, h6⟩ := hSw
        go_simp
      simp only [Act.put, List.setIfInBounds_toArray, List.set_cons_zero, List.set_cons_succ]
      refine wpAnyH_ready (rs := [9]) (by kernel_rfl) (by simp) ?_
      refine AllReadyH.cons rfl (fun K hK => ?_) AllReadyH.nil
      go_simp
      refine hK.out _ _ (TeS.step hS (below_alloc _ _)) (fun hS => ?_)
      clear hK K
      (try simp only [Act.put, List.setIfInBounds_toArray, List.set_cons_zero, List.set_cons_succ])
      refine wpAnyH_ready (rs := [10]) (by kernel_rfl) (by simp) ?_
      refine AllReadyH.cons rfl (fun K hK => ?_) AllReadyH.nil
      (refine step_append_x Tryz.okPm rfl (.tmp 123) (.tmp 131) rfl base (.slice none 0 0) 0 [] 1 (pms [(⟨⟨3, mn, mi, 8, [⟨n, c1.c, c1.g, i⟩], [], 0, 0, 0, []⟩, some ⟨wa.heap.size, 0, none⟩, 1, none, 0⟩ : Pm)]) ?_ ?_ ?_ ?_ ?_ ?_ ?_ ?_; go_must ((focus (first | rfl | (simp [Act.eval, Act.put]; done))); (focus (exact World.ownsRow_nil _ _ _ _)); (focus (refine ⟨_, _, by first | rfl | (simp [Act.eval, Act.put]; done), ?_⟩; exact reads_pm1x _ _ (⟨⟨3, mn, mi, 8, [⟨n, c1.c, c1.g, i⟩], [], 0, 0, 0, []⟩, some ⟨wa.heap.size, 0, none⟩, 1, none, 0⟩ : Pm))); (focus (exact pms_one _)); (focus (unfold maxLen; omega)); (focus omega); (focus (first | omega | (simp; done) | (simp; omega) | exact blw.size | exact BoxAt.lt (n := w.heap.size) inferInstance)); intro v7 w7 ho7 hg7 ha7; rw [Nat.zero_add, List.nil_append] at ho7; obtain ⟨A7, c7, rfl, _, _⟩ := own_slice ho7; haveI : Stp _ w7 := ⟨grown_belowT hg7 (Nat.le_refl _) (fun q hq => by cases hq)⟩; have O7 := hide ho7; have hnw : ∀ i ∈ ownL (.slice A7 1 c7), wa.heap.size < i := (fun i hi => by have h8 := mem_ownL.1 hi; rcases ha7 with h9 | h9 <;> rw [h8] at h9 <;> cases h9; exact Nat.lt_of_lt_of_le (Nat.lt_succ_self _) (by simp)); have HNW := hide hnw; refine hK.out _ _ (TeS.step hS (blw (W := w7))) (fun hS => ?_); clear ho7 hg7 ha7 hnw))
      clear hK K
      (try simp only [Act.put, List.setIfInBounds_toArray, List.set_cons_zero, List.set_cons_succ])
      refine wpAnyH_take (i := 11) (v := .pointer (some ⟨b10, 0, none⟩)) rfl (by kernel_rfl) (by kernel_rfl) (by kernel_rfl) (fun _ _ _ h => h) (Or.inl ⟨by rfl, ?_⟩) hS ?_
      · intro w' hSw
        obtain ⟨h1, h2, h3, h4, h5, h6⟩ := hSw
        go_simp
      simp only [Act.put, List.setIfInBounds_toArray, List.set_cons_zero, List.set_cons_succ]
      refine wpAnyH_ready (rs := [12]) (by kernel_rfl) (by simp) ?_
      refine AllReadyH.cons rfl (fun K hK => ?_) AllReadyH.nil
      go_simp
      refine hK.out _ _ (hS.gr (C := [b10]) (Gr.set (m := b10) _ _ _ (by simp)) (by intro i hi; rw [List.mem_singleton] at hi; subst hi; exact ⟨hx10.symm, h1310⟩)) (fun hS => ?_)
      clear hK K
      (try simp only [Act.put, List.setIfInBounds_toArray, List.set_cons_zero, List.set_cons_succ])
      refine wpAnyH_done (by kernel_rfl) ?_ _
      haveI hbh : BoxAt w7 wa.heap.size #[.int .i64 n, .int .u64 c1.c, .int .u64 c1.g, .int .u64 i] 93 := inferInstance
      have hpm : PmP base w7 (ownL (.slice A7 1 c7)) ⟨⟨3, mn, mi, 8, [⟨n, c1.c, c1.g, i⟩], [], 0, 0, 0, []⟩, some ⟨wa.heap.size, 0, none⟩, 1, none, 0⟩ := ⟨⟨reads_hd1x w7 wa.heap.size ⟨n, c1.c, c1.g, i⟩, fun _ a ha hm => by
        have ha' : (⟨wa.heap.size, 0, none⟩ : Addr) = a := Option.some.inj ha
        subst ha'
        exact absurd (HNW.out _ hm) (Nat.lt_irrefl _)⟩, .nil _ _ _ _, fun a ha => by
        have ha' : (⟨wa.heap.size, 0, none⟩ : Addr) = a := Option.some.inj ha
        subst ha'
        exact hza, fun a ha => (by cases ha), rfl, .box hbh, .zero _ _⟩
      have HPG := hide (PmG.mk (base := base) (W := w7) (v := .slice A7 1 c7) (ps := [⟨⟨3, mn, mi, 8, [⟨n, c1.c, c1.g, i⟩], [], 0, 0, 0, []⟩, some ⟨wa.heap.size, 0, none⟩, 1, none, 0⟩]) O7.out (fun p hp => by rw [List.mem_singleton] at hp; subst hp; exact hpm))
      clear hpm hS
      go_wp2
      refine bodyPost_ret (v := .agg #[.slice A7 1 c7, .slice BVA cs.length bvc, .slice none 0 0]) (by simp [results, Tryz.results38, go_sem]) rfl ?_
      have HGW : Hid (Gr [b8, b10] W w7) := hide (Gr.of blw)
      have hst : ∀ (X : World) (u1 u2 u3 u4 : Value), Gr [b8, b10] X ((((X.setCell ⟨b10, 0, none⟩ u1).setCell ⟨b8, 0, none⟩ u2).setCell ⟨b8, 1, none⟩ u3).setCell ⟨b8, 2, none⟩ u4) := fun X u1 u2 u3 u4 => (((Gr.set (m := b10) X 0 u1 (by simp)).trans (Gr.set (m := b8) _ 0 u2 (by simp))).trans (Gr.set (m := b8) _ 1 u3 (by simp))).trans (Gr.set (m := b8) _ 2 u4 (by simp))
      refine HR.out _ _ ⟨_, rfl, ⟨_, _, _, cs, _, rfl, HPG.out.gr (C := [b8, b10]) (hst _ _ _ _ _) (by intro i hi; simp at hi; omega), rfl, (HCB.out.gr HGW.out (by intro i hi; simp at hi; omega)).gr (C := [b8, b10]) (hst _ _ _ _ _) (by intro i hi; simp at hi; omega), HCL.out, World.ownsRow_nil _ _ _ _⟩, HGW.out.trans (hst _ _ _ _ _)⟩
    · go_simp
      refine hK.out _ _ (TeS.step hS (below_alloc _ _)) (fun hS => ?_)
      clear hK K
      (try simp only [Act.put, List.setIfInBounds_toArray, List.set_cons_zero, List.set_cons_succ])
      refine wpAnyH_take (i := 8) (v := .agg #[.int .i64 3, .int .i64 mn, .int .u64 mi, .int .i64 8, .slice (some ⟨wa.heap.size, 0, none⟩) 1 1, .slice none 0 0, .int .i64 0, .int .u64 0, .int .u64 0, .slice none 0 0]) rfl (by kernel_rfl) (by kernel_rfl) (by kernel_rfl) (fun _ _ _ h => h) (Or.inl ⟨by rfl, ?_⟩) hS ?_
      · intro w' hSw
        obtain ⟨h1, h2, h3, h4, h5, h6⟩ := hSw
        go_simp
      simp only [Act.put, List.setIfInBounds_toArray, List.set_cons_zero, List.set_cons_succ]
      refine wpAnyH_ready (rs := [1, 9]) (by kernel_rfl) (by simp) ?_
      refine AllReadyH.cons rfl (fun K hK => ?_) (AllReadyH.cons rfl (fun K hK => ?_) AllReadyH.nil)
      · go_simp
        refine hK.out _ _ hS (fun hS => ?_)
        clear hK K
        (try simp only [Act.put, List.setIfInBounds_toArray, List.set_cons_zero, List.set_cons_succ])
        refine wpAnyH_ready (rs := [9]) (by kernel_rfl) (by simp) ?_
        refine AllReadyH.cons rfl (fun K hK => ?_) AllReadyH.nil
        go_simp
        refine hK.out _ _ (TeS.step hS (below_alloc _ _)) (fun hS => ?_)
        clear hK K
        (try simp only [Act.put, List.setIfInBounds_toArray, List.set_cons_zero, List.set_cons_succ])
        refine wpAnyH_ready (rs := [10]) (by kernel_rfl) (by simp) ?_
        refine AllReadyH.cons rfl (fun K hK => ?_) AllReadyH.nil
        (refine step_append_x Tryz.okPm rfl (.tmp 123) (.tmp 131) rfl base (.slice none 0 0) 0 [] 1 (pms [(⟨⟨3, mn, mi, 8, [⟨n, c1.c, c1.g, i⟩], [], 0, 0, 0, []⟩, some ⟨wa.heap.size, 0, none⟩, 1, none, 0⟩ : Pm)]) ?_ ?_ ?_ ?_ ?_ ?_ ?_ ?_; go_must ((focus (first | rfl | (simp [Act.eval, Act.put]; done))); (focus (exact World.ownsRow_nil _ _ _ _)); (focus (refine ⟨_, _, by first | rfl | (simp [Act.eval, Act.put]; done), ?_⟩; exact reads_pm1x _ _ (⟨⟨3, mn, mi, 8, [⟨n, c1.c, c1.g, i⟩], [], 0, 0, 0, []⟩, some ⟨wa.heap.size, 0, none⟩, 1, none, 0⟩ : Pm))); (focus (exact pms_one _)); (focus (unfold maxLen; omega)); (focus omega); (focus (first | omega | (simp; done) | (simp; omega) | exact blw.size | exact BoxAt.lt (n := w.heap.size) inferInstance)); intro v7 w7 ho7 hg7 ha7; rw [Nat.zero_add, List.nil_append] at ho7; obtain ⟨A7, c7, rfl, _, _⟩ := own_slice ho7; haveI : Stp _ w7 := ⟨grown_belowT hg7 (Nat.le_refl _) (fun q hq => by cases hq)⟩; have O7 := hide ho7; have hnw : ∀ i ∈ ownL (.slice A7 1 c7), wa.heap.size < i := (fun i hi => by have h8 := mem_ownL.1 hi; rcases ha7 with h9 | h9 <;> rw [h8] at h9 <;> cases h9; exact Nat.lt_of_lt_of_le (Nat.lt_succ_self _) (by simp)); have HNW := hide hnw; refine hK.out _ _ (TeS.step hS (blw (W := w7))) (fun hS => ?_); clear ho7 hg7 ha7 hnw))
        clear hK K
        (try simp only [Act.put, List.setIfInBounds_toArray, List.set_cons_zero, List.set_cons_succ])
        refine wpAnyH_take (i := 11) (v := .pointer (some ⟨b10, 0, none⟩)) rfl (by kernel_rfl) (by kernel_rfl) (by kernel_rfl) (fun _ _ _ h => h) (Or.inl ⟨by rfl, ?_⟩) hS ?_
        · intro w' hSw
          obtain ⟨h1, h2, h3, h4, h5, h6⟩ := hSw
          go_simp
        simp only [Act.put, List.setIfInBounds_toArray, List.set_cons_zero, List.set_cons_succ]
        refine wpAnyH_ready (rs := [12]) (by kernel_rfl) (by simp) ?_
        refine AllReadyH.cons rfl (fun K hK => ?_) AllReadyH.nil
        go_simp
        refine hK.out _ _ (hS.gr (C := [b10]) (Gr.set (m := b10) _ _ _ (by simp)) (by intro i hi; rw [List.mem_singleton] at hi; subst hi; exact ⟨hx10.symm, h1310⟩)) (fun hS => ?_)
        clear hK K
        (try simp only [Act.put, List.setIfInBounds_toArray, List.set_cons_zero, List.set_cons_succ])
        refine wpAnyH_done (by kernel_rfl) ?_ _
        haveI hbh : BoxAt w7 wa.heap.size #[.int .i64 n, .int .u64 c1.c, .int .u64 c1.g, .int .u64 i] 93 := inferInstance
        have hpm : PmP base w7 (ownL (.slice A7 1 c7)) ⟨⟨3, mn, mi, 8, [⟨n, c1.c, c1.g, i⟩], [], 0, 0, 0, []⟩, some ⟨wa.heap.size, 0, none⟩, 1, none, 0⟩ := ⟨⟨reads_hd1x w7 wa.heap.size ⟨n, c1.c, c1.g, i⟩, fun _ a ha hm => by
          have ha' : (⟨wa.heap.size, 0, none⟩ : Addr) = a := Option.some.inj ha
          subst ha'
          exact absurd (HNW.out _ hm) (Nat.lt_irrefl _)⟩, .nil _ _ _ _, fun a ha => by
          have ha' : (⟨wa.heap.size, 0, none⟩ : Addr) = a := Option.some.inj ha
          subst ha'
          exact hza, fun a ha => (by cases ha), rfl, .box hbh, .zero _ _⟩
        have HPG := hide (PmG.mk (base := base) (W := w7) (v := .slice A7 1 c7) (ps := [⟨⟨3, mn, mi, 8, [⟨n, c1.c, c1.g, i⟩], [], 0, 0, 0, []⟩, some ⟨wa.heap.size, 0, none⟩, 1, none, 0⟩]) O7.out (fun p hp => by rw [List.mem_singleton] at hp; subst hp; exact hpm))
        clear hpm hS
        go_wp2
        refine bodyPost_ret (v := .agg #[.slice A7 1 c7, .slice BVA cs.length bvc, .slice none 0 0]) (by simp [results, Tryz.results38, go_sem]) rfl ?_
        have HGW : Hid (Gr [b8, b10] W w7) := hide (Gr.of blw)
        have hst : ∀ (X : World) (u1 u2 u3 u4 : Value), Gr [b8, b10] X ((((X.setCell ⟨b10, 0, none⟩ u1).setCell ⟨b8, 0, none⟩ u2).setCell ⟨b8, 1, none⟩ u3).setCell ⟨b8, 2, none⟩ u4) := fun X u1 u2 u3 u4 => (((Gr.set (m := b10) X 0 u1 (by simp)).trans (Gr.set (m := b8) _ 0 u2 (by simp))).trans (Gr.set (m := b8) _ 1 u3 (by simp))).trans (Gr.set (m := b8) _ 2 u4 (by simp))
        refine HR.out _ _ ⟨_, rfl, ⟨_, _, _, cs, _, rfl, HPG.out.gr (C := [b8, b10]) (hst _ _ _ _ _) (by intro i hi; simp at hi; omega), rfl, (HCB.out.gr HGW.out (by intro i hi; simp at hi; omega)).gr (C := [b8, b10]) (hst _ _ _ _ _) (by intro i hi; simp at hi; omega), HCL.out, World.ownsRow_nil _ _ _ _⟩, HGW.out.trans (hst _ _ _ _ _)⟩
      · go_simp
        refine hK.out _ _ (TeS.step hS (below_alloc _ _)) (fun hS => ?_)
        clear hK K
        (try simp only [Act.put, List.setIfInBounds_toArray, List.set_cons_zero, List.set_cons_succ])
        refine wpAnyH_ready (rs := [1]) (by kernel_rfl) (by simp) ?_
        refine AllReadyH.cons rfl (fun K hK => ?_) AllReadyH.nil
        go_simp
        refine hK.out _ _ hS (fun hS => ?_)
        clear hK K
        (try simp only [Act.put, List.setIfInBounds_toArray, List.set_cons_zero, List.set_cons_succ])
        refine wpAnyH_ready (rs := [10]) (by kernel_rfl) (by simp) ?_
        refine AllReadyH.cons rfl (fun K hK => ?_) AllReadyH.nil
        (refine step_append_x Tryz.okPm rfl (.tmp 123) (.tmp 131) rfl base (.slice none 0 0) 0 [] 1 (pms [(⟨⟨3, mn, mi, 8, [⟨n, c1.c, c1.g, i⟩], [], 0, 0, 0, []⟩, some ⟨wa.heap.size, 0, none⟩, 1, none, 0⟩ : Pm)]) ?_ ?_ ?_ ?_ ?_ ?_ ?_ ?_; go_must ((focus (first | rfl | (simp [Act.eval, Act.put]; done))); (focus (exact World.ownsRow_nil _ _ _ _)); (focus (refine ⟨_, _, by first | rfl | (simp [Act.eval, Act.put]; done), ?_⟩; exact reads_pm1x _ _ (⟨⟨3, mn, mi, 8, [⟨n, c1.c, c1.g, i⟩], [], 0, 0, 0, []⟩, some ⟨wa.heap.size, 0, none⟩, 1, none, 0⟩ : Pm))); (focus (exact pms_one _)); (focus (unfold maxLen; omega)); (focus omega); (focus (first | omega | (simp; done) | (simp; omega) | exact blw.size | exact BoxAt.lt (n := w.heap.size) inferInstance)); intro v7 w7 ho7 hg7 ha7; rw [Nat.zero_add, List.nil_append] at ho7; obtain ⟨A7, c7, rfl, _, _⟩ := own_slice ho7; haveI : Stp _ w7 := ⟨grown_belowT hg7 (Nat.le_refl _) (fun q hq => by cases hq)⟩; have O7 := hide ho7; have hnw : ∀ i ∈ ownL (.slice A7 1 c7), wa.heap.size < i := (fun i hi => by have h8 := mem_ownL.1 hi; rcases ha7 with h9 | h9 <;> rw [h8] at h9 <;> cases h9; exact Nat.lt_of_lt_of_le (Nat.lt_succ_self _) (by simp)); have HNW := hide hnw; refine hK.out _ _ (TeS.step hS (blw (W := w7))) (fun hS => ?_); clear ho7 hg7 ha7 hnw))
        clear hK K
        (try simp only [Act.put, List.setIfInBounds_toArray, List.set_cons_zero, List.set_cons_succ])
        refine wpAnyH_take (i := 11) (v := .pointer (some ⟨b10, 0, none⟩)) rfl (by kernel_rfl) (by kernel_rfl) (by kernel_rfl) (fun _ _ _ h => h) (Or.inl ⟨by rfl, ?_⟩) hS ?_
        · intro w' hSw
          obtain ⟨h1, h2, h3, h4, h5, h6⟩ := hSw
          go_simp
        simp only [Act.put, List.setIfInBounds_toArray, List.set_cons_zero, List.set_cons_succ]
        refine wpAnyH_ready (rs := [12]) (by kernel_rfl) (by simp) ?_
        refine AllReadyH.cons rfl (fun K hK => ?_) AllReadyH.nil
        go_simp
        refine hK.out _ _ (hS.gr (C := [b10]) (Gr.set (m := b10) _ _ _ (by simp)) (by intro i hi; rw [List.mem_singleton] at hi; subst hi; exact ⟨hx10.symm, h1310⟩)) (fun hS => ?_)
        clear hK K
        (try simp only [Act.put, List.setIfInBounds_toArray, List.set_cons_zero, List.set_cons_succ])
        refine wpAnyH_done (by kernel_rfl) ?_ _
        haveI hbh : BoxAt w7 wa.heap.size #[.int .i64 n, .int .u64 c1.c, .int .u64 c1.g, .int .u64 i] 93 := inferInstance
        have hpm : PmP base w7 (ownL (.slice A7 1 c7)) ⟨⟨3, mn, mi, 8, [⟨n, c1.c, c1.g, i⟩], [], 0, 0, 0, []⟩, some ⟨wa.heap.size, 0, none⟩, 1, none, 0⟩ := ⟨⟨reads_hd1x w7 wa.heap.size ⟨n, c1.c, c1.g, i⟩, fun _ a ha hm => by
          have ha' : (⟨wa.heap.size, 0, none⟩ : Addr) = a := Option.some.inj ha
          subst ha'
          exact absurd (HNW.out _ hm) (Nat.lt_irrefl _)⟩, .nil _ _ _ _, fun a ha => by
          have ha' : (⟨wa.heap.size, 0, none⟩ : Addr) = a := Option.some.inj ha
          subst ha'
          exact hza, fun a ha => (by cases ha), rfl, .box hbh, .zero _ _⟩
        have HPG := hide (PmG.mk (base := base) (W := w7) (v := .slice A7 1 c7) (ps := [⟨⟨3, mn, mi, 8, [⟨n, c1.c, c1.g, i⟩], [], 0, 0, 0, []⟩, some ⟨wa.heap.size, 0, none⟩, 1, none, 0⟩]) O7.out (fun p hp => by rw [List.mem_singleton] at hp; subst hp; exact hpm))
        clear hpm hS
        go_wp2
        refine bodyPost_ret (v := .agg #[.slice A7 1 c7, .slice BVA cs.length bvc, .slice none 0 0]) (by simp [results, Tryz.results38, go_sem]) rfl ?_
        have HGW : Hid (Gr [b8, b10] W w7) := hide (Gr.of blw)
        have hst : ∀ (X : World) (u1 u2 u3 u4 : Value), Gr [b8, b10] X ((((X.setCell ⟨b10, 0, none⟩ u1).setCell ⟨b8, 0, none⟩ u2).setCell ⟨b8, 1, none⟩ u3).setCell ⟨b8, 2, none⟩ u4) := fun X u1 u2 u3 u4 => (((Gr.set (m := b10) X 0 u1 (by simp)).trans (Gr.set (m := b8) _ 0 u2 (by simp))).trans (Gr.set (m := b8) _ 1 u3 (by simp))).trans (Gr.set (m := b8) _ 2 u4 (by simp))
        refine HR.out _ _ ⟨_, rfl, ⟨_, _, _, cs, _, rfl, HPG.out.gr (C := [b8, b10]) (hst _ _ _ _ _) (by intro i hi; simp at hi; omega), rfl, (HCB.out.gr HGW.out (by intro i hi; simp at hi; omega)).gr (C := [b8, b10]) (hst _ _ _ _ _) (by intro i hi; simp at hi; omega), HCL.out, World.ownsRow_nil _ _ _ _⟩, HGW.out.trans (hst _ _ _ _ _)⟩
end Go.Proofs.YtniogmefbjfoaaaGreat

namespace Go.Proofs.YtniogmefbjfoaaaGreat
set_option linter.unusedSimpArgs false
set_option linter.unusedVariables false
set_option linter.unusedSectionVars false
open Go.RowKit Go.Maps

/-- the life in its box -/
def TdS (b5 : Nat) (n i : Int) (w' : World) : Prop := w'.cell? ⟨b5, 0, none⟩ = some (.int .i64 n) ∧ w'.cell? ⟨b5, 1, none⟩ = some (.int .u64 i)
theorem TdS.gr {b5 : Nat} {n i : Int} {W W' : World} {C : List Nat} (h : TdS b5 n i W) (hb : Gr C W W') (hC : ∀ j ∈ C, j ≠ b5) : TdS b5 n i W' := by
  have key : ∀ {o : Nat} {u : Value}, W.cell? ⟨b5, o, none⟩ = some u → W'.cell? ⟨b5, o, none⟩ = some u := fun {o u} h1 => by
    rw [World.cell?_of_block (w := W) (hb.blk b5 (World.block_lt_of_cell? W _ h1) (fun hm => hC _ hm rfl))]
    exact h1
  exact ⟨key h.1, key h.2⟩
theorem TdS.step {b5 : Nat} {n i : Int} {W W' : World} (h : TdS b5 n i W) (hb : Below W.heap.size W W') : TdS b5 n i W' := h.gr (C := []) (.of hb) (fun _ h => by cases h)
/-- what comes when a text's packet is taken, the row being c0 -/
def tdC (c0 : Cm) (s : Int) : Cm := { c0 with g := nextG c0.g s }
def tdA (m n i : Int) (mi : Int) (c0 : Cm) (s : Int) (body : List Int) : An := ⟨[⟨3, m, mi, 8, [⟨n, (tdC c0 s).c, (tdC c0 s).g, i⟩], [], 0, 0, 0, []⟩], if nextB c0.g s then [((n, i), body)] else [], []⟩
def RetTdE (W : World) (g : Nat) (c1 : Cm) (a : An) (e : Ending) (W' : World) : Prop := ∃ v, e = .returned v ∧ AnsM W.heap.size W' v a ∧ BoxAt W' g (cmcs c1) 115 ∧ Gr [g] W W'
set_option maxRecDepth 100000 in
set_option maxHeartbeats 8000000 in
theorem td_end (R : Ending → World → Prop) (W : World) (x b5 b6 b8 g : Nat) (mn mi n i d hcn s hin : Int) (V1 V2 : Value) (c0 : Cm) (BA : Option Addr) (bc : Nat) (bs : List Int) (T : Array Value) (hz : T.size = 135)
    (h0 : T[0]? = some (.pointer (some ⟨x, 0, none⟩))) (h3 : T[3]? = some (.slice BA bs.length bc)) (h5 : T[5]? = some (.pointer (some ⟨b5, 0, none⟩))) (h6 : T[6]? = some (.pointer (some ⟨b6, 0, none⟩))) (h8 : T[8]? = some (.pointer (some ⟨b8, 0, none⟩))) (h9 : T[9]? = some (.pointer (some ⟨g, 0, none⟩)))
    (bx : BoxAt W x #[.int .i64 mn, .int .u64 mi, V1, V2] 64) (bb5 : BoxAt W b5 #[.int .i64 n, .int .u64 i] 24) (bb6 : BoxAt W b6 #[.int .i64 d, .int .u64 hcn, .int .u64 s, .int .u64 hin] 93) (bb8 : BoxAt W b8 #[.slice none 0 0, .slice none 0 0, .slice none 0 0] 52) (bg : BoxAt W g (cmcs c0) 115)
    (hne : b8 ≠ g) (hxg : x ≠ g) (h5g : b5 ≠ g) (h6g : b6 ≠ g) (hx8 : x ≠ b8) (h58 : b5 ≠ b8) (h68 : b6 ≠ b8) (hB : RO W [g, b8] 1 BA bs.length (bcs bs)) (hbl : bs.length ≤ 1000000) (s0 : 0 ≤ s) (s1 : s ≤ 18446744073709551615)
    (hR : ∀ e W', (∃ v, e = .returned v ∧ AnsM W.heap.size W' v (tdA mn n i mi c0 s bs) ∧ BoxAt W' g (cmcs (tdC c0 s)) 115 ∧ Gr [g, b8] W W') → R e W') :
    Code.wp Tryz.prog (cdP [true, true, true, true] (Tryz.f38.body.getD .skip)) (bodyPost Tryz.prog Tryz.f38 R) ⟨T, []⟩ W := by
  obtain ⟨f, hf, hT'⟩ := frame135 hz
  have HR := hide hR
  subst hT'
  have e0 := hf 0 _ h0
  have e3 := hf 3 _ h3
  have e5 := hf 5 _ h5
  have e6 := hf 6 _ h6
  have e8 := hf 8 _ h8
  have e9 := hf 9 _ h9
  rw [e0, e3, e5, e6, e8, e9]
  clear hR hz hf h0 e0 h3 e3 h5 e5 h6 e6 h8 e8 h9 e9
  haveI := bx
  haveI := bb5
  haveI := bb6
  haveI := bb8
  haveI := bg
  haveI : LtN x W.heap.size := ⟨bx.lt⟩
  haveI : LtN b5 W.heap.size := ⟨bb5.lt⟩
  haveI : LtN b6 W.heap.size := ⟨bb6.lt⟩
  haveI : LtN b8 W.heap.size := ⟨bb8.lt⟩
  haveI : LtN g W.heap.size := ⟨bg.lt⟩
  haveI : NeN b8 g := ⟨hne⟩
  haveI : NeN x g := ⟨hxg⟩
  haveI : NeN b5 g := ⟨h5g⟩
  haveI : NeN b6 g := ⟨h6g⟩
  have SB := hide hB
  clear hB
  conv => arg 2; dsimp only [cdP, Tryz.f38, Option.getD]
  have hng := wtake_s c0.g s s0 s1
  cases hnb : nextB c0.g s with
  | true =>
    have eg : nextG c0.g s = s := by unfold nextG; rw [hnb]; rfl
    rw [hnb, eg] at hng
    have TT := hide hng
    have HNB := hide hnb
    have HEG := hide eg
    clear hng hnb eg
    haveI : LeN (W.alloc (.cells #[.slice none 0 0, .slice none 0 0, .slice none 0 0] 52)).heap.size (W.heap.size + 1) := ⟨by simp⟩
    go_upto_region 8 with fail
    go_cut [11, 12] (fun s11 s12 wx => ∃ b11, s11 = .pointer (some ⟨b11, 0, none⟩) ∧ s12 = .bool true ∧ BoxAt wx b11 #[.int .u64 s] 76 ∧ W.heap.size < b11 ∧ Below (W.alloc (.cells #[.slice none 0 0, .slice none 0 0, .slice none 0 0] 52)).heap.size (W.alloc (.cells #[.slice none 0 0, .slice none 0 0, .slice none 0 0] 52)) wx)
    case first =>
      go_region_held3 (fun w' => w'.cell? ⟨g, 2, none⟩ = some (.int .u64 c0.g) ∧ w'.cell? ⟨b6, 2, none⟩ = some (.int .u64 s)) ((refine ⟨?_, ?_⟩ <;> (rw [cell?_box]; rfl)))
        (first | (go_at_call 61; (with_reducible refine (TT.out _).mono ?_); rintro e w1 ⟨rfl, hb1⟩; haveI : Stp _ w1 := ⟨hb1⟩; have z1 : W.heap.size < w1.heap.size := BoxAt.lt (w := w1) (n := W.heap.size) inferInstance; clear hb1) | fail)
      all_goals
        go_wp2
        go_meet
        case rel => exact ⟨_, rfl, rfl, inferInstance, by first | omega | (simp; omega) | (simp; done), blw⟩
    case rest =>
      obtain ⟨b11, rfl, rfl, hb11, z11, hBa⟩ := hcut
      obtain ⟨wa, rfl⟩ : ∃ wa, wa = wc := ⟨wc, rfl⟩
      have hSa := hBa
      haveI : Stp (W.alloc (.cells #[.slice none 0 0, .slice none 0 0, .slice none 0 0] 52)) wa := ⟨hSa⟩
      haveI := hb11
      have za := hSa.size
      simp only [World.size_alloc] at za
      haveI : LtN W.heap.size b11 := ⟨z11⟩
      clear hBa hSa TT
      go_upto_region 11 with fail
      go_cut [106] (fun _ wx => ∃ bv cs, BoxAt wx W.heap.size #[.slice none 0 0, bv, .slice none 0 0] 52 ∧ CbG (W.heap.size + 1) wx bv cs ∧ cs.map Cb.pl = [((n, i), bs)] ∧ Gr [W.heap.size] (wa.setCell ⟨g, 2, none⟩ (.int .u64 s)) wx)
      case first =>
        have hS0 : TdS b5 n i (wa.setCell ⟨g, 2, none⟩ (.int .u64 s)).drew := ⟨by rw [cell?_box]; rfl, by rw [cell?_box]; rfl⟩
        refine wp_region_held_drew (S := TdS b5 n i) (by kernel_rfl) hS0 (fun hS => ?_)
        refine wpAnyH_take (i := 0) (v := .pointer (some ⟨W.heap.size, 1, none⟩)) rfl (by kernel_rfl) (by kernel_rfl) (by kernel_rfl) (fun _ _ _ h => h) (Or.inl ⟨by rfl, ?_⟩) hS ?_
        · intro w' hSw
          obtain ⟨h1, h2⟩ := hSw
          go_simp
        simp only [Act.put, List.setIfInBounds_toArray, List.set_cons_zero, List.set_cons_succ]
        refine wpAnyH_take (i := 2) (v := .agg #[.int .i64 n, .int .u64 i]) rfl (by kernel_rfl) (by kernel_rfl) (by kernel_rfl) (fun _ _ _ h => h) (Or.inl ⟨by rfl, ?_⟩) hS ?_
        · intro w' hSw
          obtain ⟨h1, h2⟩ := hSw
          go_simp
        simp only [Act.put, List.setIfInBounds_toArray, List.set_cons_zero, List.set_cons_succ]
        refine wpAnyH_take (i := 3) (v := .slice BA bs.length bc) rfl (by kernel_rfl) (by kernel_rfl) (by kernel_rfl) (fun _ _ _ h => h) (Or.inl ⟨by rfl, ?_⟩) hS ?_
        · intro w' hSw
          obtain ⟨h1, h2⟩ := hSw
          go_simp
        simp only [Act.put, List.setIfInBounds_toArray, List.set_cons_zero, List.set_cons_succ]
        refine wpAnyH_ready (rs := [1, 4]) (by kernel_rfl) (by simp) ?_
        refine AllReadyH.cons rfl (fun K hK => ?_) (AllReadyH.cons rfl (fun K hK => ?_) AllReadyH.nil)
        · go_simp
          refine hK.out _ _ hS (fun hS => ?_)
          clear hK K
          (try simp only [Act.put, List.setIfInBounds_toArray, List.set_cons_zero, List.set_cons_succ])
          refine wpAnyH_ready (rs := [4]) (by kernel_rfl) (by simp) ?_
          refine AllReadyH.cons rfl (fun K hK => ?_) AllReadyH.nil
          go_simp
          refine (cloneB_s BA bc bs _ (RO.tc (C := [g, b8]) SB.out).1 hbl).mono ?_
          rintro e w3 ⟨v3, rfl, ho3, hb3⟩
          haveI : Stp _ w3 := ⟨hb3⟩
          obtain ⟨A3, c3, rfl, _, _⟩ := own_slice ho3
          have HC := hide ho3
          refine hK.out _ _ (TdS.step hS hb3) (fun hS => ?_)
          clear ho3 hb3
          clear hK K
          (try simp only [Act.put, List.setIfInBounds_toArray, List.set_cons_zero, List.set_cons_succ])
          refine wpAnyH_take (i := 5) (v := .agg #[.int .i64 n, .int .u64 i, .slice A3 bs.length c3]) rfl (by kernel_rfl) (by kernel_rfl) (by kernel_rfl) (fun _ _ _ h => h) (Or.inl ⟨by rfl, ?_⟩) hS ?_
          · intro w' hSw
            obtain ⟨h1, h2⟩ := hSw
            go_simp
          simp only [Act.put, List.setIfInBounds_toArray, List.set_cons_zero, List.set_cons_succ]
          refine wpAnyH_ready (rs := [6]) (by kernel_rfl) (by simp) ?_
          refine AllReadyH.cons rfl (fun K hK => ?_) AllReadyH.nil
          go_simp
          refine hK.out _ _ (TdS.step hS (below_alloc _ _)) (fun hS => ?_)
          clear hK K
          (try simp only [Act.put, List.setIfInBounds_toArray, List.set_cons_zero, List.set_cons_succ])
          refine wpAnyH_ready (rs := [7]) (by kernel_rfl) (by simp) ?_
          refine AllReadyH.cons rfl (fun K hK => ?_) AllReadyH.nil
          have zw3 : W.heap.size + 1 ≤ w3.heap.size := BoxAt.lt (w := w3) (n := W.heap.size) inferInstance
          (refine step_append_x Tryz.okCb rfl (.tmp 100) (.tmp 105) rfl (W.heap.size + 1) (.slice none 0 0) 0 [] 1 (cbs [⟨n, i, ⟨A3, c3, bs⟩⟩]) ?_ ?_ ?_ ?_ ?_ ?_ ?_ ?_; go_must ((focus (first | rfl | (simp [Act.eval, Act.put]; done))); (focus (exact World.ownsRow_nil _ _ _ _)); (focus (refine ⟨_, _, by first | rfl | (simp [Act.eval, Act.put]; done), ?_⟩; exact reads_cb1x _ _ ⟨n, i, ⟨A3, c3, bs⟩⟩)); (focus (exact cbs_one _)); (focus (unfold maxLen; omega)); (focus omega); (focus (first | omega | (simp; done) | (simp; omega) | exact blw.size | exact BoxAt.lt (n := w.heap.size) inferInstance)); intro v7 w7 ho7 hg7 ha7; rw [Nat.zero_add, List.nil_append] at ho7; obtain ⟨A7, c7, rfl, _, _⟩ := own_slice ho7; haveI : Stp _ w7 := ⟨grown_belowT hg7 (Nat.le_refl _) (fun q hq => by cases hq)⟩; have O7 := hide ho7; have B7 := hide (BdP.tr (BdP.own2 HC.out (E := ownL (.slice A7 1 c7)) (fun i hi => by have h8 := mem_ownL.1 hi; rcases ha7 with h9 | h9 <;> rw [h8] at h9 <;> cases h9; exact Blw.size (a := w3) inferInstance) (W.heap.size + 1) (BoxAt.lt (n := W.heap.size) inferInstance)) (.bel (blw (a := w3) (W := w7)))); refine hK.out _ _ (TdS.step hS (blw (W := w7))) (fun hS => ?_); clear ho7 hg7 ha7))
          clear hK K
          (try simp only [Act.put, List.setIfInBounds_toArray, List.set_cons_zero, List.set_cons_succ])
          refine wpAnyH_take (i := 8) (v := .pointer (some ⟨W.heap.size, 1, none⟩)) rfl (by kernel_rfl) (by kernel_rfl) (by kernel_rfl) (fun _ _ _ h => h) (Or.inl ⟨by rfl, ?_⟩) hS ?_
          · intro w' hSw
            obtain ⟨h1, h2⟩ := hSw
            go_simp
          simp only [Act.put, List.setIfInBounds_toArray, List.set_cons_zero, List.set_cons_succ]
          refine wpAnyH_ready (rs := [9]) (by kernel_rfl) (by simp) ?_
          refine AllReadyH.cons rfl (fun K hK => ?_) AllReadyH.nil
          go_simp
          refine hK.out _ _ (hS.gr (C := [W.heap.size]) (Gr.set (m := W.heap.size) _ _ _ (by simp)) (by intro i hi; rw [List.mem_singleton] at hi; subst hi; exact Nat.ne_of_gt bb5.lt)) (fun hS => ?_)
          clear hK K
          (try simp only [Act.put, List.setIfInBounds_toArray, List.set_cons_zero, List.set_cons_succ])
          refine wpAnyH_done (by kernel_rfl) ?_ _
          go_wp2
          go_meet
          case rel => exact ⟨_, [⟨n, i, ⟨A3, c3, bs⟩⟩], inferInstance, CbG.gr (C := [W.heap.size]) ⟨O7.out, fun p hp => by rw [List.mem_singleton] at hp; subst hp; exact B7.out⟩ (Gr.set (m := W.heap.size) _ _ _ (by simp)) (by simp), rfl, (Gr.of (C := [W.heap.size]) (blw (W := w7))).trans (Gr.set (m := W.heap.size) _ _ _ (by simp))⟩
        · go_simp
          refine (cloneB_s BA bc bs _ (RO.tc (C := [g, b8]) SB.out).1 hbl).mono ?_
          rintro e w3 ⟨v3, rfl, ho3, hb3⟩
          haveI : Stp _ w3 := ⟨hb3⟩
          obtain ⟨A3, c3, rfl, _, _⟩ := own_slice ho3
          have HC := hide ho3
          refine hK.out _ _ (TdS.step hS hb3) (fun hS => ?_)
          clear ho3 hb3
          clear hK K
          (try simp only [Act.put, List.setIfInBounds_toArray, List.set_cons_zero, List.set_cons_succ])
          refine wpAnyH_take (i := 5) (v := .agg #[.int .i64 n, .int .u64 i, .slice A3 bs.length c3]) rfl (by kernel_rfl) (by kernel_rfl) (by kernel_rfl) (fun _ _ _ h => h) (Or.inl ⟨by rfl, ?_⟩) hS ?_
          · intro w' hSw
            obtain ⟨h1, h2⟩ := hSw
            go_simp
          simp only [Act.put, List.setIfInBounds_toArray, List.set_cons_zero, List.set_cons_succ]
          refine wpAnyH_ready (rs := [1, 6]) (by kernel_rfl) (by simp) ?_
          refine AllReadyH.cons rfl (fun K hK => ?_) (AllReadyH.cons rfl (fun K hK => ?_) AllReadyH.nil)
          · go_simp
            refine hK.out _ _ hS (fun hS => ?_)
            clear hK K
            (try simp only [Act.put, List.setIfInBounds_toArray, List.set_cons_zero, List.set_cons_succ])
            refine wpAnyH_ready (rs := [6]) (by kernel_rfl) (by simp) ?_
            refine AllReadyH.cons rfl (fun K hK => ?_) AllReadyH.nil
            go_simp
            refine hK.out _ _ (TdS.step hS (below_alloc _ _)) (fun hS => ?_)
            clear hK K
            (try simp only [Act.put, List.setIfInBounds_toArray, List.set_cons_zero, List.set_cons_succ])
            refine wpAnyH_ready (rs := [7]) (by kernel_rfl) (by simp) ?_
            refine AllReadyH.cons rfl (fun K hK => ?_) AllReadyH.nil
            have zw3 : W.heap.size + 1 ≤ w3.heap.size := BoxAt.lt (w := w3) (n := W.heap.size) inferInstance
            (refine step_append_x Tryz.okCb rfl (.tmp 100) (.tmp 105) rfl (W.heap.size + 1) (.slice none 0 0) 0 [] 1 (cbs [⟨n, i, ⟨A3, c3, bs⟩⟩]) ?_ ?_ ?_ ?_ ?_ ?_ ?_ ?_; go_must ((focus (first | rfl | (simp [Act.eval, Act.put]; done))); (focus (exact World.ownsRow_nil _ _ _ _)); (focus (refine ⟨_, _, by first | rfl | (simp [Act.eval, Act.put]; done), ?_⟩; exact reads_cb1x _ _ ⟨n, i, ⟨A3, c3, bs⟩⟩)); (focus (exact cbs_one _)); (focus (unfold maxLen; omega)); (focus omega); (focus (first | omega | (simp; done) | (simp; omega) | exact blw.size | exact BoxAt.lt (n := w.heap.size) inferInstance)); intro v7 w7 ho7 hg7 ha7; rw [Nat.zero_add, List.nil_append] at ho7; obtain ⟨A7, c7, rfl, _, _⟩ := own_slice ho7; haveI : Stp _ w7 := ⟨grown_belowT hg7 (Nat.le_refl _) (fun q hq => by cases hq)⟩; have O7 := hide ho7; have B7 := hide (BdP.tr (BdP.own2 HC.out (E := ownL (.slice A7 1 c7)) (fun i hi => by have h8 := mem_ownL.1 hi; rcases ha7 with h9 | h9 <;> rw [h8] at h9 <;> cases h9; exact Blw.size (a := w3) inferInstance) (W.heap.size + 1) (BoxAt.lt (n := W.heap.size) inferInstance)) (.bel (blw (a := w3) (W := w7)))); refine hK.out _ _ (TdS.step hS (blw (W := w7))) (fun hS => ?_); clear ho7 hg7 ha7))
            clear hK K
            (try simp only [Act.put, List.setIfInBounds_toArray, List.set_cons_zero, List.set_cons_succ])
            refine wpAnyH_take (i := 8) (v := .pointer (some ⟨W.heap.size, 1, none⟩)) rfl (by kernel_rfl) (by kernel_rfl) (by kernel_rfl) (fun _ _ _ h => h) (Or.inl ⟨by rfl, ?_⟩) hS ?_
            · intro w' hSw
              obtain ⟨h1, h2⟩ := hSw
              go_simp
            simp only [Act.put, List.setIfInBounds_toArray, List.set_cons_zero, List.set_cons_succ]
            refine wpAnyH_ready (rs := [9]) (by kernel_rfl) (by simp) ?_
            refine AllReadyH.cons rfl (fun K hK => ?_) AllReadyH.nil
            go_simp
            refine hK.out _ _ (hS.gr (C := [W.heap.size]) (Gr.set (m := W.heap.size) _ _ _ (by simp)) (by intro i hi; rw [List.mem_singleton] at hi; subst hi; exact Nat.ne_of_gt bb5.lt)) (fun hS => ?_)
            clear hK K
            (try simp only [Act.put, List.setIfInBounds_toArray, List.set_cons_zero, List.set_cons_succ])
            refine wpAnyH_done (by kernel_rfl) ?_ _
            go_wp2
            go_meet
            case rel => exact ⟨_, [⟨n, i, ⟨A3, c3, bs⟩⟩], inferInstance, CbG.gr (C := [W.heap.size]) ⟨O7.out, fun p hp => by rw [List.mem_singleton] at hp; subst hp; exact B7.out⟩ (Gr.set (m := W.heap.size) _ _ _ (by simp)) (by simp), rfl, (Gr.of (C := [W.heap.size]) (blw (W := w7))).trans (Gr.set (m := W.heap.size) _ _ _ (by simp))⟩
          · go_simp
            refine hK.out _ _ (TdS.step hS (below_alloc _ _)) (fun hS => ?_)
            clear hK K
            (try simp only [Act.put, List.setIfInBounds_toArray, List.set_cons_zero, List.set_cons_succ])
            refine wpAnyH_ready (rs := [1]) (by kernel_rfl) (by simp) ?_
            refine AllReadyH.cons rfl (fun K hK => ?_) AllReadyH.nil
            go_simp
            refine hK.out _ _ hS (fun hS => ?_)
            clear hK K
            (try simp only [Act.put, List.setIfInBounds_toArray, List.set_cons_zero, List.set_cons_succ])
            refine wpAnyH_ready (rs := [7]) (by kernel_rfl) (by simp) ?_
            refine AllReadyH.cons rfl (fun K hK => ?_) AllReadyH.nil
            have zw3 : W.heap.size + 1 ≤ w3.heap.size := BoxAt.lt (w := w3) (n := W.heap.size) inferInstance
            (refine step_append_x Tryz.okCb rfl (.tmp 100) (.tmp 105) rfl (W.heap.size + 1) (.slice none 0 0) 0 [] 1 (cbs [⟨n, i, ⟨A3, c3, bs⟩⟩]) ?_ ?_ ?_ ?_ ?_ ?_ ?_ ?_; go_must ((focus (first | rfl | (simp [Act.eval, Act.put]; done))); (focus (exact World.ownsRow_nil _ _ _ _)); (focus (refine ⟨_, _, by first | rfl | (simp [Act.eval, Act.put]; done), ?_⟩; exact reads_cb1x _ _ ⟨n, i, ⟨A3, c3, bs⟩⟩)); (focus (exact cbs_one _)); (focus (unfold maxLen; omega)); (focus omega); (focus (first | omega | (simp; done) | (simp; omega) | exact blw.size | exact BoxAt.lt (n := w.heap.size) inferInstance)); intro v7 w7 ho7 hg7 ha7; rw [Nat.zero_add, List.nil_append] at ho7; obtain ⟨A7, c7, rfl, _, _⟩ := own_slice ho7; haveI : Stp _ w7 := ⟨grown_belowT hg7 (Nat.le_refl _) (fun q hq => by cases hq)⟩; have O7 := hide ho7; have B7 := hide (BdP.tr (BdP.own2 HC.out (E := ownL (.slice A7 1 c7)) (fun i hi => by have h8 := mem_ownL.1 hi; rcases ha7 with h9 | h9 <;> rw [h8] at h9 <;> cases h9; exact Blw.size (a := w3) inferInstance) (W.heap.size + 1) (BoxAt.lt (n := W.heap.size) inferInstance)) (.bel (blw (a := w3) (W := w7)))); refine hK.out _ _ (TdS.step hS (blw (W := w7))) (fun hS => ?_); clear ho7 hg7 ha7))
            clear hK K
            (try simp only [Act.put, List.setIfInBounds_toArray, List.set_cons_zero, List.set_cons_succ])
            refine wpAnyH_take (i := 8) (v := .pointer (some ⟨W.heap.size, 1, none⟩)) rfl (by kernel_rfl) (by kernel_rfl) (by kernel_rfl) (fun _ _ _ h => h) (Or.inl ⟨by rfl, ?_⟩) hS ?_
            · intro w' hSw
              obtain ⟨h1, h2⟩ := hSw
              go_simp
            simp only [Act.put, List.setIfInBounds_toArray, List.set_cons_zero, List.set_cons_succ]
            refine wpAnyH_ready (rs := [9]) (by kernel_rfl) (by simp) ?_
            refine AllReadyH.cons rfl (fun K hK => ?_) AllReadyH.nil
            go_simp
            refine hK.out _ _ (hS.gr (C := [W.heap.size]) (Gr.set (m := W.heap.size) _ _ _ (by simp)) (by intro i hi; rw [List.mem_singleton] at hi; subst hi; exact Nat.ne_of_gt bb5.lt)) (fun hS => ?_)
            clear hK K
            (try simp only [Act.put, List.setIfInBounds_toArray, List.set_cons_zero, List.set_cons_succ])
            refine wpAnyH_done (by kernel_rfl) ?_ _
            go_wp2
            go_meet
            case rel => exact ⟨_, [⟨n, i, ⟨A3, c3, bs⟩⟩], inferInstance, CbG.gr (C := [W.heap.size]) ⟨O7.out, fun p hp => by rw [List.mem_singleton] at hp; subst hp; exact B7.out⟩ (Gr.set (m := W.heap.size) _ _ _ (by simp)) (by simp), rfl, (Gr.of (C := [W.heap.size]) (blw (W := w7))).trans (Gr.set (m := W.heap.size) _ _ _ (by simp))⟩
      case rest =>
        obtain ⟨bv, cs, hbv, hcs, hcl, hgw⟩ := hcut
        have zc : W.heap.size + 1 ≤ wc.heap.size := hbv.lt
        have kk : ∀ {b c t}, BoxAt (wa.setCell ⟨g, 2, none⟩ (.int .u64 s)) b c t → b ≠ W.heap.size → BoxAt wc b c t := fun {b c t} hb hne => ⟨by rw [hgw.blk b hb.lt (by simpa using hne)]; exact hb.eq⟩
        have jx : BoxAt wc x #[.int .i64 mn, .int .u64 mi, V1, V2] 64 := kk inferInstance (Nat.ne_of_lt bx.lt)
        have j5 : BoxAt wc b5 #[.int .i64 n, .int .u64 i] 24 := kk inferInstance (Nat.ne_of_lt bb5.lt)
        have j8 : BoxAt wc b8 #[.slice none 0 0, .slice none 0 0, .slice none 0 0] 52 := kk inferInstance (Nat.ne_of_lt bb8.lt)
        have jg : BoxAt wc g #[.int .u64 c0.i, .int .u64 c0.c, .int .u64 s] 115 := kk inferInstance (Nat.ne_of_lt bg.lt)
        have hgc : Gr [g, b8] W wc := ((((Gr.of (C := [g, b8, W.heap.size]) (blw (a := W) (W := wa))).trans (Gr.set (m := g) _ 2 (.int .u64 s) (by simp))).trans (hgw.mono' (by simp)))).less (by intro i hi; simp at hi ⊢; omega)
        have hfin : ∀ e W', (∃ v, e = .returned v ∧ AnsM (W.heap.size + 1) W' v ⟨[⟨3, mn, mi, 8, [⟨n, c0.c, s, i⟩], [], 0, 0, 0, []⟩], [((n, i), bs)], []⟩ ∧ Gr [b8, W.heap.size] wc W') → R e W' := fun e W' ⟨v, h1, h2, h3⟩ => HR.out e W' ⟨v, h1, by
          have e1 : tdA mn n i mi c0 s bs = ⟨[⟨3, mn, mi, 8, [⟨n, c0.c, s, i⟩], [], 0, 0, 0, []⟩], [((n, i), bs)], []⟩ := by unfold tdA tdC; rw [HNB.out, HEG.out]; rfl
          rw [e1]
          exact h2.lo (by omega), by
          have h4 : BoxAt wc g #[.int .u64 c0.i, .int .u64 c0.c, .int .u64 s] 115 := jg
          have e2 : cmcs (tdC c0 s) = #[.int .u64 c0.i, .int .u64 c0.c, .int .u64 s] := by unfold tdC; rw [HEG.out]
          rw [e2]
          exact ⟨by rw [h3.blk g h4.lt (by simp; exact ⟨hne.symm, Nat.ne_of_lt bg.lt⟩)]; exact h4.eq⟩, ((hgc.mono' (D := [g, b8, W.heap.size]) (by intro i hi; simp at hi ⊢; omega)).trans (h3.mono' (by simp))).less (by intro i hi; simp at hi ⊢; omega)⟩
        repeat (first
          | (exact td_last R _ (W.heap.size + 1) x b5 b8 W.heap.size g mn mi n i V1 V2 bv { c0 with g := s } cs [((n, i), bs)] _ (by rfl) (by rfl) (by rfl) (by rfl) (by rfl) (by rfl) jx j5 j8 hbv jg hcs hcl (by have := bb8.lt; omega) (by omega) zc (Nat.ne_of_lt bb8.lt) (Nat.ne_of_lt bx.lt) hx8 hfin)
          | go_values | go_skip | go_guarded | go_step | go_upon | go_back)
  | false =>
    have eg : nextG c0.g s = c0.g := by unfold nextG; rw [hnb]; rfl
    rw [hnb, eg] at hng
    have TT := hide hng
    have HNB := hide hnb
    have HEG := hide eg
    clear hng hnb eg
    haveI : LeN (W.alloc (.cells #[.slice none 0 0, .slice none 0 0, .slice none 0 0] 52)).heap.size (W.heap.size + 1) := ⟨by simp⟩
    go_upto_region 8 with fail
    go_cut [11, 12] (fun s11 s12 wx => ∃ b11, s11 = .pointer (some ⟨b11, 0, none⟩) ∧ s12 = .bool false ∧ BoxAt wx b11 #[.int .u64 c0.g] 76 ∧ W.heap.size < b11 ∧ Below (W.alloc (.cells #[.slice none 0 0, .slice none 0 0, .slice none 0 0] 52)).heap.size (W.alloc (.cells #[.slice none 0 0, .slice none 0 0, .slice none 0 0] 52)) wx)
    case first =>
      go_region_held3 (fun w' => w'.cell? ⟨g, 2, none⟩ = some (.int .u64 c0.g) ∧ w'.cell? ⟨b6, 2, none⟩ = some (.int .u64 s)) ((refine ⟨?_, ?_⟩ <;> (rw [cell?_box]; rfl)))
        (first | (go_at_call 61; (with_reducible refine (TT.out _).mono ?_); rintro e w1 ⟨rfl, hb1⟩; haveI : Stp _ w1 := ⟨hb1⟩; have z1 : W.heap.size < w1.heap.size := BoxAt.lt (w := w1) (n := W.heap.size) inferInstance; clear hb1) | fail)
      all_goals
        go_wp2
        go_meet
        case rel => exact ⟨_, rfl, rfl, inferInstance, by first | omega | (simp; omega) | (simp; done), blw⟩
    case rest =>
      obtain ⟨b11, rfl, rfl, hb11, z11, hBa⟩ := hcut
      obtain ⟨wa, rfl⟩ : ∃ wa, wa = wc := ⟨wc, rfl⟩
      have hSa := hBa
      haveI : Stp (W.alloc (.cells #[.slice none 0 0, .slice none 0 0, .slice none 0 0] 52)) wa := ⟨hSa⟩
      haveI := hb11
      have za := hSa.size
      simp only [World.size_alloc] at za
      haveI : LtN W.heap.size b11 := ⟨z11⟩
      clear hBa hSa TT
      have kx := fun (h : BoxAt wa x #[.int .i64 mn, .int .u64 mi, V1, V2] 64) => h
      have hgc : Gr [g, b8] W wa := Gr.of blw
      have zc : W.heap.size + 1 ≤ wa.heap.size := za
      have hfin : ∀ e W', (∃ v, e = .returned v ∧ AnsM (W.heap.size + 1) W' v ⟨[⟨3, mn, mi, 8, [⟨n, c0.c, c0.g, i⟩], [], 0, 0, 0, []⟩], [], []⟩ ∧ Gr [b8, W.heap.size] wa W') → R e W' := fun e W' ⟨v, h1, h2, h3⟩ => HR.out e W' ⟨v, h1, by
        have e1 : tdA mn n i mi c0 s bs = ⟨[⟨3, mn, mi, 8, [⟨n, c0.c, c0.g, i⟩], [], 0, 0, 0, []⟩], [], []⟩ := by unfold tdA tdC; rw [HNB.out, HEG.out]; rfl
        rw [e1]
        exact h2.lo (by omega), by
        have h4 : BoxAt wa g (cmcs c0) 115 := inferInstance
        have e2 : cmcs (tdC c0 s) = cmcs c0 := by unfold tdC; rw [HEG.out]
        rw [e2]
        exact ⟨by rw [h3.blk g h4.lt (by simp; exact ⟨hne.symm, Nat.ne_of_lt bg.lt⟩)]; exact h4.eq⟩, ((hgc.mono' (D := [g, b8, W.heap.size]) (by intro i hi; simp at hi ⊢; omega)).trans (h3.mono' (by simp))).less (by intro i hi; simp at hi ⊢; omega)⟩
      repeat (first
        | (exact td_last R _ (W.heap.size + 1) x b5 b8 W.heap.size g mn mi n i V1 V2 (.slice none 0 0) c0 [] [] _ (by rfl) (by rfl) (by rfl) (by rfl) (by rfl) (by rfl) inferInstance inferInstance inferInstance inferInstance inferInstance (CbG.nil _ _) rfl (by have := bb8.lt; omega) (by omega) zc (Nat.ne_of_lt bb8.lt) (Nat.ne_of_lt bx.lt) hx8 hfin)
        | go_values | go_skip | go_guarded | go_step | go_upon | go_back)
end Go.Proofs.YtniogmefbjfoaaaGreat
