/-
  Layer 16: steps, read from the drawn argument; how long they are at most.
-/
import Derived.Test.YtniogmefbjfoaaaGreatOpenK
import Derived.Test.YtniogmefbjfoaaaGreatFw
import Derived.SizedLaws
namespace Go.Proofs.YtniogmefbjfoaaaGreat
set_option linter.unusedSimpArgs false
set_option linter.unusedVariables false
set_option linter.unusedSectionVars false
open Go.ChangeShapes Go.WideShapes Go.ChangeAt Go.RowKit Go.Deep

section
variable {H : Type} {enc : TypeId × Value → H} {P : Program} {w : World} {base : Nat} {spare : Nat → Bool} {held : Bool}
theorem slice_bytes {t e : TypeId} (ht : P.underlying t = some (.slice e)) {fuel : Nat} {A : Option Addr} {len c : Nat} {x : DataW H × List MemPlace} (h : DataW.trod enc P w base spare held fuel t [.slice A len c] = some x) (hw : ∀ q ∈ x.1.weights P t, q ≤ reachBytes) : len * P.bytesOf e ≤ 140737488351232 := by
  rcases open_slice ht h with ⟨h0, _⟩ | ⟨a, len', cap, m, n, D, Pl, hcs, hb', hl, hm, hmm, hx, hi⟩
  · simp at h0
    obtain ⟨-, rfl, -⟩ := h0
    omega
  · simp at hcs
    obtain ⟨rfl, rfl, rfl⟩ := hcs
    subst hx
    simp only [DataW.weights, ht, List.mem_cons, List.mem_append] at hw
    have h1 := hw _ (Or.inl rfl)
    rw [List.length_map, List.length_range] at h1
    exact Nat.le_trans (Nat.mul_le_mul_right _ (Nat.le_add_right _ _)) h1
theorem slice_small {t e : TypeId} (ht : P.underlying t = some (.slice e)) (hb : 0 < P.bytesOf e) {fuel : Nat} {A : Option Addr} {len c : Nat} {x : DataW H × List MemPlace} (h : DataW.trod enc P w base spare held fuel t [.slice A len c] = some x) (hw : ∀ q ∈ x.1.weights P t, q ≤ reachBytes) : len ≤ 140737488355328 := by
  rcases open_slice ht h with ⟨h0, _⟩ | ⟨a, len', cap, m, n, D, Pl, hcs, hb', hl, hm, hmm, hx, hi⟩
  · simp at h0; omega
  · simp at hcs
    obtain ⟨rfl, rfl, rfl⟩ := hcs
    subst hx
    simp only [DataW.weights, ht, List.mem_cons, List.mem_append] at hw
    have h1 := hw _ (Or.inl rfl)
    rw [List.length_map, List.length_range] at h1
    have := Nat.le_trans (Nat.le_trans (Nat.le_add_right _ _) (Nat.le_mul_of_pos_right _ hb)) h1
    unfold reachBytes at this
    omega
theorem slice_small_all {t e : TypeId} (ht : P.underlying t = some (.slice e)) {fuel : Nat} {A : Option Addr} {len c : Nat} {x : DataW H × List MemPlace} (h : DataW.trod enc P w base spare held fuel t [.slice A len c] = some x) (hw : ∀ q ∈ x.1.weights P t, q ≤ reachBytes) :
    ∀ i, i < len → ∃ (a : Addr) (n : Nat) (cs' : List Value) (y : DataW H × List MemPlace), A = some a ∧ w.cells? base (a.add (i * P.cellsOf e)) (P.cellsOf e) = some cs' ∧ DataW.trod enc P w base spare held n e cs' = some y ∧ ∀ q ∈ y.1.weights P e, q ≤ reachBytes := by
  intro i hil
  rcases open_slice ht h with ⟨h0, _⟩ | ⟨a, len', cap, m, n, D, Pl, hcs, hb', hl, hm, hmm, hx, hi⟩
  · simp at h0; omega
  · simp at hcs
    obtain ⟨rfl, rfl, rfl⟩ := hcs
    have hlm : len ≤ m := by rw [hmm]; split <;> omega
    obtain ⟨cs', h1, h2⟩ := hi i (by omega)
    subst hx
    simp only [DataW.weights, ht, List.mem_cons, List.mem_append] at hw
    refine ⟨a, n, cs', _, rfl, h1, h2, fun q hq => hw q (Or.inr (Or.inl ?_))⟩
    have : ∀ {l : List (DataW H)} {d : DataW H}, d ∈ l → ∀ n ∈ d.weights P e, n ∈ DataW.weightsAll P e l := by
      intro l
      induction l with
      | nil => intro d hd; cases hd
      | cons d' r ih =>
        intro d hd n hn
        simp only [DataW.weightsAll, List.mem_append]
        rcases List.mem_cons.1 hd with rfl | h
        · exact Or.inl hn
        · exact Or.inr (ih h n hn)
    exact this (List.mem_map.2 ⟨i, List.mem_range.2 hil, rfl⟩) q hq
theorem struct_weights {t : TypeId} {fs : Array Field} {xs : List (DataW H × List MemPlace)} (ht : P.underlying t = some (.struct fs)) (hw : ∀ q ∈ (DataW.agg (xs.map (·.1))).weights P t, q ≤ reachBytes) {j : Nat} {f : Field} {d : DataW H × List MemPlace} (hf : fs[j]? = some f) (hd : xs[j]? = some d) : ∀ q ∈ d.1.weights P f.type, q ≤ reachBytes := by
  intro q hq
  refine hw q ?_
  simp only [DataW.weights, ht]
  exact DataW.weights_mem_each (j := j) (t := f.type) (d := d.1) (by simp [hf]) (by simp [hd]) q hq
end
theorem Tryz.fieldsSx : ∃ f0 f1 f2 f3 f4, Tryz.prog.underlying 45 = some (.struct #[f0, f1, f2, f3, f4]) ∧ (f0.type = 3 ∧ f0.offset = 0) ∧ (f1.type = 22 ∧ f1.offset = 1) ∧ (f2.type = 36 ∧ f2.offset = 2) ∧ (f3.type = 37 ∧ f3.offset = 3) ∧ (f4.type = 43 ∧ f4.offset = 4) := ⟨_, _, _, _, _, Tryz.underlying45, ⟨rfl, rfl⟩, ⟨rfl, rfl⟩, ⟨rfl, rfl⟩, ⟨rfl, rfl⟩, ⟨rfl, rfl⟩⟩
theorem Tryz.cellsSx : Tryz.prog.cellsOf 45 = 14 := by kernel_rfl
theorem Tryz.cellsIs16 : Tryz.prog.cellsOf 36 = 1 := by kernel_rfl
/-- what a drawn step is -/
structure SxRd (w : World) (s : Sx) : Prop where
  n : Reads w w.heap.size 1 s.NA s.ns.length (ics s.ns)
  b : Reads w w.heap.size 1 s.BA s.bd.length (bcs s.bd)
  p : PkRd w s.x s.HA s.QA s.PA
  now0 : 0 ≤ s.now
  now1 : s.now ≤ 18446744073709551615
  d : wfI s.d
  wn : ∀ n ∈ s.ns, wfI n
  wb : bOK s.bd
theorem ics_flat16 (l : List Int) : l.flatMap (fun a => [Value.int .i64 a]) = ics l := by
  unfold ics
  induction l with
  | nil => rfl
  | cons x l ih => rw [List.flatMap_cons, ih]; rfl
section
variable {H : Type} {enc : TypeId × Value → H} {w : World} {base : Nat} {spare : Nat → Bool} {held : Bool}
theorem trod_ints16 {fuel : Nat} {cs : List Value} {x : DataW H × List MemPlace} (h : DataW.trod enc Tryz.prog w base spare held fuel 36 cs = some x) :
    ∃ (A : Option Addr) (l : List Int) (c : Nat), cs = [.slice A l.length c] ∧ Reads w w.heap.size 1 A l.length (ics l) ∧ ∀ y ∈ l, wfI y := by
  obtain ⟨A, l, c, hq, m1, m2, h3, h4⟩ := open_sl (fun a => [Value.int .i64 a]) wfI Tryz.cellsI (fun _ => rfl) (by omega) (fun n cs x hl h => by
    match cs, hl with
    | [c0], _ =>
      obtain ⟨a0, e0, _, w0⟩ := DataW.trod_int Tryz.underlying3 h
      exact ⟨a0, by simpa using e0, bounds_i64 w0⟩) Tryz.underlying36 h
  rw [ics_flat16] at h3
  exact ⟨A, l, c, hq, h3, h4⟩
set_option maxRecDepth 100000 in
theorem trod_step16 {fuel : Nat} {cs : List Value} {x : DataW H × List MemPlace} (hl : cs.length = 14) (h : DataW.trod enc Tryz.prog w base spare held fuel 45 cs = some x) : ∃ s : Sx, cs = sxc s ∧ SxRd w s := by
  obtain ⟨f0, f1, f2, f3, f4, hu, ⟨t0, o0⟩, ⟨t1, o1⟩, ⟨t2, o2⟩, ⟨t3, o3⟩, ⟨t4, o4⟩⟩ := Tryz.fieldsSx
  obtain ⟨xs, n, _, _, _, hxl, hf⟩ := DataW.trod_struct hu h
  have g0 := hf 0 f0 rfl
  have g1 := hf 1 f1 rfl
  have g2 := hf 2 f2 rfl
  have g3 := hf 3 f3 rfl
  have g4 := hf 4 f4 rfl
  rw [t0, o0, Tryz.cellsI] at g0
  rw [t1, o1, Tryz.cellsU] at g1
  rw [t2, o2, Tryz.cellsIs16] at g2
  rw [t3, o3, Tryz.cellsBs] at g3
  rw [t4, o4, Tryz.cellsPk] at g4
  match cs, hl with
  | [c0, c1, c2, c3, c4, c5, c6, c7, c8, c9, c10, c11, c12, c13], _ =>
    match xs, hxl with
    | [y0, y1, y2, y3, y4], _ =>
      obtain ⟨a0, e0, _, w0⟩ := DataW.trod_int Tryz.underlying3 g0
      obtain ⟨a1, e1, _, w1⟩ := DataW.trod_int Tryz.underlying22 g1
      obtain ⟨NA, ns, nc, e2, m3, m4⟩ := trod_ints16 g2
      obtain ⟨BA, bd, bc, e3, _, _, n3, n4⟩ := trod_bytes g3
      obtain ⟨x, HA, hcp, QA, qc, PA, pcp, e4, hx⟩ := trod_packet (by simp) g4
      obtain ⟨b1, b2⟩ := bounds_u64 w1
      simp [csK] at e0 e1 e2 e3 e4
      rw [flat_map1] at n3
      obtain ⟨q0, q1, q2, q3, q4, q5, q6, q7, q8, q9⟩ := e4
      exact ⟨⟨a0, a1, NA, nc, ns, BA, bc, bd, x, HA, hcp, QA, qc, PA, pcp⟩, by rw [e0, e1, e2, e3, q0, q1, q2, q3, q4, q5, q6, q7, q8, q9]; rfl, ⟨m3, n3, hx, b1, b2, bounds_i64 w0, m4, n4⟩⟩
set_option maxRecDepth 100000 in
theorem small_packet {k n i hp : Int} {HA : Option Addr} {hn hcp : Nat} {BA : Option Addr} {bn bcp : Nat} {an ai sq : Int} {PA : Option Addr} {pn pcp : Nat} {fuel : Nat} {x : DataW H × List MemPlace} (h : DataW.trod enc Tryz.prog w base spare held fuel 43 (csK k n i hp HA hn hcp BA bn bcp an ai sq PA pn pcp).toList = some x) (hw : ∀ q ∈ x.1.weights Tryz.prog 43, q ≤ reachBytes) :
    hn ≤ 140737488355328 ∧ pn ≤ 140737488355328 ∧ bn ≤ 140737488355328 := by
  obtain ⟨f0, f1, f2, f3, f4, f5, hu, ⟨t0, o0⟩, ⟨t1, o1⟩, ⟨t2, o2⟩, ⟨t3, o3⟩, ⟨t4, o4⟩, ⟨t5, o5⟩⟩ := Tryz.fieldsPk
  obtain ⟨xs, n, _, rfl, _, hxl, hf⟩ := DataW.trod_struct hu h
  have g3 := hf 3 f3 rfl
  have g4 := hf 4 f4 rfl
  have g5 := hf 5 f5 rfl
  rw [t3, o3, Tryz.cellsHs] at g3
  rw [t4, o4, Tryz.cellsBs] at g4
  rw [t5, o5, Tryz.cellsAd] at g5
  match xs, hxl with
  | [y0, y1, y2, y3, y4, y5], _ =>
    have v3 := struct_weights (xs := [y0, y1, y2, y3, y4, y5]) hu hw (j := 3) (f := f3) rfl rfl
    have v4 := struct_weights (xs := [y0, y1, y2, y3, y4, y5]) hu hw (j := 4) (f := f4) rfl rfl
    have v5 := struct_weights (xs := [y0, y1, y2, y3, y4, y5]) hu hw (j := 5) (f := f5) rfl rfl
    rw [t3] at v3
    rw [t4] at v4
    rw [t5] at v5
    refine ⟨slice_small Tryz.underlying38 (by decide +kernel) (A := HA) (c := hcp) (by exact g3) v3, ?_, slice_small Tryz.underlying37 (by decide +kernel) (A := BA) (c := bcp) (by exact g4) v4⟩
    clear g3 g4 v3 v4
    obtain ⟨f0', f1', f2', hu', ⟨t0', o0'⟩, ⟨t1', o1'⟩, ⟨t2', o2'⟩⟩ := Tryz.fieldsAd
    obtain ⟨z0, z1⟩ := y5
    obtain ⟨xs', n', _, hz, _, hxl', hf'⟩ := DataW.trod_struct hu' g5
    obtain ⟨rfl, rfl⟩ := Prod.mk.inj hz
    have g2' := hf' 2 f2' rfl
    rw [t2', o2', Tryz.cellsPs'] at g2'
    match xs', hxl' with
    | [u0, u1, u2], _ =>
      have v2 := struct_weights (xs := [u0, u1, u2]) hu' v5 (j := 2) (f := f2') rfl rfl
      rw [t2'] at v2
      exact slice_small Tryz.underlying39 (by decide +kernel) (A := PA) (c := pcp) (by exact g2') v2
set_option maxRecDepth 100000 in
theorem small_step16 {s : Sx} {fuel : Nat} {x : DataW H × List MemPlace} (h : DataW.trod enc Tryz.prog w base spare held fuel 45 (sxc s) = some x) (hw : ∀ q ∈ x.1.weights Tryz.prog 45, q ≤ reachBytes) : s.small := by
  obtain ⟨f0, f1, f2, f3, f4, hu, ⟨t0, o0⟩, ⟨t1, o1⟩, ⟨t2, o2⟩, ⟨t3, o3⟩, ⟨t4, o4⟩⟩ := Tryz.fieldsSx
  obtain ⟨xs, n, _, rfl, _, hxl, hf⟩ := DataW.trod_struct hu h
  have g2 := hf 2 f2 rfl
  have g3 := hf 3 f3 rfl
  have g4 := hf 4 f4 rfl
  rw [t2, o2, Tryz.cellsIs16] at g2
  rw [t3, o3, Tryz.cellsBs] at g3
  rw [t4, o4, Tryz.cellsPk] at g4
  match xs, hxl with
  | [y0, y1, y2, y3, y4], _ =>
    have v2 := struct_weights (xs := [y0, y1, y2, y3, y4]) hu hw (j := 2) (f := f2) rfl rfl
    have v3 := struct_weights (xs := [y0, y1, y2, y3, y4]) hu hw (j := 3) (f := f3) rfl rfl
    have v4 := struct_weights (xs := [y0, y1, y2, y3, y4]) hu hw (j := 4) (f := f4) rfl rfl
    rw [t2] at v2
    rw [t3] at v3
    rw [t4] at v4
    obtain ⟨q1, q2, q3⟩ := small_packet (k := s.x.k) (n := s.x.n) (i := s.x.i) (hp := s.x.hp) (HA := s.HA) (hn := s.x.hs.length) (hcp := s.hc) (BA := s.QA) (bn := s.x.bs.length) (bcp := s.qc) (an := s.x.an) (ai := s.x.ai) (sq := s.x.sq) (PA := s.PA) (pn := s.x.ps.length) (pcp := s.pc) (by exact g4) v4
    exact ⟨slice_small Tryz.underlying36 (by decide +kernel) (A := s.NA) (c := s.nc) (by exact g2) v2, q1, q2, slice_small Tryz.underlying37 (by decide +kernel) (A := s.BA) (c := s.bc) (by exact g3) v3, q3⟩
set_option maxRecDepth 100000 in
theorem open_step16 {r : Reach} {b0 : Nat} {v : Value} {d : DataW H} {p : List MemPlace} (hv : Value.okWide Tryz.prog w r b0 45 v) (h : DataW.Trod enc Tryz.prog w base spare held 45 v d p) (hw : ∀ q ∈ d.weights Tryz.prog 45, q ≤ reachBytes) :
    ∃ s : Sx, v = .agg (sxc s).toArray ∧ SxRd w s ∧ s.small := by
  obtain ⟨cs, rfl, hsz⟩ := okWide_struct Tryz.underlying45 hv
  obtain ⟨l⟩ := cs
  obtain ⟨fuel, hf⟩ := h
  simp only [Value.cells] at hf
  obtain ⟨s, rfl, hs⟩ := trod_step16 (by simpa [Tryz.cellsSx, Value.cells] using hsz) hf
  exact ⟨s, rfl, hs, small_step16 hf hw⟩
set_option maxRecDepth 100000 in
theorem open_steps16 {r : Reach} {b0 : Nat} {v : Value} {d : DataW H} {p : List MemPlace} (hv : Value.okWide Tryz.prog w r b0 25 v) (h : DataW.Trod enc Tryz.prog w base spare held 25 v d p) (hw : ∀ q ∈ d.weights Tryz.prog 25, q ≤ reachBytes) :
    ∃ (A : Option Addr) (l : List Sx) (c : Nat), v = .slice A l.length c ∧ l.length * 192 ≤ 140737488351232 ∧ Reads w w.heap.size 14 A l.length (sxcs l) ∧ ∀ s ∈ l, SxRd w s ∧ s.small := by
  obtain ⟨a0, len, cap, rfl⟩ := okWide_slice Tryz.underlying25 hv
  obtain ⟨fuel, hf⟩ := h
  simp only [Value.cells] at hf
  obtain ⟨A, l, c, hq, m1, m2, h3, h4⟩ := open_sl sxc (SxRd w) Tryz.cellsSx sxc_len (by omega) (fun _ _ _ hl h => trod_step16 hl h) Tryz.underlying25 hf
  simp at hq
  obtain ⟨rfl, rfl, rfl⟩ := hq
  refine ⟨_, l, _, rfl, (by have := slice_bytes Tryz.underlying25 hf hw; rwa [(by decide +kernel : Tryz.prog.bytesOf 45 = 192)] at this), h3, fun s hs => ⟨h4 s hs, ?_⟩⟩
  obtain ⟨i, hi, rfl⟩ := List.mem_iff_getElem.1 hs
  obtain ⟨a, n, cs', y, rfl, h5, h6, h7⟩ := slice_small_all Tryz.underlying25 hf hw i hi
  rw [Tryz.cellsSx] at h5
  have h8 := (World.cells?_some h5)
  have hsp : cs' = sxc l[i] := by
    obtain ⟨b, off, e, hb, hcl⟩ := h3.2 (by omega)
    injection e with e
    subst e
    refine List.ext_getElem? fun j => ?_
    by_cases hj : j < 14
    · have e1 := h8.2.2 j hj
      rw [Go.Deep.add_add] at e1
      have e2 : (sxcs l)[i * 14 + j]? = (sxc l[i])[j]? := flat_get sxc_len l i j _ (List.getElem?_eq_getElem hi) hj
      have e3 : j < (sxc l[i]).length := by rw [sxc_len]; exact hj
      have e4 := hcl (i * 14 + j) _ (e2.trans (List.getElem?_eq_getElem e3))
      have e5 : (⟨b, off, none⟩ : Addr).add (i * 14 + j) = ⟨b, off + (i * 14 + j), none⟩ := by
        unfold Addr.add
        split
        · rename_i h0; rw [h0]; rfl
        · rfl
      rw [e5, e4] at e1
      rw [← e1, List.getElem?_eq_getElem e3]
    · rw [List.getElem?_eq_none (by rw [h8.2.1]; omega), List.getElem?_eq_none (by rw [sxc_len]; omega)]
  rw [hsp] at h6
  exact small_step16 h6 h7
set_option maxRecDepth 100000 in
theorem open_packet16 {r : Reach} {b0 : Nat} {v : Value} {d : DataW H} {p : List MemPlace} (hv : Value.okWide Tryz.prog w r b0 43 v) (h : DataW.Trod enc Tryz.prog w base spare held 43 v d p) (hw : ∀ q ∈ d.weights Tryz.prog 43, q ≤ reachBytes) :
    ∃ (x : Pk) (HA : Option Addr) (hcp : Nat) (BA : Option Addr) (bcp : Nat) (PA : Option Addr) (pcp : Nat), v = x.at HA hcp BA bcp PA pcp ∧ PkRd w x HA BA PA ∧ (x.hs.length ≤ 140737488355328 ∧ x.ps.length ≤ 140737488355328 ∧ x.bs.length ≤ 140737488355328) := by
  obtain ⟨cs, rfl, hsz⟩ := okWide_struct Tryz.underlying43 hv
  obtain ⟨l⟩ := cs
  obtain ⟨fuel, hf⟩ := h
  simp only [Value.cells] at hf
  obtain ⟨x, HA, hcp, BA, bcp, PA, pcp, hq, hx⟩ := trod_packet (by simpa [Tryz.cellsPk, Value.cells] using hsz) hf
  subst hq
  exact ⟨x, HA, hcp, BA, bcp, PA, pcp, rfl, hx, small_packet hf hw⟩
end
end Go.Proofs.YtniogmefbjfoaaaGreat
