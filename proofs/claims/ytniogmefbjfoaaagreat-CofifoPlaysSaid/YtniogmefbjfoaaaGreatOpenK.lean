/-
  How packets lie in memory, read from the drawn argument.
-/
import Derived.Test.YtniogmefbjfoaaaGreatOpenV
import Derived.Test.YtniogmefbjfoaaaGreatPkS
namespace Go.Proofs.YtniogmefbjfoaaaGreat
set_option linter.unusedSimpArgs false
set_option linter.unusedVariables false
set_option linter.unusedSectionVars false
open Go.ChangeShapes Go.WideShapes Go.ChangeAt Go.RowKit Go.Deep

theorem Tryz.fieldsPk : ∃ f0 f1 f2 f3 f4 f5, Tryz.prog.underlying 43 = some (.struct #[f0, f1, f2, f3, f4, f5]) ∧ (f0.type = 3 ∧ f0.offset = 0) ∧ (f1.type = 24 ∧ f1.offset = 1) ∧ (f2.type = 3 ∧ f2.offset = 3) ∧ (f3.type = 38 ∧ f3.offset = 4) ∧ (f4.type = 37 ∧ f4.offset = 5) ∧ (f5.type = 41 ∧ f5.offset = 6) := ⟨_, _, _, _, _, _, Tryz.underlying43, ⟨rfl, rfl⟩, ⟨rfl, rfl⟩, ⟨rfl, rfl⟩, ⟨rfl, rfl⟩, ⟨rfl, rfl⟩, ⟨rfl, rfl⟩⟩
theorem Tryz.fieldsAd : ∃ f0 f1 f2, Tryz.prog.underlying 41 = some (.struct #[f0, f1, f2]) ∧ (f0.type = 24 ∧ f0.offset = 0) ∧ (f1.type = 22 ∧ f1.offset = 2) ∧ (f2.type = 39 ∧ f2.offset = 3) := ⟨_, _, _, Tryz.underlying41, ⟨rfl, rfl⟩, ⟨rfl, rfl⟩, ⟨rfl, rfl⟩⟩
theorem Tryz.fieldsHd : ∃ f0 f1 f2 f3, Tryz.prog.underlying 93 = some (.struct #[f0, f1, f2, f3]) ∧ (f0.type = 3 ∧ f0.offset = 0) ∧ (f1.type = 22 ∧ f1.offset = 1) ∧ (f2.type = 22 ∧ f2.offset = 2) ∧ (f3.type = 22 ∧ f3.offset = 3) := ⟨_, _, _, _, Tryz.underlying93, ⟨rfl, rfl⟩, ⟨rfl, rfl⟩, ⟨rfl, rfl⟩, ⟨rfl, rfl⟩⟩
theorem Tryz.cellsPk : Tryz.prog.cellsOf 43 = 10 := by kernel_rfl
theorem Tryz.cellsAd : Tryz.prog.cellsOf 41 = 4 := by kernel_rfl
theorem Tryz.cellsHd : Tryz.prog.cellsOf 93 = 4 := by kernel_rfl
theorem Tryz.cellsHs : Tryz.prog.cellsOf 38 = 1 := by kernel_rfl
theorem Tryz.cellsBs : Tryz.prog.cellsOf 37 = 1 := by kernel_rfl
/-- what a drawn packet is -/
structure PkRd (w : World) (x : Pk) (HA BA PA : Option Addr) : Prop where
  f : PkF x
  h : Reads w w.heap.size 4 HA x.hs.length (hcs x.hs)
  b : Reads w w.heap.size 1 BA x.bs.length (bcs x.bs)
  p : Sl w PA x.ps
  hl : x.hs.length ≤ 9223372036854775807
  bl : x.bs.length ≤ 9223372036854775807
  pl : x.ps.length ≤ 9223372036854775807
theorem PkRd.ok {w : World} {x : Pk} {HA BA PA : Option Addr} (h : PkRd w x HA BA PA) (hh : longB x = false) : PkIn w x HA BA PA := by
  simp [longB] at hh
  exact ⟨h.h, h.b, h.p, by omega, by omega, by omega⟩
section
variable {H : Type} {enc : TypeId × Value → H} {w : World} {base : Nat} {spare : Nat → Bool} {held : Bool}
set_option maxRecDepth 100000 in
theorem trod_head {fuel : Nat} {cs : List Value} {y : DataW H × List MemPlace} (hl : cs.length = 4) (h : DataW.trod enc Tryz.prog w base spare held fuel 93 cs = some y) :
    ∃ x : Hd, cs = hc x ∧ (wfU64 x.c ∧ wfU64 x.s ∧ wfU64 x.i) := by
  obtain ⟨f0, f1, f2, f3, hu, ⟨t0, o0⟩, ⟨t1, o1⟩, ⟨t2, o2⟩, ⟨t3, o3⟩⟩ := Tryz.fieldsHd
  obtain ⟨xs, n, _, _, _, hxl, hf⟩ := DataW.trod_struct hu h
  have g0 := hf 0 f0 rfl
  have g1 := hf 1 f1 rfl
  have g2 := hf 2 f2 rfl
  have g3 := hf 3 f3 rfl
  rw [t0, o0, Tryz.cellsI] at g0
  rw [t1, o1, Tryz.cellsU] at g1
  rw [t2, o2, Tryz.cellsU] at g2
  rw [t3, o3, Tryz.cellsU] at g3
  match cs, hl with
  | [c0, c1, c2, c3], _ =>
    match xs, hxl with
    | [y0, y1, y2, y3], _ =>
      obtain ⟨a, e0, _, _⟩ := DataW.trod_int Tryz.underlying3 g0
      obtain ⟨b, e1, _, w1⟩ := DataW.trod_int Tryz.underlying22 g1
      obtain ⟨c, e2, _, w2⟩ := DataW.trod_int Tryz.underlying22 g2
      obtain ⟨d, e3, _, w3⟩ := DataW.trod_int Tryz.underlying22 g3
      simp at e0 e1 e2 e3
      exact ⟨⟨a, b, c, d⟩, by rw [e0, e1, e2, e3]; rfl, bounds_u64 w1, bounds_u64 w2, bounds_u64 w3⟩
theorem trod_heads {fuel : Nat} {cs : List Value} {x : DataW H × List MemPlace} (h : DataW.trod enc Tryz.prog w base spare held fuel 38 cs = some x) :
    ∃ (A : Option Addr) (l : List Hd) (c : Nat), cs = [.slice A l.length c] ∧ l.length ≤ c ∧ c ≤ maxLen ∧ Reads w w.heap.size 4 A l.length (hcs l) ∧ ∀ p ∈ l, wfU64 p.c ∧ wfU64 p.s ∧ wfU64 p.i :=
  open_sl hc (fun x => wfU64 x.c ∧ wfU64 x.s ∧ wfU64 x.i) Tryz.cellsHd hc_len (by omega) (fun _ _ _ hl h => trod_head hl h) Tryz.underlying38 h
set_option maxRecDepth 100000 in
theorem trod_advert {fuel : Nat} {cs : List Value} {y : DataW H × List MemPlace} (hl : cs.length = 4) (h : DataW.trod enc Tryz.prog w base spare held fuel 41 cs = some y) :
    ∃ (an ai sq : Int) (PA : Option Addr) (ps : List Pr) (pcp : Nat), cs = [.int .i64 an, .int .u64 ai, .int .u64 sq, .slice PA ps.length pcp] ∧ wfU64 ai ∧ wfU64 sq ∧ Sl w PA ps ∧ ps.length ≤ 9223372036854775807 ∧ ∀ p ∈ ps, wfU64 p.2 := by
  obtain ⟨f0, f1, f2, hu, ⟨t0, o0⟩, ⟨t1, o1⟩, ⟨t2, o2⟩⟩ := Tryz.fieldsAd
  obtain ⟨xs, n, _, _, _, hxl, hf⟩ := DataW.trod_struct hu h
  have g0 := hf 0 f0 rfl
  have g1 := hf 1 f1 rfl
  have g2 := hf 2 f2 rfl
  rw [t0, o0, Tryz.cellsP] at g0
  rw [t1, o1, Tryz.cellsU] at g1
  rw [t2, o2, Tryz.cellsPs'] at g2
  match cs, hl with
  | [c0, c1, c2, c3], _ =>
    match xs, hxl with
    | [y0, y1, y2], _ =>
      obtain ⟨p, e0, w0⟩ := trod_proc (by simp) g0
      obtain ⟨b, e1, _, w1⟩ := DataW.trod_int Tryz.underlying22 g1
      obtain ⟨PA, ps, pcp, e2, m1, m2, m3, m4⟩ := trod_procs g2
      simp [pc] at e0 e1 e2
      unfold maxLen at m2
      exact ⟨p.1, p.2, b, PA, ps, pcp, by rw [e0.1, e0.2, e1, e2], ⟨w0.2.2.1, w0.2.2.2⟩, bounds_u64 w1, m3, Nat.le_trans m1 m2, fun q hq => ⟨(m4 q hq).2.2.1, (m4 q hq).2.2.2⟩⟩
set_option maxRecDepth 100000 in
theorem trod_packet {fuel : Nat} {cs : List Value} {y : DataW H × List MemPlace} (hl : cs.length = 10) (h : DataW.trod enc Tryz.prog w base spare held fuel 43 cs = some y) :
    ∃ (x : Pk) (HA : Option Addr) (hcp : Nat) (BA : Option Addr) (bcp : Nat) (PA : Option Addr) (pcp : Nat), cs = (csK x.k x.n x.i x.hp HA x.hs.length hcp BA x.bs.length bcp x.an x.ai x.sq PA x.ps.length pcp).toList ∧ PkRd w x HA BA PA := by
  obtain ⟨f0, f1, f2, f3, f4, f5, hu, ⟨t0, o0⟩, ⟨t1, o1⟩, ⟨t2, o2⟩, ⟨t3, o3⟩, ⟨t4, o4⟩, ⟨t5, o5⟩⟩ := Tryz.fieldsPk
  obtain ⟨xs, n, _, _, _, hxl, hf⟩ := DataW.trod_struct hu h
  have g0 := hf 0 f0 rfl
  have g1 := hf 1 f1 rfl
  have g2 := hf 2 f2 rfl
  have g3 := hf 3 f3 rfl
  have g4 := hf 4 f4 rfl
  have g5 := hf 5 f5 rfl
  rw [t0, o0, Tryz.cellsI] at g0
  rw [t1, o1, Tryz.cellsP] at g1
  rw [t2, o2, Tryz.cellsI] at g2
  rw [t3, o3, Tryz.cellsHs] at g3
  rw [t4, o4, Tryz.cellsBs] at g4
  rw [t5, o5, Tryz.cellsAd] at g5
  match cs, hl with
  | [c0, c1, c2, c3, c4, c5, c6, c7, c8, c9], _ =>
    match xs, hxl with
    | [y0, y1, y2, y3, y4, y5], _ =>
      obtain ⟨k, e0, _, _⟩ := DataW.trod_int Tryz.underlying3 g0
      obtain ⟨p, e1, w1⟩ := trod_proc (by simp) g1
      obtain ⟨hp, e2, _, _⟩ := DataW.trod_int Tryz.underlying3 g2
      obtain ⟨HA, hs, hcp, e3, m1, m2, m3, m4⟩ := trod_heads g3
      obtain ⟨BA, bs, bcp, e4, n1, n2, n3, n4⟩ := trod_bytes g4
      obtain ⟨an, ai, sq, PA, ps, pcp, e5, u1, u2, u3, u4, u5⟩ := trod_advert (by simp) g5
      simp [pc] at e0 e1 e2 e3 e4 e5
      rw [flat_map1] at n3
      unfold maxLen at m2 n2
      exact ⟨⟨k, p.1, p.2, hp, hs, bs, an, ai, sq, ps⟩, HA, hcp, BA, bcp, PA, pcp, by rw [e0, e1.1, e1.2, e2, e3, e4, e5.1, e5.2.1, e5.2.2.1, e5.2.2.2], ⟨⟨w1.2.2.1, w1.2.2.2⟩, u1, u2, m4, n4, u5⟩, m3, n3, u3, Nat.le_trans m1 m2, Nat.le_trans n1 n2, u4⟩
set_option maxRecDepth 100000 in
theorem open_packet {r : Reach} {b0 : Nat} {v : Value} {d : DataW H} {p : List MemPlace} (hv : Value.okWide Tryz.prog w r b0 43 v) (h : DataW.Trod enc Tryz.prog w base spare held 43 v d p) :
    ∃ (x : Pk) (HA : Option Addr) (hcp : Nat) (BA : Option Addr) (bcp : Nat) (PA : Option Addr) (pcp : Nat), v = x.at HA hcp BA bcp PA pcp ∧ PkRd w x HA BA PA := by
  obtain ⟨cs, rfl, hsz⟩ := okWide_struct Tryz.underlying43 hv
  obtain ⟨l⟩ := cs
  obtain ⟨fuel, hf⟩ := h
  obtain ⟨x, HA, hcp, BA, bcp, PA, pcp, hq, hw⟩ := trod_packet (by simpa [Tryz.cellsPk, Value.cells] using hsz) hf
  simp [Value.cells] at hq
  exact ⟨x, HA, hcp, BA, bcp, PA, pcp, by rw [hq], hw⟩
end
end Go.Proofs.YtniogmefbjfoaaaGreat
