/-
  RoundOne: arguments opened: lists of steps.
-/
import Derived.Test.YtkglclekieckoaaGreatAw8
import Derived.Test.YtkglclekieckoaaGreatTc
import Derived.Test.YtkglclekieckoaaGreatMn6a
import Derived.Test.YtkglclekieckoaaGreatMn6
import Derived.Test.YtkglclekieckoaaGreatMn6c
namespace Go.Proofs.YtkglclekieckoaaGreat
set_option linter.unusedSimpArgs false
set_option linter.unusedVariables false
set_option linter.unusedSectionVars false
open Go.ChangeShapes Go.WideShapes Go.ChangeAt Go.RowKit Go.Deep

/-- a step -/
structure St where
  wt : Int
  wo : Int
  wh : Int
  st : Int
  cl : Int
  deriving Inhabited
def St.vl (x : St) : List Value := [.int .i64 x.wt, .int .i64 x.wo, .int .i64 x.wh, .int .i64 x.st, .int .i64 x.cl]
theorem St.vl_len (x : St) : x.vl.length = 5 := rfl
def sts (l : List St) : List Value := l.flatMap St.vl
theorem sts_len (l : List St) : (sts l).length = l.length * 5 := flat_length St.vl_len l
def i64B (x : Int) : Prop := -9223372036854775808 ≤ x ∧ x ≤ 9223372036854775807
structure St.Wf (x : St) : Prop where
  a : i64B x.wt
  b : i64B x.wo
  c : i64B x.wh
  d : i64B x.st
  e : i64B x.cl
structure AtS (w : World) (b o : Nat) (x : St) : Prop where
  c0 : w.cell? ⟨b, o, none⟩ = some (.int .i64 x.wt)
  c1 : w.cell? ⟨b, o + 1, none⟩ = some (.int .i64 x.wo)
  c2 : w.cell? ⟨b, o + 2, none⟩ = some (.int .i64 x.wh)
  c3 : w.cell? ⟨b, o + 3, none⟩ = some (.int .i64 x.st)
  c4 : w.cell? ⟨b, o + 4, none⟩ = some (.int .i64 x.cl)
theorem Reads.atSt {w : World} {B : Nat} {A : Option Addr} {n k : Nat} {l : List St} (h : Reads w B 5 A n (sts l)) (hk : k < n) :
    ∃ b off x, A = some ⟨b, off, none⟩ ∧ b < B ∧ l[k]? = some x ∧ AtS w b (off + k * 5) x := by
  obtain ⟨b, off, rfl, hb, hc⟩ := h.2 (by omega)
  have hl : k < l.length := by have := h.1; rw [sts_len] at this; omega
  have hp : l[k]? = some l[k] := List.getElem?_eq_getElem hl
  have key : ∀ j (hj : j < 5), w.cell? ⟨b, off + k * 5 + j, none⟩ = (l[k].vl)[j]? := by
    intro j hj
    have hx : (l[k].vl)[j]? = some ((l[k].vl)[j]'(by rw [St.vl_len]; exact hj)) := List.getElem?_eq_getElem _
    rw [Nat.add_assoc, hx]
    exact hc (k * 5 + j) _ (by rw [sts, flat_get St.vl_len l k j _ hp hj, hx])
  exact ⟨b, off, l[k], rfl, hb, hp, key 0 (by omega), key 1 (by omega), key 2 (by omega), key 3 (by omega), key 4 (by omega)⟩
theorem Tryz.fieldsSt : ∃ f0 f1 f2 f3 f4, Tryz.prog.underlying 68 = some (.struct #[f0, f1, f2, f3, f4]) ∧ (f0.type = 3 ∧ f0.offset = 0) ∧ (f1.type = 3 ∧ f1.offset = 1) ∧ (f2.type = 3 ∧ f2.offset = 2) ∧ (f3.type = 3 ∧ f3.offset = 3) ∧ (f4.type = 3 ∧ f4.offset = 4) := ⟨_, _, _, _, _, Tryz.underlying68, ⟨rfl, rfl⟩, ⟨rfl, rfl⟩, ⟨rfl, rfl⟩, ⟨rfl, rfl⟩, ⟨rfl, rfl⟩⟩
theorem Tryz.cellsSt : Tryz.prog.cellsOf 68 = 5 := by kernel_rfl
section
variable {H : Type} {enc : TypeId × Value → H} {w : World} {base : Nat} {spare : Nat → Bool} {held : Bool}
set_option maxRecDepth 100000 in
theorem trod_step {fuel : Nat} {cs : List Value} {x : DataW H × List MemPlace} (hl : cs.length = 5) (h : DataW.trod enc Tryz.prog w base spare held fuel 68 cs = some x) : ∃ a : St, cs = a.vl ∧ a.Wf := by
  obtain ⟨f0, f1, f2, f3, f4, hu, ⟨t0, o0⟩, ⟨t1, o1⟩, ⟨t2, o2⟩, ⟨t3, o3⟩, ⟨t4, o4⟩⟩ := Tryz.fieldsSt
  obtain ⟨xs, n, _, _, _, hxl, hf⟩ := DataW.trod_struct hu h
  have g0 := hf 0 f0 rfl
  have g1 := hf 1 f1 rfl
  have g2 := hf 2 f2 rfl
  have g3 := hf 3 f3 rfl
  have g4 := hf 4 f4 rfl
  rw [t0, o0, Tryz.cellsI] at g0
  rw [t1, o1, Tryz.cellsI] at g1
  rw [t2, o2, Tryz.cellsI] at g2
  rw [t3, o3, Tryz.cellsI] at g3
  rw [t4, o4, Tryz.cellsI] at g4
  match cs, hl with
  | [c0, c1, c2, c3, c4], _ =>
    match xs, hxl with
    | [y0, y1, y2, y3, y4], _ =>
      obtain ⟨a0, e0, _, w0⟩ := DataW.trod_int Tryz.underlying3 g0
      obtain ⟨a1, e1, _, w1⟩ := DataW.trod_int Tryz.underlying3 g1
      obtain ⟨a2, e2, _, w2⟩ := DataW.trod_int Tryz.underlying3 g2
      obtain ⟨a3, e3, _, w3⟩ := DataW.trod_int Tryz.underlying3 g3
      obtain ⟨a4, e4, _, w4⟩ := DataW.trod_int Tryz.underlying3 g4
      simp at e0 e1 e2 e3 e4
      exact ⟨⟨a0, a1, a2, a3, a4⟩, by rw [e0, e1, e2, e3, e4]; rfl, ⟨bounds_i64 w0, bounds_i64 w1, bounds_i64 w2, bounds_i64 w3, bounds_i64 w4⟩⟩
set_option maxRecDepth 100000 in
theorem open_steps {r : Reach} {b0 : Nat} {v : Value} {d : DataW H} {p : List MemPlace} (hv : Value.okWide Tryz.prog w r b0 63 v) (h : DataW.Trod enc Tryz.prog w base spare held 63 v d p) :
    ∃ (A : Option Addr) (l : List St) (c : Nat), v = .slice A l.length c ∧ l.length ≤ 9223372036854775807 ∧ Reads w w.heap.size 5 A l.length (sts l) ∧ ∀ y ∈ l, y.Wf := by
  obtain ⟨a0, len, cap, rfl⟩ := okWide_slice Tryz.underlying63 hv
  obtain ⟨fuel, hf⟩ := h
  obtain ⟨A, l, c, hq, m1, m2, h3, h4⟩ := open_sl St.vl St.Wf Tryz.cellsSt St.vl_len (by omega) (fun _ _ _ hl h => trod_step hl h) Tryz.underlying63 hf
  simp [Value.cells] at hq
  obtain ⟨rfl, rfl, rfl⟩ := hq
  unfold maxLen at m2
  exact ⟨_, l, _, rfl, Nat.le_trans m1 m2, h3, h4⟩
end
end Go.Proofs.YtkglclekieckoaaGreat

namespace Go.Proofs.YtkglclekieckoaaGreat
set_option linter.unusedSimpArgs false
set_option linter.unusedVariables false
set_option linter.unusedSectionVars false
open Go.RowKit

/-- any step -/
theorem step18_s (n : Nat) (C : List Nat) (aa : Nat → Ag) (inc cc : Nat → Int) (SA : Option Addr) (sc : Nat) (S : List Pp) (VA : Option Addr) (vc : Nat) (V : List Vw) (x : St) (w : World)
    (h : MW w C n aa inc cc SA sc S VA vc V) (hO : OneS aa inc cc S V) (hS : S.length ≤ 500) (hV : V.length ≤ 500) (hI : ∀ k, k < 4 → inc k ≤ 1000) (hx : x.Wf) :
    Calls Tryz.prog 19 #[.pointer (some ⟨n, 0, none⟩), .agg #[.int .i64 x.wt, .int .i64 x.wo, .int .i64 x.wh, .int .i64 x.st, .int .i64 x.cl]] w (RetSt w C n aa inc cc S V) := by
  by_cases h0 : atI x.wt 5 = 0
  · exact step18_0 n C aa inc cc SA sc S VA vc V x.wt x.wo x.wh x.st x.cl w h hO hS hV hx.a hx.b h0
  · by_cases h4 : atI x.wt 5 = 4
    · exact step18_4 n C aa inc cc SA sc S VA vc V x.wt x.wo x.wh x.st x.cl w h hO hI hx.a hx.b h4
    · exact step18_t n C aa inc cc SA sc S VA vc V x.wt x.wo x.wh x.st x.cl w h hO hS hV hx.a hx.b hx.c h0 h4
set_option maxRecDepth 100000 in
set_option maxHeartbeats 8000000 in
theorem roundOne_true (A : Option Addr) (c : Nat) (l : List St) (w : World) (hl : l.length ≤ 9223372036854775807) (h : Reads w w.heap.size 5 A l.length (sts l)) (hx : ∀ x ∈ l, x.Wf) :
    Calls Tryz.prog 5 #[.slice A l.length c] w (RetB w true) := by
  have TA := hide (fun W => awake18_t W)
  have TB := hide (fun W => begun18_s W)
  have HR := hide h
  have HX := hide hx
  clear h hx
  by_cases h150 : 150 < l.length
  · have d1 : decide (150 < (l.length : Int)) = true := decide_eq_true (by omega)
    clear h150
    go_enter Tryz.func5, Tryz.ntmps5
    go_wp2_with fail
    (with_reducible refine (TA.out _).mono ?_)
    rintro e w1 ⟨rfl, hb1⟩
    haveI : Stp _ w1 := ⟨hb1⟩
    go_wp2_with fail
    go_ret
    exact ⟨rfl, blw⟩
  · have d1 : decide (150 < (l.length : Int)) = false := decide_eq_false (by omega)
    have h150' : l.length ≤ 150 := by omega
    clear h150
    go_enter Tryz.func5, Tryz.ntmps5
    go_wp2_with fail
    (with_reducible refine (TB.out _).mono ?_)
    rintro e w1 ⟨n, aa0, inc0, rfl, hn, hbr, hM, hb1⟩
    haveI : Stp _ w1 := ⟨hb1⟩
    have HN := hide hn
    have HBR := hide hbr
    have HM := hide hM
    clear hn hbr hM hb1 TB
    go_wp2_with fail
    go_loopg [4] l.length (fun gk i wx => ∃ m : Nat, i = .int .i64 m ∧ Hid (m + gk = l.length) ∧ ∃ (C : List Nat) (aa : Nat → Ag) (inc cc : Nat → Int) (SA : Option Addr) (sc : Nat) (S : List Pp) (VA : Option Addr) (vc : Nat) (V : List Vw), MW wx C n aa inc cc SA sc S VA vc V ∧ OneS aa inc cc S V ∧ S.length ≤ m ∧ V.length ≤ m ∧ (∀ k, k < 4 → inc k ≤ m + 1) ∧ (∀ i ∈ C, w.heap.size ≤ i) ∧ Below w.heap.size w wx)
    case atStart => exact ⟨0, rfl, hide (by omega), [n], aa0, inc0, fun _ => 0, none, 0, [], none, 0, [], HM.out, OneS.begun HBR.out, Nat.le_refl _, Nat.le_refl _, (fun k hk => by rw [(HBR.out k hk).2]; omega), (fun i hi => by rw [List.mem_singleton.1 hi]; exact HN.out), blw⟩
    case round =>
      obtain ⟨m, rfl, HG, C, aa, inc, cc, SA, sc, S, VA, vc, V, hM, hO, hS, hV, hI, hC, hB⟩ := hrel
      have HC := hide hC
      have HB := hide hB
      have HMW := hide hM
      have HO := hide hO
      have HI := hide hI
      haveI : Blw w wr := ⟨hB⟩
      by_cases hlt : m < l.length
      · have TS := hide (fun (x : St) (hx : x ∈ l) => step18_s n C aa inc cc SA sc S VA vc V x wr hM hO (by omega) (by omega) (fun k hk => by have := hI k hk; omega) (HX.out x hx))
        obtain ⟨b, off, x, hA, hb, hxm, v0, v1, v2, v3, v4⟩ := Reads.atSt (HR.out.below hB) hlt
        subst hA
        have hz := hB.size
        haveI : CellAt wr b (off + m * 5) (.int .i64 x.wt) := ⟨by omega, v0⟩
        haveI : CellAt wr b (off + m * 5 + 1) (.int .i64 x.wo) := ⟨by omega, v1⟩
        haveI : CellAt wr b (off + m * 5 + 2) (.int .i64 x.wh) := ⟨by omega, v2⟩
        haveI : CellAt wr b (off + m * 5 + 3) (.int .i64 x.st) := ⟨by omega, v3⟩
        haveI : CellAt wr b (off + m * 5 + 4) (.int .i64 x.cl) := ⟨by omega, v4⟩
        haveI : InW b wr := ⟨by omega⟩
        have TX := hide (TS.out x (List.mem_of_getElem? hxm))
        have j0 : (0 : Int) ≤ (m : Int) := by omega
        have j1 : (m : Int) < (l.length : Int) := by omega
        have HS := hide hS
        have HV := hide hV
        clear hM hO hS hV hI hC hB TS hxm v0 v1 v2 v3 v4
        go_wp2_with fail
        (with_reducible refine (TX.out).mono ?_)
        rintro e w' ⟨C', aa', inc', cc', SA', sc', S', VA', vc', V', rfl, hM', hO', hS', hV', hI', hT', -⟩
        have HM' := hide hM'
        have HO' := hide hO'
        have HS' := hide hS'
        have HV' := hide hV'
        have HI' := hide hI'
        have HT' := hide hT'
        clear hM' hO' hS' hV' hI' hT'
        go_wp2_with fail
        go_roundg (gk - 1)
        case rel => exact ⟨m + 1, by go_num, hide (by have := HG.out; omega), C', aa', inc', cc', SA', sc', S', VA', vc', V', HM'.out, HO'.out, (by have := HS'.out; have := HS.out; omega), (by have := HV'.out; have := HV.out; omega), (fun k hk => by have := HI'.out k hk; have := HI.out k hk; omega), HT'.out.ge HC.out HB.out.size, HB.out.trans (HT'.out.g.below HB.out.size HC.out)⟩
        case measure => have := HG.out; omega
      · have j1 : ¬ (m : Int) < (l.length : Int) := by omega
        clear hM hO hS hV hI hC hB
        go_wp2_with fail
        (with_reducible refine (TA.out _).mono ?_)
        rintro e w2 ⟨rfl, hb2⟩
        have HB2 := hide (below_step HB.out hb2)
        clear hb2
        go_wp2_with fail
        go_ret
        exact ⟨rfl, HB2.out⟩
end Go.Proofs.YtkglclekieckoaaGreat
