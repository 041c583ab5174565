/-
  RoundSettles: servers and clients, told outright.
-/
import Derived.Test.YtkglclekieckoaaGreatMn3
import Derived.Deep.CutBlock
import Derived.Test.YtkglclekieckoaaGreatMn4v
import Derived.Test.YtkglclekieckoaaGreatInts
import Derived.Test.YtkglclekieckoaaGreatAw8
import Derived.Test.YtkglclekieckoaaGreatLView2
import Derived.Test.YtkglclekieckoaaGreatSt5
namespace Go.Proofs.YtkglclekieckoaaGreat
set_option linter.unusedSimpArgs false
set_option linter.unusedVariables false
set_option linter.unusedSectionVars false
open Go.RowKit

/-- a bit of a number -/
def bitQ (x : Int) (k : Nat) : Bool := Go.bits BinOp.and IntKind.i64 (x / 2 ^ k) 1 == 1
def svF (f : Nat → Bool) (who i : Nat) : Bool := decide (i = who) || f i
def svL (inc : Nat → Int) (f : Nat → Bool) (who k : Nat) : List Pr := ((List.range k).filter (svF f who)).map fun (i : Nat) => ((i : Int) + 1, inc i)
theorem svL_succ (inc : Nat → Int) (f : Nat → Bool) (who k : Nat) : svL inc f who (k + 1) = svL inc f who k ++ (if svF f who k then [((k : Int) + 1, inc k)] else []) := by
  unfold svL
  rw [List.range_succ, List.filter_append, List.map_append]
  congr 1
  cases h : svF f who k <;> simp [List.filter_cons, h]
theorem svL_len (inc : Nat → Int) (f : Nat → Bool) (who k : Nat) : (svL inc f who k).length ≤ k := by
  unfold svL
  rw [List.length_map]
  exact Nat.le_trans (List.length_filter_le _ _) (by simp)
def RetSvE (w : World) (l : List Pr) (e : Ending) (w' : World) : Prop := ∃ (A : Option Addr) (c : Nat), e = .returned (.slice A l.length c) ∧ w'.ownsRow w.heap.size 25 2 (.slice A l.length c) l.length (pcs l) ∧ Below w.heap.size w w'
set_option maxRecDepth 100000 in
set_option maxHeartbeats 4000000 in
theorem servers18_e (n : Nat) (aa : Nat → Ag) (inc cc : Nat → Int) (S V : Value) (who : Nat) (bits : Int) (w : World) (h : BoxAt w n (mcs aa inc cc S V) 77) :
    Calls Tryz.prog 20 #[.pointer (some ⟨n, 0, none⟩), .int .i64 who, .int .i64 bits] w (RetSvE w (svL inc (bitQ bits) who 4)) := by
  haveI := h
  have TL := hide (fun n i W => lifeM_s n i W)
  clear h
  go_enter Tryz.func20, Tryz.ntmps20
  go_wp2_with fail
  go_loopw [7, 8] (fun v i wr => ∃ (k : Nat) (L : List Pr), k ≤ 4 ∧ i = .int .i64 k ∧ Hid (L = svL inc (bitQ bits) who k) ∧ L.length ≤ k ∧ wr.ownsRow w.heap.size 25 2 v L.length (pcs L) ∧ Below w.heap.size w wr) (fun _ i _ => 4 - (intOf i).toNat)
  case atStart => exact ⟨0, [], Nat.zero_le _, rfl, hide rfl, Nat.le_refl _, World.ownsRow_nil _ _ _ _, Below.refl _ _⟩
  case round =>
    obtain ⟨k, L, hk, rfl, HLL, hL, hown, hbw⟩ := hrel
    haveI : Stp w wr := ⟨hbw⟩
    have HO := hide hown
    have hsz := hbw.size
    have HBW := hide hbw
    obtain ⟨A, c, rfl, _, _⟩ := own_slice hown
    clear hown hbw
    by_cases hlt : k < 4
    · have i0 : (0 : Int) ≤ (k : Int) := by omega
      have i1 : (k : Int) < 4 := by omega
      go_upto_region 5 with fail
      go_cut [22] (fun s22 wx => s22 = .bool (svF (bitQ bits) who k) ∧ wx = wr)
      case first =>
        by_cases hq : k = who
        · have d1 : ((k : Int) == (who : Int)) = true := beq_iff_eq.2 (by omega)
          have HQ := hide hq
          clear hq
          go_wp2_with fail
          go_meet
          case rel => exact ⟨by unfold svF; rw [decide_eq_true HQ.out]; rfl, rfl⟩
        · have d1 : ((k : Int) == (who : Int)) = false := beq_eq_false_iff_ne.2 (by omega)
          have HQ := hide hq
          clear hq
          go_wp2_with fail
          go_meet
          case rel => exact ⟨by unfold svF; rw [decide_eq_false HQ.out]; rfl, rfl⟩
      case rest =>
        obtain ⟨rfl, rfl⟩ := hcut
        cases hb : svF (bitQ bits) who k
        · have HST := hide (show svL inc (bitQ bits) who (k + 1) = svL inc (bitQ bits) who k by rw [svL_succ, hb]; simp)
          clear hb
          go_wp2_with fail
          go_roundw
          case rel => exact ⟨k + 1, L, by omega, by go_num, hide (by rw [HST.out]; exact HLL.out), by omega, HO.out, HBW.out⟩
          case measure => simp [intOf]; omega
        · have HST := hide (show svL inc (bitQ bits) who (k + 1) = svL inc (bitQ bits) who k ++ [((k : Int) + 1, inc k)] by rw [svL_succ, hb]; simp)
          clear hb
          go_wp2_with (first
            | (go_at_call 8; (with_reducible refine (TL.out _ _ _).mono ?_); rintro e w1 ⟨rfl, rfl⟩)
            | (at_builtin; refine wpList_append_w Tryz.okP rfl (.tmp 23) (.tmp 33) rfl w.heap.size (.slice A L.length c) L.length (pcs L) 1 (pcs [((k : Int) + 1, inc k)]) ?_ ?_ ?_ ?_ ?_ ?_ ?_ ?_; go_must ((focus (first | rfl | (simp [Act.eval, Act.put]; done))); (focus (exact own_tc HO.out)); (focus (refine ⟨_, _, rfl, ?_⟩; exact reads_p1x _ _ ((k : Int) + 1) (inc k))); (focus (exact pc_one _)); (focus (unfold maxLen; omega)); (focus omega); (focus (first | omega | (simp; done) | (simp; omega) | exact blw.size | exact BoxAt.lt (n := w.heap.size) inferInstance)); intro v1 w1 ho1 hg1; haveI : StpB w.heap.size _ w1 := ⟨grown_belowT hg1 (by simp; omega) (fun q hq => (HO.out.lt q hq).1)⟩; have HO1 := hide ho1; clear ho1 hg1)))
          go_roundw
          case rel => exact ⟨k + 1, L ++ [((k : Int) + 1, inc k)], by omega, by go_num, hide (by rw [HST.out, HLL.out]), by rw [List.length_append]; simp; omega, by rw [List.length_append, pcs_app]; exact HO1.out, blw⟩
          case measure => simp [intOf]; omega
    · have hlt' : ¬ (k : Int) < 4 := by omega
      have e4 : k = 4 := by omega
      subst e4
      have HL := hide (show L.length ≤ 4 by omega)
      go_wp2_with fail
      go_ret
      unfold RetSvE
      rw [← HLL.out]
      exact ⟨A, c, rfl, HO.out, HBW.out⟩
/-- clients of a server's own -/
def clF (f : Nat → Bool) (who j : Nat) : Bool := decide (j % 4 = who) && f j
def clX (cc : Nat → Int) (j : Nat) : Cl := ⟨(j : Int) + 5, 1, cc (j + 5), 0, 0, false⟩
def clL (cc : Nat → Int) (f : Nat → Bool) (who k : Nat) : List Cl := ((List.range k).filter (clF f who)).map (clX cc)
theorem clL_succ (cc : Nat → Int) (f : Nat → Bool) (who k : Nat) : clL cc f who (k + 1) = clL cc f who k ++ (if clF f who k then [clX cc k] else []) := by
  unfold clL
  rw [List.range_succ, List.filter_append, List.map_append]
  congr 1
  cases h : clF f who k <;> simp [List.filter_cons, h]
theorem clL_len (cc : Nat → Int) (f : Nat → Bool) (who k : Nat) : (clL cc f who k).length ≤ k := by
  unfold clL
  rw [List.length_map]
  exact Nat.le_trans (List.length_filter_le _ _) (by simp)
def RetCqE (w : World) (l : List Cl) (e : Ending) (w' : World) : Prop := ∃ (A : Option Addr) (c : Nat), e = .returned (.agg #[.slice A l.length c]) ∧ w'.ownsRow w.heap.size 48 6 (.slice A l.length c) l.length (ccs l) ∧ Below w.heap.size w w'
set_option maxRecDepth 100000 in
set_option maxHeartbeats 4000000 in
theorem clients18_e (n : Nat) (aa : Nat → Ag) (inc cc : Nat → Int) (S V : Value) (who : Nat) (bits : Int) (w : World) (h : BoxAt w n (mcs aa inc cc S V) 77) :
    Calls Tryz.prog 21 #[.pointer (some ⟨n, 0, none⟩), .int .i64 who, .int .i64 bits] w (RetCqE w (clL cc (bitQ bits) who 6)) := by
  haveI := h
  haveI : LtN n w.heap.size := ⟨h.lt⟩
  have TL := hide (fun n i W => lifeM_s n i W)
  clear h
  go_enter Tryz.func21, Tryz.ntmps21
  go_wp2_with fail
  go_loopw [8] (fun i wr => ∃ (k : Nat) (L : List Cl) (A : Option Addr) (c : Nat), 5 ≤ k ∧ k ≤ 11 ∧ i = .int .i64 k ∧ Hid (L = clL cc (bitQ bits) who (k - 5)) ∧ L.length + 5 ≤ k ∧ BoxAt wr w.heap.size #[.slice none 0 0] 30 ∧ BoxAt wr (w.heap.size + 1) #[.slice A L.length c] 30 ∧ wr.ownsRow (w.heap.size + 1 + 1) 48 6 (.slice A L.length c) L.length (ccs L) ∧ Below w.heap.size w wr) (fun i _ => 11 - (intOf i).toNat)
  case atStart => exact ⟨5, [], none, 0, Nat.le_refl _, by omega, rfl, hide rfl, Nat.le_refl _, inferInstance, inferInstance, World.ownsRow_nil _ _ _ _, blw⟩
  case round =>
    obtain ⟨k, L, A, c, hk5, hk, rfl, HLL, hL, hb1, hb2, hown, hbw⟩ := hrel
    haveI : Stp w wr := ⟨hbw⟩
    haveI := hb1
    haveI := hb2
    have HO := hide hown
    have hsz := hbw.size
    have hs2 := hb2.lt
    haveI : LtN w.heap.size wr.heap.size := ⟨by omega⟩
    haveI : LtN (w.heap.size + 1) wr.heap.size := ⟨by omega⟩
    have HBW := hide hbw
    clear hown hbw
    by_cases hlt : k < 11
    · have i0 : (5 : Int) ≤ (k : Int) := by omega
      have i1 : (k : Int) ≤ 10 := by omega
      go_upto_region 5 with fail
      go_cut [26] (fun s26 wx => s26 = .bool (clF (bitQ bits) who (k - 5)) ∧ wx = wr)
      case first =>
        by_cases hq : (k - 5) % 4 = who
        · have hq2 : (((k : Int) - 5) % 4 == (who : Int)) = true := beq_iff_eq.2 (by omega)
          have HQ := hide hq
          clear hq
          go_wp2_with fail
          go_meet
          case rel => exact ⟨by unfold clF; rw [decide_eq_true HQ.out]; rfl, rfl⟩
        · have hq2 : (((k : Int) - 5) % 4 == (who : Int)) = false := beq_eq_false_iff_ne.2 (by omega)
          have HQ := hide hq
          clear hq
          go_wp2_with fail
          go_meet
          case rel => exact ⟨by unfold clF; rw [decide_eq_false HQ.out]; rfl, rfl⟩
      case rest =>
        obtain ⟨rfl, rfl⟩ := hcut
        cases hb : clF (bitQ bits) who (k - 5)
        · have HST := hide (show clL cc (bitQ bits) who (k + 1 - 5) = clL cc (bitQ bits) who (k - 5) by rw [show k + 1 - 5 = (k - 5) + 1 by omega, clL_succ, hb]; simp)
          clear hb
          go_wp2_with fail
          go_roundw
          case rel => exact ⟨k + 1, L, A, c, by omega, by omega, by go_num, hide (by rw [HST.out]; exact HLL.out), by omega, inferInstance, inferInstance, HO.out, HBW.out⟩
          case measure => simp [intOf]; omega
        · have HST := hide (show clL cc (bitQ bits) who (k + 1 - 5) = clL cc (bitQ bits) who (k - 5) ++ [(⟨k, 1, cc k, 0, 0, false⟩ : Cl)] by
            have e : clX cc (k - 5) = (⟨k, 1, cc k, 0, 0, false⟩ : Cl) := by
              unfold clX
              rw [show k - 5 + 5 = k by omega, show ((k - 5 : Nat) : Int) + 5 = (k : Int) by omega]
            rw [show k + 1 - 5 = (k - 5) + 1 by omega, clL_succ, hb, e]; simp)
          clear hb
          have HL := hide (show L.length ≤ 6 by omega)
          have hk11 : k < 11 := hlt
          have j0 : (0 : Int) ≤ (k : Int) := by omega
          have j1 : (k : Int) < 11 := by omega
          go_wp2_with fail
          go_region_law (first
              | (go_simp; go_at_call 8; (with_reducible refine (TL.out _ _ _).mono ?_); rintro e w1 ⟨rfl, rfl⟩)
              | (refine step_append_w Tryz.okC rfl (.tmp 28) (.tmp 38) rfl (w.heap.size + 1 + 1) (.slice A L.length c) L.length (ccs L) 1 (ccs [(⟨k, 1, cc k, 0, 0, false⟩ : Cl)]) ?_ ?_ ?_ ?_ ?_ ?_ ?_ ?_; go_must ((focus (first | rfl | (simp [Act.eval, Act.put]; done))); (focus (exact own_tc HO.out)); (focus (refine ⟨_, _, by first | rfl | (simp [Act.eval, Act.put]; done), ?_⟩; exact reads_cM _ _ (⟨k, 1, cc k, 0, 0, false⟩ : Cl))); (focus (exact cc_one _)); (focus (unfold maxLen; omega)); (focus omega); (focus (first | omega | (simp; done) | (simp; omega) | exact blw.size | exact BoxAt.lt (n := w.heap.size) inferInstance)); intro v1 w1 ho1 hg1; haveI : StpB (w.heap.size + 1 + 1) _ w1 := ⟨grown_belowT hg1 (by simp; omega) (fun q hq => (HO.out.lt q hq).1)⟩; obtain ⟨A1, c1, rfl, _, _⟩ := own_slice ho1; have HO1 := hide ho1; clear ho1 hg1)))
          all_goals
            go_wp2_with fail
            go_roundw
            case rel => exact ⟨k + 1, L ++ [(⟨k, 1, cc k, 0, 0, false⟩ : Cl)], A1, c1, by omega, by omega, by go_num, hide (by rw [HST.out, HLL.out]), by rw [List.length_append]; simp; omega, inferInstance, by rw [List.length_append]; exact inferInstance, by rw [List.length_append, ccs_app]; exact own_kp HO1.out, blw⟩
            case measure => simp [intOf]; omega
    · have hlt' : ¬ (k : Int) ≤ 10 := by omega
      have e11 : k = 11 := by omega
      subst e11
      have HL := hide (show L.length ≤ 6 by omega)
      go_wp2_with fail
      refine bodyPost_ret (v := .agg #[.slice A L.length c]) (by simp [results, Tryz.results21, go_sem]) rfl ?_
      unfold RetCqE
      have e := HLL.out
      rw [show 11 - 5 = 6 from rfl] at e
      rw [← e]
      exact ⟨A, c, rfl, own_base (own_kp HO.out) (by omega), blw⟩
end Go.Proofs.YtkglclekieckoaaGreat

namespace Go.Proofs.YtkglclekieckoaaGreat
set_option linter.unusedSimpArgs false
set_option linter.unusedVariables false
set_option linter.unusedSectionVars false
open Go.RowKit

/-- a proposal on its way to a server -/
structure Wq where
  ds : Nat
  pp : Pp
  deriving Inhabited
def Wq.vl (x : Wq) : List Value := [.int .i64 x.ds, .int .i64 x.pp.n, .int .u64 x.pp.i, .int .u64 x.pp.rd, .slice x.pp.SA x.pp.ss.length x.pp.sc, .slice x.pp.CA x.pp.cs.length x.pp.cc, .slice x.pp.UA x.pp.us.length x.pp.uc]
theorem Wq.vl_len (x : Wq) : x.vl.length = 7 := rfl
def wqs (l : List Wq) : List Value := l.flatMap Wq.vl
theorem wqs_len (l : List Wq) : (wqs l).length = l.length * 7 := flat_length Wq.vl_len l
theorem wqs_app (l m : List Wq) : wqs (l ++ m) = wqs l ++ wqs m := List.flatMap_append
theorem wqs_one (l : List Wq) : ∀ u ∈ wqs l, u.oneCell' = true := by
  intro u hu
  obtain ⟨p, _, hp⟩ := List.mem_flatMap.1 hu
  simp [Wq.vl] at hp
  rcases hp with rfl | rfl | rfl | rfl | rfl | rfl | rfl <;> rfl
theorem Tryz.okWq : ElemOk Tryz.prog 71 84 7 104 := elemOk_of (.agg #[.int .i64 0, .int .i64 0, .int .u64 0, .int .u64 0, .slice none 0 0, .slice none 0 0, .slice none 0 0]) Tryz.underlying71 (by kernel_rfl) rfl (by omega)
theorem reads_wq1x (W : World) (m : Nat) (t : Nat) (y : Pp) [h : BoxAt W m #[.int .i64 t, .int .i64 y.n, .int .u64 y.i, .int .u64 y.rd, .slice y.SA y.ss.length y.sc, .slice y.CA y.cs.length y.cc, .slice y.UA y.us.length y.uc] 84] : Reads W W.heap.size 7 (some ⟨m, 0, none⟩) 1 (wqs [⟨t, y⟩]) :=
  ⟨rfl, fun _ => ⟨_, _, rfl, h.lt, fun j u hu => by
    rw [Nat.zero_add, cell?_box]
    have e : wqs [⟨t, y⟩] = (#[.int .i64 t, .int .i64 y.n, .int .u64 y.i, .int .u64 y.rd, .slice y.SA y.ss.length y.sc, .slice y.CA y.cs.length y.cc, .slice y.UA y.us.length y.uc] : Array Value).toList := rfl
    rw [e] at hu
    simpa using hu⟩⟩
structure AtWq (w : World) (b o : Nat) (x : Wq) : Prop where
  c0 : w.cell? ⟨b, o, none⟩ = some (.int .i64 x.ds)
  c1 : w.cell? ⟨b, o + 1, none⟩ = some (.int .i64 x.pp.n)
  c2 : w.cell? ⟨b, o + 1 + 1, none⟩ = some (.int .u64 x.pp.i)
  c3 : w.cell? ⟨b, o + 1 + 2, none⟩ = some (.int .u64 x.pp.rd)
  c4 : w.cell? ⟨b, o + 1 + 3, none⟩ = some (.slice x.pp.SA x.pp.ss.length x.pp.sc)
  c5 : w.cell? ⟨b, o + 1 + 4, none⟩ = some (.slice x.pp.CA x.pp.cs.length x.pp.cc)
  c6 : w.cell? ⟨b, o + 1 + 5, none⟩ = some (.slice x.pp.UA x.pp.us.length x.pp.uc)
theorem Reads.atWq {w : World} {B : Nat} {A : Option Addr} {n k : Nat} {l : List Wq} (h : Reads w B 7 A n (wqs l)) (hk : k < n) :
    ∃ b off x, A = some ⟨b, off, none⟩ ∧ b < B ∧ l[k]? = some x ∧ AtWq w b (off + k * 7) x := by
  obtain ⟨b, off, rfl, hb, hc⟩ := h.2 (by omega)
  have hl : k < l.length := by have := h.1; rw [wqs_len] at this; omega
  have hp : l[k]? = some l[k] := List.getElem?_eq_getElem hl
  have key : ∀ j (hj : j < 7), w.cell? ⟨b, off + k * 7 + j, none⟩ = (l[k].vl)[j]? := by
    intro j hj
    have hx : (l[k].vl)[j]? = some ((l[k].vl)[j]'(by rw [Wq.vl_len]; exact hj)) := List.getElem?_eq_getElem _
    rw [Nat.add_assoc, hx]
    exact hc (k * 7 + j) _ (by rw [wqs, flat_get Wq.vl_len l k j _ hp hj, hx])
  exact ⟨b, off, l[k], rfl, hb, hp, key 0 (by omega), key 1 (by omega), key 2 (by omega), key 3 (by omega), key 4 (by omega), key 5 (by omega), key 6 (by omega)⟩
/-- who is on, as numbers -/
def onL (O : List Nat) : List Int := O.map fun (k : Nat) => (k : Int)
theorem onL_len (O : List Nat) : (onL O).length = O.length := List.length_map ..
theorem onL_get {O : List Nat} {k : Nat} {x : Int} (h : (onL O)[k]? = some x) : ∃ t, O[k]? = some t ∧ x = (t : Int) := by
  unfold onL at h
  rw [List.getElem?_map] at h
  cases e : O[k]? with
  | none => rw [e] at h; cases h
  | some t => rw [e] at h; injection h with h; exact ⟨t, rfl, h.symm⟩
/-- it goes to all but one -/
def sentW (O : List Nat) (frm : Nat) (p : Pp) : List Wq := (O.filter fun t => decide (t ≠ frm)).map fun t => ⟨t, p⟩
theorem sentW_snoc (O : List Nat) (frm t : Nat) (p : Pp) : sentW (O ++ [t]) frm p = sentW O frm p ++ (if t ≠ frm then [⟨t, p⟩] else []) := by
  unfold sentW
  rw [List.filter_append, List.map_append]
  congr 1
  by_cases h : t = frm <;> simp [h]
theorem sentW_len (O : List Nat) (frm : Nat) (p : Pp) : (sentW O frm p).length ≤ O.length := by
  unfold sentW
  rw [List.length_map]
  exact List.length_filter_le _ _
theorem Tr.app {C : List Nat} {w wr X W : World} {r r' : Option Nat} (h : Tr C r.toList w wr) (hb : Below wr.heap.size wr X) (hg : X.grownBy W r) (ha : r' = r ∨ r' = some X.heap.size) : Tr C r'.toList w W := by
  refine h.trans (((Tr.bel hb).trans (Tr.of (Gr.grown hg (fun k hk => by rw [hk]; simp)))).re fun i hi => ?_)
  have hi : r' = some i := by simpa using hi
  rcases ha with e | e
  · left; rw [← e, hi]; simp
  · right
    rw [e] at hi
    injection hi with hi
    rw [← hi]
    exact hb.size
def RetWq (w : World) (base : Nat) (WV : Value) (L : List Wq) (e : Ending) (w' : World) : Prop := ∃ A c, e = .returned (.slice A L.length c) ∧ w'.ownsRow base 84 7 (.slice A L.length c) L.length (wqs L) ∧ Tr WV.ownBlock.toList (Value.slice A L.length c).ownBlock.toList w w'
set_option maxRecDepth 100000 in
set_option maxHeartbeats 4000000 in
theorem sent18_s (base : Nat) (WA : Option Addr) (wc : Nat) (l : List Wq) (A : Option Addr) (oc : Nat) (O : List Nat) (frm : Nat) (p : Pp) (w : World) (hw : w.ownsRow base 84 7 (.slice WA l.length wc) l.length (wqs l)) (hbase : base ≤ w.heap.size)
    (hO : RO w (Value.slice WA l.length wc).ownBlock.toList 1 A O.length (ics (onL O))) (hn : l.length ≤ 1000) (h4 : O.length ≤ 4) :
    Calls Tryz.prog 23 #[.slice WA l.length wc, .slice A O.length oc, .int .i64 frm, p.ag] w (RetWq w base (.slice WA l.length wc) (l ++ sentW O frm p)) := by
  have HW := hide hw
  have HO := hide hO
  clear hw hO
  go_enter Tryz.func23, Tryz.ntmps23
  go_wp2_with fail
  go_loopw [0, 9] (fun v i wr => ∃ (k : Nat) (L : List Wq) (B : Option Addr) (d : Nat), k ≤ O.length ∧ i = .int .i64 k ∧ v = .slice B L.length d ∧ Hid (L = l ++ sentW (O.take k) frm p) ∧ wr.ownsRow base 84 7 (.slice B L.length d) L.length (wqs L) ∧ Tr (Value.slice WA l.length wc).ownBlock.toList (Value.slice B L.length d).ownBlock.toList w wr ∧ BoxAt wr w.heap.size #[.int .i64 p.n, .int .u64 p.i, .int .u64 p.rd, .slice p.SA p.ss.length p.sc, .slice p.CA p.cs.length p.cc, .slice p.UA p.us.length p.uc] 41 ∧ (∀ b, (Value.slice B L.length d).ownBlock = some b → b ≠ w.heap.size)) (fun _ i _ => O.length - (intOf i).toNat)
  case atStart => exact ⟨0, l, WA, wc, Nat.zero_le _, rfl, rfl, hide (by simp [sentW]), own_tc HW.out, Tr.bel blw, inferInstance, fun b hb => by have := (HW.out.lt b hb).2; omega⟩
  case round =>
    obtain ⟨k, L, B, d, hk, rfl, rfl, HL, hown, htr, hbx, hne⟩ := hrel
    haveI := hbx
    have HOW := hide hown
    have HTR := hide htr
    have HNE := hide hne
    have zb := hbx.lt
    have hll : L.length ≤ 1004 := by
      rw [HL.out, List.length_append]
      have := sentW_len (O.take k) frm p
      have : (O.take k).length ≤ O.length := by rw [List.length_take]; omega
      omega
    clear hown htr hne
    by_cases hlt : k < O.length
    · obtain ⟨b, off, x, hA, hb, hx, g1⟩ := Reads.atI (HO.out.tr HTR.out).1 hlt
      obtain ⟨t, hto, rfl⟩ := onL_get hx
      have hbn : b ∉ (Value.slice B L.length d).ownBlock.toList := (HO.out.tr HTR.out).2 (by omega) _ hA
      subst hA
      haveI : CellAt wr b (off + k) (.int .i64 t) := ⟨hb, g1⟩
      haveI : InW b wr := ⟨hb⟩
      have j0 : (0 : Int) ≤ (k : Int) := by omega
      have j1 : (k : Int) < (O.length : Int) := by omega
      have HST := hide (take_succ_of hto)
      have HBN := hide hbn
      clear hx g1 hto hbn
      by_cases hq : t = frm
      · have d1 : ((t : Int) != (frm : Int)) = false := by rw [hq]; simp
        have HQ := hide hq
        clear hq
        go_wp2_with fail
        go_roundw
        case rel => exact ⟨k + 1, L, B, d, by omega, by go_num, rfl, hide (by rw [HST.out, sentW_snoc, if_neg (by simp [HQ.out]), List.append_nil]; exact HL.out), HOW.out, HTR.out, inferInstance, HNE.out⟩
        case measure => simp [intOf]; omega
      · have d1 : ((t : Int) != (frm : Int)) = true := by simp only [bne_iff_ne, ne_eq]; omega
        have HQ := hide hq
        clear hq
        go_wp2_with fail
        go_region_held3 (fun w' => w'.cell? ⟨b, off + k, none⟩ = some (.int .i64 t) ∧ w'.cell? ⟨w.heap.size, 0, none⟩ = some (.int .i64 p.n) ∧ w'.cell? ⟨w.heap.size, 1, none⟩ = some (.int .u64 p.i) ∧ w'.cell? ⟨w.heap.size, 2, none⟩ = some (.int .u64 p.rd) ∧ w'.cell? ⟨w.heap.size, 3, none⟩ = some (.slice p.SA p.ss.length p.sc) ∧ w'.cell? ⟨w.heap.size, 4, none⟩ = some (.slice p.CA p.cs.length p.cc) ∧ w'.cell? ⟨w.heap.size, 5, none⟩ = some (.slice p.UA p.us.length p.uc)) ((refine ⟨?_, ?_, ?_, ?_, ?_, ?_, ?_⟩ <;> (first | exact cell?_ca _ _ _ _ | (rw [cell?_box]; rfl))))
          (first
            | (refine step_append_x Tryz.okWq rfl (.tmp 22) (.tmp 29) rfl base (.slice B L.length d) L.length (wqs L) 1 (wqs [⟨t, p⟩]) ?_ ?_ ?_ ?_ ?_ ?_ ?_ ?_; go_must ((focus (first | rfl | (simp [Act.eval, Act.put]; done))); (focus (exact own_tc HOW.out)); (focus (refine ⟨_, _, by first | rfl | (simp [Act.eval, Act.put]; done), ?_⟩; exact reads_wq1x _ _ t p)); (focus (exact wqs_one _)); (focus (unfold maxLen; omega)); (focus omega); (focus (first | omega | (simp; done) | (simp; omega) | exact blw.size | exact BoxAt.lt (n := w.heap.size) inferInstance)); intro v1 w1 ho1 hg1 ha1; obtain ⟨A1, c1, rfl, _, _⟩ := own_slice ho1; haveI : CellAt w1 b (off + k) (.int .i64 t) := (Tr.of (Gr.grown (C := (Value.slice B L.length d).ownBlock.toList) hg1 (fun k hk => by rw [hk]; simp))).cell inferInstance HBN.out; haveI : BoxAt w1 w.heap.size #[.int .i64 p.n, .int .u64 p.i, .int .u64 p.rd, .slice p.SA p.ss.length p.sc, .slice p.CA p.cs.length p.cc, .slice p.UA p.us.length p.uc] 41 := BoxAt.gr inferInstance hg1 (fun e => HNE.out _ e rfl); have HO1 := hide ho1; have HG1 := hide hg1; have HA1 := hide ha1; clear ho1 hg1 ha1))
            | fail)
        all_goals
          have hne1 : ∀ b, (Value.slice A1 (L.length + 1) c1).ownBlock = some b → b ≠ w.heap.size := fun b hb => by
            rcases HA1.out with e | e
            · exact HNE.out b (e.symm.trans hb)
            · rw [hb] at e
              injection e with e
              rw [e]
              simp
              omega
          have HN1 := hide hne1
          have hTR1 : Tr (Value.slice WA l.length wc).ownBlock.toList (Value.slice A1 (L.length + 1) c1).ownBlock.toList w w1 := HTR.out.app blw HG1.out HA1.out
          have HT1 := hide hTR1
          clear hne1 hTR1
          go_wp2_with fail
          go_roundw
          case rel => exact ⟨k + 1, L ++ [⟨t, p⟩], A1, c1, by omega, by go_num, by rw [List.length_append]; rfl, hide (by rw [HST.out, sentW_snoc, if_pos (by simp [HQ.out]), ← List.append_assoc, ← HL.out]), by rw [List.length_append, wqs_app]; exact HO1.out, by rw [List.length_append]; exact HT1.out, inferInstance, by rw [List.length_append]; exact HN1.out⟩
          case measure => simp [intOf]; omega
    · have e : k = O.length := by omega
      have j1 : ¬ (k : Int) < (O.length : Int) := by omega
      have HLE := hide (show L = l ++ sentW O frm p by rw [HL.out, e, List.take_length])
      clear e
      go_wp2_with fail
      go_ret
      rw [← HLE.out]
      exact ⟨B, d, rfl, HOW.out, HTR.out⟩
/-- the first one on its way to a server -/
def firstW (t : Nat) (l : List Wq) : Nat := if l.findIdx (fun x => decide (x.ds = t)) < l.length then l.findIdx (fun x => decide (x.ds = t)) else 0
set_option maxRecDepth 100000 in
set_option maxHeartbeats 4000000 in
theorem first18_s (WA : Option Addr) (wc : Nat) (l : List Wq) (t : Nat) (w : World) (hw : Reads w w.heap.size 7 WA l.length (wqs l)) (hn : l.length ≤ 1000000) :
    Calls Tryz.prog 24 #[.int .i64 t, .slice WA l.length wc] w (fun e w' => e = .returned (.int .i64 (firstW t l)) ∧ w' = w) := by
  have HW := hide hw
  clear hw
  go_enter Tryz.func24, Tryz.ntmps24
  go_wp2_with fail
  go_loopw [5] (fun i wr => ∃ k : Nat, k ≤ l.length ∧ i = .int .i64 k ∧ Hid (∀ j (h : j < l.length), j < k → l[j].ds ≠ t) ∧ wr = w) (fun i _ => l.length - (intOf i).toNat)
  case atStart => exact ⟨0, Nat.zero_le _, rfl, hide (fun j _ h => by omega), rfl⟩
  case round =>
    obtain ⟨k, hk, rfl, HK, rfl⟩ := hrel
    by_cases hlt : k < l.length
    · obtain ⟨b, off, x, hA, hb, hx, v0, v1, v2, v3, v4, v5, v6⟩ := Reads.atWq HW.out hlt
      subst hA
      haveI : CellAt wr b (off + k * 7) (.int .i64 x.ds) := ⟨hb, v0⟩
      haveI : InW b wr := ⟨hb⟩
      have j0 : (0 : Int) ≤ (k : Int) := by omega
      have j1 : (k : Int) < (l.length : Int) := by omega
      have hxk : l[k] = x := by
        have := List.getElem?_eq_getElem hlt
        rw [hx] at this
        injection this with this
        exact this.symm
      have HXK := hide hxk
      clear hx hxk v0 v1 v2 v3 v4 v5 v6
      by_cases hq : x.ds = t
      · have d1 : ((x.ds : Int) == (t : Int)) = true := beq_iff_eq.2 (by omega)
        have HQ := hide hq
        clear hq
        go_wp2_with fail
        go_ret
        have e : l.findIdx (fun x => decide (x.ds = t)) = k := by
          rw [List.findIdx_eq hlt]
          exact ⟨by rw [HXK.out]; simpa using HQ.out, fun j hj => by have := HK.out j (by omega) hj; simpa using this⟩
        unfold firstW
        rw [e, if_pos hlt]
        exact ⟨rfl, rfl⟩
      · have d1 : ((x.ds : Int) == (t : Int)) = false := beq_eq_false_iff_ne.2 (by omega)
        have HQ := hide hq
        clear hq
        go_wp2_with fail
        go_roundw
        case rel => exact ⟨k + 1, by omega, by go_num, hide (fun j hj hjk => by
          by_cases e : j = k
          · subst e; rw [HXK.out]; exact HQ.out
          · exact HK.out j hj (by omega)), trivial⟩
        case measure => simp [intOf]; omega
    · have j1 : ¬ (k : Int) < (l.length : Int) := by omega
      go_wp2_with fail
      go_ret
      have e : ¬ l.findIdx (fun x => decide (x.ds = t)) < l.length := by
        rw [List.findIdx_lt_length]
        rintro ⟨x, hx, h⟩
        obtain ⟨j, hj, rfl⟩ := List.mem_iff_getElem.1 hx
        exact HK.out j hj (by omega) (by simpa using h)
      unfold firstW
      rw [if_neg e]
      exact ⟨rfl, rfl⟩
end Go.Proofs.YtkglclekieckoaaGreat

namespace Go.Proofs.YtkglclekieckoaaGreat
set_option linter.unusedSimpArgs false
set_option linter.unusedVariables false
set_option linter.unusedSectionVars false
open Go.RowKit

/-- the lives of all their clients -/
def allL (f : Nat → Bool) (O : List Nat) : List Pr := O.flatMap fun k => livesL (clL (fun _ => 0) f k 6)
theorem clL_lives (cc : Nat → Int) (f : Nat → Bool) (who k : Nat) : livesL (clL cc f who k) = livesL (clL (fun _ => 0) f who k) := by
  unfold livesL clL
  rw [List.map_map, List.map_map]
  rfl
theorem allL_snoc (f : Nat → Bool) (O : List Nat) (t : Nat) : allL f (O ++ [t]) = allL f O ++ livesL (clL (fun _ => 0) f t 6) := by
  unfold allL
  rw [List.flatMap_append]
  simp
theorem allL_len (f : Nat → Bool) : ∀ O : List Nat, (allL f O).length ≤ 6 * O.length
  | [] => by simp [allL]
  | t :: O => by
    have h1 : (livesL (clL (fun _ => 0) f t 6)).length ≤ 6 := by
      unfold livesL
      rw [List.length_map]
      exact clL_len _ _ _ _
    have h2 := allL_len f O
    unfold allL at h2 ⊢
    rw [List.flatMap_cons, List.length_append, List.length_cons]
    omega
/-- what is asked of each of them -/
structure OneOk (f : Nat → Bool) (O : List Nat) (aa : Nat → Ag) (rd : Int) (v : Vw) : Prop where
  lt : ∀ k ∈ O, k < 4
  dn : ∀ k ∈ O, (aa k).dn = true
  rq : ∀ k ∈ O, (aa k).rd = rd
  vr : allL f O ≠ [] → ∀ k ∈ O, (aa k).vw.r = rd
  ms : allL f O ≠ [] → ∀ k ∈ O, (aa k).vw.ms = sortedL (allL f O)
  vw : allL f O ≠ [] → ∀ k ∈ O, (aa k).vw.br = v
instance (priority := low) CellAt.rowNo (W : World) (b i m : Nat) (cs : Array Value) (v : Value) [k : CellAt W b i v] [e : NeN b m] : CellAt (W.setRow m cs) b i v := ⟨by rw [setRow_size]; exact k.lt, by
  have := k.h
  unfold World.cell? at this ⊢
  rw [setRow_other _ _ _ _ e.h]
  exact this⟩
theorem cell_mcs {W : World} {n : Nat} {aa : Nat → Ag} {inc c : Nat → Int} {S V : Value} {t : TypeId} (k : BoxAt W n (mcs aa inc c S V) t) {who j : Nat} (h : who < 4) (hj : j < 14) {v : Value} (hv : (aa who).cs[j]? = some v) : CellAt W n (who * 14 + j) v := ⟨k.lt, by rw [cell?_box, mcs_ag _ _ _ _ _ _ _ h hj]; exact hv⟩
set_option maxRecDepth 100000 in
set_option maxHeartbeats 8000000 in
set_option synthInstance.maxSize 1000 in
theorem one18_s (n : Nat) (aa : Nat → Ag) (inc cc : Nat → Int) (S V : Value) (A : Option Addr) (oc : Nat) (O : List Nat) (bits : Int) (rd : Int) (v : Vw) (w : World) (h : BoxAt w n (mcs aa inc cc S V) 77) (hO : Reads w w.heap.size 1 A O.length (ics (onL O))) (h4 : O.length ≤ 4)
    (hv : ∀ k ∈ O, (aa k).vw.Ok w) (ho : OneOk (bitQ bits) O aa rd v) :
    Calls Tryz.prog 27 #[.pointer (some ⟨n, 0, none⟩), .slice A O.length oc, .int .i64 bits] w (RetB w true) := by
  haveI := h
  have hn := h.lt
  haveI : LtN n w.heap.size := ⟨hn⟩
  have HO := hide hO
  have HV := hide hv
  have HK := hide ho
  have TCL := hide (fun (k : Nat) W (hb : BoxAt W n (mcs aa inc cc S V) 77) => (by exact clients18_e n aa inc cc S V k bits W hb : Calls Tryz.prog 21 #[.pointer (some ⟨n, 0, none⟩), .int .i64 k, .int .i64 bits] W (RetCqE W (clL cc (bitQ bits) k 6))))
  clear h hO hv ho
  go_enter Tryz.func27, Tryz.ntmps27
  go_wp2_with fail
  go_loopw [7, 8] (fun v i wr => ∃ (k : Nat) (L : List Pr), k ≤ O.length ∧ i = .int .i64 k ∧ Hid (L = allL (bitQ bits) (O.take k)) ∧ wr.ownsRow w.heap.size 25 2 v L.length (pcs L) ∧ Below w.heap.size w wr) (fun _ i _ => O.length - (intOf i).toNat)
  case atStart => exact ⟨0, [], Nat.zero_le _, rfl, hide rfl, World.ownsRow_nil _ _ _ _, blw⟩
  case round =>
    obtain ⟨k, L, hk, rfl, HL, hown, hB⟩ := hrel
    haveI : Stp w wr := ⟨hB⟩
    have HOW := hide hown
    have HB := hide hB
    have hsz := hB.size
    have hll : L.length ≤ 24 := by
      rw [HL.out]
      have h1 := allL_len (bitQ bits) (O.take k)
      have h2 : (O.take k).length ≤ O.length := by rw [List.length_take]; omega
      omega
    obtain ⟨A0, c0, rfl, _, _⟩ := own_slice hown
    clear hown hB
    by_cases hlt : k < O.length
    · obtain ⟨b, off, x, hA, hb, hx, g1⟩ := Reads.atI (HO.out.below HB.out) hlt
      obtain ⟨t, hto, rfl⟩ := onL_get hx
      subst hA
      haveI : CellAt wr b (off + k) (.int .i64 t) := ⟨by omega, g1⟩
      haveI : InW b wr := ⟨by omega⟩
      have j0 : (0 : Int) ≤ (k : Int) := by omega
      have j1 : (k : Int) < (O.length : Int) := by omega
      have HST := hide (take_succ_of hto)
      clear hx g1 hto
      go_wp2_with fail
      (with_reducible refine (TCL.out _ _ ?_).mono ?_)
      · exact inferInstance
      rintro e w2 ⟨A2, c2, rfl, ho2, hb2⟩
      haveI : Stp _ w2 := ⟨hb2⟩
      have z2 := hb2.size
      have HO2 := hide ho2
      generalize hcl : clL cc (bitQ bits) t 6 = CL at HO2
      have HCL := hide hcl
      have hcl6 : CL.length ≤ 6 := by rw [← hcl]; exact clL_len _ _ _ _
      clear ho2 hb2 hcl
      have HLK := hide (show ∀ q, (Value.slice A0 L.length c0).ownBlock = some q → w.heap.size ≤ q ∧ q < wr.heap.size from fun q hq => HOW.out.lt q hq)
      have HRC := hide (show RO w2 (Value.slice A0 L.length c0).ownBlock.toList 6 A2 CL.length (ccs CL) from RO.own HO2.out (fun i hi => by
        have hi : (Value.slice A0 L.length c0).ownBlock = some i := by simpa using hi
        have := (HLK.out i hi).2
        simpa using this))
      obtain ⟨wo, rfl⟩ : ∃ wo, wo = wr := ⟨wr, rfl⟩
      go_wp2_with fail
      go_loopw [7, 10] (fun v i wx => ∃ (m : Nat) (L2 : List Pr) (B : Option Addr) (d : Nat), m ≤ CL.length ∧ i = .int .i64 m ∧ v = .slice B L2.length d ∧ Hid (L2 = L ++ livesL (CL.take m)) ∧ wx.ownsRow w.heap.size 25 2 (.slice B L2.length d) L2.length (pcs L2) ∧ BoxAt wx w2.heap.size #[.slice A2 CL.length c2] 30 ∧ Tr (Value.slice A0 L.length c0).ownBlock.toList (Value.slice B L2.length d).ownBlock.toList w2 wx ∧ (∀ q, (Value.slice B L2.length d).ownBlock = some q → q ≠ w2.heap.size)) (fun _ i _ => CL.length - (intOf i).toNat)
      case atStart => exact ⟨0, L, A0, c0, Nat.zero_le _, rfl, rfl, hide (by simp [livesL]), own_tc HOW.out, inferInstance, Tr.bel blw, fun q hq => by have := (HLK.out q hq).2; have : wo.heap.size ≤ w2.heap.size := (blw (a := wo) (W := w2)).size; omega⟩
      case round =>
        obtain ⟨m, L2, B, d, hm, rfl, rfl, HL2, hown2, hbx, htr, hne⟩ := hrel
        haveI := hbx
        have HOW2 := hide hown2
        have HTR := hide htr
        have HNE := hide hne
        have zb := hbx.lt
        have hw2 : w.heap.size ≤ w2.heap.size := (blw (a := w) (W := w2)).size
        have hl2 : L2.length ≤ 30 := by
          rw [HL2.out, List.length_append]
          unfold livesL
          rw [List.length_map, List.length_take]
          omega
        have hbn : BoxAt wr n (mcs aa inc cc S V) 77 := (htr.box inferInstance (fun hm => by
          have hm : (Value.slice A0 L.length c0).ownBlock = some n := by simpa using hm
          have := (HLK.out n hm).1
          omega)).1
        haveI := hbn
        have hBw : Below w.heap.size w wr := (blw (a := w) (W := w2)).trans (htr.g.below hw2 (fun i hi => (HLK.out i (by simpa using hi)).1))
        haveI : Blw w wr := ⟨hBw⟩
        clear hown2 htr hne
        by_cases hlt2 : m < CL.length
        · obtain ⟨b3, off3, x3, hA3, hb3, hx3, g0, g1, g2, g3, g4, g5⟩ := Reads.atC (HRC.out.tr HTR.out).1 hlt2
          have hbnC : b3 ∉ (Value.slice B L2.length d).ownBlock.toList := (HRC.out.tr HTR.out).2 (by omega) _ hA3
          subst hA3
          haveI : CellAt wr b3 (off3 + m * 6) (.int .i64 x3.n) := ⟨hb3, g0⟩
          haveI : CellAt wr b3 (off3 + m * 6 + 1) (.int .u64 x3.i) := ⟨hb3, g1⟩
          haveI : InW b3 wr := ⟨hb3⟩
          have i0 : (0 : Int) ≤ (m : Int) := by omega
          have i1 : (m : Int) < (CL.length : Int) := by omega
          have HS3 := hide (take_succ_of hx3)
          clear hx3 g0 g1 g2 g3 g4 g5
          go_wp2_with (at_builtin; refine wpList_append_x Tryz.okP rfl (.tmp 33) (.tmp 40) rfl w.heap.size (.slice B L2.length d) L2.length (pcs L2) 1 (pcs [(x3.n, x3.i)]) ?_ ?_ ?_ ?_ ?_ ?_ ?_ ?_; go_must ((focus (first | rfl | (simp [Act.eval, Act.put]; done))); (focus (exact own_tc HOW2.out)); (focus (refine ⟨_, _, rfl, ?_⟩; exact reads_p1x _ _ x3.n x3.i)); (focus (exact pc_one _)); (focus (unfold maxLen; omega)); (focus omega); (focus (first | omega | (simp; done) | (simp; omega) | exact blw.size | exact BoxAt.lt (n := w.heap.size) inferInstance)); intro v1 w1 ho1 hg1 ha1; obtain ⟨A1, c1, rfl, _, _⟩ := own_slice ho1; haveI : BoxAt w1 w2.heap.size #[.slice (some ⟨b3, off3, none⟩) CL.length c2] 30 := BoxAt.gr inferInstance hg1 (fun e => HNE.out _ e rfl); have HO1 := hide ho1; have HG1 := hide hg1; have HA1 := hide ha1; clear ho1 hg1 ha1))
          have hne1 : ∀ q, (Value.slice A1 (L2.length + 1) c1).ownBlock = some q → q ≠ w2.heap.size := fun q hq => by
            rcases HA1.out with e | e
            · exact HNE.out q (e.symm.trans hq)
            · rw [hq] at e
              injection e with e
              rw [e]
              simp
              omega
          have HN1 := hide hne1
          have hTR1 : Tr (Value.slice A0 L.length c0).ownBlock.toList (Value.slice A1 (L2.length + 1) c1).ownBlock.toList w2 w1 := HTR.out.app blw HG1.out HA1.out
          have HT1 := hide hTR1
          clear hne1 hTR1
          go_roundw
          case rel => exact ⟨m + 1, L2 ++ [(x3.n, x3.i)], A1, c1, by omega, by go_num, by rw [List.length_append]; rfl, hide (by rw [HS3.out, HL2.out]; simp [livesL]), by rw [List.length_append, pcs_app]; exact HO1.out, inferInstance, by rw [List.length_append]; exact HT1.out, by rw [List.length_append]; exact HN1.out⟩
          case measure => simp [intOf]; omega
        · have e : m = CL.length := by omega
          have i1 : ¬ (m : Int) < (CL.length : Int) := by omega
          have HLE := hide (show L2 = allL (bitQ bits) (O.take (k + 1)) by
            rw [HL2.out, e, List.take_length, HL.out, HST.out, allL_snoc, ← HCL.out, clL_lives])
          clear e
          have HBW := hide hBw
          go_wp2_with fail
          go_roundw
          case rel => exact ⟨k + 1, L2, by omega, by go_num, HLE, HOW2.out, HBW.out⟩
          case measure => simp [intOf]; omega
    · have e : k = O.length := by omega
      have j1 : ¬ (k : Int) < (O.length : Int) := by omega
      have HLE := hide (show L = allL (bitQ bits) O by rw [HL.out, e, List.take_length])
      clear e
      obtain ⟨wo, rfl⟩ : ∃ wo, wo = wr := ⟨wr, rfl⟩
      go_wp2_with fail
      go_loopw [11] (fun i wx => ∃ k : Nat, k ≤ O.length ∧ i = .int .i64 k ∧ Below wo.heap.size wo wx) (fun i _ => O.length - (intOf i).toNat)
      case atStart => exact ⟨0, Nat.zero_le _, rfl, blw⟩
      case round =>
        obtain ⟨q, hq, rfl, hB2⟩ := hrel
        haveI : Stp wo wr := ⟨hB2⟩
        have HB2 := hide hB2
        have zz := hB2.size
        clear hB2
        by_cases hlt3 : q < O.length
        · obtain ⟨b, off, x, hA, hb, hx, g1⟩ := Reads.atI ((HO.out.below HB.out).more HB.out.size |>.below HB2.out) hlt3
          obtain ⟨t, hto, rfl⟩ := onL_get hx
          obtain ⟨b', off', x, hA', _, hx', g1'⟩ := Reads.atI ((HO.out.below HB.out).more HB.out.size |>.below HB2.out) (show 0 < O.length by omega)
          obtain ⟨t0, hto0, rfl⟩ := onL_get hx'
          subst hA
          injection hA' with hA'
          injection hA' with e1 e2
          subst e1 e2
          haveI : CellAt wr b (off + q) (.int .i64 t) := ⟨by omega, g1⟩
          haveI : CellAt wr b (off + 0) (.int .i64 t0) := ⟨by omega, g1'⟩
          haveI : InW b wr := ⟨by omega⟩
          haveI : LtN b wr.heap.size := ⟨by omega⟩
          haveI : LtN n wr.heap.size := ⟨BoxAt.lt (n := n) (w := wr) inferInstance⟩
          have j0 : (0 : Int) ≤ (q : Int) := by omega
          have j2 : (q : Int) < (O.length : Int) := by omega
          have j3 : (0 : Int) < (O.length : Int) := by omega
          have j4 : 0 < O.length := by omega
          have ht := HK.out.lt t (List.mem_of_getElem? hto)
          have ht0 := HK.out.lt t0 (List.mem_of_getElem? hto0)
          have i0 : (0 : Int) ≤ (t : Int) := by omega
          have i1 : (t : Int) < 4 := by omega
          have i2 : (0 : Int) ≤ (t0 : Int) := by omega
          have i3 : (t0 : Int) < 4 := by omega
          have hdn : (aa t).dn = true := HK.out.dn t (List.mem_of_getElem? hto)
          have hrd : (aa t).rd = rd := HK.out.rq t (List.mem_of_getElem? hto)
          have HDN := hide hdn
          have HRD := hide hrd
          have HTO := hide (List.mem_of_getElem? hto)
          have HTO0 := hide (List.mem_of_getElem? hto0)
          clear hx g1 hto hx' g1' hto0 hdn hrd
          go_upto_region 13 with fail
          go_cut [12] (fun s12 wx => ∃ n12, s12 = .pointer (some ⟨n12, 0, none⟩) ∧ BoxAt wx n12 (aa t).cs 38 ∧ Below wr.heap.size wr wx)
          case first =>
            go_region_held3 (fun w' => w'.cell? ⟨b, off + q, none⟩ = some (.int .i64 t) ∧ (ldAg ⟨n, t * 14, none⟩).run Tryz.prog w' = .ok (.agg (aa t).cs) w') ((refine ⟨?_, ?_⟩ <;> (first | exact cell?_ca _ _ _ _ | exact ldAg_many _ n aa inc cc _ _ _ t ht)))
              (fail)
            all_goals
              go_wp2_with fail
              go_meet
              case rel => exact ⟨_, rfl, inferInstance, blw⟩
          case rest =>
            obtain ⟨n12, rfl, hb12, hB3⟩ := hcut
            haveI := hb12
            haveI : Stp wr wc := ⟨hB3⟩
            have z12 := hb12.lt
            go_upto_region 14 with fail
            go_cut [73] (fun s73 wx => s73 = .bool false ∧ Below wc.heap.size wc wx)
            case first =>
              have d1 : (aa t).dn = true := HDN.out
              have d2 : (aa t).rd = rd := HRD.out
              have d3 : (mcs aa inc cc S V)[t0 * 14 + 2]? = some (.int .u64 rd) := by rw [mcs_ag _ _ _ _ _ _ _ ht0 (by omega), ← HK.out.rq t0 HTO0.out]; rfl
              go_wp2_with fail
              (refine wp_region_gw (by kernel_rfl) (by kernel_rfl) ?_; (repeat (go_big_quiet_step ((fail)))); refine wpQuiet_nil ?_; intro _ hw'; obtain ⟨⟨dq, osq⟩, hw''⟩ := hw'; subst hw'')
              go_wp2_with fail
              go_meet
              case rel => exact ⟨rfl, blw⟩
            case rest =>
              obtain ⟨rfl, hB4⟩ := hcut
              haveI : Stp _ wc := ⟨hB4⟩
              have hBd : Below wo.heap.size wo wc := blw
              have HBD := hide hBd
              clear hB4 hBd
              obtain ⟨wd, rfl⟩ : ∃ wd, wd = wc := ⟨wc, rfl⟩
              have zd : wo.heap.size ≤ wd.heap.size := HBD.out.size
              have z13 := BoxAt.lt (n := n12) (w := wd) inferInstance
              go_upto_region 16 with fail
              go_cut [109] (fun s109 wx => s109 = .bool false ∧ Below wd.heap.size wd wx)
              case first =>
                by_cases hle : L.length = 0
                · have d1 : decide (0 < L.length) = false := decide_eq_false (by omega)
                  clear hle
                  go_wp2_with fail
                  (refine wp_region_gw (by kernel_rfl) (by kernel_rfl) ?_; (repeat (go_big_quiet_step ((fail)))); refine wpQuiet_nil ?_; intro _ hw'; obtain ⟨⟨dq, osq⟩, hw''⟩ := hw'; subst hw'')
                  go_wp2_with fail
                  go_meet
                  case rel => exact ⟨rfl, blw⟩
                · have d1 : decide (0 < L.length) = true := decide_eq_true (by omega)
                  have hne : allL (bitQ bits) O ≠ [] := fun e => hle (by rw [HLE.out, e]; rfl)
                  have d2 : (aa t).rd = rd := HRD.out
                  have d4 : (aa t).vw.r = rd := HK.out.vr hne t HTO.out
                  have HMS := hide (HK.out.ms hne t HTO.out)
                  have HEQ := hide (show Vw.eqB (aa t).vw (aa t0).vw = true from by
                    have e1 := HK.out.vw hne t HTO.out
                    have e2 := HK.out.vw hne t0 HTO0.out
                    have e3 : (aa t).vw.br = (aa t0).vw.br := e1.trans e2.symm
                    exact decide_eq_true ⟨(congrArg Vw.r e3 : (aa t).vw.br.r = (aa t0).vw.br.r), (congrArg Vw.n e3 : (aa t).vw.br.n = (aa t0).vw.br.n), (congrArg Vw.i e3 : (aa t).vw.br.i = (aa t0).vw.br.i), (congrArg Vw.ms e3 : (aa t).vw.br.ms = (aa t0).vw.br.ms), (congrArg Vw.us e3 : (aa t).vw.br.us = (aa t0).vw.br.us)⟩)
                  have TSO := hide (fun W (hb : Below wd.heap.size wd W) => (by
                    have h1 := ((Reads.of_own HOW.out).below HBD.out).more zd
                    exact refSorted_s A0 c0 L W ((h1.below hb).more hb.size) (by omega) : Calls Tryz.prog 60 #[.slice A0 L.length c0] W (RetS W (sortedL L))))
                  have hvt : (aa t).vw.Ok wd := ((HV.out t HTO.out).step HB.out).step HBD.out
                  have hvt0 : (aa t0).vw.Ok wd := ((HV.out t0 HTO0.out).step HB.out).step HBD.out
                  have TEQ := hide (fun (A5 : Option Addr) (c5 : Nat) W (hb : Below wd.heap.size wd W) (h5 : Sl W A5 (sortedL L)) => (by
                    have h1 := refEqual_s (aa t).vw.MA A5 (aa t).vw.mc c5 (aa t).vw.ms (sortedL L) W (hvt.step hb).1 h5 hvt.3 (by have := sortedL_len L; omega)
                    rw [show decide ((aa t).vw.ms = sortedL L) = true from decide_eq_true (by rw [HMS.out, HLE.out])] at h1
                    exact h1 : Calls Tryz.prog 49 #[.slice (aa t).vw.MA (aa t).vw.ms.length (aa t).vw.mc, .slice A5 (sortedL L).length c5] W (RetB W true)))
                  have TVS := hide (fun W (hb : Below wd.heap.size wd W) => (by
                    have h1 := refVSame_s (aa t).vw (aa t0).vw W (hvt.step hb) (hvt0.step hb)
                    rw [HEQ.out] at h1
                    exact h1 : Calls Tryz.prog 51 #[.agg #[.int .u64 (aa t).vw.r, .int .i64 (aa t).vw.n, .int .u64 (aa t).vw.i, .slice (aa t).vw.MA (aa t).vw.ms.length (aa t).vw.mc, .slice (aa t).vw.UA (aa t).vw.us.length (aa t).vw.uc], .agg #[.int .u64 (aa t0).vw.r, .int .i64 (aa t0).vw.n, .int .u64 (aa t0).vw.i, .slice (aa t0).vw.MA (aa t0).vw.ms.length (aa t0).vw.mc, .slice (aa t0).vw.UA (aa t0).vw.us.length (aa t0).vw.uc]] W (fun e w' => e = .returned (.bool true) ∧ Below W.heap.size W w')))
                  have HVR := hide d4
                  have HRR := hide d2
                  clear hle hne hvt hvt0 d4 d2
                  have d5 : ((aa t).vw.r != (aa t).rd) = false := by rw [HVR.out, HRR.out]; simp
                  go_region_held3 (fun w' => w'.cell? ⟨n12, 9, none⟩ = some (.int .u64 (aa t).vw.r) ∧ w'.cell? ⟨n12, 2, none⟩ = some (.int .u64 (aa t).rd) ∧ w'.cell? ⟨n12, 10, none⟩ = some (.int .i64 (aa t).vw.n) ∧ w'.cell? ⟨n12, 11, none⟩ = some (.int .u64 (aa t).vw.i) ∧ w'.cell? ⟨n12, 12, none⟩ = some (.slice (aa t).vw.MA (aa t).vw.ms.length (aa t).vw.mc) ∧ w'.cell? ⟨n12, 13, none⟩ = some (.slice (aa t).vw.UA (aa t).vw.us.length (aa t).vw.uc) ∧ w'.cell? ⟨b, off, none⟩ = some (.int .i64 t0) ∧ w'.cell? ⟨n, t0 * 14 + 9, none⟩ = some (.int .u64 (aa t0).vw.r) ∧ w'.cell? ⟨n, t0 * 14 + 9 + 1, none⟩ = some (.int .i64 (aa t0).vw.n) ∧ w'.cell? ⟨n, t0 * 14 + 9 + 2, none⟩ = some (.int .u64 (aa t0).vw.i) ∧ w'.cell? ⟨n, t0 * 14 + 9 + 3, none⟩ = some (.slice (aa t0).vw.MA (aa t0).vw.ms.length (aa t0).vw.mc) ∧ w'.cell? ⟨n, t0 * 14 + 9 + 4, none⟩ = some (.slice (aa t0).vw.UA (aa t0).vw.us.length (aa t0).vw.uc)) ((refine ⟨?_, ?_, ?_, ?_, ?_, ?_, ?_, ?_, ?_, ?_, ?_, ?_⟩ <;> (first | exact (cell?_ca _ b (off + 0) _) | (rw [cell?_box]; rfl) | (rw [cell?_box, Nat.add_assoc, mcs_ag _ _ _ _ _ _ _ ht0 (by omega)]; rfl) | (rw [cell?_box, mcs_ag _ _ _ _ _ _ _ ht0 (by omega)]; rfl))))
                    (first
                      | (go_at_call 60; (with_reducible refine (TSO.out _ ?_).mono ?_); (focus (exact blw)); rintro e w5 ⟨A5, c5, rfl, hs5, hb5⟩; haveI : Stp _ w5 := ⟨hb5⟩; have HS5 := hide hs5; clear hs5 hb5)
                      | (go_at_call 49; (with_reducible refine (TEQ.out A5 c5 _ ?_ ?_).mono ?_); (focus (exact blw)); (focus (exact ((Reads.below HS5.out (blw (a := w5))).more (blw (a := w5)).size))); rintro e w6 ⟨rfl, hb6⟩; haveI : Stp _ w6 := ⟨hb6⟩; clear hb6)
                      | (go_at_call 51; (with_reducible refine (TVS.out _ ?_).mono ?_); (focus (exact blw)); rintro e w7 ⟨rfl, hb7⟩; haveI : Stp _ w7 := ⟨hb7⟩; clear hb7)
                      | fail)
                  all_goals
                    go_wp2_with fail
                    go_meet
                    case rel => exact ⟨rfl, blw⟩
              case rest =>
                obtain ⟨rfl, hB5⟩ := hcut
                have HB5 := hide (HBD.out.trans (hB5.mono zd))
                clear hB5
                go_wp2_with fail
                go_roundw
                case rel => exact ⟨q + 1, by omega, by go_num, HB5.out⟩
                case measure => simp [intOf]; omega
        · have j3 : ¬ (q : Int) < (O.length : Int) := by omega
          have HBF := hide (HB.out.trans (HB2.out.mono hsz))
          go_wp2_with fail
          go_ret
          exact ⟨rfl, HBF.out⟩
end Go.Proofs.YtkglclekieckoaaGreat

namespace Go.Proofs.YtkglclekieckoaaGreat
set_option linter.unusedSimpArgs false
set_option linter.unusedVariables false
set_option linter.unusedSectionVars false
open Go.RowKit

/-- the four, and blocks E that another one writes: nothing of theirs lies there -/
structure MWE (W : World) (C E : List Nat) (n : Nat) (aa : Nat → Ag) (inc cc : Nat → Int) (SA : Option Addr) (sc : Nat) (S : List Pp) (VA : Option Addr) (vc : Nat) (V : List Vw) : Prop where
  m : MW W C n aa inc cc SA sc S VA vc V
  ag : ∀ k, k < 4 → @Ag.Ok (avo (C ++ E)) W (aa k)
  sp : ∀ p ∈ S, @PpO (avo (C ++ E)) W [] p
  vp : ∀ v ∈ V, @VwO (avo (C ++ E)) W [] v
  ne : ∀ e ∈ E, e ∉ C
  lt : ∀ e ∈ E, e < W.heap.size
section
variable {X W : World} {C C' E E' : List Nat} {n : Nat} {aa : Nat → Ag} {inc cc cc' : Nat → Int} {SA SA' : Option Addr} {sc sc' : Nat} {S : List Pp} {VA VA' : Option Addr} {vc vc' : Nat} {V : List Vw}
/-- nobody else's blocks yet -/
theorem MWE.of (h : MW W C n aa inc cc SA sc S VA vc V) : MWE W C [] n aa inc cc SA sc S VA vc V :=
  ⟨h, fun k hk => by rw [List.append_nil]; exact h.ag k hk, fun p hp => by rw [List.append_nil]; exact h.sp p hp, fun v hv => by rw [List.append_nil]; exact h.vp v hv, (fun e he => by cases he), fun e he => by cases he⟩
/-- the other one's blocks are written -/
theorem MWE.grow (h : MWE X C E n aa inc cc SA sc S VA vc V) (hg : Gr E X W) (hE : ∀ e ∈ E', (e ∈ E ∨ X.heap.size ≤ e) ∧ e < W.heap.size) : MWE W C E' n aa inc cc SA sc S VA vc V := by
  have hC : ∀ i ∈ C, i ∉ E := fun i hi he => h.ne i he hi
  have hCE : ∀ i ∈ E, i ∈ C ++ E := fun i hi => List.mem_append_right _ hi
  have t1 : Tr (C ++ E) C X W := ⟨hg.mono' hCE, fun i hi => .inl (List.mem_append_left _ hi)⟩
  have t2 : Tr (C ++ E) (C ++ E') X W := ⟨hg.mono' hCE, fun i hi => by
    rcases List.mem_append.1 hi with h1 | h1
    · exact .inl (List.mem_append_left _ h1)
    · rcases (hE i h1).1 with h2 | h2
      · exact .inl (List.mem_append_right _ h2)
      · exact .inr h2⟩
  have hk : ∀ i ∈ C, W.heap[i]? = X.heap[i]? := fun i hi => hg.blk i (h.m.lt i hi) (hC i hi)
  refine ⟨⟨⟨by rw [hk n h.m.nC]; exact h.m.bx.eq⟩, h.m.nC, fun i hi => Nat.lt_of_lt_of_le (h.m.lt i hi) hg.size, own_same h.m.so (fun i hi => hk i (h.m.soC i hi).1), h.m.soC, own_same h.m.vo (fun i hi => hk i (h.m.voC i hi).1), h.m.voC,
    fun k hk => (h.ag k hk).over t1, fun p hp => (h.sp p hp).over t1, fun v hv => (h.vp v hv).over t1⟩,
    fun k hk => (h.ag k hk).over t2, fun p hp => (h.sp p hp).over t2, fun v hv => (h.vp v hv).over t2, fun e he hc => ?_, fun e he => (hE e he).2⟩
  rcases (hE e he).1 with h2 | h2
  · exact h.ne e h2 hc
  · have := h.m.lt e hc; omega
theorem MWE.below (h : MWE X C E n aa inc cc SA sc S VA vc V) (hb : Below X.heap.size X W) : MWE W C E n aa inc cc SA sc S VA vc V := h.grow (.of hb) fun e he => ⟨.inl he, Nat.lt_of_lt_of_le (h.lt e he) hb.size⟩
/-- a turn -/
theorem MWE.turned {who : Nat} {b : Ag} {u : Tu} (h : MWE X C E n aa inc cc SA sc S VA vc V) (hM : MW W C' n (updN aa who b) inc cc' SA' sc' (if u.sd = true then S ++ [u.pp] else S) VA' vc' (if u.md = true then V ++ [u.vw] else V)) (hT : Tr C C' X W) (hb : @Ag.Ok (avo (C ++ E)) X b) (hu : @Tu.Ok (avo (C ++ E)) X u) :
    MWE W C' E n (updN aa who b) inc cc' SA' sc' (if u.sd = true then S ++ [u.pp] else S) VA' vc' (if u.md = true then V ++ [u.vw] else V) := by
  have t : Tr (C ++ E) (C' ++ E) X W := hT.av
  obtain ⟨o, _⟩ := hu
  obtain ⟨_, _, o3, o4⟩ := o
  refine ⟨hM, fun k hk => ?_, fun p hp => ?_, fun v hv => ?_, fun e he hc => ?_, fun e he => Nat.lt_of_lt_of_le (h.lt e he) hT.g.size⟩
  · by_cases e : k = who
    · subst e; rw [updN_at]; exact hb.over t
    · rw [updN_ne _ _ e]; exact (h.ag k hk).over t
  · split at hp
    · rcases List.mem_append.1 hp with hp | hp
      · exact (h.sp p hp).over t
      · rw [List.mem_singleton.1 hp]; exact o3.over t
    · exact (h.sp p hp).over t
  · split at hv
    · rcases List.mem_append.1 hv with hv | hv
      · exact (h.vp v hv).over t
      · rw [List.mem_singleton.1 hv]; exact o4.over t
    · exact (h.vp v hv).over t
  · rcases hT.n e hc with h1 | h1
    · exact h.ne e he h1
    · have := h.lt e he; omega
end
/-! ### queues -/
/-- what is on its way to one -/
def wayQ (l : List Wq) (k : Nat) : List Pp := (l.filter fun x => decide (x.ds = k)).map fun x => x.pp.br
theorem wayQ_app (l m : List Wq) (k : Nat) : wayQ (l ++ m) k = wayQ l k ++ wayQ m k := by
  unfold wayQ
  rw [List.filter_append, List.map_append]
theorem wayQ_sent {O : List Nat} (hn : O.Nodup) (frm : Nat) (p : Pp) {k : Nat} (hk : k ∈ O) : wayQ (sentW O frm p) k = if k = frm then [] else [p.br] := by
  induction O with
  | nil => cases hk
  | cons t O ih =>
    rw [List.nodup_cons] at hn
    have e : sentW (t :: O) frm p = (if t ≠ frm then [⟨t, p⟩] else []) ++ sentW O frm p := by
      unfold sentW
      rw [List.filter_cons]
      by_cases h : t = frm <;> simp [h]
    rw [e, wayQ_app]
    have hno : ∀ O : List Nat, k ∉ O → wayQ (sentW O frm p) k = [] := by
      intro O
      induction O with
      | nil => intro _; rfl
      | cons y O ih2 =>
        intro h
        have e : sentW (y :: O) frm p = (if y ≠ frm then [⟨y, p⟩] else []) ++ sentW O frm p := by
          unfold sentW
          rw [List.filter_cons]
          by_cases h : y = frm <;> simp [h]
        rw [e, wayQ_app, ih2 (fun hm => h (List.mem_cons_of_mem _ hm)), List.append_nil]
        have hy : y ≠ k := fun e => h (by rw [e]; exact List.mem_cons_self)
        split
        · simp [wayQ, hy]
        · rfl
    rcases List.mem_cons.1 hk with rfl | hk
    · rw [hno O hn.1, List.append_nil]
      by_cases h : k = frm
      · rw [if_neg (by simp [h]), if_pos h]; rfl
      · rw [if_pos h, if_neg h]; simp [wayQ]
    · rw [ih hn.2 hk]
      have ht : t ≠ k := fun e => hn.1 (by rw [e]; exact hk)
      have : wayQ (if t ≠ frm then [⟨t, p⟩] else []) k = [] := by
        split
        · simp [wayQ, ht]
        · rfl
      rw [this, List.nil_append]
/-- one is taken out, the first on its way to its server -/
theorem wayQ_take {l : List Wq} {i : Nat} (hi : i < l.length) (hf : ∀ j (h : j < l.length), j < i → l[j].ds ≠ l[i].ds) (k : Nat) :
    wayQ l k = (if k = l[i].ds then [l[i].pp.br] else []) ++ wayQ (l.take i ++ l.drop (i + 1)) k ∨ k ≠ l[i].ds := by
  by_cases e : k = l[i].ds
  · left
    rw [if_pos e]
    have h1 : l = l.take i ++ l[i] :: l.drop (i + 1) := by rw [← List.drop_eq_getElem_cons hi, List.take_append_drop]
    have h2 : wayQ (l.take i) k = [] := by
      unfold wayQ
      rw [List.map_eq_nil_iff, List.filter_eq_nil_iff]
      intro x hx
      obtain ⟨j, hj, rfl⟩ := List.mem_iff_getElem.1 hx
      rw [List.length_take] at hj
      rw [List.getElem_take]
      have := hf j (by omega) (by omega)
      simpa [e] using this
    rw [wayQ_app, h2, List.nil_append]
    conv => lhs; rw [h1]
    rw [wayQ_app, h2, List.nil_append]
    unfold wayQ
    rw [List.filter_cons, if_pos (by simp [e])]
    rfl
  · exact .inr e
theorem wayQ_keep {l : List Wq} {i : Nat} (hi : i < l.length) {k : Nat} (hk : k ≠ l[i].ds) : wayQ (l.take i ++ l.drop (i + 1)) k = wayQ l k := by
  have h1 : l = l.take i ++ l[i] :: l.drop (i + 1) := by rw [← List.drop_eq_getElem_cons hi, List.take_append_drop]
  conv => rhs; rw [h1]
  rw [wayQ_app, wayQ_app]
  congr 1
  unfold wayQ
  rw [List.filter_cons, if_neg (by simpa using Ne.symm hk)]
theorem firstW_is {l : List Wq} {t : Nat} (h : ∃ x ∈ l, x.ds = t) : ∃ hi : firstW t l < l.length, l[firstW t l].ds = t ∧ ∀ j (h : j < l.length), j < firstW t l → l[j].ds ≠ t := by
  have hlt : l.findIdx (fun x => decide (x.ds = t)) < l.length := by
    rw [List.findIdx_lt_length]
    obtain ⟨x, hx, e⟩ := h
    exact ⟨x, hx, by simpa using e⟩
  have e : firstW t l = l.findIdx (fun x => decide (x.ds = t)) := by unfold firstW; rw [if_pos hlt]
  refine ⟨by rw [e]; exact hlt, ?_, fun j hj hjl => ?_⟩
  · have := List.findIdx_getElem (w := hlt)
    simp only [e]
    simpa using this
  · rw [e] at hjl
    have := List.not_of_lt_findIdx hjl
    simpa using this
end Go.Proofs.YtkglclekieckoaaGreat

namespace Go.Proofs.YtkglclekieckoaaGreat
set_option linter.unusedSimpArgs false
set_option linter.unusedVariables false
set_option linter.unusedSectionVars false
open Go.RowKit

theorem clL_mem {cc : Nat → Int} {f : Nat → Bool} {who k : Nat} {x : Cl} (h : x ∈ clL cc f who k) : ∃ j, j < k ∧ j % 4 = who ∧ f j = true ∧ x = clX cc j := by
  unfold clL at h
  obtain ⟨j, hj, rfl⟩ := List.mem_map.1 h
  obtain ⟨hj, e⟩ := List.mem_filter.1 hj
  unfold clF at e
  rw [Bool.and_eq_true, decide_eq_true_eq] at e
  exact ⟨j, List.mem_range.1 hj, e.1, e.2, rfl⟩
theorem clL_of {cc : Nat → Int} {f : Nat → Bool} {who : Nat} {x : Cl} (h : x ∈ clL cc f who 6) : ClOf who cc x := by
  obtain ⟨j, hj, e, _, rfl⟩ := clL_mem h
  refine ⟨?_, ?_, ?_, rfl, rfl, ?_, rfl⟩
  · show (5 : Int) ≤ (j : Int) + 5; omega
  · show (j : Int) + 5 ≤ 10; omega
  · show ((j : Int) + 5 - 5) % 4 = (who : Int); omega
  · show cc (j + 5) = cc ((j : Int) + 5).toNat
    congr 1
theorem clL_pw (cc : Nat → Int) (f : Nat → Bool) (who k : Nat) : (clL cc f who k).Pairwise fun x y => x.n < y.n := by
  unfold clL
  rw [List.pairwise_map]
  refine List.Pairwise.imp (fun {a b} h => ?_) ((List.pairwise_lt_range (n := k)).filter _)
  show (a : Int) + 5 < (b : Int) + 5
  omega
/-- who is on -/
def onOf (f : Nat → Bool) : List Nat := (List.range 4).filter f
theorem onOf_mem {f : Nat → Bool} {k : Nat} (h : k ∈ onOf f) : k < 4 ∧ f k = true := by
  obtain ⟨h1, h2⟩ := List.mem_filter.1 h
  exact ⟨List.mem_range.1 h1, h2⟩
theorem onOf_len (f : Nat → Bool) : (onOf f).length ≤ 4 := by
  have := List.length_filter_le f (List.range 4)
  rwa [List.length_range] at this
def cfgOf (inc : Nat → Int) (fs fc : Nat → Bool) : Cfg := ⟨onOf fs, inc, fun k => livesL (clL (fun _ => 0) fc k 6)⟩
theorem cfg_mem {fc : Nat → Bool} {k : Nat} {p : Pr} (h : p ∈ livesL (clL (fun _ => 0) fc k 6)) : 5 ≤ p.1 ∧ p.1 ≤ 10 ∧ p.2 = 1 ∧ (p.1 - 5) % 4 = k := by
  unfold livesL at h
  obtain ⟨x, hx, rfl⟩ := List.mem_map.1 h
  obtain ⟨r1, r2, r3, r4, _⟩ := clL_of hx
  exact ⟨r1, r2, r4, r3⟩
theorem cfg_ok {inc : Nat → Int} (hi : ∀ k, k < 4 → 1 ≤ inc k) (fs fc : Nat → Bool) : (cfgOf inc fs fc).Ok := by
  refine ⟨(List.pairwise_lt_range (n := 4)).filter _, fun k hk => (onOf_mem hk).1, fun k hk => hi k (onOf_mem hk).1, fun k _ => ?_, fun k _ p hp => ?_⟩
  · show (livesL (clL (fun _ => 0) fc k 6)).Pairwise _
    unfold livesL
    rw [List.pairwise_map]
    exact clL_pw _ _ _ _
  · obtain ⟨h1, h2, h3, _⟩ := cfg_mem hp
    exact ⟨h1, h2, h3⟩
theorem cfg_sv {inc : Nat → Int} {fs fc : Nat → Bool} {k : Nat} (hk : k ∈ onOf fs) : svL inc fs k 4 = (cfgOf inc fs fc).SL := by
  have e : svF fs k = fs := by
    funext i
    unfold svF
    by_cases h : i = k
    · subst h; rw [(onOf_mem hk).2]; simp
    · simp [h]
  unfold svL
  rw [e]
  rfl
theorem clL_may (cc : Nat → Int) (f : Nat → Bool) (who : Nat) : mayR (clL cc f who 6) = true := by
  refine (mayR_iff _).2 ⟨?_, fun x hx => ?_, clL_len _ _ _ _⟩
  · unfold rising
    exact clL_pw _ _ _ _
  · obtain ⟨r1, r2, r3, r4, _⟩ := clL_of hx
    unfold mayB
    rw [r4]
    simp
    omega
theorem clL_ok {cc : Nat → Int} (hc : ∀ n : Int, 0 ≤ ofN cc n ∧ ofN cc n ≤ um) (f : Nat → Bool) (who : Nat) : clOk (clL cc f who 6) := fun x hx => by
  obtain ⟨r1, r2, r3, r4, r5, r6, r7⟩ := clL_of hx
  have r8 := hc x.n
  have r9 : ofN cc x.n = x.cid := r6.symm
  rw [r9] at r8
  rw [r4, r7]
  exact ⟨⟨by show -9223372036854775808 ≤ x.n; omega, by show x.n ≤ 9223372036854775807; omega, by show (0 : Int) ≤ 1; decide, by show (1 : Int) ≤ 18446744073709551615; decide⟩, r8.1, r8.2, by decide, by decide⟩
theorem clL_gone (cc : Nat → Int) (f : Nat → Bool) (who : Nat) : ∀ x ∈ clL cc f who 6, x.gone = false := fun x hx => (clL_of hx).2.2.2.2.1
theorem clL_cid (cc : Nat → Int) (f : Nat → Bool) (who : Nat) : ∀ x ∈ clL cc f who 6, x.cid = ofN cc x.n := fun x hx => (clL_of hx).2.2.2.2.2.1
end Go.Proofs.YtkglclekieckoaaGreat
