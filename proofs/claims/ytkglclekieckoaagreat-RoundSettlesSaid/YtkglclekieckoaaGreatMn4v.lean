/-
  RoundOne: many.turned: what its walk wants; the code behind a place.
-/
import Derived.Test.YtkglclekieckoaaGreatMn3
import Derived.Test.YtkglclekieckoaaGreatOne4
import Derived.Deep.CutBlock
import Derived.Deep.LoopGhost
namespace Go.Proofs.YtkglclekieckoaaGreat
set_option linter.unusedSimpArgs false
set_option linter.unusedVariables false
set_option linter.unusedSectionVars false
open Go.RowKit

theorem Gr.row {C : List Nat} (X : World) {m : Nat} (cs : Array Value) (h : m ∈ C) : Gr C X (X.setRow m cs) := ⟨rfl, rfl, rfl, by rw [setRow_size]; exact Nat.le_refl _, fun j _ hc => setRow_other _ _ _ _ (fun e => hc (by rw [e]; exact h))⟩
instance Trc.row (C : List Nat) (a W : World) (m : Nat) (cs : Array Value) [k : Trc C a W] [l : InL m C] : Trc C a (W.setRow m cs) := ⟨k.h.trans (.of (.row W cs l.h))⟩
instance (priority := low) Trc.rowHi (C : List Nat) (a W : World) (m : Nat) (cs : Array Value) [k : Trc C a W] [l : LeN a.heap.size m] : Trc C a (W.setRow m cs) :=
  ⟨⟨⟨k.h.g.os, k.h.g.tape, k.h.g.out, by rw [setRow_size]; exact k.h.g.size, fun i hi hc => (setRow_other _ _ _ _ (by have := l.h; omega)).trans (k.h.g.blk i hi hc)⟩, fun i hi => .inl hi⟩⟩
structure AtT (w : World) (b o : Nat) (e : Te) : Prop where
  c0 : w.cell? ⟨b, o, none⟩ = some (.int .i64 e.n)
  c1 : w.cell? ⟨b, o + 1, none⟩ = some (.int .u64 e.i)
  c2 : w.cell? ⟨b, o + 2, none⟩ = some (.int .i64 e.nt.k)
  c3 : w.cell? ⟨b, o + 2 + 1, none⟩ = some (.int .i64 e.nt.n)
  c4 : w.cell? ⟨b, o + 2 + 2, none⟩ = some (.int .u64 e.nt.i)
  c5 : w.cell? ⟨b, o + 2 + 3, none⟩ = some (.int .u64 e.nt.rd)
  c6 : w.cell? ⟨b, o + 2 + 4, none⟩ = some (.int .u64 e.nt.cd)
  c7 : w.cell? ⟨b, o + 2 + 5, none⟩ = some (.slice e.nt.SA e.nt.st.length e.nt.sc)
  c8 : w.cell? ⟨b, o + 2 + 6, none⟩ = some (.int .u64 e.nt.vw.r)
  c9 : w.cell? ⟨b, o + 2 + 7, none⟩ = some (.int .i64 e.nt.vw.n)
  ca : w.cell? ⟨b, o + 2 + 8, none⟩ = some (.int .u64 e.nt.vw.i)
  cb : w.cell? ⟨b, o + 2 + 9, none⟩ = some (.slice e.nt.vw.MA e.nt.vw.ms.length e.nt.vw.mc)
  cc : w.cell? ⟨b, o + 2 + 10, none⟩ = some (.slice e.nt.vw.UA e.nt.vw.us.length e.nt.vw.uc)
theorem Reads.atT {w : World} {B : Nat} {A : Option Addr} {n k : Nat} {l : List Te} (h : Reads w B 13 A n (tes l)) (hk : k < n) :
    ∃ b off e, A = some ⟨b, off, none⟩ ∧ b < B ∧ l[k]? = some e ∧ AtT w b (off + k * 13) e := by
  obtain ⟨b, off, rfl, hb, hc⟩ := h.2 (by omega)
  have hl : k < l.length := by have := h.1; rw [tes_len] at this; omega
  have hp : l[k]? = some l[k] := List.getElem?_eq_getElem hl
  have key : ∀ j (hj : j < 13), w.cell? ⟨b, off + k * 13 + j, none⟩ = (l[k].cl)[j]? := by
    intro j hj
    have hx : (l[k].cl)[j]? = some ((l[k].cl)[j]'(by rw [Te.cl_len]; exact hj)) := List.getElem?_eq_getElem _
    rw [Nat.add_assoc, hx]
    exact hc (k * 13 + j) _ (by rw [tes, flat_get Te.cl_len l k j _ hp hj, hx])
  exact ⟨b, off, l[k], rfl, hb, hp, key 0 (by omega), key 1 (by omega), key 2 (by omega), key 3 (by omega), key 4 (by omega), key 5 (by omega), key 6 (by omega), key 7 (by omega), key 8 (by omega), key 9 (by omega), key 10 (by omega), key 11 (by omega), key 12 (by omega)⟩
structure AtW (w : World) (b o : Nat) (x : Vw) : Prop where
  c0 : w.cell? ⟨b, o, none⟩ = some (.int .u64 x.r)
  c1 : w.cell? ⟨b, o + 1, none⟩ = some (.int .i64 x.n)
  c2 : w.cell? ⟨b, o + 2, none⟩ = some (.int .u64 x.i)
  c3 : w.cell? ⟨b, o + 3, none⟩ = some (.slice x.MA x.ms.length x.mc)
  c4 : w.cell? ⟨b, o + 4, none⟩ = some (.slice x.UA x.us.length x.uc)
theorem Reads.atW {w : World} {B : Nat} {A : Option Addr} {n k : Nat} {l : List Vw} (h : Reads w B 5 A n (vws l)) (hk : k < n) :
    ∃ b off x, A = some ⟨b, off, none⟩ ∧ b < B ∧ l[k]? = some x ∧ AtW w b (off + k * 5) x := by
  obtain ⟨b, off, rfl, hb, hc⟩ := h.2 (by omega)
  have hl : k < l.length := by have := h.1; rw [vws_len] at this; omega
  have hp : l[k]? = some l[k] := List.getElem?_eq_getElem hl
  have key : ∀ j (hj : j < 5), w.cell? ⟨b, off + k * 5 + j, none⟩ = (l[k].vl)[j]? := by
    intro j hj
    have hx : (l[k].vl)[j]? = some ((l[k].vl)[j]'(by rw [Vw.vl_len]; exact hj)) := List.getElem?_eq_getElem _
    rw [Nat.add_assoc, hx]
    exact hc (k * 5 + j) _ (by rw [vws, flat_get Vw.vl_len l k j _ hp hj, hx])
  exact ⟨b, off, l[k], rfl, hb, hp, key 0 (by omega), key 1 (by omega), key 2 (by omega), key 3 (by omega), key 4 (by omega)⟩
theorem reads_vq1 (W : World) (m : Nat) (y : Vw) [h : BoxAt W m #[.int .u64 y.r, .int .i64 y.n, .int .u64 y.i, .slice y.MA y.ms.length y.mc, .slice y.UA y.us.length y.uc] 36] : Reads W W.heap.size 5 (some ⟨m, 0, none⟩) 1 (vws [y]) :=
  ⟨rfl, fun _ => ⟨_, _, rfl, h.lt, fun j u hu => by
    rw [Nat.zero_add, cell?_box]
    have e : vws [y] = (#[.int .u64 y.r, .int .i64 y.n, .int .u64 y.i, .slice y.MA y.ms.length y.mc, .slice y.UA y.us.length y.uc] : Array Value).toList := rfl
    rw [e] at hu
    simpa using hu⟩⟩
/-- what turned leaves -/
def RetTd (w : World) (C : List Nat) (n : Nat) (aa : Nat → Ag) (inc cc : Nat → Int) (S : List Pp) (V : List Vw) (e : Ending) (w' : World) : Prop :=
  ∃ C' SA sc VA vc, e = .returned (.bool true) ∧ MW w' C' n aa inc cc SA sc S VA vc V ∧ Tr C C' w w'
/-! parts of a function's code -/
def cdL : Code → Code
  | .seq a _ => a
  | .block _ c => c
  | .loop c => c
  | .scope c => c
  | .cond _ t _ => t
  | c => c
def cdR : Code → Code
  | .seq _ b => b
  | .cond _ _ e => e
  | c => c
def lst (f : Nat → Value) : Nat → Nat → List Value
  | _, 0 => []
  | i, n + 1 => f i :: lst f (i + 1) n
theorem lst_eq : ∀ (T S : List Value) (i : Nat) (f : Nat → Value), (∀ j, f (i + j) = T.getD j undef) → S = T → S = lst f i T.length
  | [], _, _, _, _, e => e
  | a :: T, S, i, f, h, e => by
    rw [e]
    show a :: T = f i :: lst f (i + 1) T.length
    rw [show f i = a from h 0, ← lst_eq T T (i + 1) f (fun j => by rw [show i + 1 + j = i + (j + 1) by omega, h (j + 1)]; rfl) rfl]
theorem getDv_of {T : List Value} {i : Nat} {v : Value} (h : T[i]? = some v) : T.getD i undef = v := by rw [List.getD_eq_getElem?_getD, h]; rfl
end Go.Proofs.YtkglclekieckoaaGreat

namespace Go.Proofs.YtkglclekieckoaaGreat
set_option linter.unusedSimpArgs false
set_option linter.unusedVariables false
set_option linter.unusedSectionVars false
open Go.RowKit

theorem frame202 (T : List Value) (h : T.length = 202) : ∃ f : Nat → Value, (∀ j, f j = T.getD j undef) ∧ T = [f 0, f 1, f 2, f 3, f 4, f 5, f 6, f 7, f 8, f 9, f 10, f 11, f 12, f 13, f 14, f 15, f 16, f 17, f 18, f 19, f 20, f 21, f 22, f 23, f 24, f 25, f 26, f 27, f 28, f 29, f 30, f 31, f 32, f 33, f 34, f 35, f 36, f 37, f 38, f 39, f 40, f 41, f 42, f 43, f 44, f 45, f 46, f 47, f 48, f 49, f 50, f 51, f 52, f 53, f 54, f 55, f 56, f 57, f 58, f 59, f 60, f 61, f 62, f 63, f 64, f 65, f 66, f 67, f 68, f 69, f 70, f 71, f 72, f 73, f 74, f 75, f 76, f 77, f 78, f 79, f 80, f 81, f 82, f 83, f 84, f 85, f 86, f 87, f 88, f 89, f 90, f 91, f 92, f 93, f 94, f 95, f 96, f 97, f 98, f 99, f 100, f 101, f 102, f 103, f 104, f 105, f 106, f 107, f 108, f 109, f 110, f 111, f 112, f 113, f 114, f 115, f 116, f 117, f 118, f 119, f 120, f 121, f 122, f 123, f 124, f 125, f 126, f 127, f 128, f 129, f 130, f 131, f 132, f 133, f 134, f 135, f 136, f 137, f 138, f 139, f 140, f 141, f 142, f 143, f 144, f 145, f 146, f 147, f 148, f 149, f 150, f 151, f 152, f 153, f 154, f 155, f 156, f 157, f 158, f 159, f 160, f 161, f 162, f 163, f 164, f 165, f 166, f 167, f 168, f 169, f 170, f 171, f 172, f 173, f 174, f 175, f 176, f 177, f 178, f 179, f 180, f 181, f 182, f 183, f 184, f 185, f 186, f 187, f 188, f 189, f 190, f 191, f 192, f 193, f 194, f 195, f 196, f 197, f 198, f 199, f 200, f 201] := by
  have h1 := lst_eq T T 0 (fun j => T.getD j undef) (fun j => by rw [Nat.zero_add]) rfl
  rw [h] at h1
  exact ⟨fun j => T.getD j undef, fun _ => rfl, h1⟩
set_option maxRecDepth 100000 in
set_option maxHeartbeats 16000000 in
set_option synthInstance.maxSize 1000 in
theorem turned_tail (n : Nat) (C : List Nat) (bb : Nat → Ag) (o : Ag) (inc CF : Nat → Int) (SA : Option Addr) (sc : Nat) (S : List Pp) (VA : Option Addr) (vc : Nat) (V : List Vw) (tA : Option Addr) (tc : Nat) (ts : List Te) (sd : Bool) (pp : Pp) (md : Bool) (vw : Vw) (SF : List Pp) (VF : List Vw) (w wr : World)
    (hM1 : MW wr C n bb inc CF SA sc S VA vc V) (hpp : @PpO (avo C) wr [] pp) (hvw : @VwO (avo C) wr [] vw) (b7 : BoxAt wr (w.heap.size + 1) (⟨tA, tc, ts, sd, pp, md, vw⟩ : Tu).cs 43) (b9 : BoxAt wr (w.heap.size + 1 + 1) o.cs 38)
    (htr : Tr C C w wr) (hC7 : w.heap.size + 1 ∉ C) (hC9 : w.heap.size + 1 + 1 ∉ C) (hmay : md = true → vw.mayB = true) (hold : md = true → o.vw.r < vw.r) (hsf : (if sd = true then S ++ [pp] else S) = SF) (hvf : (if md = true then V ++ [vw] else V) = VF)
    (hU : md = true → ∀ v ∈ V, v.r = vw.r → v.n = vw.n → v.i = vw.i → v.ms = vw.ms ∧ v.us = vw.us) (hS : S.length ≤ 1000) (hV : V.length ≤ 1000)
    (T : List Value) (hT : T.length = 202) (h0 : T[0]? = some (.pointer (some ⟨n, 0, none⟩))) (h7 : T[7]? = some (.pointer (some ⟨w.heap.size + 1, 0, none⟩))) (h9 : T[9]? = some (.pointer (some ⟨w.heap.size + 1 + 1, 0, none⟩))) :
    Code.wp Tryz.prog (cdR (cdR (cdR (cdR (cdR (Tryz.f22.body.getD .skip)))))) (bodyPost Tryz.prog Tryz.f22 (RetTd w C n bb inc CF SF VF)) ⟨T.toArray, []⟩ wr := by
  obtain ⟨f, hf, hT'⟩ := frame202 T hT
  rw [hT', (hf 0).trans (getDv_of h0), (hf 7).trans (getDv_of h7), (hf 9).trans (getDv_of h9)]
  clear hf hT' h0 h7 h9 hT T
  conv => arg 2; dsimp only [Tryz.f22, Option.getD, cdR]
  have z6 := b9.lt
  have HM1 := hide hM1
  have HPP := hide hpp
  have HVW := hide hvw
  have HTR := hide htr
  have HC7 := hide hC7
  have HC9 := hide hC9
  have HMAY := hide hmay
  have HOLD := hide hold
  have HSF := hide hsf
  have HVF := hide hvf
  have HU := hide hU
  haveI := b7
  haveI := b9
  haveI : BoxAt wr n (mcs bb inc CF (.slice SA S.length sc) (.slice VA V.length vc)) 77 := HM1.out.bx
  clear hM1 hpp hvw htr hC7 hC9 hmay hold hsf hvf hU
  go_upto_if 128 with fail
  go_cut [] (fun wx => ∃ C1 SA1 sc1, MW wx C1 n (bb) inc CF SA1 sc1 (if sd = true then S ++ [pp] else S) VA vc V ∧ Tr C C1 wr wx)
  case first =>
    cases sd
    · go_wp2_with fail
      go_meet
      case rel => exact ⟨C, SA, sc, HM1.out, Tr.refl _ _⟩
    · skip
      go_wp2_with fail
      go_region_law ((refine step_append_x Tryz.okPq rfl (.tmp 133) (.tmp 136) rfl 0 (.slice SA S.length sc) S.length (pps S) 1 (pps [pp]) ?_ ?_ ?_ ?_ ?_ ?_ ?_ ?_; go_must ((focus (first | rfl | (simp [Act.eval, Act.put]; done))); (focus (exact own_tc HM1.out.so)); (focus (refine ⟨_, _, by first | rfl | (simp [Act.eval, Act.put]; done), ?_⟩; exact reads_pq1x _ _ pp)); (focus (exact pps_one _)); (focus (unfold maxLen; omega)); (focus omega); (focus (first | omega | (simp; done) | (simp; omega) | exact blw.size | exact BoxAt.lt (n := w.heap.size) inferInstance)); intro v4 w4 ho4 hg4 ha4; obtain ⟨A4, c4, rfl, _, _⟩ := own_slice ho4; haveI : BoxAt w4 n (mcs (bb) inc CF (.slice SA S.length sc) (.slice VA V.length vc)) 77 := BoxAt.gr inferInstance hg4 (fun e => (HM1.out.soC n e).2 rfl); obtain ⟨C', hM4, hT4⟩ := (HM1.out.below blw).appS (HPP.out.over (.bel blw)) ho4 hg4 ha4; have HM4 := hide hM4; have HT4 := hide (show Tr C C' wr (w4.setCell ⟨n, 71, none⟩ (.slice A4 (S.length + 1) c4)) from (Tr.bel blw).trans hT4); clear ho4 hg4 ha4 hM4 hT4)))
      all_goals
        go_wp2_with fail
        go_meet
        case rel => exact ⟨C', A4, c4, HM4.out, HT4.out⟩
  case rest =>
    obtain ⟨C1, SA1, sc1, hM2, hT2⟩ := hcut
    rw [HSF.out] at hM2
    have c7 := (hT2.box b7 HC7.out).1
    have c9 := (hT2.box b9 HC9.out).1
    haveI := c7
    haveI := c9
    haveI : BoxAt wc n (mcs (bb) inc CF (.slice SA1 SF.length sc1) (.slice VA V.length vc)) 77 := hM2.bx
    have HM2 := hide hM2
    have HT2 := hide (show Tr C C1 w wc from HTR.out.trans hT2)
    have HV2 := hide (show @VwO (avo C1) wc [] vw from HVW.out.over hT2)
    have z7 := c7.lt
    haveI : LtN (w.heap.size + 1) wc.heap.size := ⟨z7⟩
    clear hM2 hT2 HM1 HPP HVW
    cases hmd : md
    · have HVF := hide (show V = VF from by have := HVF.out; rw [hmd] at this; exact this)
      subst hmd
      go_wp2_with fail
      go_ret
      exact ⟨C1, SA1, sc1, VA, vc, rfl, by rw [← HVF.out]; exact HM2.out, HT2.out⟩
    · have HVF := hide (show V ++ [vw] = VF from by have := HVF.out; rw [hmd] at this; exact this)
      have HU2 := hide (show ∀ v ∈ V, v.r = vw.r → v.n = vw.n → v.i = vw.i → v.ms = vw.ms ∧ v.us = vw.us from HU.out hmd)
      have HMAY2 := hide (HMAY.out hmd)
      have HOLD2 := hide (HOLD.out hmd)
      clear HU HMAY HOLD
      subst hmd
      go_wp2_with fail
      go_loopg [15] V.length (fun gk i wx => ∃ m : Nat, i = .int .i64 m ∧ Hid (m + gk = V.length) ∧ Below wc.heap.size wc wx)
      case atStart => exact ⟨0, rfl, hide (by omega), Below.refl _ _⟩
      case round =>
        obtain ⟨m, rfl, HM, hB⟩ := hrel
        haveI : Stp wc wr := ⟨hB⟩
        have HB := hide hB
        clear hB
        by_cases hlt2 : m < V.length
        · obtain ⟨b', off', x, hA', hb', hxm, v0, v1, v2, v3, v4⟩ := Reads.atW (((Reads.of_own HM2.out.vo).below HB.out).more HB.out.size) hlt2
          have TS := hide (fun W (hb : Below wr.heap.size wr W) => (by
            obtain ⟨m1, m2, m3, m4⟩ := HM2.out.vp x (List.mem_of_getElem? hxm)
            obtain ⟨n1, n2, n3, n4⟩ := HV2.out
            have hbW : Below wc.heap.size wc W := HB.out.trans (hb.mono HB.out.size)
            exact refVSame_s x vw W ⟨(m1.1.below hbW).more hbW.size, (m3.1.below hbW).more hbW.size, m2, m4⟩ ⟨(n1.1.below hbW).more hbW.size, (n3.1.below hbW).more hbW.size, n2, n4⟩ : Calls Tryz.prog 51 #[.agg #[.int .u64 x.r, .int .i64 x.n, .int .u64 x.i, .slice x.MA x.ms.length x.mc, .slice x.UA x.us.length x.uc], .agg #[.int .u64 vw.r, .int .i64 vw.n, .int .u64 vw.i, .slice vw.MA vw.ms.length vw.mc, .slice vw.UA vw.us.length vw.uc]] W fun e w' => e = .returned (.bool (Vw.eqB x vw)) ∧ Below W.heap.size W w'))
          have HUX := hide (HU2.out x (List.mem_of_getElem? hxm))
          subst hA'
          haveI : InW b' wr := ⟨hb'⟩
          haveI : CellAt wr b' (off' + m * 5) (.int .u64 x.r) := ⟨hb', v0⟩
          haveI : CellAt wr b' (off' + m * 5 + 1) (.int .i64 x.n) := ⟨hb', v1⟩
          haveI : CellAt wr b' (off' + m * 5 + 2) (.int .u64 x.i) := ⟨hb', v2⟩
          haveI : CellAt wr b' (off' + m * 5 + 3) (.slice x.MA x.ms.length x.mc) := ⟨hb', v3⟩
          haveI : CellAt wr b' (off' + m * 5 + 4) (.slice x.UA x.us.length x.uc) := ⟨hb', v4⟩
          have j0 : (0 : Int) ≤ (m : Int) := by omega
          have j1 : (m : Int) < (V.length : Int) := by omega
          clear hxm v0 v1 v2 v3 v4
          go_upto_region 25 with fail
          go_cut [175] (fun s175 wx => s175 = .bool false ∧ Below wr.heap.size wr wx)
          case first =>
            skip
            have hun : ∀ b, (some undef = some (Value.bool b)) = False := fun b => by simp [undef]
            cases hq : eqI x.r x.n x.i vw.r vw.n vw.i
            · go_wp2_with fail
              (refine wp_region_gw (by kernel_rfl) (by kernel_rfl) ?_; (repeat (go_big_quiet_step ((fail)))); refine wpQuiet_nil ?_; intro _ hw'; obtain ⟨⟨dq, osq⟩, hw''⟩ := hw'; subst hw'')
              go_wp2_with fail
              go_meet
              case rel => exact ⟨rfl, blw⟩
            · have HQ := hide hq
              have TSg := hide (fun d os => (by
                have h1 := TS.out (gw wr d os) (below_gw wr d os)
                obtain ⟨e1, e2, e3⟩ := of_decide_eq_true HQ.out
                obtain ⟨e4, e5⟩ := HUX.out e1 e2 e3
                rw [show Vw.eqB x vw = true from decide_eq_true ⟨e1, e2, e3, e4, e5⟩] at h1
                exact h1 : Calls Tryz.prog 51 #[.agg #[.int .u64 x.r, .int .i64 x.n, .int .u64 x.i, .slice x.MA x.ms.length x.mc, .slice x.UA x.us.length x.uc], .agg #[.int .u64 vw.r, .int .i64 vw.n, .int .u64 vw.i, .slice vw.MA vw.ms.length vw.mc, .slice vw.UA vw.us.length vw.uc]] (gw wr d os) (RetB (gw wr d os) true)))
              go_wp2_with fail
              (refine wp_region_gw (by kernel_rfl) (by kernel_rfl) ?_; (repeat (go_big_quiet_step ((first | (go_at_call 51; with_reducible exact calls_gw (TSg.out _ _)) | fail)))); refine wpQuiet_nil ?_; intro _ hw'; obtain ⟨⟨dq, osq⟩, hw''⟩ := hw'; subst hw'')
              go_wp2_with fail
              go_meet
              case rel => exact ⟨rfl, blw⟩
          case rest =>
            obtain ⟨rfl, hB2⟩ := hcut
            have HB3 := hide (HB.out.trans (hB2.mono HB.out.size))
            clear hB2
            go_wp2_with fail
            go_roundg (gk - 1)
            case rel => exact ⟨m + 1, by go_num, hide (by have := HM.out; omega), HB3.out⟩
            case measure => have := HM.out; omega
        · skip
          have d9 : decide (vw.r ≤ o.vw.r) = false := decide_eq_false (by have := HOLD2.out; omega)
          have TM := hide (fun W (hb : Below wr.heap.size wr W) => (by
            obtain ⟨n1, n2, n3, n4⟩ := HV2.out
            have hbW : Below wc.heap.size wc W := HB.out.trans (hb.mono HB.out.size)
            have h1 := vmay_s vw W ⟨(n1.1.below hbW).more hbW.size, (n3.1.below hbW).more hbW.size, n2, n4⟩
            rw [HMAY2.out] at h1
            exact h1 : Calls Tryz.prog 59 #[.agg #[.int .u64 vw.r, .int .i64 vw.n, .int .u64 vw.i, .slice vw.MA vw.ms.length vw.mc, .slice vw.UA vw.us.length vw.uc]] W fun e w' => e = .returned (.bool true) ∧ Below W.heap.size W w'))
          go_wp2_with fail
          (with_reducible refine (TM.out _ ?_).mono ?_)
          · exact blw
          rintro e' w13 ⟨rfl, hb13⟩
          haveI : Stp _ w13 := ⟨hb13⟩
          clear hb13
          go_wp2_with fail
          go_region_law ((refine step_append_x Tryz.okVq rfl (.tmp 195) (.tmp 198) rfl 0 (.slice VA V.length vc) V.length (vws V) 1 (vws [vw]) ?_ ?_ ?_ ?_ ?_ ?_ ?_ ?_; go_must ((focus (first | rfl | (simp [Act.eval, Act.put]; done))); (focus (exact own_tc HM2.out.vo)); (focus (refine ⟨_, _, by first | rfl | (simp [Act.eval, Act.put]; done), ?_⟩; exact reads_vq1 _ _ vw)); (focus (exact vws_one _)); (focus (unfold maxLen; omega)); (focus omega); (focus (first | omega | (simp; done) | (simp; omega) | exact blw.size | exact BoxAt.lt (n := w.heap.size) inferInstance)); intro v4 w4 ho4 hg4 ha4; obtain ⟨A4, c4, rfl, _, _⟩ := own_slice ho4; haveI : BoxAt w4 n (mcs (bb) inc CF (.slice SA1 SF.length sc1) (.slice VA V.length vc)) 77 := BoxAt.gr inferInstance hg4 (fun e => (HM2.out.voC n e).2.1 rfl); obtain ⟨C', hM4, hT4⟩ := (HM2.out.below blw).appV (HV2.out.over (.bel blw)) ho4 hg4 ha4; have HM4 := hide hM4; have HT4 := hide (show Tr C1 C' wc (w4.setCell ⟨n, 72, none⟩ (.slice A4 (V.length + 1) c4)) from (Tr.bel blw).trans hT4); clear ho4 hg4 ha4 hM4 hT4)))
          all_goals
            go_wp2_with fail
            go_ret
            exact ⟨C', SA1, sc1, A4, c4, rfl, by rw [← HVF.out]; exact HM4.out, HT2.out.trans HT4.out⟩
end Go.Proofs.YtkglclekieckoaaGreat
