/-
  Layer 16: look-ups in maps at int keys, found by instances; the end's rows.
-/
import Derived.Test.YtniogmefbjfoaaaGreatWe
import Derived.RangeFuncSeq
namespace Go.Proofs.YtniogmefbjfoaaaGreat
set_option linter.unusedSimpArgs false
set_option linter.unusedVariables false
set_option linter.unusedSectionVars false
open Go.RowKit Go.Maps

theorem Tryz.lawI : Keyed Tryz.prog 3 := int_keyed Tryz.underlying3
def wfI (x : Int) : Prop := -9223372036854775808 ≤ x ∧ x ≤ 9223372036854775807
theorem lit_wf {x : Int} : (Lit.int .i64 x).wf = true ↔ wfI x := by
  have e1 : IntKind.i64.min = -9223372036854775808 := rfl
  have e2 : IntKind.i64.max = 9223372036854775807 := rfl
  simp [Lit.wf, wfI, e1, e2]
theorem keyI {x : Int} (h : wfI x) : keyOf Tryz.prog 3 (.int .i64 x) = some (.int .i64 x) := by
  simp [keyOf, Tryz.underlying3, mapKey, lit_wf.2 h]
theorem zeroRw (w : World) : (zeroValue 65).run Tryz.prog w = .ok (.pointer none) w := by kernel_rfl
theorem zeroCm (w : World) : (zeroValue 113).run Tryz.prog w = .ok (.pointer none) w := by kernel_rfl
theorem MapF.walks {W W' : World} {k : TypeId} {b n : Nat} {f : Value → Option Value} (h : MapF W k b n f) (hk : KeepsWalks W W') : MapF W' k b n f := by
  obtain ⟨D, ⟨es, clock, h1, h3⟩, h2⟩ := h
  exact ⟨D, ⟨es, clock, hk.same b _ h1 rfl, h3⟩, h2⟩
/-- what a look-up at an int key brings -/
class LkR (W : World) (b : Nat) (x : Int) (v : outParam Value) : Prop where
  h : wfI x ∧ ∃ n f, MapF W 3 b n f ∧ (f (.int .i64 x)).getD (.pointer none) = v
instance LkR.stp (X W : World) (b : Nat) (x : Int) (v : Value) [s : Stp X W] [k : LkR X b x v] : LkR W b x v := ⟨by
  obtain ⟨h0, n, f, h1, h2⟩ := k.h
  exact ⟨h0, n, f, h1.step s.h, h2⟩⟩
instance LkR.set (W : World) (b m i : Nat) (u : Value) (x : Int) (v : Value) [k : LkR W b x v] : LkR (W.setCell ⟨m, i, none⟩ u) b x v := ⟨by
  obtain ⟨h0, n, f, h1, h2⟩ := k.h
  exact ⟨h0, n, f, h1.walks (KeepsWalks.setCell _ _ _), h2⟩⟩
@[go_sem] theorem lk_row (W : World) (b : Nat) (x : Int) (v : Value) [k : LkR W b x v] : (Instr.lookup 61 (.map (some b)) (.int .i64 x) false).run Tryz.prog W = .ok v W := by
  obtain ⟨h0, n, f, h1, h2⟩ := k.h
  rw [h1.look Tryz.lawI Tryz.underlying61 (zeroRw W) (keyI h0), h2]
@[go_sem] theorem lk_came (W : World) (b : Nat) (x : Int) (v : Value) [k : LkR W b x v] : (Instr.lookup 62 (.map (some b)) (.int .i64 x) false).run Tryz.prog W = .ok v W := by
  obtain ⟨h0, n, f, h1, h2⟩ := k.h
  rw [h1.look Tryz.lawI Tryz.underlying62 (zeroCm W) (keyI h0), h2]
section
variable {W : World} {E C : List Nat} {x : Nat} {m : En} {rb fb : Nat} {rp cp : Int → Nat}
theorem EnM.row (h : EnM W E C x m rb fb rp cp) {n : Int} (hn : m.oth n) : LkR W rb n (.pointer (some ⟨rp n, 0, none⟩)) := ⟨⟨by unfold En.oth at hn; omega, by unfold En.oth at hn; omega⟩, _, _, h.rm, by simp [rowsF, hn]⟩
theorem EnM.noRow (h : EnM W E C x m rb fb rp cp) {n : Int} (hw : wfI n) (hn : ¬ m.oth n) : LkR W rb n (.pointer none) := ⟨hw, _, _, h.rm, by simp [rowsF, hn]⟩
theorem EnM.came (h : EnM W E C x m rb fb rp cp) {n : Int} {c : Cm} (hc : m.cm n = some c) : LkR W fb n (.pointer (some ⟨cp n, 0, none⟩)) := ⟨by have := h.cn n (by rw [hc]; simp); exact ⟨by omega, by omega⟩, _, _, h.fm, by simp [cameF, hc]⟩
theorem EnM.noCame (h : EnM W E C x m rb fb rp cp) {n : Int} (hw : wfI n) (hn : m.cm n = none) : LkR W fb n (.pointer none) := ⟨hw, _, _, h.fm, by simp [cameF, hn]⟩
end
/-- only blocks of one's own are written, and blocks that lie there anew -/
theorem EnM.gr {X W : World} {E C : List Nat} {x : Nat} {m : En} {rb fb : Nat} {rp cp : Int → Nat} (h : EnM X E C x m rb fb rp cp) {D : List Nat} (hg : Gr D X W) (hD : ∀ i ∈ D, i ∉ C ∧ i ∈ E) : EnM W E C x m rb fb rp cp :=
  h.keep (.of (hg.mono' (fun i hi => (hD i hi).2))) (fun i hi => hg.blk i (h.ltE i (h.CE i hi)) (fun hm => (hD i hm).1 hi)) h.CE (fun i hi => Nat.lt_of_lt_of_le (h.ltE i hi) hg.size)
theorem EnM.lt {W : World} {E C : List Nat} {x : Nat} {m : En} {rb fb : Nat} {rp cp : Int → Nat} (h : EnM W E C x m rb fb rp cp) : x < W.heap.size := h.bx.lt
/-- one row is written -/
theorem EnM.setRow {X W : World} {E C : List Nat} {x : Nat} {m : En} {rb fb : Nat} {rp cp : Int → Nat} (h : EnM X E C x m rb fb rp cp) {n : Int} (hn : m.oth n) (hg : Gr [rp n] X W) {r : Rw} (hr : RwM W E (rp n) r) : EnM W E C x (m.put n r) rb fb rp cp := by
  have hCE := (h.ro n hn).2
  have t : Tr E E X W := .of (hg.mono' (fun i hi => by rw [List.mem_singleton] at hi; subst hi; exact h.CE _ hCE))
  have hk : ∀ i, i < X.heap.size → i ≠ rp n → W.heap[i]? = X.heap[i]? := fun i hi hne => hg.blk i hi (by simpa using hne)
  have hnr : ∀ k c, m.cm k = some c → cp k ≠ rp n := fun k c hc e => by
    obtain ⟨_, A, c', ds, h1, _⟩ := (h.ro n hn).1
    have h2 := (h.co k c hc).1.eq
    rw [e, h1.eq] at h2
    simp [cmcs] at h2
  have hfb : fb ≠ rp n := fun e => by
    obtain ⟨_, A, c', ds, h1, _⟩ := (h.ro n hn).1
    obtain ⟨D, ⟨es, clock, h2, _⟩, _⟩ := h.fm
    rw [e, h1.eq] at h2
    cases h2
  exact {
    n1 := h.n1
    bx := (t.box h.bx h.xE).1
    xE := h.xE
    rm := h.rm.same (t.g.blk rb h.rm.lt h.rE)
    rE := h.rE
    fm := h.fm.same (hk _ h.fm.lt hfb)
    fC := h.fC
    CE := h.CE
    ltE := fun i hi => Nat.lt_of_lt_of_le (h.ltE i hi) hg.size
    ro := fun k hk' => by
      by_cases e : k = n
      · subst e
        simpa [En.put] using ⟨hr, hCE⟩
      · have h1 := h.ro k hk'
        have hne : rp k ≠ rp n := fun e' => e (h.ri k n hk' hn e')
        simpa [En.put, e] using And.intro (h1.1.keep t (hk _ h1.1.lt hne)) h1.2
    ri := h.ri
    co := fun k c hc => by
      have h1 := h.co k c hc
      exact ⟨⟨by rw [hk _ h1.1.lt (hnr k c hc)]; exact h1.1.eq⟩, h1.2⟩
    ci := h.ci
    cn := h.cn }
end Go.Proofs.YtniogmefbjfoaaaGreat

namespace Go.Proofs.YtniogmefbjfoaaaGreat
set_option linter.unusedSimpArgs false
set_option linter.unusedVariables false
set_option linter.unusedSectionVars false
open Go.RowKit Go.Maps

abbrev rwcs (cn : Int) (rl : Bool) (ba : Int) (A : Option Addr) (n c : Nat) (ak st : Int) : Array Value := #[.int .u64 cn, .bool rl, .int .u64 ba, .slice A n c, .int .u64 ak, .int .u64 st]
theorem gr1 {g : Nat} {a W : World} (t : Trc [g] a W) : Gr [g] a W := t.h.g
theorem anew_s (g : Nat) (cn : Int) (rl : Bool) (ba : Int) (A : Option Addr) (n c : Nat) (ak st : Int) (w : World) (h : BoxAt w g (rwcs cn rl ba A n c ak st) 70) :
    Calls Tryz.prog 33 #[.pointer (some ⟨g, 0, none⟩)] w fun e w' => e = .returned (.tuple #[]) ∧ BoxAt w' g (rwcs (uadd cn) rl 0 none 0 0 0 st) 70 ∧ Gr [g] w w' := by
  go_enter Tryz.func33, Tryz.ntmps33
  go_wp2
  go_end0
  exact ⟨rfl, inferInstance, gr1 inferInstance⟩
section
variable {E C : List Nat} {x : Nat} {m : En} {rb fb : Nat} {rp cp : Int → Nat}
def relV (m : En) (rp : Int → Nat) (n : Int) : Value := if m.isR n then .pointer (some ⟨rp n, 0, none⟩) else .pointer none
theorem reliable_s (w : World) (h : EnM w E C x m rb fb rp cp) (n : Int) (hw : wfI n) : Calls Tryz.prog 34 #[.pointer (some ⟨x, 0, none⟩), .int .i64 n] w fun e w' => e = .returned (relV m rp n) ∧ w = w' := by
  haveI := h.bx
  by_cases hn : m.oth n
  · haveI := h.row hn
    obtain ⟨⟨_, A, c, ds, hb, _⟩, _⟩ := h.ro n hn
    haveI := hb
    cases hr : (m.rw n).rl with
    | _ =>
      have e : Hid (relV m rp n = _) := hide (by simp only [relV, En.isR, decide_eq_true hn, hr, Bool.true_and]; rfl)
      rw [hr] at hb
      haveI := hb
      clear h hr hn hw
      go_enter Tryz.func34, Tryz.ntmps34
      go_wp2
      go_ret
      exact ⟨congrArg Ending.returned e.out.symm, rfl⟩
  · haveI := h.noRow hw hn
    have e : Hid (relV m rp n = .pointer none) := hide (by unfold relV En.isR; rw [decide_eq_false hn]; rfl)
    clear h hn hw
    go_enter Tryz.func34, Tryz.ntmps34
    go_wp2
    go_ret
    exact ⟨congrArg Ending.returned e.out.symm, rfl⟩
theorem waits_s (w : World) (h : EnM w E C x m rb fb rp cp) (n : Int) (hw : wfI n) : Calls Tryz.prog 15 #[.pointer (some ⟨x, 0, none⟩), .int .i64 n] w fun e w' => e = .returned (.int .i64 (m.waits n)) ∧ w = w' := by
  haveI := h.bx
  by_cases hn : m.oth n
  · haveI := h.row hn
    obtain ⟨⟨_, A, c, ds, hb, _⟩, _⟩ := h.ro n hn
    haveI := hb
    have e : Hid (m.waits n = ((m.rw n).bx.length : Int)) := hide (by unfold En.waits; rw [if_pos hn])
    clear h hn hw
    go_enter Tryz.func15, Tryz.ntmps15
    go_wp2
    go_ret
    exact ⟨congrArg (fun z => Ending.returned (.int .i64 z)) e.out.symm, rfl⟩
  · haveI := h.noRow hw hn
    have e : Hid (m.waits n = 0) := hide (by unfold En.waits; rw [if_neg hn])
    clear h hn hw
    go_enter Tryz.func15, Tryz.ntmps15
    go_wp2
    go_ret
    exact ⟨congrArg (fun z => Ending.returned (.int .i64 z)) e.out.symm, rfl⟩
end
/-! ### packets in memory -/
structure Pm where
  x : Pk
  HA : Option Addr
  hc : Nat
  BA : Option Addr
  bc : Nat
  deriving Inhabited
abbrev Pm.v (p : Pm) : Value := PkV p.x.k p.x.n p.x.i p.x.hp p.HA p.x.hs.length p.hc p.BA p.x.bs.length p.bc p.x.an p.x.ai p.x.sq none 0 0
def pmc (p : Pm) : List Value := [.int .i64 p.x.k, .int .i64 p.x.n, .int .u64 p.x.i, .int .i64 p.x.hp, .slice p.HA p.x.hs.length p.hc, .slice p.BA p.x.bs.length p.bc, .int .i64 p.x.an, .int .u64 p.x.ai, .int .u64 p.x.sq, .slice none 0 0]
def pms (l : List Pm) : List Value := l.flatMap pmc
theorem pmc_len (p : Pm) : (pmc p).length = 10 := rfl
theorem pms_len (l : List Pm) : (pms l).length = l.length * 10 := flat_length pmc_len l
theorem pms_app (l m : List Pm) : pms (l ++ m) = pms l ++ pms m := List.flatMap_append
theorem pms_one (l : List Pm) : ∀ u ∈ pms l, u.oneCell' = true := by
  intro u hu
  obtain ⟨p, _, hp⟩ := List.mem_flatMap.1 hu
  simp [pmc] at hp
  rcases hp with rfl | rfl | rfl | rfl | rfl | rfl | rfl | rfl | rfl | rfl <;> rfl
theorem Tryz.okPm : ElemOk Tryz.prog 49 43 10 128 := elemOk_of (.agg #[.int .i64 0, .int .i64 0, .int .u64 0, .int .i64 0, .slice none 0 0, .slice none 0 0, .int .i64 0, .int .u64 0, .int .u64 0, .slice none 0 0]) Tryz.underlying49 (by kernel_rfl) rfl (by omega)
/-- a packet's rows, in blocks that nobody writes, from base on -/
structure PmP (base : Nat) (W : World) (E : List Nat) (p : Pm) : Prop where
  h : RO W E 4 p.HA p.x.hs.length (hcs p.x.hs)
  b : RO W E 1 p.BA p.x.bs.length (bcs p.x.bs)
  nh : ∀ a, p.HA = some a → base ≤ a.block
  nb : ∀ a, p.BA = some a → base ≤ a.block
  ps : p.x.ps = []
  fh : NF W p.HA p.x.hs.length
  fb : NF W p.BA p.x.bs.length
theorem PmP.tr {base : Nat} {X W : World} {E E' : List Nat} {p : Pm} (h : PmP base X E p) (t : Tr E E' X W) : PmP base W E' p := ⟨h.h.tr t, h.b.tr t, h.nh, h.nb, h.ps, h.fh.tr h.h t, h.fb.tr h.b t⟩
theorem PmP.lo {base lo : Nat} {W : World} {E : List Nat} {p : Pm} (h : PmP base W E p) (hl : lo ≤ base) : PmP lo W E p := ⟨h.h, h.b, fun a ha => Nat.le_trans hl (h.nh a ha), fun a ha => Nat.le_trans hl (h.nb a ha), h.ps, h.fh, h.fb⟩
theorem PmP.re {base : Nat} {W : World} {E D : List Nat} {p : Pm} (h : PmP base W E p) (hd : ∀ i ∈ D, i ∈ E ∨ i < base ∨ W.heap.size ≤ i) : PmP base W D p := by
  have key : ∀ {k n : Nat} {A : Option Addr} {xs : List Value}, RO W E k A n xs → (∀ a, A = some a → base ≤ a.block) → RO W D k A n xs := fun {k n A xs} hr hn => ⟨hr.1, fun h0 a ha hm => by
    rcases hd _ hm with h1 | h1 | h1
    · exact hr.2 h0 a ha h1
    · have := hn a ha; omega
    · obtain ⟨b, off, e, hb, _⟩ := hr.1.2 h0
      rw [e] at ha
      injection ha with ha
      subst ha
      simp only at h1
      omega⟩
  exact ⟨key h.h h.nh, key h.b h.nb, h.nh, h.nb, h.ps, h.fh, h.fb⟩
def RetPm (w : World) (X : Pk) (e : Ending) (w' : World) : Prop := ∃ p : Pm, e = .returned p.v ∧ p.x = X ∧ PmP w.heap.size w' [] p ∧ Below w.heap.size w w'
section
variable {E C : List Nat} {x : Nat} {m : En} {rb fb : Nat} {rp cp : Int → Nat}
set_option maxRecDepth 100000 in
set_option maxHeartbeats 4000000 in
theorem data_s (w : World) (n i : Int) (V1 V2 : Value) (hbx : BoxAt w x #[.int .i64 n, .int .u64 i, V1, V2] 64) (BA : Option Addr) (bc : Nat) (bs : List Int) (HA : Option Addr) (hc : Nat) (hs : List Hd)
    (hB : Reads w w.heap.size 1 BA bs.length (bcs bs)) (hbl : bs.length ≤ 1000000) (hH : Reads w w.heap.size 4 HA hs.length (hcs hs)) (hhl : hs.length ≤ 1000000) :
    Calls Tryz.prog 36 #[.pointer (some ⟨x, 0, none⟩), .slice BA bs.length bc, .slice HA hs.length hc] w (RetPm w ⟨2, n, i, 8, hs, bs, 0, 0, 0, []⟩) := by
  haveI := hbx
  haveI : LtN x w.heap.size := ⟨hbx.lt⟩
  have S1 := hide hB
  have S2 := hide hH
  clear hB hH
  go_enter Tryz.func36, Tryz.ntmps36
  go_upto_region 1 with fail
  go_region_held3 (fun w' => w'.cell? ⟨x, 0, none⟩ = some (.int .i64 n) ∧ w'.cell? ⟨x, 1, none⟩ = some (.int .u64 i)) ((refine ⟨?_, ?_⟩ <;> (rw [cell?_box]; rfl)))
    (first
      | (go_at_call 56; (with_reducible refine (cloneB_s BA bc bs _ ((S1.out.below blw).more (Blw.size inferInstance)) hbl).mono ?_); rintro e w3 ⟨v3, rfl, ho3, hb3⟩; haveI : Stp _ w3 := ⟨hb3⟩; have z3 : w.heap.size < w3.heap.size := BoxAt.lt (w := w3) (n := w.heap.size) inferInstance; obtain ⟨A3, c3, rfl, _, _⟩ := own_slice ho3; have HC := hide ho3; clear ho3 hb3)
      | (go_at_call 57; (with_reducible refine (cloneHd_s HA hc hs _ ((S2.out.below blw).more (Blw.size inferInstance)) hhl).mono ?_); rintro e w4 ⟨v4, rfl, ho4, hb4⟩; haveI : Stp _ w4 := ⟨hb4⟩; have z4 : w.heap.size < w4.heap.size := BoxAt.lt (w := w4) (n := w.heap.size) inferInstance; obtain ⟨A4, c4, rfl, _, _⟩ := own_slice ho4; have HD := hide ho4; clear ho4 hb4)
      | fail)
  all_goals
    go_wp2
    refine bodyPost_ret (v := PkV 2 n i 8 A4 hs.length c4 A3 bs.length c3 0 0 0 none 0 0) (by simp [results, Tryz.results36, go_sem]) rfl ?_
    have r4 := hide (RO.own (C := [w.heap.size]) HD.out (by intro j hj; rw [List.mem_singleton] at hj; subst hj; first | omega | (simp [World.drew]; done) | (simp [World.drew]; omega)))
    have r3 := hide (RO.own (C := [w.heap.size]) HC.out (by intro j hj; rw [List.mem_singleton] at hj; subst hj; first | omega | (simp [World.drew]; done) | (simp [World.drew]; omega)))
    refine ⟨⟨⟨2, n, i, 8, hs, bs, 0, 0, 0, []⟩, A4, c4, A3, c3⟩, rfl, rfl, ⟨RO.re (RO.tc (C := [w.heap.size]) r4.out) (fun _ h => by cases h), RO.re (RO.tc (C := [w.heap.size]) r3.out) (fun _ h => by cases h), fun a ha => ?_, fun a ha => ?_, rfl, NF.tc (C := [w.heap.size]) (NF.own HD.out) r4.out, NF.tc (C := [w.heap.size]) (NF.own HC.out) r3.out⟩, blw⟩
    · have ha' : A4 = some a := ha
      subst ha'
      have h1 := (HD.out.lt _ rfl).1
      refine Nat.le_trans ?_ h1
      first | omega | (simp [World.drew]; done) | (simp [World.drew]; omega)
    · have ha' : A3 = some a := ha
      subst ha'
      have h1 := (HC.out.lt _ rfl).1
      refine Nat.le_trans ?_ h1
      first | omega | (simp [World.drew]; done) | (simp [World.drew]; omega)
end
/-! ### the next number -/
def nextB (g s : Int) : Bool := !decide (s = 0) && (!decide (34359738367 < s) && decide (s - 1 = g))
def nextG (g s : Int) : Int := if nextB g s then s else g
abbrev rcvV (g : Int) : Value := .agg #[.int .u64 g]
theorem wtake_s (g s : Int) (h0 : 0 ≤ s) (h1 : s ≤ 18446744073709551615) (w : World) : Calls Tryz.prog 61 #[rcvV g, .int .u64 s] w fun e w' => e = .returned (.tuple #[rcvV (nextG g s), .bool (nextB g s)]) ∧ Below w.heap.size w w' := by
  by_cases a1 : s = 0
  · have H : Hid (nextB g s = false) := hide (by unfold nextB; rw [decide_eq_true a1]; rfl)
    have b1 : (s == 0) = true := by simpa using a1
    have H1 := hide a1
    clear a1
    go_enter Tryz.func61, Tryz.ntmps61
    go_wp2_with fail
    refine bodyPost_ret (v := .tuple #[rcvV g, .bool false]) (by simp [results, Tryz.results61, go_sem]) rfl ?_
    exact ⟨by unfold nextG; rw [H.out]; rfl, blw⟩
  · have b1 : (s == 0) = false := beq_eq_false_iff_ne.2 a1
    by_cases a2 : 34359738367 < s
    · have H : Hid (nextB g s = false) := hide (by unfold nextB; rw [decide_eq_true a2]; simp)
      have b2 : decide (34359738367 < s) = true := decide_eq_true a2
      clear a1 a2
      go_enter Tryz.func61, Tryz.ntmps61
      go_wp2_with fail
      refine bodyPost_ret (v := .tuple #[rcvV g, .bool false]) (by simp [results, Tryz.results61, go_sem]) rfl ?_
      exact ⟨by unfold nextG; rw [H.out]; rfl, blw⟩
    · have b2 : decide (34359738367 < s) = false := decide_eq_false a2
      have hw : IntKind.u64.wrap (s - 1) = s - 1 := IntWalk.u64_in _ (by omega)
      by_cases a3 : s - 1 = g
      · have H : Hid (nextB g s = true) := hide (by unfold nextB; rw [decide_eq_true a3, decide_eq_false a2, decide_eq_false a1]; rfl)
        have b3 : (s - 1 != g) = false := by simpa using a3
        have H3 := hide a3
        clear a1 a2 a3
        go_enter Tryz.func61, Tryz.ntmps61
        go_wp2_with fail
        refine bodyPost_ret (v := .tuple #[rcvV s, .bool true]) (by simp [results, Tryz.results61, go_sem]) rfl ?_
        exact ⟨by unfold nextG; rw [H.out]; rfl, blw⟩
      · have H : Hid (nextB g s = false) := hide (by unfold nextB; rw [decide_eq_false a3]; simp)
        have b3 : (s - 1 != g) = true := by simpa using a3
        have H3 := hide a3
        clear a1 a2 a3
        go_enter Tryz.func61, Tryz.ntmps61
        go_wp2_with fail
        refine bodyPost_ret (v := .tuple #[rcvV g, .bool false]) (by simp [results, Tryz.results61, go_sem]) rfl ?_
        exact ⟨by unfold nextG; rw [H.out]; rfl, blw⟩
end Go.Proofs.YtniogmefbjfoaaaGreat

namespace Go.Proofs.YtniogmefbjfoaaaGreat
set_option linter.unusedSimpArgs false
set_option linter.unusedVariables false
set_option linter.unusedSectionVars false
open Go.RowKit Go.Maps

set_option maxRecDepth 100000 in
set_option maxHeartbeats 4000000 in
theorem acked_no (ba : Int) (A : Option Addr) (c : Nat) (ds : List Bd) (u : Int) (w : World) (h : BdsR w A ds) (hl : ds.length ≤ 48) (hb0 : 0 ≤ ba) (hb : ba + ds.length ≤ 34359738367) (ho : ∀ d ∈ ds, 1 ≤ d.bs.length ∧ d.bs.length ≤ 320)
    (u0 : 0 ≤ u) (u1 : u ≤ 18446744073709551615) (hno : u ≤ ba ∨ ((min ds.length 8 : Nat) : Int) < u - ba) :
    Calls Tryz.prog 62 #[sndV ba A ds.length c, .int .u64 u] w fun e w' => ∃ A' n c', e = .returned (.tuple #[sndV ba A' n c', .bool false]) ∧ Below w.heap.size w w' := by
  have TM := hide (fun W (h : BdsR W A ds) => wmay_s ba A c ds W h hl hb0 hb ho)
  have TC := hide (fun W (h : BdsR W A ds) => copied_s A c ds W h (by omega) (fun d hd => by have := ho d hd; omega))
  have TD := hide (fun W => wdue_s ba A ds.length c W hl)
  have HD := hide h
  obtain ⟨q, hq⟩ : ∃ q, q = min ds.length 8 := ⟨_, rfl⟩
  rw [← hq] at TD hno
  have hq8 : q ≤ 8 := by omega
  have hun : ∀ b : Bool, (some undef = some (Value.bool b)) = False := fun b => by simp [undef]
  clear h ho hq
  by_cases a1 : u ≤ ba
  · have d1 : decide (u ≤ ba) = true := decide_eq_true a1
    clear a1 hno
    go_enter Tryz.func62, Tryz.ntmps62
    go_upto_region 1 with fail
    (refine wp_region_gw (by kernel_rfl) (by kernel_rfl) ?_; (repeat (go_big_quiet_step ((first | (go_at_call 54; with_reducible exact calls_gw (TM.out _ (HD.out.step blw))) | fail)))); refine wpQuiet_nil ?_; intro _ hw'; obtain ⟨⟨dq, osq⟩, hw''⟩ := hw'; subst hw'')
    go_upto_region 2 with fail
    go_region_held3 (fun w' => w'.cell? ⟨w.heap.size, 0, none⟩ = some (.int .u64 ba) ∧ w'.cell? ⟨w.heap.size, 1, none⟩ = some (.slice A ds.length c)) ((refine ⟨?_, ?_⟩ <;> (rw [cell?_box]; rfl)))
      (first | (go_at_call 55; (with_reducible refine (TC.out _ (HD.out.step blw)).mono ?_); rintro e w2 ⟨v2, ds2, rfl, _, hg2, hb2⟩; haveI : Stp _ w2 := ⟨hb2⟩; obtain ⟨A2, c2, rfl, _, _⟩ := own_slice hg2.row; clear hg2 hb2) | fail)
    all_goals
      go_wp2
      refine bodyPost_ret (v := .tuple #[sndV ba A2 ds2.length c2, .bool false]) (by simp [results, Tryz.results62, go_sem]) rfl ?_
      exact ⟨A2, _, c2, rfl, blw⟩
  · have d1 : decide (u ≤ ba) = false := decide_eq_false a1
    have d2 : decide ((q : Int) < u - ba) = true := decide_eq_true (hno.resolve_left a1)
    have hw : IntKind.u64.wrap (u - ba) = u - ba := IntWalk.u64_in _ (by omega)
    clear a1 hno
    go_enter Tryz.func62, Tryz.ntmps62
    go_upto_region 1 with fail
    (refine wp_region_gw (by kernel_rfl) (by kernel_rfl) ?_; (repeat (go_big_quiet_step ((first | (go_at_call 54; with_reducible exact calls_gw (TM.out _ (HD.out.step blw))) | (go_at_call 81; with_reducible exact calls_gw (TD.out _)) | fail)))); refine wpQuiet_nil ?_; intro _ hw'; obtain ⟨⟨dq, osq⟩, hw''⟩ := hw'; subst hw'')
    go_upto_region 2 with fail
    go_region_held3 (fun w' => w'.cell? ⟨w.heap.size, 0, none⟩ = some (.int .u64 ba) ∧ w'.cell? ⟨w.heap.size, 1, none⟩ = some (.slice A ds.length c)) ((refine ⟨?_, ?_⟩ <;> (rw [cell?_box]; rfl)))
      (first | (go_at_call 55; (with_reducible refine (TC.out _ (HD.out.step blw)).mono ?_); rintro e w2 ⟨v2, ds2, rfl, _, hg2, hb2⟩; haveI : Stp _ w2 := ⟨hb2⟩; obtain ⟨A2, c2, rfl, _, _⟩ := own_slice hg2.row; clear hg2 hb2) | fail)
    all_goals
      go_wp2
      refine bodyPost_ret (v := .tuple #[sndV ba A2 ds2.length c2, .bool false]) (by simp [results, Tryz.results62, go_sem]) rfl ?_
      exact ⟨A2, _, c2, rfl, blw⟩
def RetAck (w : World) (ba : Int) (L : List (List Int)) (e : Ending) (w' : World) : Prop := ∃ A c ds, e = .returned (.tuple #[sndV ba A L.length c, .bool true]) ∧ ds.map Bd.bs = L ∧ BdsN w' w.heap.size A ds ∧ Below w.heap.size w w' ∧ L.length ≤ c
theorem BdsR.drop {W : World} {b off k : Nat} {ds : List Bd} (h : BdsR W (some ⟨b, off, none⟩) ds) (hk : k ≤ ds.length) : BdsR W (some ⟨b, off + k, none⟩) (ds.drop k) :=
  ⟨by
    have := h.r.cut_some hk
    rw [bdcs, flat_drop bdc_len, Nat.mul_one] at this
    rw [List.length_drop]
    exact this, fun d hd => h.b d (List.mem_of_mem_drop hd)⟩
set_option maxRecDepth 100000 in
set_option maxHeartbeats 4000000 in
theorem acked_s (ba : Int) (A : Option Addr) (c : Nat) (ds : List Bd) (k : Nat) (w : World) (h : BdsR w A ds) (hl : ds.length ≤ 48) (hb0 : 0 ≤ ba) (hb : ba + ds.length ≤ 34359738367) (ho : ∀ d ∈ ds, 1 ≤ d.bs.length ∧ d.bs.length ≤ 320)
    (k1 : 1 ≤ k) (k2 : k ≤ ds.length) (k3 : k ≤ 8) (hcap : ds.length ≤ c) :
    Calls Tryz.prog 62 #[sndV ba A ds.length c, .int .u64 (ba + k)] w (RetAck w (ba + k) ((ds.map Bd.bs).drop k)) := by
  obtain ⟨b, off, rfl, _, _⟩ := h.r.2 (by omega)
  have TM := hide (fun W (h : BdsR W (some ⟨b, off, none⟩) ds) => wmay_s ba (some ⟨b, off, none⟩) c ds W h hl hb0 hb ho)
  have TC : Hid (∀ W cc, BdsR W (some ⟨b, off + k, none⟩) (ds.drop k) → Calls Tryz.prog 55 #[.slice (some ⟨b, off + k, none⟩) (ds.length - k) cc] W fun e w' => ∃ v ds', e = .returned v ∧ ds'.map Bd.bs = (ds.drop k).map Bd.bs ∧ BdG W.heap.size w' v ds' ∧ Below W.heap.size W w') := hide (fun W cc (h : BdsR W (some ⟨b, off + k, none⟩) (ds.drop k)) => by
    have := copied_s (some ⟨b, off + k, none⟩) cc (ds.drop k) W h (by rw [List.length_drop]; omega) (fun d hd => by have := ho d (List.mem_of_mem_drop hd); omega)
    rw [List.length_drop] at this
    exact this)
  have TC0 : Hid (ds.length ≤ k → ∀ W A' cc, Calls Tryz.prog 55 #[.slice A' (ds.length - k) cc] W fun e w' => ∃ v ds', e = .returned v ∧ ds'.map Bd.bs = (ds.drop k).map Bd.bs ∧ BdG W.heap.size w' v ds' ∧ Below W.heap.size W w') := hide (fun hle W A' cc => by
    have := copied_s A' cc [] W ⟨⟨by simp [bdcs], fun h0 => absurd h0 (by simp)⟩, fun d hd => by cases hd⟩ (by simp) (fun d hd => by cases hd)
    rw [List.drop_eq_nil_of_le hle, Nat.sub_eq_zero_of_le hle]
    exact this)
  have TD := hide (fun W => wdue_s ba (some ⟨b, off, none⟩) ds.length c W hl)
  have HD := hide h
  obtain ⟨q, hq⟩ : ∃ q, q = min ds.length 8 := ⟨_, rfl⟩
  rw [← hq] at TD
  have hq8 : q ≤ 8 := by omega
  have hkq : k ≤ q := by omega
  have HLD := hide (List.length_drop (i := k) (l := ds))
  have d1 : decide (ba + (k : Int) ≤ ba) = false := decide_eq_false (by omega)
  have d2 : ¬ q < k := by omega
  have d3 : decide ((q : Int) < (k : Int)) = false := decide_eq_false (by omega)
  have hw : IntKind.u64.wrap (ba + (k : Int) - ba) = k := by rw [IntWalk.u64_in _ (by omega)]; omega
  have i0 : (0 : Int) ≤ (k : Int) := by omega
  have i1 : (k : Int) ≤ (ds.length : Int) := by omega
  have m0 : k ≤ c := by omega
  clear h ho hq
  go_enter Tryz.func62, Tryz.ntmps62
  go_upto_region 1 with fail
  (refine wp_region_gw (by kernel_rfl) (by kernel_rfl) ?_; (repeat (go_big_quiet_step ((first | (go_at_call 54; with_reducible exact calls_gw (TM.out _ (HD.out.step blw))) | (go_at_call 81; with_reducible exact calls_gw (TD.out _)) | fail)))); refine wpQuiet_nil ?_; intro _ hw'; obtain ⟨⟨dq, osq⟩, hw''⟩ := hw'; subst hw'')
  go_wp2_with fail
  all_goals
    first
      | ((with_reducible refine (TC.out _ _ ?_).mono ?_); (focus (exact (HD.out.drop k2).step blw)))
      | (with_reducible refine (TC0.out (by omega) _ _ _).mono ?_)
    rintro e w2 ⟨v2, ds2, rfl, hm2, hg2, hb2⟩
    haveI : Stp _ w2 := ⟨hb2⟩
    have z2 : w.heap.size + 1 < w2.heap.size := BoxAt.lt (w := w2) (n := w.heap.size + 1) inferInstance
    have HL2 : Hid (ds2.length = ds.length - k) := hide (by have := congrArg List.length hm2; rw [List.length_map, List.length_map, List.length_drop] at this; exact this)
    obtain ⟨A2, c2, rfl, hc2, _⟩ := own_slice hg2.row
    have HC2 := hide hc2
    have HM := hide hm2
    clear hc2
    have HG := hide (hg2.lo (lo := w.heap.size + 1 + 1) (BoxAt.lt (n := w.heap.size + 1) inferInstance))
    clear hg2 hm2 hb2
    go_wp2_with fail
    refine bodyPost_ret (v := .tuple #[sndV (ba + k) A2 ds2.length c2, .bool true]) (by simp [results, Tryz.results62, go_sem]) rfl ?_
    refine ⟨A2, c2, ds2, ?_, ?_, ?_, blw, ?_⟩
    · rw [List.length_drop, List.length_map, HL2.out]
    · rw [HM.out, List.map_drop]
    · have HN := hide HG.out.new
      exact (BdsN.gr HN.out (Trc.h (C := [w.heap.size + 1]) (a := w2)).g (by simp)).lo (by omega)
    · rw [List.length_drop, List.length_map, ← HL2.out]; exact HC2.out
end Go.Proofs.YtniogmefbjfoaaaGreat
