/-
  Layer 16, the document's: ack: the ways that answer nothing.
-/
import Derived.Test.YtniogmefbjfoaaaGreatR18
import Derived.Test.YtniogmefbjfoaaaGreatTa
namespace Go.Proofs.YtniogmefbjfoaaaGreat
set_option linter.unusedSimpArgs false
set_option linter.unusedVariables false
set_option linter.unusedSectionVars false
open Go.RowKit Go.Maps

section
variable {E : List Nat} {x b c : Nat} {m : En}
theorem RfM.box1 {X W : World} {D : List Nat} {q : Nat} (h : RfM X (D ++ E) x b c m) (g : Gr [q] X W) (hq : q ∈ D) (hqb : q ≠ b) (hb : b ∈ E) : RfM W E x b c m :=
  h.keep ⟨g.mono' (fun i hi => by rw [List.mem_singleton] at hi; subst hi; exact List.mem_append_left _ hq), fun i hi => .inl (List.mem_append_right _ hi)⟩ (g.blk b h.fz.lt (fun hm => by rw [List.mem_singleton] at hm; exact hqb hm.symm)) hb (fun i hi => Nat.lt_of_lt_of_le (h.ltE i (List.mem_append_right _ hi)) g.size)
set_option maxRecDepth 100000 in
set_option maxHeartbeats 8000000 in
theorem ack_a (w : World) (h : RfM w E x b c m) (now : Int) (k : Nat) (hk1 : 1 ≤ k) (hk : k ≤ 10) (i : Int) (d : Hd) (h1 : d.i ≠ m.i) :
    Calls Tryz.prog 50 #[.pointer (some ⟨x, 0, none⟩), .int .u64 now, .agg #[.int .i64 k, .int .u64 i], .agg #[.int .i64 d.d, .int .u64 d.c, .int .u64 d.s, .int .u64 d.i]] w (RetTxr w E x b c (m.takeAck now k i d)) := by
  have HRES := hide (takeAck_no (now := now) (n := (k : Int)) (i := i) (.inl h1))
  generalize m.takeAck now k i d = RES at HRES
  have HE := hide h
  have HbE := hide h.bE
  have HBW := hide h.fz.lt
  haveI := h.bx
  haveI := h.fz
  haveI : LtN x w.heap.size := ⟨h.bx.lt⟩
  haveI : LtN b w.heap.size := ⟨h.fz.lt⟩
  haveI : NeN x b := ⟨fun e => h.xE (by rw [e]; exact h.bE)⟩
  obtain ⟨hok, A, c', ds, h9, hds, hmap, hcl⟩ := h.ro k (by omega)
  have hc1 := h9.c1
  rw [rwR_rl] at hc1
  haveI := h9.c0
  haveI := h9.c2
  haveI := h9.c3
  haveI := h9.c4
  haveI := h9.c5
  have hun : ∀ b : Bool, (some undef = some (Value.bool b)) = False := fun b => by simp [undef]
  have i0 : (0 : Int) ≤ (k : Int) := by omega
  have i1 : (k : Int) < 11 := by omega
  haveI := hc1
  have e1 : (d.i != m.i) = true := by simpa using h1
  clear h1
  clear h h9 hds hmap hcl hok hc1
  go_enter Tryz.func50, Tryz.ntmps50
  go_upto_region 1 with fail
  go_quiet (fail)
  go_upto_region 2 with fail
  go_quiet (fail)
  go_wp2_with fail
  refine bodyPost_ret (v := nilA) (by simp [results, Tryz.results50, go_sem]) rfl ?_
  rw [HRES.out]
  exact ⟨_, rfl, .nil _ _, HE.out.below blw, .of blw⟩
set_option maxRecDepth 100000 in
set_option maxHeartbeats 8000000 in
theorem ack_b (w : World) (h : RfM w E x b c m) (now : Int) (k : Nat) (hk1 : 1 ≤ k) (hk : k ≤ 10) (i : Int) (d : Hd) (h1 : d.i = m.i) (h2 : m.isR k = false) :
    Calls Tryz.prog 50 #[.pointer (some ⟨x, 0, none⟩), .int .u64 now, .agg #[.int .i64 k, .int .u64 i], .agg #[.int .i64 d.d, .int .u64 d.c, .int .u64 d.s, .int .u64 d.i]] w (RetTxr w E x b c (m.takeAck now k i d)) := by
  have HRES := hide (takeAck_no (now := now) (n := (k : Int)) (i := i) (h := d) (.inr (.inl h2)))
  generalize m.takeAck now k i d = RES at HRES
  have HE := hide h
  have HbE := hide h.bE
  have HBW := hide h.fz.lt
  haveI := h.bx
  haveI := h.fz
  haveI : LtN x w.heap.size := ⟨h.bx.lt⟩
  haveI : LtN b w.heap.size := ⟨h.fz.lt⟩
  haveI : NeN x b := ⟨fun e => h.xE (by rw [e]; exact h.bE)⟩
  obtain ⟨hok, A, c', ds, h9, hds, hmap, hcl⟩ := h.ro k (by omega)
  have hc1 := h9.c1
  rw [rwR_rl] at hc1
  haveI := h9.c0
  haveI := h9.c2
  haveI := h9.c3
  haveI := h9.c4
  haveI := h9.c5
  have hun : ∀ b : Bool, (some undef = some (Value.bool b)) = False := fun b => by simp [undef]
  have i0 : (0 : Int) ≤ (k : Int) := by omega
  have i1 : (k : Int) < 11 := by omega
  rw [h2] at hc1
  haveI := hc1
  have e1 : (d.i != m.i) = false := by simpa using h1
  clear h1 h2
  clear h h9 hds hmap hcl hok hc1
  go_enter Tryz.func50, Tryz.ntmps50
  go_upto_region 1 with fail
  go_quiet (fail)
  go_upto_region 2 with fail
  go_quiet (fail)
  go_wp2_with fail
  refine bodyPost_ret (v := nilA) (by simp [results, Tryz.results50, go_sem]) rfl ?_
  rw [HRES.out]
  exact ⟨_, rfl, .nil _ _, HE.out.below blw, .of blw⟩
set_option maxRecDepth 100000 in
set_option maxHeartbeats 8000000 in
theorem ack_c (w : World) (h : RfM w E x b c m) (now : Int) (k : Nat) (hk1 : 1 ≤ k) (hk : k ≤ 10) (i : Int) (d : Hd) (h1 : d.i = m.i) (h2 : m.isR k = true) (h3 : d.c ≠ (m.rw k).cn) :
    Calls Tryz.prog 50 #[.pointer (some ⟨x, 0, none⟩), .int .u64 now, .agg #[.int .i64 k, .int .u64 i], .agg #[.int .i64 d.d, .int .u64 d.c, .int .u64 d.s, .int .u64 d.i]] w (RetTxr w E x b c (m.takeAck now k i d)) := by
  have HRES := hide (takeAck_no (now := now) (n := (k : Int)) (i := i) (h := d) (.inr (.inr (.inl h3))))
  generalize m.takeAck now k i d = RES at HRES
  have HE := hide h
  have HbE := hide h.bE
  have HBW := hide h.fz.lt
  haveI := h.bx
  haveI := h.fz
  haveI : LtN x w.heap.size := ⟨h.bx.lt⟩
  haveI : LtN b w.heap.size := ⟨h.fz.lt⟩
  haveI : NeN x b := ⟨fun e => h.xE (by rw [e]; exact h.bE)⟩
  obtain ⟨hok, A, c', ds, h9, hds, hmap, hcl⟩ := h.ro k (by omega)
  have hc1 := h9.c1
  rw [rwR_rl] at hc1
  haveI := h9.c0
  haveI := h9.c2
  haveI := h9.c3
  haveI := h9.c4
  haveI := h9.c5
  have hun : ∀ b : Bool, (some undef = some (Value.bool b)) = False := fun b => by simp [undef]
  have i0 : (0 : Int) ≤ (k : Int) := by omega
  have i1 : (k : Int) < 11 := by omega
  rw [h2] at hc1
  haveI := hc1
  have ho : m.oth k := (isR_iff.1 h2).1
  rw [rwR_oth ho] at h9
  haveI := h9.c0
  haveI := h9.c2
  haveI := h9.c3
  haveI := h9.c4
  haveI := h9.c5
  have HO := hide ho
  have e1 : (d.i != m.i) = false := by simpa using h1
  have e3 : (d.c != (m.rw k).cn) = true := by simpa using h3
  clear h1 h2 h3 ho
  clear h h9 hds hmap hcl hok hc1
  go_enter Tryz.func50, Tryz.ntmps50
  go_upto_region 1 with fail
  go_quiet (fail)
  go_upto_region 2 with fail
  go_quiet (fail)
  go_wp2_with fail
  refine bodyPost_ret (v := nilA) (by simp [results, Tryz.results50, go_sem]) rfl ?_
  rw [HRES.out]
  exact ⟨_, rfl, .nil _ _, HE.out.below blw, .of blw⟩
set_option maxRecDepth 100000 in
set_option maxHeartbeats 8000000 in
theorem ack_d (w : World) (h : RfM w E x b c m) (now : Int) (k : Nat) (hk1 : 1 ≤ k) (hk : k ≤ 10) (i : Int) (d : Hd) (h1 : d.i = m.i) (h2 : m.isR k = true) (h3 : d.c = (m.rw k).cn) (h4 : i < (m.rw k).ak) :
    Calls Tryz.prog 50 #[.pointer (some ⟨x, 0, none⟩), .int .u64 now, .agg #[.int .i64 k, .int .u64 i], .agg #[.int .i64 d.d, .int .u64 d.c, .int .u64 d.s, .int .u64 d.i]] w (RetTxr w E x b c (m.takeAck now k i d)) := by
  have HRES := hide (takeAck_no (now := now) (n := (k : Int)) (i := i) (h := d) (.inr (.inr (.inr h4))))
  generalize m.takeAck now k i d = RES at HRES
  have HE := hide h
  have HbE := hide h.bE
  have HBW := hide h.fz.lt
  haveI := h.bx
  haveI := h.fz
  haveI : LtN x w.heap.size := ⟨h.bx.lt⟩
  haveI : LtN b w.heap.size := ⟨h.fz.lt⟩
  haveI : NeN x b := ⟨fun e => h.xE (by rw [e]; exact h.bE)⟩
  obtain ⟨hok, A, c', ds, h9, hds, hmap, hcl⟩ := h.ro k (by omega)
  have hc1 := h9.c1
  rw [rwR_rl] at hc1
  haveI := h9.c0
  haveI := h9.c2
  haveI := h9.c3
  haveI := h9.c4
  haveI := h9.c5
  have hun : ∀ b : Bool, (some undef = some (Value.bool b)) = False := fun b => by simp [undef]
  have i0 : (0 : Int) ≤ (k : Int) := by omega
  have i1 : (k : Int) < 11 := by omega
  rw [h2] at hc1
  haveI := hc1
  have ho : m.oth k := (isR_iff.1 h2).1
  rw [rwR_oth ho] at h9
  haveI := h9.c0
  haveI := h9.c2
  haveI := h9.c3
  haveI := h9.c4
  haveI := h9.c5
  have HO := hide ho
  have e1 : (d.i != m.i) = false := by simpa using h1
  have e3 : (d.c != (m.rw k).cn) = false := by simpa using h3
  have e4 : decide (i < (m.rw k).ak) = true := decide_eq_true h4
  clear h1 h2 h3 h4 ho
  clear h h9 hds hmap hcl hok hc1
  go_enter Tryz.func50, Tryz.ntmps50
  go_upto_region 1 with fail
  go_quiet (fail)
  go_upto_region 2 with fail
  go_quiet (fail)
  go_wp2_with fail
  refine bodyPost_ret (v := nilA) (by simp [results, Tryz.results50, go_sem]) rfl ?_
  rw [HRES.out]
  exact ⟨_, rfl, .nil _ _, HE.out.below blw, .of blw⟩
set_option maxRecDepth 100000 in
set_option maxHeartbeats 8000000 in
theorem ack_e (w : World) (h : RfM w E x b c m) (now : Int) (k : Nat) (hk1 : 1 ≤ k) (hk : k ≤ 10) (i : Int) (d : Hd) (h1 : d.i = m.i) (h2 : m.isR k = true) (h3 : d.c = (m.rw k).cn) (h4 : (m.rw k).ak < i) (h5 : (m.rw k).ak ≠ 0) :
    Calls Tryz.prog 50 #[.pointer (some ⟨x, 0, none⟩), .int .u64 now, .agg #[.int .i64 k, .int .u64 i], .agg #[.int .i64 d.d, .int .u64 d.c, .int .u64 d.s, .int .u64 d.i]] w (RetTxr w E x b c (m.takeAck now k i d)) := by
  have HRES := hide (takeAck_anew (now := now) (n := (k : Int)) (i := i) (h := d) h1 h2 h3 h4 h5)
  generalize m.takeAck now k i d = RES at HRES
  have HE := hide h
  have HbE := hide h.bE
  have HBW := hide h.fz.lt
  haveI := h.bx
  haveI := h.fz
  haveI : LtN x w.heap.size := ⟨h.bx.lt⟩
  haveI : LtN b w.heap.size := ⟨h.fz.lt⟩
  haveI : NeN x b := ⟨fun e => h.xE (by rw [e]; exact h.bE)⟩
  obtain ⟨hok, A, c', ds, h9, hds, hmap, hcl⟩ := h.ro k (by omega)
  have hc1 := h9.c1
  rw [rwR_rl] at hc1
  haveI := h9.c0
  haveI := h9.c2
  haveI := h9.c3
  haveI := h9.c4
  haveI := h9.c5
  have hun : ∀ b : Bool, (some undef = some (Value.bool b)) = False := fun b => by simp [undef]
  have i0 : (0 : Int) ≤ (k : Int) := by omega
  have i1 : (k : Int) < 11 := by omega
  rw [h2] at hc1
  haveI := hc1
  have ho : m.oth k := (isR_iff.1 h2).1
  rw [rwR_oth ho] at h9
  haveI := h9.c0
  haveI := h9.c2
  haveI := h9.c3
  haveI := h9.c4
  haveI := h9.c5
  have HO := hide ho
  have e1 : (d.i != m.i) = false := by simpa using h1
  have e3 : (d.c != (m.rw k).cn) = false := by simpa using h3
  have e4 : decide (i < (m.rw k).ak) = false := decide_eq_false (by omega)
  have e5 : ((m.rw k).ak != 0) = true := by simpa using h5
  have e6 : (i != (m.rw k).ak) = true := by simp; omega
  clear h1 h2 h3 h4 h5 ho
  clear h h9 hds hmap hcl hok hc1
  go_enter Tryz.func50, Tryz.ntmps50
  go_upto_region 1 with fail
  go_quiet (fail)
  go_upto_region 2 with fail
  go_quiet (fail)
  go_upto_region 4 with fail
  go_quiet (fail)
  go_wp2_with (go_at_call 44; (with_reducible refine (anew16_s _ (HE.out.to (by exact blw)) k HO.out).mono ?_); rintro e w4 ⟨rfl, hm4, hg4⟩; have HM4 := hide hm4; have HG4 := hide ((Gr.of (C := [b]) (blw (a := w))).trans hg4); have HZ4 := hide (show w.heap.size + 1 + 1 < w4.heap.size from Nat.lt_of_lt_of_le (BoxAt.lt (n := w.heap.size + 1 + 1) inferInstance) hg4.size); haveI := hm4.bx; haveI := hm4.fz; haveI : StpG b _ w4 := ⟨hg4.grow⟩; obtain ⟨_, _, _, _, h94, _⟩ := hm4.ro k (by omega); haveI := h94.c4; clear hm4 hg4 h94)
  go_wp2_with fail
  refine bodyPost_ret (v := nilA) (by simp [results, Tryz.results50, go_sem]) rfl ?_
  obtain ⟨f1, f2⟩ := HM4.out.setAk (k := k) HO.out i
  rw [put_put, put_rw] at f1
  rw [HRES.out]
  have g8 := fun (W : World) => ((Gr.set (C := [w.heap.size + 1 + 1]) (m := w.heap.size + 1 + 1) W 0 (.slice none 0 0) (by simp)).trans (Gr.set (m := w.heap.size + 1 + 1) _ 1 (.slice none 0 0) (by simp))).trans (Gr.set (m := w.heap.size + 1 + 1) _ 2 (.slice none 0 0) (by simp))
  refine ⟨_, rfl, .nil _ _, f1.box1 (g8 _) (mem_rgB.2 ⟨by omega, ?_⟩) (by have := HBW.out; omega) HbE.out, ?_⟩
  · simp
  · exact ((HG4.out.trans f2).mono' (D := [b, w.heap.size + 1 + 1]) (by simp) |>.trans ((g8 _).mono' (by simp))).less (fun j hj => by
      simp at hj
      rcases hj with rfl | rfl
      · exact .inl (by simp)
      · exact .inr (by omega))
end
end Go.Proofs.YtniogmefbjfoaaaGreat

namespace Go.Proofs.YtniogmefbjfoaaaGreat
set_option linter.unusedSimpArgs false
set_option linter.unusedVariables false
set_option linter.unusedSectionVars false
open Go.RowKit Go.Maps

theorem due_none {m : En} {n : Int} {r : Rw} {above : Int} (h : r.ba + r.due ≤ above) : m.due n r above = [] := by
  unfold En.due En.dueK
  rw [List.flatMap_eq_nil_iff]
  intro j hj
  rw [List.mem_range] at hj
  unfold En.due1
  rw [if_neg (by omega)]
theorem due_nil_iff {m : En} {n : Int} {r : Rw} {above : Int} : m.due n r above = [] ↔ (List.range r.due).any (fun j => decide (above < r.ba + 1 + j)) = false := by
  unfold En.due En.dueK
  rw [List.flatMap_eq_nil_iff, List.any_eq_false]
  constructor
  · intro h j hj
    have := h j hj
    unfold En.due1 at this
    split at this
    · cases this
    · rename_i h2
      simpa using h2
  · intro h j hj
    have := h j hj
    unfold En.due1
    rw [if_neg (by simpa using this)]
theorem dueR_eq {m : En} {n : Int} {r : Rw} {now above : Int} : r.dueR now above = if m.due n r above = [] then r else { r with st := now } := by
  unfold Rw.dueR Rw.stK
  by_cases h : m.due n r above = []
  · rw [if_pos h, due_nil_iff.1 h]
    rfl
  · rw [if_neg h]
    have h1 : (List.range r.due).any (fun j => decide (above < r.ba + 1 + j)) = true := by
      cases h2 : (List.range r.due).any (fun j => decide (above < r.ba + 1 + j)) with
      | true => rfl
      | false => exact absurd (due_nil_iff.2 h2) h
    rw [h1]
    rfl
end Go.Proofs.YtniogmefbjfoaaaGreat

namespace Go.Proofs.YtniogmefbjfoaaaGreat
set_option linter.unusedSimpArgs false
set_option linter.unusedVariables false
set_option linter.unusedSectionVars false
open Go.RowKit Go.Maps

set_option maxRecDepth 100000 in
set_option maxHeartbeats 8000000 in
theorem push7_full (ba : Int) (A : Option Addr) (c : Nat) (ds : List Bd) (BA : Option Addr) (n : Nat) (bc : Nat) (w : World) (h : BdsR w A ds) (hl : ds.length ≤ 48) (hb0 : 0 ≤ ba) (hb : ba + ds.length ≤ 34359738367) (ho : ∀ d ∈ ds, 1 ≤ d.bs.length ∧ d.bs.length ≤ 320) (h1 : 1 ≤ n) (h2 : n ≤ 320) (hf : 48 ≤ ds.length ∨ 34359738367 ≤ ba + ds.length) :
    Calls Tryz.prog 45 #[sndV ba A ds.length c, .slice BA n bc] w fun e w' => e = .returned (.tuple #[sndV 0 none 0 0, .int .i64 4]) ∧ Below w.heap.size w w' := by
  have TM := hide (fun W (h : BdsR W A ds) => may7_s ba A c ds W h hl hb0 hb ho)
  have TB := hide (fun W => body7_b BA n bc W h1 (by omega))
  have HD := hide h
  by_cases h48 : 48 ≤ ds.length
  · have e1 : decide ((48 : Int) ≤ (ds.length : Int)) = true := decide_eq_true (by omega)
    have e1n : decide (48 ≤ ds.length) = true := decide_eq_true h48
    clear h ho hf h48
    go_enter Tryz.func45, Tryz.ntmps45
    go_wp2_with (first
      | (go_at_call 67; (with_reducible refine (TM.out _ (HD.out.step blw)).mono ?_); rintro e w1 ⟨rfl, hb1⟩; haveI : Stp _ w1 := ⟨hb1⟩; clear hb1)
      | (go_at_call 68; (with_reducible refine (TB.out _).mono ?_); rintro e w1 ⟨rfl, hb1⟩; haveI : Stp _ w1 := ⟨hb1⟩; clear hb1))
    refine bodyPost_ret (v := .tuple #[sndV 0 none 0 0, .int .i64 4]) (by simp [results, Tryz.results45, go_sem]) rfl ?_
    exact ⟨rfl, blw⟩
  · have e1 : decide ((48 : Int) ≤ (ds.length : Int)) = false := decide_eq_false (by omega)
    have e1n : decide (48 ≤ ds.length) = false := decide_eq_false h48
    have hw1 : IntKind.u64.wrap (ba + (ds.length : Int)) = ba + (ds.length : Int) := IntWalk.u64_in _ (by omega)
    have hw2 : IntKind.u64.wrap (ba + (ds.length : Int) + 1) = ba + (ds.length : Int) + 1 := IntWalk.u64_in _ (by omega)
    have TC : Hid (∀ W, Calls Tryz.prog 18 #[.int .u64 (ba + (ds.length : Int) + 1)] W (RetB W false)) := hide (fun W => by
      have := count7_b (ba + (ds.length : Int) + 1) W
      rwa [decide_eq_false (by omega : ¬ ba + (ds.length : Int) + 1 < 34359738368)] at this)
    clear h ho hf h48
    go_enter Tryz.func45, Tryz.ntmps45
    go_wp2_with (first
      | (go_at_call 67; (with_reducible refine (TM.out _ (HD.out.step blw)).mono ?_); rintro e w1 ⟨rfl, hb1⟩; haveI : Stp _ w1 := ⟨hb1⟩; clear hb1)
      | (go_at_call 68; (with_reducible refine (TB.out _).mono ?_); rintro e w1 ⟨rfl, hb1⟩; haveI : Stp _ w1 := ⟨hb1⟩; clear hb1)
      | (go_at_call 18; (with_reducible refine (TC.out _).mono ?_); rintro e w1 ⟨rfl, hb1⟩; haveI : Stp _ w1 := ⟨hb1⟩; clear hb1))
    refine bodyPost_ret (v := .tuple #[sndV 0 none 0 0, .int .i64 4]) (by simp [results, Tryz.results45, go_sem]) rfl ?_
    exact ⟨rfl, blw⟩
end Go.Proofs.YtniogmefbjfoaaaGreat

namespace Go.Proofs.YtniogmefbjfoaaaGreat
set_option linter.unusedSimpArgs false
set_option linter.unusedVariables false
set_option linter.unusedSectionVars false
open Go.RowKit Go.Maps

def rzc : List Value := [.int .u64 1, .bool false, .int .u64 0, .slice none 0 0, .int .u64 0, .int .u64 0, .int .u64 0, .int .u64 0, .int .u64 0]
def rzs (l : List Unit) : List Value := l.flatMap fun _ => rzc
theorem rzs_len (l : List Unit) : (rzs l).length = l.length * 9 := flat_length (fun _ => rfl) l
theorem rzs_one (l : List Unit) : ∀ u ∈ rzs l, u.oneCell' = true := by
  intro u hu
  obtain ⟨p, _, hp⟩ := List.mem_flatMap.1 hu
  simp [rzc] at hp
  rcases hp with rfl | rfl | rfl | rfl | rfl <;> rfl
theorem Tryz.okRz : ElemOk Tryz.prog 72 78 9 88 := elemOk_of (.agg #[.int .u64 0, .bool false, .int .u64 0, .slice none 0 0, .int .u64 0, .int .u64 0, .int .u64 0, .int .u64 0, .int .u64 0]) Tryz.underlying72 (by kernel_rfl) rfl (by omega)
theorem reads_rz1 (W : World) (q : Nat) [h : BoxAt W q #[.int .u64 1, .bool false, .int .u64 0, .slice none 0 0, .int .u64 0, .int .u64 0, .int .u64 0, .int .u64 0, .int .u64 0] 78] : Reads W W.heap.size 9 (some ⟨q, 0, none⟩) 1 (rzs [()]) :=
  ⟨rfl, fun _ => ⟨_, _, rfl, h.lt, fun j u hu => by
    have hj : rzc[j]? = some u := by simpa [rzs] using hu
    rw [Nat.zero_add, cell?_box, ← hj]
    simp [rzc]⟩⟩
theorem rzs_at {n k j : Nat} (hk : k < n) (hj : j < 9) : (rzs (List.replicate n ()))[k * 9 + j]? = rzc[j]? := flat_get (fun _ => rfl) _ k j () (by rw [List.getElem?_replicate, if_pos hk]) hj
theorem new_rfm {W : World} {E0 : List Nat} {x b c base : Nat} {n i : Int} (h1 : 1 ≤ n ∧ n ≤ 10) (hx : BoxAt W x #[.int .i64 n, .int .u64 i, .slice (some ⟨b, 0, none⟩) 11 c] 74) (ho : W.ownsRow base 78 9 (.slice (some ⟨b, 0, none⟩) 11 c) 11 (rzs (List.replicate 11 ()))) (hE : ∀ j ∈ E0, j < base) (hxE : x ∉ E0) (hxb : x ≠ b) (hl : base ≤ W.heap.size) : RfM W (b :: E0) x b c (En.new n i) := by
  have hb := ho.lt b rfl
  refine ⟨h1, hx, fun hm => ?_, List.mem_cons_self, FrzAt.own ho hb.2, fun j hj => ?_, fun k hk => ?_, fun k cc hc => by cases hc⟩
  · rcases List.mem_cons.1 hm with e | e
    · exact hxb e
    · exact hxE e
  · rcases List.mem_cons.1 hj with rfl | hj
    · exact hb.2
    · exact Nat.lt_of_lt_of_le (hE j hj) hl
  · have er : (En.new n i).rwR k = rw0 := by unfold En.rwR; split <;> rfl
    have ec : (En.new n i).cmR k = ⟨0, 0, 0⟩ := rfl
    rw [er, ec]
    have key : ∀ j v, rzc[j]? = some v → CellAt W b (k * 9 + j) v := fun j v hv => by
      have hj : j < 9 := (List.getElem?_eq_some_iff.1 hv).1
      exact ⟨hb.2, by rw [ho.cellAt (k * 9 + j) (by omega), rzs_at hk hj]; exact hv⟩
    exact ⟨⟨by simp [rw0], by simp [rw0], by simp [rw0], by simp [rw0], by simp [rw0], by simp [rw0]⟩, none, 0, [], ⟨key 0 _ rfl, key 1 _ rfl, key 2 _ rfl, key 3 _ rfl, key 4 _ rfl, key 5 _ rfl, key 6 _ rfl, key 7 _ rfl, key 8 _ rfl⟩, Bds.nil _ _ _, rfl, Nat.le_refl _⟩
end Go.Proofs.YtniogmefbjfoaaaGreat

namespace Go.Proofs.YtniogmefbjfoaaaGreat
set_option linter.unusedSimpArgs false
set_option linter.unusedVariables false
set_option linter.unusedSectionVars false
open Go.RowKit Go.Maps

theorem new16r_no (n i : Int) (w : World) (h0 : 0 ≤ i) (h : mayB n i = true → 34359738367 < i) : Calls Tryz.prog 7 #[.agg #[.int .i64 n, .int .u64 i]] w fun e w' => e = .returned (.pointer none) ∧ Below w.heap.size w w' := by
  have TM := hide (fun W => refMay_b n i W h0)
  have TC := hide (fun W => count7_b i W)
  have hun : ∀ b : Bool, (some undef = some (Value.bool b)) = False := fun b => by simp [undef]
  cases hm : mayB n i with
  | false =>
    rw [hm] at TM
    clear h hm
    go_enter Tryz.func7, Tryz.ntmps7
    go_wp2_with (go_at_call 17; (with_reducible refine (TM.out _).mono ?_); rintro e w1 ⟨rfl, hb1⟩; haveI : Stp _ w1 := ⟨hb1⟩; clear hb1)
    go_ret
    exact ⟨rfl, blw⟩
  | true =>
    rw [decide_eq_false (by have := h hm; omega : ¬ i < 34359738368)] at TC
    rw [hm] at TM
    clear h hm
    go_enter Tryz.func7, Tryz.ntmps7
    go_wp2_with (first
      | (go_at_call 17; (with_reducible refine (TM.out _).mono ?_); rintro e w1 ⟨rfl, hb1⟩; haveI : Stp _ w1 := ⟨hb1⟩; clear hb1)
      | (go_at_call 18; (with_reducible refine (TC.out _).mono ?_); rintro e w1 ⟨rfl, hb1⟩; haveI : Stp _ w1 := ⟨hb1⟩; clear hb1))
    go_ret
    exact ⟨rfl, blw⟩
set_option maxRecDepth 100000 in
set_option maxHeartbeats 8000000 in
theorem new16r_s (n i : Int) (w : World) (hm : mayB n i = true) (hi : i ≤ 34359738367) : Calls Tryz.prog 7 #[.agg #[.int .i64 n, .int .u64 i]] w fun e w' => ∃ x b c, e = .returned (.pointer (some ⟨x, 0, none⟩)) ∧ (∀ E0 : List Nat, (∀ j ∈ E0, j < w.heap.size) → RfM w' (b :: E0) x b c (En.new n i)) ∧ w.heap.size ≤ b ∧ Below w.heap.size w w' := by
  have hmb : 1 ≤ n ∧ n ≤ 10 ∧ 0 < i := by unfold mayB at hm; exact of_decide_eq_true hm
  have TM := hide (fun W => refMay_b n i W (by omega))
  have TC := hide (fun W => count7_b i W)
  have HN := hide (show 1 ≤ n ∧ n ≤ 10 from ⟨hmb.1, hmb.2.1⟩)
  rw [hm] at TM
  rw [decide_eq_true (by omega : i < 34359738368)] at TC
  clear hm hi hmb
  go_enter Tryz.func7, Tryz.ntmps7
  go_wp2_with (first
    | (go_at_call 17; (with_reducible refine (TM.out _).mono ?_); rintro e w1 ⟨rfl, hb1⟩; haveI : Stp _ w1 := ⟨hb1⟩; clear hb1)
    | (go_at_call 18; (with_reducible refine (TC.out _).mono ?_); rintro e w2 ⟨rfl, hb2⟩; haveI : Stp _ w2 := ⟨hb2⟩; clear hb2))
  have hz2 : w.heap.size < w2.heap.size := BoxAt.lt (w := w2) (n := w.heap.size) inferInstance
  go_loopw [4] (fun v wr => ∃ (j : Nat) (pv : Value), j ≤ 11 ∧ v = .int .i64 j ∧ BoxAt wr w2.heap.size #[.int .i64 n, .int .u64 i, pv] 74 ∧ wr.ownsRow (w2.heap.size + 1) 78 9 pv j (rzs (List.replicate j ())) ∧ Below w.heap.size w wr) (fun v _ => 11 - (intOf v).toNat)
  case atStart => exact ⟨0, _, by omega, rfl, inferInstance, World.ownsRow_nil _ _ _ _, blw⟩
  case round =>
    obtain ⟨j, pv, hj, rfl, hbx, ho, hB⟩ := hrel
    obtain ⟨A5, c5, rfl, _, _⟩ := own_slice ho
    haveI : Blw w wr := ⟨hB⟩
    haveI := hbx
    have hzx := hbx.lt
    haveI : LeN w.heap.size w2.heap.size := ⟨by omega⟩
    haveI : LtN w2.heap.size wr.heap.size := ⟨hzx⟩
    have HO := hide ho
    have HB := hide hB
    clear ho hB hbx
    by_cases hlt : j ≤ 10
    · have e1 : decide ((j : Int) ≤ 10) = true := decide_eq_true (by omega)
      have e1n : decide (j ≤ 10) = true := decide_eq_true hlt
      have HRP := hide (show rzs (List.replicate (j + 1) ()) = rzs (List.replicate j ()) ++ rzs [()] by rw [List.replicate_succ']; simp [rzs])
      go_wp2_with ((at_builtin; refine wpList_append_x Tryz.okRz rfl (.tmp 25) (.tmp 27) rfl (w2.heap.size + 1) (.slice A5 j c5) j (rzs (List.replicate j ())) 1 (rzs [()]) ?_ ?_ ?_ ?_ ?_ ?_ ?_ ?_; go_must ((focus (first | rfl | (simp [Act.eval, Act.put]; done))); (focus (exact own_tc HO.out)); (focus (refine ⟨_, _, rfl, ?_⟩; exact reads_rz1 _ _)); (focus (exact rzs_one _)); (focus (unfold maxLen; omega)); (focus omega); (focus (first | omega | (simp; done) | (simp; omega) | exact blw.size | exact BoxAt.lt (n := w.heap.size) inferInstance)); intro v7 w7 ho7 hg7 ha7; haveI : StpB (w2.heap.size + 1) _ w7 := ⟨grown_belowT hg7 (by (try simp); omega) (fun q hq => (HO.out.lt q hq).1)⟩; have O7 := hide ho7; obtain ⟨A7, c7, rfl, _, _⟩ := own_slice ho7; clear ho7 hg7 ha7)))
      go_wp2_with fail
      go_roundw
      case rel => exact ⟨j + 1, _, by omega, by go_num, inferInstance, by rw [HRP.out]; exact own_same O7.out (fun q hq => (Gr.set (C := [w2.heap.size]) (m := w2.heap.size) w7 2 _ (by simp)).blk q (O7.out.lt q hq).2 (fun hm => by rw [List.mem_singleton] at hm; have := (O7.out.lt q hq).1; omega)), blw⟩
      case measure => simp [intOf]; omega
    · have hje : j = 11 := by omega
      subst hje
      go_wp2_with fail
      go_ret
      obtain ⟨g, cap, hv, hb, hg⟩ := HO.out.form (by omega)
      injection hv with e1 e2 e3
      subst e1
      refine ⟨_, g, c5, rfl, fun E0 hE0 => new_rfm (base := w2.heap.size + 1) HN.out inferInstance HO.out (fun q hq => by have := hE0 q hq; omega) (fun hm => by have := hE0 _ hm; omega) (by omega) (by omega), by omega, blw⟩
end Go.Proofs.YtniogmefbjfoaaaGreat

namespace Go.Proofs.YtniogmefbjfoaaaGreat
set_option linter.unusedSimpArgs false
set_option linter.unusedVariables false
set_option linter.unusedSectionVars false
open Go.RowKit Go.Maps

theorem nodes_le10 (m : En) : m.nodes.length ≤ 10 := Nat.le_trans (List.length_filter_le _ _) (by decide)
set_option maxRecDepth 100000 in
set_option maxHeartbeats 8000000 in
theorem stands16_s (w : World) {Ex E C : List Nat} {x y b c : Nat} {m : En} (hx : EnO w Ex C x m) (hy : RfM w E y b c m) : Calls Tryz.prog 8 #[.pointer (some ⟨x, 0, none⟩), .pointer (some ⟨y, 0, none⟩)] w (RetB w true) := by
  have HX := hide hx
  have HY := hide hy
  have TN : Hid (∀ W, Below w.heap.size w W → Calls Tryz.prog 19 #[.pointer (some ⟨x, 0, none⟩)] W (RetNds W m.nodes)) := hide (fun W hW => by
    obtain ⟨rb, fb, rp, cp, h⟩ := HX.out.below hW
    exact nodes16_s W h)
  have TM := hide (fun W (hW : Below w.heap.size w W) => nodes16r_s W (HY.out.below hW))
  have TW : Hid (∀ W (n : Int), wfI n → Below w.heap.size w W → Calls Tryz.prog 15 #[.pointer (some ⟨x, 0, none⟩), .int .i64 n] W fun e w' => e = .returned (.int .i64 (m.waits n)) ∧ W = w') := hide (fun W n hn hW => by
    obtain ⟨rb, fb, rp, cp, h⟩ := HX.out.below hW
    exact waits_s W h n hn)
  have TV := hide (fun W (n : Int) (hW : Below w.heap.size w W) => waits16_b W (HY.out.below hW) n)
  have hl10 := nodes_le10 m
  clear hx hy
  go_enter Tryz.func8, Tryz.ntmps8
  go_wp2_with (first
    | (go_at_call 19; (with_reducible refine (TN.out _ blw).mono ?_); rintro e w1 ⟨v1, rfl, ho1, hb1⟩; haveI : Stp _ w1 := ⟨hb1⟩; obtain ⟨A1, c1, rfl, _, _⟩ := own_slice ho1; have HO1 := hide (Reads.of_own ho1); clear ho1 hb1)
    | (go_at_call 20; (with_reducible refine (TM.out _ blw).mono ?_); rintro e w2 ⟨v2, rfl, ho2, hb2⟩; haveI : Stp _ w2 := ⟨hb2⟩; obtain ⟨A2, c2, rfl, _, _⟩ := own_slice ho2; have HO2 := hide (Reads.of_own ho2); clear ho2 hb2))
  generalize hL : m.nodes = L at HO1 HO2 hl10
  go_loopw [7] (fun v wr => ∃ j : Nat, j ≤ L.length ∧ v = .int .i64 j ∧ Below w2.heap.size w2 wr) (fun v _ => L.length - (intOf v).toNat)
  case atStart => exact ⟨0, Nat.zero_le _, rfl, blw⟩
  case round =>
    obtain ⟨j, hj, rfl, hB⟩ := hrel
    haveI : Stp w2 wr := ⟨hB⟩
    have HB := hide hB
    have HR2 := hide ((HO2.out.below HB.out).more HB.out.size)
    have HR1 := hide ((HO1.out.below (blw (a := w1) (W := wr))).more (blw (a := w1) (W := wr)).size)
    clear hB
    by_cases hlt : j < L.length
    · obtain ⟨b1, o1, y1, rfl, hb1, hy1, g1⟩ := Reads.atI HR1.out hlt
      obtain ⟨b2, o2, y2, rfl, hb2, hy2, g2⟩ := Reads.atI HR2.out hlt
      have e : y2 = y1 := by rw [hy1] at hy2; injection hy2 with hy2; exact hy2.symm
      subst e
      haveI : CellAt wr b1 (o1 + j) (.int .i64 y2) := ⟨hb1, g1⟩
      haveI : CellAt wr b2 (o2 + j) (.int .i64 y2) := ⟨hb2, g2⟩
      have i0 : (0 : Int) ≤ (j : Int) := by omega
      have i1 : (j : Int) < (L.length : Int) := by omega
      have e1 : (y2 != y2) = false := by simp
      clear hb1 hy1 g1 hb2 hy2 g2
      go_upto_region 7 with fail
      go_quiet (fail)
      go_wp2_with fail
      go_roundw
      case rel => exact ⟨j + 1, by omega, by go_num, blw⟩
      case measure => simp [intOf]; omega
    · have hjl : j = L.length := by omega
      subst hjl
      haveI : Blw w wr := ⟨(blw (a := w) (W := w2)).trans (HB.out.mono (Blw.size (a := w) inferInstance))⟩
      clear hL
      go_wp2_with fail
      go_loopw [8] (fun v wq => ∃ n : Int, -1 ≤ n ∧ n ≤ 13 ∧ v = .int .i64 n ∧ Below w.heap.size w wq) (fun v _ => (13 - intOf v).toNat)
      case atStart => exact ⟨-1, by omega, by omega, rfl, blw⟩
      case round =>
        obtain ⟨n, hn1, hn2, rfl, hBq⟩ := hrel
        haveI : Blw w wr := ⟨hBq⟩
        clear hBq
        by_cases hlt2 : n ≤ 12
        · have e1 : decide (n ≤ 12) = true := decide_eq_true hlt2
          have e2 : (m.waits n != m.waits n) = false := by simp
          have HW := hide (show wfI n from ⟨by omega, by omega⟩)
          go_wp2_with (first
            | (go_at_call 15; (with_reducible refine (TW.out _ n HW.out blw).mono ?_); rintro e w5 ⟨rfl, rfl⟩)
            | (go_at_call 21; (with_reducible refine (TV.out _ n blw).mono ?_); rintro e w6 ⟨rfl, hb6⟩; haveI : Stp _ w6 := ⟨hb6⟩; clear hb6))
          go_roundw
          case rel => exact ⟨n + 1, by omega, by omega, by go_num, blw⟩
          case measure => simp [intOf]; omega
        · have e1 : decide (n ≤ 12) = false := decide_eq_false hlt2
          go_wp2_with fail
          go_ret
          exact ⟨rfl, blw⟩
end Go.Proofs.YtniogmefbjfoaaaGreat

namespace Go.Proofs.YtniogmefbjfoaaaGreat
set_option linter.unusedSimpArgs false
set_option linter.unusedVariables false
set_option linter.unusedSectionVars false
open Go.RowKit Go.Maps

/-- a number of the same kind, or the same -/
def Vk (u v : Value) : Prop := (∃ k a b, u = .int k a ∧ v = .int k b) ∨ u = v
theorem Vk.trans {u v x : Value} (h : Vk u v) (h2 : Vk v x) : Vk u x := by
  rcases h with ⟨k, a, b, rfl, rfl⟩ | rfl
  · rcases h2 with ⟨k', a', b', e, rfl⟩ | rfl
    · injection e with e1 e2
      subst e1
      exact .inl ⟨_, _, _, rfl, rfl⟩
    · exact .inl ⟨_, _, _, rfl, rfl⟩
  · exact h2
/-- each cell keeps its kind, and nothing is frozen anew -/
structure Kw (X W : World) : Prop where
  o : ∀ a u, X.cell? a = some u → ∃ v, W.cell? a = some v ∧ Vk u v
  f : ∀ a, a.block < X.heap.size → W.frozen? a = X.frozen? a
  z : X.heap.size ≤ W.heap.size
theorem Kw.refl (X : World) : Kw X X := ⟨fun _ u h => ⟨u, h, .inr rfl⟩, fun _ _ => rfl, Nat.le_refl _⟩
theorem Kw.trans {X Y W : World} (h : Kw X Y) (h2 : Kw Y W) : Kw X W := ⟨fun a u hu => by
  obtain ⟨v, hv, k1⟩ := h.o a u hu
  obtain ⟨x, hx, k2⟩ := h2.o a v hv
  exact ⟨x, hx, k1.trans k2⟩, fun a ha => (h2.f a (Nat.lt_of_lt_of_le ha h.z)).trans (h.f a ha), Nat.le_trans h.z h2.z⟩
theorem Kw.bel {X W : World} (h : Below X.heap.size X W) : Kw X W := ⟨fun a u hu => ⟨u, (h.cell (cell_lt hu)).trans hu, .inr rfl⟩, fun a ha => h.frozen ha, h.size⟩
theorem Kw.set {X : World} {p : Addr} {k : IntKind} {a b : Int} (h : X.cell? p = some (.int k a)) : Kw X (X.setCell p (.int k b)) := ⟨fun q u hu => by
  by_cases e : p = q
  · subst e
    rw [h] at hu
    injection hu with hu
    subst hu
    exact ⟨_, World.cell?_setCell_same _ _ _ h, .inl ⟨_, _, _, rfl, rfl⟩⟩
  · exact ⟨u, by rw [World.cell?_setCell_other _ _ _ _ e]; exact hu, .inr rfl⟩, fun q _ => World.frozen?_setCell _ _ _ _, by simp [World.setCell]⟩
/-- heads in cells that may be written -/
def HdO (W : World) (A : Option Addr) (n : Nat) : Prop := ∀ j, j < n → ∃ b off d c s i, A = some ⟨b, off, none⟩ ∧ b < W.heap.size ∧ (∀ o, W.frozen? ⟨b, o, none⟩ = false) ∧ W.cell? ⟨b, off + j * 4, none⟩ = some (.int .i64 d) ∧ W.cell? ⟨b, off + j * 4 + 1, none⟩ = some (.int .u64 c) ∧ W.cell? ⟨b, off + j * 4 + 2, none⟩ = some (.int .u64 s) ∧ W.cell? ⟨b, off + j * 4 + 3, none⟩ = some (.int .u64 i)
def BdO (W : World) (A : Option Addr) (n : Nat) : Prop := ∀ j, j < n → ∃ b off d, A = some ⟨b, off, none⟩ ∧ b < W.heap.size ∧ (∀ o, W.frozen? ⟨b, o, none⟩ = false) ∧ W.cell? ⟨b, off + j, none⟩ = some (.int .u8 d)
theorem Kw.int {X W : World} (h : Kw X W) {p : Addr} {k : IntKind} {a : Int} (hp : X.cell? p = some (.int k a)) : ∃ b, W.cell? p = some (.int k b) := by
  obtain ⟨v, hv, k1⟩ := h.o p _ hp
  rcases k1 with ⟨k', a', b', e, rfl⟩ | rfl
  · injection e with e1 e2
    subst e1
    exact ⟨b', hv⟩
  · exact ⟨a, hv⟩
theorem HdO.kw {X W : World} {A : Option Addr} {n : Nat} (h : HdO X A n) (k : Kw X W) : HdO W A n := fun j hj => by
  obtain ⟨b, off, d, c, s, i, hA, hb, hf, h0, h1, h2, h3⟩ := h j hj
  obtain ⟨d', k0⟩ := k.int h0
  obtain ⟨c', k1⟩ := k.int h1
  obtain ⟨s', k2⟩ := k.int h2
  obtain ⟨i', k3⟩ := k.int h3
  exact ⟨b, off, d', c', s', i', hA, Nat.lt_of_lt_of_le hb k.z, fun o => by rw [k.f _ hb]; exact hf o, k0, k1, k2, k3⟩
theorem BdO.kw {X W : World} {A : Option Addr} {n : Nat} (h : BdO X A n) (k : Kw X W) : BdO W A n := fun j hj => by
  obtain ⟨b, off, d, hA, hb, hf, h0⟩ := h j hj
  obtain ⟨d', k0⟩ := k.int h0
  exact ⟨b, off, d', hA, Nat.lt_of_lt_of_le hb k.z, fun o => by rw [k.f _ hb]; exact hf o, k0⟩
end Go.Proofs.YtniogmefbjfoaaaGreat

namespace Go.Proofs.YtniogmefbjfoaaaGreat
set_option linter.unusedSimpArgs false
set_option linter.unusedVariables false
set_option linter.unusedSectionVars false
open Go.RowKit Go.Maps

set_option maxRecDepth 100000 in
set_option maxHeartbeats 8000000 in
theorem over16_s (w : World) (D : List Nat) (k n i hp : Int) (HA : Option Addr) (hn hcp : Nat) (BA : Option Addr) (bn bcp : Nat) (an ai sq : Int) (PA : Option Addr) (pn pcp : Nat) (hH : HdO w HA hn) (hB : BdO w BA bn) (hHD : 0 < hn → ∀ a, HA = some a → a.block ∈ D) (hBD : 0 < bn → ∀ a, BA = some a → a.block ∈ D) (hD : ∀ j ∈ D, j < w.heap.size) (hnl : hn ≤ 1000000) (bnl : bn ≤ 1000000) :
    Calls Tryz.prog 28 #[PkV k n i hp HA hn hcp BA bn bcp an ai sq PA pn pcp] w fun e W => e = .returned (.tuple #[]) ∧ Kw w W ∧ Gr D w W := by
  have HH := hide hH
  have HB := hide hB
  have HHD := hide hHD
  have HBD := hide hBD
  have HDL := hide hD
  clear hH hB hHD hBD hD
  go_enter Tryz.func28, Tryz.ntmps28
  go_wp2_with fail
  go_loopw [2] (fun v wr => ∃ j : Nat, j ≤ hn ∧ v = .int .i64 j ∧ Kw w wr ∧ Gr D w wr ∧ BoxAt wr w.heap.size (csK k n i hp HA hn hcp BA bn bcp an ai sq PA pn pcp) 43) (fun v _ => hn - (intOf v).toNat)
  case atStart => exact ⟨0, Nat.zero_le _, rfl, .bel blw, .of blw, inferInstance⟩
  case round =>
    obtain ⟨j, hj, rfl, hK, hG, hbx⟩ := hrel
    haveI := hbx
    have HK := hide hK
    have HG := hide hG
    have hzz := hbx.lt
    clear hK hG hbx
    by_cases hlt : j < hn
    · obtain ⟨b, off, d, c, s, ii, rfl, hb, hf, h0, h1, h2, h3⟩ := (HH.out.kw HK.out) j hlt
      have hbD : b ∈ D := HHD.out (by omega) _ rfl
      have hbl := HDL.out b hbD
      haveI : CellAt wr b (off + j * 4) (.int .i64 d) := ⟨hb, h0⟩
      haveI : CellAt wr b (off + j * 4 + 1) (.int .u64 c) := ⟨hb, h1⟩
      haveI : CellAt wr b (off + j * 4 + 2) (.int .u64 s) := ⟨hb, h2⟩
      haveI : CellAt wr b (off + j * 4 + 3) (.int .u64 ii) := ⟨hb, h3⟩
      haveI : FrzAt wr b := ⟨hb, hf⟩
      haveI : LtN b w.heap.size := ⟨hbl⟩
      have HbD := hide hbD
      have i0 : (0 : Int) ≤ (j : Int) := by omega
      have i1 : (j : Int) < (hn : Int) := by omega
      clear h0 h1 h2 h3 hf hbD
      go_wp2_with fail
      go_roundw
      case rel =>
        refine ⟨j + 1, by omega, by go_num, HK.out.trans ?_, HG.out.trans ?_, inferInstance⟩
        · exact (((Kw.set (k := .i64) (a := d) CellAt.h).trans (Kw.set (k := .u64) (a := c) CellAt.h)).trans (Kw.set (k := .u64) (a := s) CellAt.h)).trans (Kw.set (k := .u64) (a := ii) CellAt.h)
        · exact (((Gr.set _ _ _ HbD.out).trans (Gr.set _ _ _ HbD.out)).trans (Gr.set _ _ _ HbD.out)).trans (Gr.set _ _ _ HbD.out)
      case measure => simp [intOf]; omega
    · have hje : j = hn := by omega
      subst hje
      go_wp2_with fail
      go_loopw [3] (fun v wr => ∃ q : Nat, q ≤ bn ∧ v = .int .i64 q ∧ Kw w wr ∧ Gr D w wr ∧ BoxAt wr w.heap.size (csK k n i hp HA j hcp BA bn bcp an ai sq PA pn pcp) 43) (fun v _ => bn - (intOf v).toNat)
      case atStart => exact ⟨0, Nat.zero_le _, rfl, HK.out, HG.out, inferInstance⟩
      case round =>
        obtain ⟨q, hq, rfl, hK, hG, hbx⟩ := hrel
        haveI := hbx
        have HK2 := hide hK
        have HG2 := hide hG
        clear hK hG hbx
        by_cases hlt2 : q < bn
        · obtain ⟨b, off, d, rfl, hb, hf, h0⟩ := (HB.out.kw HK2.out) q hlt2
          have hbD : b ∈ D := HBD.out (by omega) _ rfl
          have hbl := HDL.out b hbD
          haveI : CellAt wr b (off + q) (.int .u8 d) := ⟨hb, h0⟩
          haveI : FrzAt wr b := ⟨hb, hf⟩
          haveI : LtN b w.heap.size := ⟨hbl⟩
          have HbD := hide hbD
          have i0 : (0 : Int) ≤ (q : Int) := by omega
          have i1 : (q : Int) < (bn : Int) := by omega
          clear h0 hf hbD
          go_wp2_with fail
          go_roundw
          case rel =>
            refine ⟨q + 1, by omega, by go_num, HK2.out.trans ?_, HG2.out.trans ?_, inferInstance⟩
            · exact Kw.set (k := .u8) (a := d) CellAt.h
            · exact Gr.set _ _ _ HbD.out
          case measure => simp [intOf]; omega
        · have hqe : q = bn := by omega
          subst hqe
          go_wp2_with fail
          go_end0
          exact ⟨rfl, HK2.out, HG2.out⟩
end Go.Proofs.YtniogmefbjfoaaaGreat

namespace Go.Proofs.YtniogmefbjfoaaaGreat
set_option linter.unusedSimpArgs false
set_option linter.unusedVariables false
set_option linter.unusedSectionVars false
open Go.RowKit Go.Maps

theorem Kw.sl {X W : World} (h : Kw X W) {p : Addr} {A : Option Addr} {n c : Nat} (hp : X.cell? p = some (.slice A n c)) : W.cell? p = some (.slice A n c) := by
  obtain ⟨v, hv, k1⟩ := h.o p _ hp
  rcases k1 with ⟨k', a', b', e, rfl⟩ | rfl
  · cases e
  · exact hv
set_option maxRecDepth 100000 in
set_option maxHeartbeats 8000000 in
theorem spoil16_s (w : World) (D : List Nat) (A1 : Option Addr) (c1 : Nat) (ps : List Pm) (A2 : Option Addr) (c2 : Nat) (cs : List Cb) (A3 : Option Addr) (n3 c3 : Nat) (hP : Reads w w.heap.size 10 A1 ps.length (pms ps)) (hC : Reads w w.heap.size 3 A2 cs.length (cbs cs))
    (hp : ∀ p ∈ ps, (HdO w p.HA p.x.hs.length ∧ BdO w p.BA p.x.bs.length) ∧ (0 < p.x.hs.length → ∀ a, p.HA = some a → a.block ∈ D) ∧ (0 < p.x.bs.length → ∀ a, p.BA = some a → a.block ∈ D) ∧ p.x.hs.length ≤ 1000000 ∧ p.x.bs.length ≤ 1000000) (hc : ∀ x ∈ cs, BdO w x.b.A x.b.bs.length ∧ (0 < x.b.bs.length → ∀ a, x.b.A = some a → a.block ∈ D) ∧ x.b.bs.length ≤ 1000000) (hD : ∀ j ∈ D, j < w.heap.size) (hl1 : ps.length ≤ 1000000) (hl2 : cs.length ≤ 1000000) :
    Calls Tryz.prog 31 #[.agg #[.slice A1 ps.length c1, .slice A2 cs.length c2, .slice A3 n3 c3]] w fun e W => e = .returned (.tuple #[]) ∧ Kw w W ∧ Gr D w W := by
  have HP := hide hP
  have HC := hide hC
  have HPP := hide hp
  have HCC := hide hc
  have HDL := hide hD
  clear hP hC hp hc hD
  go_enter Tryz.func31, Tryz.ntmps31
  go_wp2_with fail
  go_loopw [2] (fun v wr => ∃ j : Nat, j ≤ ps.length ∧ v = .int .i64 j ∧ Kw w wr ∧ Gr D w wr ∧ BoxAt wr w.heap.size #[.slice A1 ps.length c1, .slice A2 cs.length c2, .slice A3 n3 c3] 52) (fun v _ => ps.length - (intOf v).toNat)
  case atStart => exact ⟨0, Nat.zero_le _, rfl, .bel blw, .of blw, inferInstance⟩
  case round =>
    obtain ⟨j, hj, rfl, hK, hG, hbx⟩ := hrel
    haveI := hbx
    have HK := hide hK
    have HG := hide hG
    have hzz := hbx.lt
    clear hK hG hbx
    by_cases hlt : j < ps.length
    · obtain ⟨b, off, hA, hb, hcl⟩ := HP.out.2 (by omega)
      subst hA
      obtain ⟨p, hpj⟩ : ∃ p, ps[j]? = some p := ⟨_, List.getElem?_eq_getElem hlt⟩
      obtain ⟨⟨hho, hbo⟩, hd1, hd2, hn1, hn2⟩ := HPP.out p (List.mem_of_getElem? hpj)
      have hcell : ∀ q u, q < 10 → (pmc p)[q]? = some u → w.cell? ⟨b, off + j * 10 + q, none⟩ = some u := fun q u hq hu => by
        have := hcl (j * 10 + q) u (by rw [pms, flat_get pmc_len ps j q p hpj hq]; exact hu)
        rw [Nat.add_assoc]; exact this
      have hbz : b < wr.heap.size := Nat.lt_of_lt_of_le hb HK.out.z
      obtain ⟨x0, g0⟩ := HK.out.int (hcell 0 _ (by omega) rfl)
      obtain ⟨x1, g1⟩ := HK.out.int (hcell 1 _ (by omega) rfl)
      obtain ⟨x2, g2⟩ := HK.out.int (hcell 2 _ (by omega) rfl)
      obtain ⟨x3, g3⟩ := HK.out.int (hcell 3 _ (by omega) rfl)
      have g4 := HK.out.sl (hcell 4 _ (by omega) rfl)
      have g5 := HK.out.sl (hcell 5 _ (by omega) rfl)
      obtain ⟨x6, g6⟩ := HK.out.int (hcell 6 _ (by omega) rfl)
      obtain ⟨x7, g7⟩ := HK.out.int (hcell 7 _ (by omega) rfl)
      obtain ⟨x8, g8⟩ := HK.out.int (hcell 8 _ (by omega) rfl)
      have g9 := HK.out.sl (hcell 9 _ (by omega) rfl)
      rw [Nat.add_zero] at g0
      haveI : CellAt wr b (off + j * 10) (.int .i64 x0) := ⟨hbz, g0⟩
      haveI : CellAt wr b (off + j * 10 + 1) (.int .i64 x1) := ⟨hbz, g1⟩
      haveI : CellAt wr b (off + j * 10 + 2) (.int .u64 x2) := ⟨hbz, g2⟩
      haveI : CellAt wr b (off + j * 10 + 3) (.int .i64 x3) := ⟨hbz, g3⟩
      haveI : CellAt wr b (off + j * 10 + 4) (.slice p.HA p.x.hs.length p.hc) := ⟨hbz, g4⟩
      haveI : CellAt wr b (off + j * 10 + 5) (.slice p.BA p.x.bs.length p.bc) := ⟨hbz, g5⟩
      haveI : CellAt wr b (off + j * 10 + 6) (.int .i64 x6) := ⟨hbz, g6⟩
      haveI : CellAt wr b (off + j * 10 + 7) (.int .u64 x7) := ⟨hbz, g7⟩
      haveI : CellAt wr b (off + j * 10 + 8) (.int .u64 x8) := ⟨hbz, g8⟩
      haveI : CellAt wr b (off + j * 10 + 9) (.slice none 0 0) := ⟨hbz, g9⟩
      have i0 : (0 : Int) ≤ (j : Int) := by omega
      have i1 : (j : Int) < (ps.length : Int) := by omega
      have TO := hide (over16_s wr D x0 x1 x2 x3 p.HA p.x.hs.length p.hc p.BA p.x.bs.length p.bc x6 x7 x8 none 0 0 (hho.kw HK.out) (hbo.kw HK.out) hd1 hd2 (fun q hq => Nat.lt_of_lt_of_le (HDL.out q hq) HK.out.z) hn1 hn2)
      clear hcl hcell g0 g1 g2 g3 g4 g5 g6 g7 g8 g9 hpj hho hbo hd1 hd2 hb hbz
      go_wp2_with (go_at_call 28; (with_reducible refine TO.out.mono ?_); rintro e w5 ⟨rfl, hk5, hg5⟩)
      go_roundw
      case rel => exact ⟨j + 1, by omega, by go_num, HK.out.trans hk5, HG.out.trans hg5, ⟨by rw [hg5.blk w.heap.size hzz (fun hm => by have := HDL.out _ hm; omega)]; exact (inferInstance : BoxAt wr w.heap.size _ 52).eq⟩⟩
      case measure => simp [intOf]; omega
    · have hje : j = ps.length := by omega
      subst hje
      go_wp2_with fail
      go_loopw [3] (fun v wr => ∃ j : Nat, j ≤ cs.length ∧ v = .int .i64 j ∧ Kw w wr ∧ Gr D w wr ∧ BoxAt wr w.heap.size #[.slice A1 ps.length c1, .slice A2 cs.length c2, .slice A3 n3 c3] 52) (fun v _ => cs.length - (intOf v).toNat)
      case atStart => exact ⟨0, Nat.zero_le _, rfl, HK.out, HG.out, inferInstance⟩
      case round =>
        obtain ⟨j, hj, rfl, hK, hG, hbx⟩ := hrel
        haveI := hbx
        have HK := hide hK
        have HG := hide hG
        clear hK hG hbx
        by_cases hlt : j < cs.length
        · obtain ⟨b, off, hA, hb, hcl⟩ := HC.out.2 (by omega)
          subst hA
          obtain ⟨p, hpj⟩ : ∃ p, cs[j]? = some p := ⟨_, List.getElem?_eq_getElem hlt⟩
          obtain ⟨hbo, hd1, hn1⟩ := HCC.out p (List.mem_of_getElem? hpj)
          have hcell : w.cell? ⟨b, off + j * 3 + 2, none⟩ = some (.slice p.b.A p.b.bs.length p.b.c) := by
            have := hcl (j * 3 + 2) _ (by rw [cbs, flat_get cbc_len cs j 2 p hpj (by omega)]; rfl)
            rw [Nat.add_assoc]; exact this
          generalize p.b.A = PA at hbo hd1 hcell
          generalize p.b.bs.length = pn at hbo hn1 hcell hd1
          generalize p.b.c = pc at hcell
          have g2 := HK.out.sl hcell
          have HCE := hide hcell
          have HBB := hide hb
          have HBO := hide hbo
          have HD1 := hide hd1
          have hbz : b < wr.heap.size := Nat.lt_of_lt_of_le hb HK.out.z
          haveI : CellAt wr b (off + j * 3 + 2) (.slice PA pn pc) := ⟨hbz, g2⟩
          have i0 : (0 : Int) ≤ (j : Int) := by omega
          have i1 : (j : Int) < (cs.length : Int) := by omega
          clear hcl hcell g2 hpj hbo hd1 hb hbz
          go_wp2_with fail
          go_loopw [4] (fun v wr => ∃ q : Nat, q ≤ pn ∧ v = .int .i64 q ∧ Kw w wr ∧ Gr D w wr ∧ BoxAt wr w.heap.size #[.slice A1 ps.length c1, .slice (some ⟨b, off, none⟩) cs.length c2, .slice A3 n3 c3] 52) (fun v _ => pn - (intOf v).toNat)
          case atStart => exact ⟨0, Nat.zero_le _, rfl, HK.out, HG.out, inferInstance⟩
          case round =>
            obtain ⟨q, hq, rfl, hK, hG, hbx⟩ := hrel
            haveI := hbx
            have HK2 := hide hK
            have HG2 := hide hG
            haveI : CellAt wr b (off + j * 3 + 2) (.slice PA pn pc) := ⟨Nat.lt_of_lt_of_le HBB.out hK.z, hK.sl HCE.out⟩
            clear hK hG hbx
            by_cases hlt2 : q < pn
            · obtain ⟨b2, off2, d, hA2, hb, hf, h0⟩ := (HBO.out.kw HK2.out) q hlt2
              have hbD : b2 ∈ D := HD1.out (by omega) _ hA2
              have hbl := HDL.out b2 hbD
              subst hA2
              haveI : CellAt wr b2 (off2 + q) (.int .u8 d) := ⟨hb, h0⟩
              haveI : FrzAt wr b2 := ⟨hb, hf⟩
              haveI : LtN b2 w.heap.size := ⟨hbl⟩
              have HbD := hide hbD
              have q0 : (0 : Int) ≤ (q : Int) := by omega
              have q1 : (q : Int) < (pn : Int) := by omega
              clear h0 hf hbD
              go_wp2_with fail
              go_roundw
              case rel =>
                refine ⟨q + 1, by omega, by go_num, HK2.out.trans ?_, HG2.out.trans ?_, inferInstance⟩
                · exact Kw.set (k := .u8) (a := d) CellAt.h
                · exact Gr.set _ _ _ HbD.out
              case measure => simp [intOf]; omega
            · have hqe : q = pn := by omega
              subst hqe
              go_wp2_with fail
              go_roundw
              case rel => exact ⟨j + 1, by omega, by go_num, HK2.out, HG2.out, inferInstance⟩
              case measure => simp [intOf]; omega
        · have hje : j = cs.length := by omega
          subst hje
          go_wp2_with fail
          go_end0
          exact ⟨rfl, HK.out, HG.out⟩
end Go.Proofs.YtniogmefbjfoaaaGreat

namespace Go.Proofs.YtniogmefbjfoaaaGreat
set_option linter.unusedSimpArgs false
set_option linter.unusedVariables false
set_option linter.unusedSectionVars false
open Go.RowKit Go.Maps

section
variable {E : List Nat} {x b c : Nat} {m : En}
set_option maxRecDepth 100000 in
set_option maxHeartbeats 8000000 in
theorem ack_z (w : World) (h : RfM w E x b c m) (now : Int) (now0 : 0 ≤ now) (now1 : now ≤ 18446744073709551615) (k : Nat) (hk1 : 1 ≤ k) (hk : k ≤ 10) (i : Int) (d : Hd) (h1 : d.i = m.i) (h2 : m.isR k = true) (h3 : d.c = (m.rw k).cn) (h4 : ¬ i < (m.rw k).ak) (h5 : (m.rw k).ak = 0)
    (r2 : Rw) (hr2 : RwOk r2) (hcn : r2.cn = (m.rw k).cn) (hrl : r2.rl = (m.rw k).rl) (hak : r2.ak = i) (hst : r2.st = (m.rw k).st)
    (TA : ∀ A c' ds W, BdsR W A ds → ds.map Bd.bs = (m.rw k).bx → Calls Tryz.prog 74 #[sndV (m.rw k).ba A (m.rw k).bx.length c', .int .u64 d.s] W (fun e w' => ∃ A' c' ds' o, e = .returned (.tuple #[sndV r2.ba A' r2.bx.length c', .bool o]) ∧ ds'.map Bd.bs = r2.bx ∧ BdsN w' W.heap.size A' ds' ∧ Below W.heap.size W w' ∧ r2.bx.length ≤ c'))
    (hres : m.takeAck now k i d = (m.put k (if m.due k r2 ((m.rw k).ba + (m.rw k).due) = [] then r2 else { r2 with st := now }), ⟨m.due k r2 ((m.rw k).ba + (m.rw k).due), [], []⟩)) :
    Calls Tryz.prog 50 #[.pointer (some ⟨x, 0, none⟩), .int .u64 now, .agg #[.int .i64 k, .int .u64 i], .agg #[.int .i64 d.d, .int .u64 d.c, .int .u64 d.s, .int .u64 d.i]] w (RetTxr w E x b c (m.takeAck now k i d)) := by
  have HRES := hide hres
  generalize m.takeAck now k i d = RES at HRES
  have HE := hide h
  have HbE := hide h.bE
  have HBW := hide h.fz.lt
  have HLE := hide h.ltE
  have HR2 := hide hr2
  have HCN := hide hcn
  have HRL := hide hrl
  have HAK := hide hak
  have HST := hide hst
  have HTA := hide TA
  haveI := h.bx
  haveI := h.fz
  haveI : LtN x w.heap.size := ⟨h.bx.lt⟩
  haveI : LtN b w.heap.size := ⟨h.fz.lt⟩
  haveI : NeN x b := ⟨fun e => h.xE (by rw [e]; exact h.bE)⟩
  have ho : m.oth k := (isR_iff.1 h2).1
  obtain ⟨hok, A, c', ds, h9, hds, hmap, hcl⟩ := h.ro k (by omega)
  have hc1 := h9.c1
  rw [rwR_rl, h2] at hc1
  haveI := hc1
  rw [rwR_oth ho] at hok h9 hmap hcl
  haveI := h9.c0
  haveI := h9.c2
  haveI := h9.c3
  haveI := h9.c4
  haveI := h9.c5
  haveI := h9.c6
  haveI := h9.c7
  haveI := h9.c8
  have HRLm : Hid ((m.rw k).rl = true) := hide (isR_iff.1 h2).2
  have hl : ds.length = (m.rw k).bx.length := by rw [← hmap, List.length_map]
  have hun : ∀ b : Bool, (some undef = some (Value.bool b)) = False := fun b => by simp [undef]
  have i0 : (0 : Int) ≤ (k : Int) := by omega
  have i1 : (k : Int) < 11 := by omega
  obtain ⟨q, hq⟩ : ∃ q, q = (m.rw k).due := ⟨_, rfl⟩
  have hq8 : q ≤ 8 := by unfold Rw.due at hq; omega
  have TD : Hid (∀ W, W9 b k w W → Calls Tryz.prog 46 #[sndV (m.rw k).ba A (m.rw k).bx.length c'] W (RetZ W q)) := hide (fun W hW => by
    have := due7_s (m.rw k).ba A c' ds W (hds.tr (.of (hW.gr.mono' (fun j hj => by rw [List.mem_singleton] at hj; subst hj; exact h.bE)))).rd (by have := hok.bl; omega) hok.b0 (by have := hok.bm; omega) (fun d hd => hok.bb _ (by rw [← hmap]; exact List.mem_map_of_mem hd))
    rw [hl] at this
    rw [hq]
    exact this)
  have TAk : Hid (∀ W, W9 b k w W → Calls Tryz.prog 74 #[sndV (m.rw k).ba A (m.rw k).bx.length c', .int .u64 d.s] W (fun e w' => ∃ A' c' ds' o, e = .returned (.tuple #[sndV r2.ba A' r2.bx.length c', .bool o]) ∧ ds'.map Bd.bs = r2.bx ∧ BdsN w' W.heap.size A' ds' ∧ Below W.heap.size W w' ∧ r2.bx.length ≤ c')) := hide (fun W hW => HTA.out A c' ds W (hds.tr (.of (hW.gr.mono' (fun j hj => by rw [List.mem_singleton] at hj; subst hj; exact h.bE)))).rd hmap)
  rw [← hq] at HRES
  have hb0 := hok.b0
  have hbm := hok.bm
  have hw1 : IntKind.u64.wrap (q : Int) = (q : Int) := IntWalk.u64_in _ (by omega)
  have hw2 : IntKind.u64.wrap ((m.rw k).ba + (q : Int)) = (m.rw k).ba + (q : Int) := IntWalk.u64_in _ (by omega)
  have HO := hide ho
  have e1 : (d.i != m.i) = false := by simpa using h1
  have e3 : (d.c != (m.rw k).cn) = false := by simpa using h3
  have e4 : decide (i < (m.rw k).ak) = false := decide_eq_false h4
  have e5 : ((m.rw k).ak != 0) = false := by simpa using h5
  have FIN : Hid (∀ (ds' : List Bd) (A' : Option Addr) (c' : Nat) (W : World) (v : Int), W9 b k w W → FrzAt W b → CellAt W b (k * 9) (.int .u64 (m.rw k).cn) → CellAt W b (k * 9 + 1) (.bool true) → CellAt W b (k * 9 + 2) (.int .u64 r2.ba) → CellAt W b (k * 9 + 3) (.slice A' r2.bx.length c') → CellAt W b (k * 9 + 4) (.int .u64 i) → CellAt W b (k * 9 + 5) (.int .u64 v) → CellAt W b (k * 9 + 6) (.int .u64 (m.cmR k).i) → CellAt W b (k * 9 + 7) (.int .u64 (m.cmR k).c) → CellAt W b (k * 9 + 8) (.int .u64 (m.cmR k).g) → 0 ≤ v → v ≤ 18446744073709551615 → BdsN W w.heap.size A' ds' → ds'.map Bd.bs = r2.bx → r2.bx.length ≤ c' → RfM W E x b c (m.put k { r2 with st := v })) := hide (fun ds' A' c' W v hW hf g0 g1 g2 g3 g4 g5 g6 g7 g8 v0 v1 hN hmap hcl => by
    refine h.set (k := k) (by omega) hW hf rfl rfl ?_ (fun k' _ e => put_other e) h.cm
    rw [put_same ho]
    exact ⟨⟨hr2.bl, hr2.b0, hr2.bm, hr2.bb, v0, v1⟩, A', c', ds', ⟨by simp only; rw [hcn]; exact g0, by simp only; rw [hrl, HRLm.out]; exact g1, g2, g3, by simp only; rw [hak]; exact g4, g5, g6, g7, g8⟩, hN.ro h.ltE, hmap, hcl⟩)
  have TDu : Hid (∀ W, RfM W E x b c (m.put k r2) → Calls Tryz.prog 52 #[.pointer (some ⟨x, 0, none⟩), .int .i64 k, .int .u64 ((m.rw k).ba + (q : Int))] W fun e w' => ∃ v ps, e = .returned v ∧ PmG W.heap.size w' v ps ∧ ps.map Pm.x = m.due k r2 ((m.rw k).ba + (q : Int)) ∧ Below W.heap.size W w') := hide (fun W hW => by
    have := due16r_s W hW k (show (m.put k r2).oth k from ho) ((m.rw k).ba + (q : Int))
    rw [put_rw] at this
    exact this)
  have HS2 := hide hr2.s0
  have HS3 := hide hr2.s1
  have HS0 := hide hok.s0
  have HS1 := hide hok.s1
  clear h h9 hds hmap hcl hok hc1 h1 h2 h3 h4 ho hl hr2 hcn hrl hak hst TA hres hq h5
  go_enter Tryz.func50, Tryz.ntmps50
  go_upto_region 1 with fail
  go_quiet (fail)
  go_upto_region 2 with fail
  go_quiet (fail)
  go_upto_region 4 with fail
  go_quiet (fail)
  go_upto_region 9 with fail
  go_region_held3 (fun w' => w'.cell? ⟨b, k * 9 + 2, none⟩ = some (.int .u64 (m.rw k).ba) ∧ w'.cell? ⟨b, k * 9 + 3, none⟩ = some (.slice A (m.rw k).bx.length c')) ((refine ⟨?_, ?_⟩ <;> (exact CellAt.h))) (first | (go_at_call 46; (with_reducible refine (TD.out _ inferInstance).mono ?_); rintro e w9 ⟨rfl, hb9⟩; haveI : Stp _ w9 := ⟨hb9⟩; have z9 := hb9.size; clear hb9) | fail)
  go_upto_region 10 with fail
  refine wp_region_held_drew (S := fun w' => w'.cell? ⟨w.heap.size + 1, 2, none⟩ = some (.int .u64 d.s)) (by kernel_rfl) (by rw [cell?_box]; rfl) (fun hS => ?_)
  refine wpAnyH_take (i := 0) (v := .pointer (some ⟨b, k * 9, none⟩)) rfl (by kernel_rfl) (by kernel_rfl) (by kernel_rfl) (fun _ _ _ h => h) (Or.inl ⟨by rfl, ?_⟩) hS ?_
  · intro w' hSw
    go_simp
  simp only [Act.put, List.setIfInBounds_toArray, List.set_cons_zero, List.set_cons_succ]
  refine wpAnyH_take (i := 1) (v := .pointer (some ⟨b, k * 9, none⟩)) rfl (by kernel_rfl) (by kernel_rfl) (by kernel_rfl) (fun _ _ _ h => h) (Or.inl ⟨by rfl, ?_⟩) hS ?_
  · intro w' hSw
    go_simp
  simp only [Act.put, List.setIfInBounds_toArray, List.set_cons_zero, List.set_cons_succ]
  refine wpAnyH_take (i := 2) (v := .pointer (some ⟨b, k * 9, none⟩)) rfl (by kernel_rfl) (by kernel_rfl) (by kernel_rfl) (fun _ _ _ h => h) (Or.inl ⟨by rfl, ?_⟩) hS ?_
  · intro w' hSw
    go_simp
  simp only [Act.put, List.setIfInBounds_toArray, List.set_cons_zero, List.set_cons_succ]
  refine wpAnyH_take (i := 3) (v := .pointer (some ⟨b, k * 9 + 2, none⟩)) rfl (by kernel_rfl) (by kernel_rfl) (by kernel_rfl) (fun _ _ _ h => h) (Or.inl ⟨by rfl, ?_⟩) hS ?_
  · intro w' hSw
    go_simp
  simp only [Act.put, List.setIfInBounds_toArray, List.set_cons_zero, List.set_cons_succ]
  refine wpAnyH_take (i := 5) (v := .pointer (some ⟨w.heap.size + 1, 2, none⟩)) rfl (by kernel_rfl) (by kernel_rfl) (by kernel_rfl) (fun _ _ _ h => h) (Or.inl ⟨by rfl, ?_⟩) hS ?_
  · intro w' hSw
    go_simp
  simp only [Act.put, List.setIfInBounds_toArray, List.set_cons_zero, List.set_cons_succ]
  refine wpAnyH_take (i := 6) (v := .int .u64 d.s) rfl (by kernel_rfl) (by kernel_rfl) (by kernel_rfl) (fun _ _ _ h => h) (Or.inl ⟨by rfl, ?_⟩) hS ?_
  · intro w' hSw
    go_simp
  simp only [Act.put, List.setIfInBounds_toArray, List.set_cons_zero, List.set_cons_succ]
  refine wpAnyH_ready (rs := [4]) (by kernel_rfl) (by simp) ?_
  refine AllReadyH.cons rfl (fun K hK => ?_) AllReadyH.nil
  go_simp
  refine hK.out _ _ hS (fun hS => ?_)
  clear hK K
  (try simp only [Act.put, List.setIfInBounds_toArray, List.set_cons_zero, List.set_cons_succ])
  refine wpAnyH_ready (rs := [7]) (by kernel_rfl) (by simp) ?_
  refine AllReadyH.cons rfl (fun K hK => ?_) AllReadyH.nil
  go_simp
  refine (TAk.out _ inferInstance).mono ?_
  rintro e w10 ⟨A10, c10, ds10, o10, rfl, hm10, hN10, hb10, hc10⟩
  haveI : Stp _ w10 := ⟨hb10⟩
  have HM10 := hide hm10
  have HN10 := hide hN10
  have HC10 := hide hc10
  refine hK.out _ _ (by rw [cell?_box]; rfl) (fun hS => ?_)
  clear hm10 hN10 hb10 hc10
  clear hK K
  (try simp only [Act.put, List.setIfInBounds_toArray, List.set_cons_zero, List.set_cons_succ])
  refine wpAnyH_take (i := 8) (v := .tuple #[sndV r2.ba A10 r2.bx.length c10, .bool o10]) rfl (by kernel_rfl) (by kernel_rfl) (by kernel_rfl) (fun _ _ _ h => h) (Or.inl ⟨by rfl, ?_⟩) hS ?_
  · intro w' hSw
    go_simp
  simp only [Act.put, List.setIfInBounds_toArray, List.set_cons_zero, List.set_cons_succ]
  refine wpAnyH_take (i := 9) (v := sndV r2.ba A10 r2.bx.length c10) rfl (by kernel_rfl) (by kernel_rfl) (by kernel_rfl) (fun _ _ _ h => h) (Or.inl ⟨by rfl, ?_⟩) hS ?_
  · intro w' hSw
    go_simp
  simp only [Act.put, List.setIfInBounds_toArray, List.set_cons_zero, List.set_cons_succ]
  refine wpAnyH_take (i := 10) (v := .bool o10) rfl (by kernel_rfl) (by kernel_rfl) (by kernel_rfl) (fun _ _ _ h => h) (Or.inl ⟨by rfl, ?_⟩) hS ?_
  · intro w' hSw
    go_simp
  simp only [Act.put, List.setIfInBounds_toArray, List.set_cons_zero, List.set_cons_succ]
  refine wpAnyH_take (i := 11) (v := .pointer (some ⟨b, k * 9, none⟩)) rfl (by kernel_rfl) (by kernel_rfl) (by kernel_rfl) (fun _ _ _ h => h) (Or.inl ⟨by rfl, ?_⟩) hS ?_
  · intro w' hSw
    go_simp
  simp only [Act.put, List.setIfInBounds_toArray, List.set_cons_zero, List.set_cons_succ]
  refine wpAnyH_take (i := 12) (v := .pointer (some ⟨b, k * 9 + 2, none⟩)) rfl (by kernel_rfl) (by kernel_rfl) (by kernel_rfl) (fun _ _ _ h => h) (Or.inl ⟨by rfl, ?_⟩) hS ?_
  · intro w' hSw
    go_simp
  simp only [Act.put, List.setIfInBounds_toArray, List.set_cons_zero, List.set_cons_succ]
  refine wpAnyH_ready (rs := [13]) (by kernel_rfl) (by simp) ?_
  refine AllReadyH.cons rfl (fun K hK => ?_) AllReadyH.nil
  go_simp
  refine hK.out _ _ (by rw [cell?_box]; rfl) (fun hS => ?_)
  clear hK K
  (try simp only [Act.put, List.setIfInBounds_toArray, List.set_cons_zero, List.set_cons_succ])
  refine wpAnyH_done (by kernel_rfl) ?_ _
  clear hS
  rw [show k * 9 + 2 + 1 = k * 9 + 3 from rfl]
  have zz9 : w.heap.size + 1 + 1 + 1 ≤ w9.heap.size := by simpa [World.setCell] using z9
  have zz10 : w9.heap.size ≤ w10.heap.size := Blw.size (a := w9.drew) (W := w10) inferInstance
  have HBN : Hid (∀ W, Gr [b, w.heap.size + 1 + 1] w10 W → BdsN W w.heap.size A10 ds10) := hide (fun W hg => (HN10.out.gr hg (by have := HBW.out; intro j hj; simp at hj ⊢; omega)).lo (show w.heap.size ≤ w9.heap.size by omega))
  haveI s5 : CellAt w b (k * 9 + 5) (.int .u64 r2.st) := by rw [HST.out]; infer_instance
  by_cases hd : m.due k r2 ((m.rw k).ba + (q : Int)) = []
  · rw [if_pos hd, hd] at HRES
    have ND := hide hd
    clear hd
    go_wp2_with (go_at_call 52; (with_reducible refine (TDu.out _ (FIN.out ds10 A10 c10 _ r2.st inferInstance inferInstance inferInstance inferInstance inferInstance inferInstance inferInstance inferInstance inferInstance inferInstance inferInstance HS2.out HS3.out (HBN.out _ (Trc.h (C := [b, w.heap.size + 1 + 1]) (a := w10)).g) HM10.out HC10.out)).mono ?_); rintro e w11 ⟨v11, ps11, rfl, hp11, hm11, hb11⟩; haveI : Stp _ w11 := ⟨hb11⟩; obtain ⟨A11, c11, rfl, _, _⟩ := own_slice hp11.row; have hps : ps11 = [] := List.map_eq_nil_iff.1 (hm11.trans ND.out); subst hps; have HP11 := hide hp11; clear hp11 hm11 hb11)
    refine bodyPost_ret (v := .agg #[.slice A11 ([] : List Pm).length c11, .slice none 0 0, .slice none 0 0]) (by simp [results, Tryz.results50, go_sem]) rfl ?_
    rw [HRES.out]
    refine ⟨_, rfl, ⟨_, [], _, [], _, rfl, (HP11.out.gr (Trc.h (C := [b, w.heap.size + 1 + 1]) (a := w11)).g (by have := HBW.out; intro j hj; simp [World.setCell] at hj ⊢; omega)).lo (by simp [World.setCell]; omega), rfl, .nil _ _, rfl, World.ownsRow_nil _ _ _ _⟩, FIN.out ds10 A10 c10 _ r2.st inferInstance inferInstance inferInstance inferInstance inferInstance inferInstance inferInstance inferInstance inferInstance inferInstance inferInstance HS2.out HS3.out (HBN.out _ (Trc.h (C := [b, w.heap.size + 1 + 1]) (a := w10)).g) HM10.out HC10.out, (inferInstance : W9 b k w _).gr⟩
  · rw [if_neg hd] at HRES
    have ND := hide hd
    clear hd
    go_wp2_with (go_at_call 52; (with_reducible refine (TDu.out _ (FIN.out ds10 A10 c10 _ r2.st inferInstance inferInstance inferInstance inferInstance inferInstance inferInstance inferInstance inferInstance inferInstance inferInstance inferInstance HS2.out HS3.out (HBN.out _ (Trc.h (C := [b, w.heap.size + 1 + 1]) (a := w10)).g) HM10.out HC10.out)).mono ?_); rintro e w11 ⟨v11, ps11, rfl, hp11, hm11, hb11⟩; haveI : Stp _ w11 := ⟨hb11⟩; obtain ⟨A11, c11, rfl, _, _⟩ := own_slice hp11.row; have hps : 0 < ps11.length := List.length_pos_iff.2 (fun e => ND.out (by rw [← hm11, e]; rfl)); have e7 : decide ((0 : Int) < (ps11.length : Int)) = true := decide_eq_true (by omega); have e7n : decide (0 < ps11.length) = true := decide_eq_true hps; clear hps; have HP11 := hide hp11; have HM11 := hide hm11; clear hp11 hm11 hb11)
    refine bodyPost_ret (v := .agg #[.slice A11 ps11.length c11, .slice none 0 0, .slice none 0 0]) (by simp [results, Tryz.results50, go_sem]) rfl ?_
    rw [HRES.out]
    refine ⟨_, rfl, ⟨_, ps11, _, [], _, rfl, (HP11.out.gr (Trc.h (C := [b, w.heap.size + 1 + 1]) (a := w11)).g (by have := HBW.out; intro j hj; simp [World.setCell] at hj ⊢; omega)).lo (by simp [World.setCell]; omega), HM11.out, .nil _ _, rfl, World.ownsRow_nil _ _ _ _⟩, FIN.out ds10 A10 c10 _ now inferInstance inferInstance inferInstance inferInstance inferInstance inferInstance inferInstance inferInstance inferInstance inferInstance inferInstance now0 now1 (HBN.out _ (Trc.h (C := [b, w.heap.size + 1 + 1]) (a := w10)).g) HM10.out HC10.out, (inferInstance : W9 b k w _).gr⟩
end
end Go.Proofs.YtniogmefbjfoaaaGreat

namespace Go.Proofs.YtniogmefbjfoaaaGreat
set_option linter.unusedSimpArgs false
set_option linter.unusedVariables false
set_option linter.unusedSectionVars false
open Go.RowKit Go.Maps

section
variable {E : List Nat} {x b c : Nat} {m : En}
set_option maxRecDepth 100000 in
set_option maxHeartbeats 8000000 in
theorem ack_s (w : World) (h : RfM w E x b c m) (now : Int) (now0 : 0 ≤ now) (now1 : now ≤ 18446744073709551615) (k : Nat) (hk1 : 1 ≤ k) (hk : k ≤ 10) (i : Int) (d : Hd) (h1 : d.i = m.i) (h2 : m.isR k = true) (h3 : d.c = (m.rw k).cn) (h4 : ¬ i < (m.rw k).ak) (h5 : (m.rw k).ak ≠ 0) (h6 : i = (m.rw k).ak)
    (r2 : Rw) (hr2 : RwOk r2) (hcn : r2.cn = (m.rw k).cn) (hrl : r2.rl = (m.rw k).rl) (hak : r2.ak = i) (hst : r2.st = (m.rw k).st)
    (TA : ∀ A c' ds W, BdsR W A ds → ds.map Bd.bs = (m.rw k).bx → Calls Tryz.prog 74 #[sndV (m.rw k).ba A (m.rw k).bx.length c', .int .u64 d.s] W (fun e w' => ∃ A' c' ds' o, e = .returned (.tuple #[sndV r2.ba A' r2.bx.length c', .bool o]) ∧ ds'.map Bd.bs = r2.bx ∧ BdsN w' W.heap.size A' ds' ∧ Below W.heap.size W w' ∧ r2.bx.length ≤ c'))
    (hres : m.takeAck now k i d = (m.put k (if m.due k r2 ((m.rw k).ba + (m.rw k).due) = [] then r2 else { r2 with st := now }), ⟨m.due k r2 ((m.rw k).ba + (m.rw k).due), [], []⟩)) :
    Calls Tryz.prog 50 #[.pointer (some ⟨x, 0, none⟩), .int .u64 now, .agg #[.int .i64 k, .int .u64 i], .agg #[.int .i64 d.d, .int .u64 d.c, .int .u64 d.s, .int .u64 d.i]] w (RetTxr w E x b c (m.takeAck now k i d)) := by
  have HRES := hide hres
  generalize m.takeAck now k i d = RES at HRES
  have HE := hide h
  have HbE := hide h.bE
  have HBW := hide h.fz.lt
  have HLE := hide h.ltE
  have HR2 := hide hr2
  have HCN := hide hcn
  have HRL := hide hrl
  have HAK := hide hak
  have HST := hide hst
  have HTA := hide TA
  haveI := h.bx
  haveI := h.fz
  haveI : LtN x w.heap.size := ⟨h.bx.lt⟩
  haveI : LtN b w.heap.size := ⟨h.fz.lt⟩
  haveI : NeN x b := ⟨fun e => h.xE (by rw [e]; exact h.bE)⟩
  have ho : m.oth k := (isR_iff.1 h2).1
  obtain ⟨hok, A, c', ds, h9, hds, hmap, hcl⟩ := h.ro k (by omega)
  have hc1 := h9.c1
  rw [rwR_rl, h2] at hc1
  haveI := hc1
  rw [rwR_oth ho] at hok h9 hmap hcl
  haveI := h9.c0
  haveI := h9.c2
  haveI := h9.c3
  haveI := h9.c4
  haveI := h9.c5
  haveI := h9.c6
  haveI := h9.c7
  haveI := h9.c8
  have HRLm : Hid ((m.rw k).rl = true) := hide (isR_iff.1 h2).2
  have hl : ds.length = (m.rw k).bx.length := by rw [← hmap, List.length_map]
  have hun : ∀ b : Bool, (some undef = some (Value.bool b)) = False := fun b => by simp [undef]
  have i0 : (0 : Int) ≤ (k : Int) := by omega
  have i1 : (k : Int) < 11 := by omega
  obtain ⟨q, hq⟩ : ∃ q, q = (m.rw k).due := ⟨_, rfl⟩
  have hq8 : q ≤ 8 := by unfold Rw.due at hq; omega
  have TD : Hid (∀ W, W9 b k w W → Calls Tryz.prog 46 #[sndV (m.rw k).ba A (m.rw k).bx.length c'] W (RetZ W q)) := hide (fun W hW => by
    have := due7_s (m.rw k).ba A c' ds W (hds.tr (.of (hW.gr.mono' (fun j hj => by rw [List.mem_singleton] at hj; subst hj; exact h.bE)))).rd (by have := hok.bl; omega) hok.b0 (by have := hok.bm; omega) (fun d hd => hok.bb _ (by rw [← hmap]; exact List.mem_map_of_mem hd))
    rw [hl] at this
    rw [hq]
    exact this)
  have TAk : Hid (∀ W, W9 b k w W → Calls Tryz.prog 74 #[sndV (m.rw k).ba A (m.rw k).bx.length c', .int .u64 d.s] W (fun e w' => ∃ A' c' ds' o, e = .returned (.tuple #[sndV r2.ba A' r2.bx.length c', .bool o]) ∧ ds'.map Bd.bs = r2.bx ∧ BdsN w' W.heap.size A' ds' ∧ Below W.heap.size W w' ∧ r2.bx.length ≤ c')) := hide (fun W hW => HTA.out A c' ds W (hds.tr (.of (hW.gr.mono' (fun j hj => by rw [List.mem_singleton] at hj; subst hj; exact h.bE)))).rd hmap)
  rw [← hq] at HRES
  have hb0 := hok.b0
  have hbm := hok.bm
  have hw1 : IntKind.u64.wrap (q : Int) = (q : Int) := IntWalk.u64_in _ (by omega)
  have hw2 : IntKind.u64.wrap ((m.rw k).ba + (q : Int)) = (m.rw k).ba + (q : Int) := IntWalk.u64_in _ (by omega)
  have HO := hide ho
  have e1 : (d.i != m.i) = false := by simpa using h1
  have e3 : (d.c != (m.rw k).cn) = false := by simpa using h3
  have e4 : decide (i < (m.rw k).ak) = false := decide_eq_false h4
  have e5 : ((m.rw k).ak != 0) = true := by simpa using h5
  have e6 : (i != (m.rw k).ak) = false := by simpa using h6
  have FIN : Hid (∀ (ds' : List Bd) (A' : Option Addr) (c' : Nat) (W : World) (v : Int), W9 b k w W → FrzAt W b → CellAt W b (k * 9) (.int .u64 (m.rw k).cn) → CellAt W b (k * 9 + 1) (.bool true) → CellAt W b (k * 9 + 2) (.int .u64 r2.ba) → CellAt W b (k * 9 + 3) (.slice A' r2.bx.length c') → CellAt W b (k * 9 + 4) (.int .u64 i) → CellAt W b (k * 9 + 5) (.int .u64 v) → CellAt W b (k * 9 + 6) (.int .u64 (m.cmR k).i) → CellAt W b (k * 9 + 7) (.int .u64 (m.cmR k).c) → CellAt W b (k * 9 + 8) (.int .u64 (m.cmR k).g) → 0 ≤ v → v ≤ 18446744073709551615 → BdsN W w.heap.size A' ds' → ds'.map Bd.bs = r2.bx → r2.bx.length ≤ c' → RfM W E x b c (m.put k { r2 with st := v })) := hide (fun ds' A' c' W v hW hf g0 g1 g2 g3 g4 g5 g6 g7 g8 v0 v1 hN hmap hcl => by
    refine h.set (k := k) (by omega) hW hf rfl rfl ?_ (fun k' _ e => put_other e) h.cm
    rw [put_same ho]
    exact ⟨⟨hr2.bl, hr2.b0, hr2.bm, hr2.bb, v0, v1⟩, A', c', ds', ⟨by simp only; rw [hcn]; exact g0, by simp only; rw [hrl, HRLm.out]; exact g1, g2, g3, by simp only; rw [hak]; exact g4, g5, g6, g7, g8⟩, hN.ro h.ltE, hmap, hcl⟩)
  have TDu : Hid (∀ W, RfM W E x b c (m.put k r2) → Calls Tryz.prog 52 #[.pointer (some ⟨x, 0, none⟩), .int .i64 k, .int .u64 ((m.rw k).ba + (q : Int))] W fun e w' => ∃ v ps, e = .returned v ∧ PmG W.heap.size w' v ps ∧ ps.map Pm.x = m.due k r2 ((m.rw k).ba + (q : Int)) ∧ Below W.heap.size W w') := hide (fun W hW => by
    have := due16r_s W hW k (show (m.put k r2).oth k from ho) ((m.rw k).ba + (q : Int))
    rw [put_rw] at this
    exact this)
  have HS2 := hide hr2.s0
  have HS3 := hide hr2.s1
  have HS0 := hide hok.s0
  have HS1 := hide hok.s1
  clear h h9 hds hmap hcl hok hc1 h1 h2 h3 h4 ho hl hr2 hcn hrl hak hst TA hres hq h5 h6
  go_enter Tryz.func50, Tryz.ntmps50
  go_upto_region 1 with fail
  go_quiet (fail)
  go_upto_region 2 with fail
  go_quiet (fail)
  go_upto_region 4 with fail
  go_quiet (fail)
  go_upto_region 9 with fail
  go_region_held3 (fun w' => w'.cell? ⟨b, k * 9 + 2, none⟩ = some (.int .u64 (m.rw k).ba) ∧ w'.cell? ⟨b, k * 9 + 3, none⟩ = some (.slice A (m.rw k).bx.length c')) ((refine ⟨?_, ?_⟩ <;> (exact CellAt.h))) (first | (go_at_call 46; (with_reducible refine (TD.out _ inferInstance).mono ?_); rintro e w9 ⟨rfl, hb9⟩; haveI : Stp _ w9 := ⟨hb9⟩; have z9 := hb9.size; clear hb9) | fail)
  go_upto_region 10 with fail
  refine wp_region_held_drew (S := fun w' => w'.cell? ⟨w.heap.size + 1, 2, none⟩ = some (.int .u64 d.s)) (by kernel_rfl) (by rw [cell?_box]; rfl) (fun hS => ?_)
  refine wpAnyH_take (i := 0) (v := .pointer (some ⟨b, k * 9, none⟩)) rfl (by kernel_rfl) (by kernel_rfl) (by kernel_rfl) (fun _ _ _ h => h) (Or.inl ⟨by rfl, ?_⟩) hS ?_
  · intro w' hSw
    go_simp
  simp only [Act.put, List.setIfInBounds_toArray, List.set_cons_zero, List.set_cons_succ]
  refine wpAnyH_take (i := 1) (v := .pointer (some ⟨b, k * 9, none⟩)) rfl (by kernel_rfl) (by kernel_rfl) (by kernel_rfl) (fun _ _ _ h => h) (Or.inl ⟨by rfl, ?_⟩) hS ?_
  · intro w' hSw
    go_simp
  simp only [Act.put, List.setIfInBounds_toArray, List.set_cons_zero, List.set_cons_succ]
  refine wpAnyH_take (i := 2) (v := .pointer (some ⟨b, k * 9, none⟩)) rfl (by kernel_rfl) (by kernel_rfl) (by kernel_rfl) (fun _ _ _ h => h) (Or.inl ⟨by rfl, ?_⟩) hS ?_
  · intro w' hSw
    go_simp
  simp only [Act.put, List.setIfInBounds_toArray, List.set_cons_zero, List.set_cons_succ]
  refine wpAnyH_take (i := 3) (v := .pointer (some ⟨b, k * 9 + 2, none⟩)) rfl (by kernel_rfl) (by kernel_rfl) (by kernel_rfl) (fun _ _ _ h => h) (Or.inl ⟨by rfl, ?_⟩) hS ?_
  · intro w' hSw
    go_simp
  simp only [Act.put, List.setIfInBounds_toArray, List.set_cons_zero, List.set_cons_succ]
  refine wpAnyH_take (i := 5) (v := .pointer (some ⟨w.heap.size + 1, 2, none⟩)) rfl (by kernel_rfl) (by kernel_rfl) (by kernel_rfl) (fun _ _ _ h => h) (Or.inl ⟨by rfl, ?_⟩) hS ?_
  · intro w' hSw
    go_simp
  simp only [Act.put, List.setIfInBounds_toArray, List.set_cons_zero, List.set_cons_succ]
  refine wpAnyH_take (i := 6) (v := .int .u64 d.s) rfl (by kernel_rfl) (by kernel_rfl) (by kernel_rfl) (fun _ _ _ h => h) (Or.inl ⟨by rfl, ?_⟩) hS ?_
  · intro w' hSw
    go_simp
  simp only [Act.put, List.setIfInBounds_toArray, List.set_cons_zero, List.set_cons_succ]
  refine wpAnyH_ready (rs := [4]) (by kernel_rfl) (by simp) ?_
  refine AllReadyH.cons rfl (fun K hK => ?_) AllReadyH.nil
  go_simp
  refine hK.out _ _ hS (fun hS => ?_)
  clear hK K
  (try simp only [Act.put, List.setIfInBounds_toArray, List.set_cons_zero, List.set_cons_succ])
  refine wpAnyH_ready (rs := [7]) (by kernel_rfl) (by simp) ?_
  refine AllReadyH.cons rfl (fun K hK => ?_) AllReadyH.nil
  go_simp
  refine (TAk.out _ inferInstance).mono ?_
  rintro e w10 ⟨A10, c10, ds10, o10, rfl, hm10, hN10, hb10, hc10⟩
  haveI : Stp _ w10 := ⟨hb10⟩
  have HM10 := hide hm10
  have HN10 := hide hN10
  have HC10 := hide hc10
  refine hK.out _ _ (by rw [cell?_box]; rfl) (fun hS => ?_)
  clear hm10 hN10 hb10 hc10
  clear hK K
  (try simp only [Act.put, List.setIfInBounds_toArray, List.set_cons_zero, List.set_cons_succ])
  refine wpAnyH_take (i := 8) (v := .tuple #[sndV r2.ba A10 r2.bx.length c10, .bool o10]) rfl (by kernel_rfl) (by kernel_rfl) (by kernel_rfl) (fun _ _ _ h => h) (Or.inl ⟨by rfl, ?_⟩) hS ?_
  · intro w' hSw
    go_simp
  simp only [Act.put, List.setIfInBounds_toArray, List.set_cons_zero, List.set_cons_succ]
  refine wpAnyH_take (i := 9) (v := sndV r2.ba A10 r2.bx.length c10) rfl (by kernel_rfl) (by kernel_rfl) (by kernel_rfl) (fun _ _ _ h => h) (Or.inl ⟨by rfl, ?_⟩) hS ?_
  · intro w' hSw
    go_simp
  simp only [Act.put, List.setIfInBounds_toArray, List.set_cons_zero, List.set_cons_succ]
  refine wpAnyH_take (i := 10) (v := .bool o10) rfl (by kernel_rfl) (by kernel_rfl) (by kernel_rfl) (fun _ _ _ h => h) (Or.inl ⟨by rfl, ?_⟩) hS ?_
  · intro w' hSw
    go_simp
  simp only [Act.put, List.setIfInBounds_toArray, List.set_cons_zero, List.set_cons_succ]
  refine wpAnyH_take (i := 11) (v := .pointer (some ⟨b, k * 9, none⟩)) rfl (by kernel_rfl) (by kernel_rfl) (by kernel_rfl) (fun _ _ _ h => h) (Or.inl ⟨by rfl, ?_⟩) hS ?_
  · intro w' hSw
    go_simp
  simp only [Act.put, List.setIfInBounds_toArray, List.set_cons_zero, List.set_cons_succ]
  refine wpAnyH_take (i := 12) (v := .pointer (some ⟨b, k * 9 + 2, none⟩)) rfl (by kernel_rfl) (by kernel_rfl) (by kernel_rfl) (fun _ _ _ h => h) (Or.inl ⟨by rfl, ?_⟩) hS ?_
  · intro w' hSw
    go_simp
  simp only [Act.put, List.setIfInBounds_toArray, List.set_cons_zero, List.set_cons_succ]
  refine wpAnyH_ready (rs := [13]) (by kernel_rfl) (by simp) ?_
  refine AllReadyH.cons rfl (fun K hK => ?_) AllReadyH.nil
  go_simp
  refine hK.out _ _ (by rw [cell?_box]; rfl) (fun hS => ?_)
  clear hK K
  (try simp only [Act.put, List.setIfInBounds_toArray, List.set_cons_zero, List.set_cons_succ])
  refine wpAnyH_done (by kernel_rfl) ?_ _
  clear hS
  rw [show k * 9 + 2 + 1 = k * 9 + 3 from rfl]
  have zz9 : w.heap.size + 1 + 1 + 1 ≤ w9.heap.size := by simpa [World.setCell] using z9
  have zz10 : w9.heap.size ≤ w10.heap.size := Blw.size (a := w9.drew) (W := w10) inferInstance
  have HBN : Hid (∀ W, Gr [b, w.heap.size + 1 + 1] w10 W → BdsN W w.heap.size A10 ds10) := hide (fun W hg => (HN10.out.gr hg (by have := HBW.out; intro j hj; simp at hj ⊢; omega)).lo (show w.heap.size ≤ w9.heap.size by omega))
  haveI s5 : CellAt w b (k * 9 + 5) (.int .u64 r2.st) := by rw [HST.out]; infer_instance
  by_cases hd : m.due k r2 ((m.rw k).ba + (q : Int)) = []
  · rw [if_pos hd, hd] at HRES
    have ND := hide hd
    clear hd
    go_wp2_with (go_at_call 52; (with_reducible refine (TDu.out _ (FIN.out ds10 A10 c10 _ r2.st inferInstance inferInstance inferInstance inferInstance inferInstance inferInstance inferInstance inferInstance inferInstance inferInstance inferInstance HS2.out HS3.out (HBN.out _ (Trc.h (C := [b, w.heap.size + 1 + 1]) (a := w10)).g) HM10.out HC10.out)).mono ?_); rintro e w11 ⟨v11, ps11, rfl, hp11, hm11, hb11⟩; haveI : Stp _ w11 := ⟨hb11⟩; obtain ⟨A11, c11, rfl, _, _⟩ := own_slice hp11.row; have hps : ps11 = [] := List.map_eq_nil_iff.1 (hm11.trans ND.out); subst hps; have HP11 := hide hp11; clear hp11 hm11 hb11)
    refine bodyPost_ret (v := .agg #[.slice A11 ([] : List Pm).length c11, .slice none 0 0, .slice none 0 0]) (by simp [results, Tryz.results50, go_sem]) rfl ?_
    rw [HRES.out]
    refine ⟨_, rfl, ⟨_, [], _, [], _, rfl, (HP11.out.gr (Trc.h (C := [b, w.heap.size + 1 + 1]) (a := w11)).g (by have := HBW.out; intro j hj; simp [World.setCell] at hj ⊢; omega)).lo (by simp [World.setCell]; omega), rfl, .nil _ _, rfl, World.ownsRow_nil _ _ _ _⟩, FIN.out ds10 A10 c10 _ r2.st inferInstance inferInstance inferInstance inferInstance inferInstance inferInstance inferInstance inferInstance inferInstance inferInstance inferInstance HS2.out HS3.out (HBN.out _ (Trc.h (C := [b, w.heap.size + 1 + 1]) (a := w10)).g) HM10.out HC10.out, (inferInstance : W9 b k w _).gr⟩
  · rw [if_neg hd] at HRES
    have ND := hide hd
    clear hd
    go_wp2_with (go_at_call 52; (with_reducible refine (TDu.out _ (FIN.out ds10 A10 c10 _ r2.st inferInstance inferInstance inferInstance inferInstance inferInstance inferInstance inferInstance inferInstance inferInstance inferInstance inferInstance HS2.out HS3.out (HBN.out _ (Trc.h (C := [b, w.heap.size + 1 + 1]) (a := w10)).g) HM10.out HC10.out)).mono ?_); rintro e w11 ⟨v11, ps11, rfl, hp11, hm11, hb11⟩; haveI : Stp _ w11 := ⟨hb11⟩; obtain ⟨A11, c11, rfl, _, _⟩ := own_slice hp11.row; have hps : 0 < ps11.length := List.length_pos_iff.2 (fun e => ND.out (by rw [← hm11, e]; rfl)); have e7 : decide ((0 : Int) < (ps11.length : Int)) = true := decide_eq_true (by omega); have e7n : decide (0 < ps11.length) = true := decide_eq_true hps; clear hps; have HP11 := hide hp11; have HM11 := hide hm11; clear hp11 hm11 hb11)
    refine bodyPost_ret (v := .agg #[.slice A11 ps11.length c11, .slice none 0 0, .slice none 0 0]) (by simp [results, Tryz.results50, go_sem]) rfl ?_
    rw [HRES.out]
    refine ⟨_, rfl, ⟨_, ps11, _, [], _, rfl, (HP11.out.gr (Trc.h (C := [b, w.heap.size + 1 + 1]) (a := w11)).g (by have := HBW.out; intro j hj; simp [World.setCell] at hj ⊢; omega)).lo (by simp [World.setCell]; omega), HM11.out, .nil _ _, rfl, World.ownsRow_nil _ _ _ _⟩, FIN.out ds10 A10 c10 _ now inferInstance inferInstance inferInstance inferInstance inferInstance inferInstance inferInstance inferInstance inferInstance inferInstance inferInstance now0 now1 (HBN.out _ (Trc.h (C := [b, w.heap.size + 1 + 1]) (a := w10)).g) HM10.out HC10.out, (inferInstance : W9 b k w _).gr⟩
end
end Go.Proofs.YtniogmefbjfoaaaGreat

namespace Go.Proofs.YtniogmefbjfoaaaGreat
set_option linter.unusedSimpArgs false
set_option linter.unusedVariables false
set_option linter.unusedSectionVars false
open Go.RowKit Go.Maps

section
variable {E : List Nat} {x b c : Nat} {m : En}
theorem ack_zs (w : World) (h : RfM w E x b c m) (now : Int) (now0 : 0 ≤ now) (now1 : now ≤ 18446744073709551615) (k : Nat) (hk1 : 1 ≤ k) (hk : k ≤ 10) (i : Int) (d : Hd) (h1 : d.i = m.i) (h2 : m.isR k = true) (h3 : d.c = (m.rw k).cn) (h4 : ¬ i < (m.rw k).ak) (h5 : (m.rw k).ak = 0 ∨ i = (m.rw k).ak)
    (r2 : Rw) (hr2 : RwOk r2) (hcn : r2.cn = (m.rw k).cn) (hrl : r2.rl = (m.rw k).rl) (hak : r2.ak = i) (hst : r2.st = (m.rw k).st)
    (TA : ∀ A c' ds W, BdsR W A ds → ds.map Bd.bs = (m.rw k).bx → Calls Tryz.prog 74 #[sndV (m.rw k).ba A (m.rw k).bx.length c', .int .u64 d.s] W (fun e w' => ∃ A' c' ds' o, e = .returned (.tuple #[sndV r2.ba A' r2.bx.length c', .bool o]) ∧ ds'.map Bd.bs = r2.bx ∧ BdsN w' W.heap.size A' ds' ∧ Below W.heap.size W w' ∧ r2.bx.length ≤ c'))
    (hres : m.takeAck now k i d = (m.put k (if m.due k r2 ((m.rw k).ba + (m.rw k).due) = [] then r2 else { r2 with st := now }), ⟨m.due k r2 ((m.rw k).ba + (m.rw k).due), [], []⟩)) :
    Calls Tryz.prog 50 #[.pointer (some ⟨x, 0, none⟩), .int .u64 now, .agg #[.int .i64 k, .int .u64 i], .agg #[.int .i64 d.d, .int .u64 d.c, .int .u64 d.s, .int .u64 d.i]] w (RetTxr w E x b c (m.takeAck now k i d)) := by
  by_cases h0 : (m.rw k).ak = 0
  · exact ack_z w h now now0 now1 k hk1 hk i d h1 h2 h3 h4 h0 r2 hr2 hcn hrl hak hst TA hres
  · exact ack_s w h now now0 now1 k hk1 hk i d h1 h2 h3 h4 h0 (h5.resolve_left h0) r2 hr2 hcn hrl hak hst TA hres
theorem ack16r_s (w : World) (h : RfM w E x b c m) (now : Int) (now0 : 0 ≤ now) (now1 : now ≤ 18446744073709551615) (k : Nat) (hk1 : 1 ≤ k) (hk : k ≤ 10) (i : Int) (d : Hd) :
    Calls Tryz.prog 50 #[.pointer (some ⟨x, 0, none⟩), .int .u64 now, .agg #[.int .i64 k, .int .u64 i], .agg #[.int .i64 d.d, .int .u64 d.c, .int .u64 d.s, .int .u64 d.i]] w (RetTxr w E x b c (m.takeAck now k i d)) := by
  by_cases h1 : d.i = m.i
  case neg => exact ack_a w h now k hk1 hk i d h1
  cases h2 : m.isR k with
  | false => exact ack_b w h now k hk1 hk i d h1 h2
  | true =>
  by_cases h3 : d.c = (m.rw k).cn
  case neg => exact ack_c w h now k hk1 hk i d h1 h2 h3
  by_cases h4 : i < (m.rw k).ak
  · exact ack_d w h now k hk1 hk i d h1 h2 h3 h4
  by_cases h5 : (m.rw k).ak = 0 ∨ i = (m.rw k).ak
  case neg => exact ack_e w h now k hk1 hk i d h1 h2 h3 (by omega) (by omega)
  have h5' : ¬ ((m.rw k).ak < i ∧ (m.rw k).ak ≠ 0) := by omega
  have hok : RwOk (m.rw k) := by
    have := (h.ro k (by omega)).1
    rwa [rwR_oth (isR_iff.1 h2).1] at this
  have hdue : (m.rw k).due = min (m.rw k).bx.length 8 := rfl
  by_cases h6 : d.s ≤ (m.rw k).ba ∨ ((m.rw k).due : Int) < d.s - (m.rw k).ba
  · refine ack_zs w h now now0 now1 k hk1 hk i d h1 h2 h3 h4 h5 { m.rw k with ak := i } ⟨hok.bl, hok.b0, hok.bm, hok.bb, hok.s0, hok.s1⟩ rfl rfl rfl rfl ?_ ?_
    · intro A c' ds W hd hm
      have hl : ds.length = (m.rw k).bx.length := by rw [← hm, List.length_map]
      have := acked7_n (m.rw k).ba A c' ds W hd (by have := hok.bl; omega) hok.b0 (by have := hok.bm; omega) (fun d hd => hok.bb _ (by rw [← hm]; exact List.mem_map_of_mem hd)) d.s (fun j j1 j2 => by omega)
      rw [hl] at this
      refine this.mono ?_
      rintro e w' ⟨A', c'', ds', rfl, e1, e2, e3, e4⟩
      exact ⟨A', c'', ds', false, rfl, e1.trans hm, e2, e3, e4⟩
    · rw [takeAck_stay h1 h2 h3 h4 h5' h6]
      have e : m.due k { m.rw k with ak := i } ((m.rw k).ba + (m.rw k).due) = [] := due_none (Int.le_refl _)
      rw [e, if_pos rfl]
  · obtain ⟨j, hj⟩ : ∃ j : Nat, d.s = (m.rw k).ba + j := ⟨(d.s - (m.rw k).ba).toNat, by omega⟩
    have j1 : 1 ≤ j := by omega
    have j2 : j ≤ (m.rw k).due := by omega
    have hb := hok.bm
    refine ack_zs w h now now0 now1 k hk1 hk i d h1 h2 h3 h4 h5 { m.rw k with ak := i, ba := (m.rw k).ba + j, bx := (m.rw k).bx.drop j } ⟨by have := hok.bl; simp only [List.length_drop]; omega, by have := hok.b0; simp only; omega, by simp only [List.length_drop]; omega, fun b hb => hok.bb b (List.mem_of_mem_drop hb), hok.s0, hok.s1⟩ rfl rfl rfl rfl ?_ ?_
    · intro A c' ds W hd hm
      have hl : ds.length = (m.rw k).bx.length := by rw [← hm, List.length_map]
      have := acked7_y (m.rw k).ba A c' ds W hd (by have := hok.bl; omega) hok.b0 (by have := hok.bm; omega) (fun d hd => hok.bb _ (by rw [← hm]; exact List.mem_map_of_mem hd)) j j1 (by omega)
      rw [hl] at this
      rw [hj]
      refine this.mono ?_
      rintro e w' ⟨A', c'', ds', rfl, e1, e2, e3, e4⟩
      simp only [List.length_drop]
      exact ⟨A', c'', ds', true, rfl, by rw [e1, hm], e2, e3, e4⟩
    · rw [takeAck_on h1 h2 h3 h4 h5' j1 j2 hj, dueR_eq]
end
end Go.Proofs.YtniogmefbjfoaaaGreat
