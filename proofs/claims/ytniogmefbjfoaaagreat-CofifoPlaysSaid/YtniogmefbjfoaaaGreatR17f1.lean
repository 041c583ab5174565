/-
  Layer 16, the document's: text, one way (text_f0).
-/
import Derived.Test.YtniogmefbjfoaaaGreatR17x
namespace Go.Proofs.YtniogmefbjfoaaaGreat
set_option linter.unusedSimpArgs false
set_option linter.unusedVariables false
set_option linter.unusedSectionVars false
open Go.RowKit Go.Maps

section
variable {E : List Nat} {x b c : Nat} {m : En}
set_option maxRecDepth 100000 in
set_option maxHeartbeats 16000000 in
theorem text_f0 (w : World) (h : RfM w E x b c m) (pk : Int) (k : Nat) (hk1 : 1 ≤ k) (hk : k ≤ 10) (i : Int) (hi : 1 ≤ i) (hp : Int) (HA : Option Addr) (hn hcp : Nat) (BA : Option Addr) (bcp : Nat) (bs : List Int) (an ai sq : Int) (PA : Option Addr) (pn pcp : Nat) (d : Hd) (s0 : 0 ≤ d.s) (s1 : d.s ≤ 18446744073709551615) (hB : RO w E 1 BA bs.length (bcs bs)) (hbl : bs.length ≤ 1000000) (hI : i = (m.cmR k).i) (hc : (m.cmR k).c < d.c) (hnx : nextB 0 d.s = false) :
    Calls Tryz.prog 49 #[.pointer (some ⟨x, 0, none⟩), .agg #[.int .i64 pk, .int .i64 k, .int .u64 i, .int .i64 hp, .slice HA hn hcp, .slice BA bs.length bcp, .int .i64 an, .int .u64 ai, .int .u64 sq, .slice PA pn pcp], .agg #[.int .i64 d.d, .int .u64 d.c, .int .u64 d.s, .int .u64 d.i]] w (RetTxr w E x b c (m.takeData k i d bs)) := by
  have HRES := hide (takeData_ref (m := m) (k := k) (i := i) (h := d) (bs := bs) hi)
  generalize m.takeData k i d bs = RES at HRES
  have HE := hide h
  have HBR : Hid (∀ W, Gr [b] w W → Reads W W.heap.size 1 BA bs.length (bcs bs)) := hide (fun W hW => (hB.tr (C' := E) (.of (hW.mono' (fun i hi => by rw [List.mem_singleton] at hi; subst hi; exact h.bE)))).1)
  haveI := h.bx
  haveI := h.fz
  haveI : LtN x w.heap.size := ⟨h.bx.lt⟩
  haveI : LtN b w.heap.size := ⟨h.fz.lt⟩
  haveI : NeN x b := ⟨fun e => h.xE (by rw [e]; exact h.bE)⟩
  obtain ⟨hok, A, c', ds, h9, hds, hmap, hcl⟩ := h.ro k (by omega)
  haveI := h9.c0
  haveI := h9.c1
  haveI := h9.c2
  haveI := h9.c3
  haveI := h9.c4
  haveI := h9.c5
  haveI := h9.c6
  haveI := h9.c7
  haveI := h9.c8
  have hun : ∀ b : Bool, (some undef = some (Value.bool b)) = False := fun b => by simp [undef]
  have i0 : (0 : Int) ≤ (k : Int) := by omega
  have i1 : (k : Int) < 11 := by omega
  clear h h9 hds hmap hcl hok hB
  have d1 : decide (i < (m.cmR k).i) = false := decide_eq_false (by omega)
  have d2 : (i == (m.cmR k).i) = true := by simpa using hI
  have d4 : (i != (m.cmR k).i) = false := by simpa using hI
  have d3 : decide (d.c < (m.cmR k).c) = false := decide_eq_false (by omega)
  have HO : Hid (oldB (m.cmR k) i d.c = false) := hide (by unfold oldB; rw [d1, d3, Bool.and_false]; rfl)
  have d5 : (d.c != (m.cmR k).c) = true := by simp; omega
  have HC : Hid (comeC (m.cmR k) i d.c = ⟨i, d.c, 0⟩) := hide (if_neg (fun h => by omega))
  have HCI : Hid (1 ≤ i) := hide hi
  clear hI hc
  go_enter Tryz.func49, Tryz.ntmps49
  go_upto_region 1 with fail
  go_quiet (fail)
  go_upto_region 2 with fail
  go_quiet (fail)
  go_upto_region 4 with fail
  go_quiet (fail)
  have HNX := hide hnx
  have HR2 : Hid (RES = ({ m with cm := fun j => if j = k then some ⟨i, d.c, nextG 0 d.s⟩ else m.cm j }, ⟨[⟨3, m.n, m.i, 8, [⟨k, d.c, nextG 0 d.s, i⟩], [], 0, 0, 0, []⟩], [], []⟩)) := hide (by
    rw [HRES.out, HO.out, HC.out]
    unfold textA
    simp only [Bool.false_eq_true, if_false, HNX.out, if_true]
    )
  have T7 : Hid (∀ W, Calls Tryz.prog 73 #[rcvV 0, .int .u64 d.s] W fun e w' => e = .returned (.tuple #[rcvV (nextG 0 d.s), .bool false]) ∧ Below W.heap.size W w') := hide (fun W => by
    have := take7_s 0 d.s s0 s1 W
    rwa [hnx] at this)
  clear hnx
  go_upto_region 9 with fail
  go_region_held3 (fun w' => w'.cell? ⟨b, k * 9 + 8, none⟩ = some (.int .u64 0) ∧ w'.cell? ⟨w.heap.size + 1, 2, none⟩ = some (.int .u64 d.s)) ((refine ⟨?_, ?_⟩ <;> (first | (rw [cell?_box]; rfl) | exact CellAt.h))) (first | (go_at_call 73; (with_reducible refine (T7.out _).mono ?_); rintro e w5 ⟨rfl, hb5⟩; haveI : Stp _ w5 := ⟨hb5⟩; clear hb5) | fail)
  all_goals
    have z5 : w.heap.size + 1 + 1 + 1 < w5.heap.size := BoxAt.lt (w := w5) (n := w.heap.size + 1 + 1 + 1) inferInstance
    haveI : LtN w.heap.size w5.heap.size := ⟨by omega⟩
    haveI : LeN w.heap.size w5.heap.size := ⟨by omega⟩
    haveI : LtN (w.heap.size + 1) w5.heap.size := ⟨by omega⟩
    haveI : LtN (w.heap.size + 1 + 1) w5.heap.size := ⟨by omega⟩
    haveI : LtN (w.heap.size + 1 + 1 + 1) w5.heap.size := ⟨z5⟩
    haveI : LtN x w5.heap.size := ⟨Nat.lt_trans (LtN.h (a := x) (b := w.heap.size)) (by omega)⟩
    haveI : LtN b w5.heap.size := ⟨Nat.lt_trans (LtN.h (a := b) (b := w.heap.size)) (by omega)⟩
    go_upto_region 13 with fail
    go_region_held3 (fun w' => w'.cell? ⟨x, 0, none⟩ = some (.int .i64 m.n) ∧ w'.cell? ⟨x, 1, none⟩ = some (.int .u64 m.i) ∧ w'.cell? ⟨w.heap.size, 1, none⟩ = some (.int .i64 k) ∧ w'.cell? ⟨b, k * 9 + 7, none⟩ = some (.int .u64 d.c) ∧ w'.cell? ⟨b, k * 9 + 8, none⟩ = some (.int .u64 (nextG 0 d.s)) ∧ w'.cell? ⟨b, k * 9 + 6, none⟩ = some (.int .u64 i)) ((refine ⟨?_, ?_, ?_, ?_, ?_, ?_⟩ <;> (first | (rw [cell?_box]; rfl) | exact CellAt.h))) (fail)
    all_goals
      go_wp2_with fail
      first
        | (refine bodyPost_ret (v := .agg #[.slice (some ⟨w5.heap.size + 1 + 1, 0, none⟩) 1 1, .slice none 0 0, .slice none 0 0]) (by simp [results, Tryz.results49, go_sem]; done) rfl ?_; rw [HR2.out]; exact ⟨_, rfl, ans_ack (hb := w5.heap.size + 1) (q := w5.heap.size + 1 + 1) (d := ⟨k, d.c, nextG 0 d.s, i⟩) inferInstance inferInstance (by omega) (by omega) (by omega) (.nil _ _), text_fin HE.out (by omega) hk1 inferInstance inferInstance (by exact HCI.out) (fun j v hj hc => by (haveI := hc; haveI : NeN (k * 9 + j) (k * 9 + 8) := ⟨by omega⟩; haveI : NeN (k * 9 + j) (k * 9 + 7) := ⟨by omega⟩; haveI : NeN (k * 9 + j) (k * 9 + 6) := ⟨by omega⟩; exact inferInstance)) inferInstance inferInstance inferInstance, (inferInstance : W9 b k w _).gr⟩)
        | (refine bodyPost_ret (v := .agg #[.slice (some ⟨w5.heap.size + 1, 0, none⟩) 1 1, .slice none 0 0, .slice none 0 0]) (by simp [results, Tryz.results49, go_sem]; done) rfl ?_; rw [HR2.out]; exact ⟨_, rfl, ans_ack (hb := w5.heap.size) (q := w5.heap.size + 1) (d := ⟨k, d.c, nextG 0 d.s, i⟩) inferInstance inferInstance (by omega) (by omega) (by omega) (.nil _ _), text_fin HE.out (by omega) hk1 inferInstance inferInstance (by exact HCI.out) (fun j v hj hc => by (haveI := hc; haveI : NeN (k * 9 + j) (k * 9 + 8) := ⟨by omega⟩; haveI : NeN (k * 9 + j) (k * 9 + 7) := ⟨by omega⟩; haveI : NeN (k * 9 + j) (k * 9 + 6) := ⟨by omega⟩; exact inferInstance)) inferInstance inferInstance inferInstance, (inferInstance : W9 b k w _).gr⟩)
end
end Go.Proofs.YtniogmefbjfoaaaGreat

namespace Go.Proofs.YtniogmefbjfoaaaGreat
set_option linter.unusedSimpArgs false
set_option linter.unusedVariables false
set_option linter.unusedSectionVars false
open Go.RowKit Go.Maps

section
variable {E : List Nat} {x b c : Nat} {m : En}
set_option maxRecDepth 100000 in
set_option maxHeartbeats 16000000 in
theorem text_f1 (w : World) (h : RfM w E x b c m) (pk : Int) (k : Nat) (hk1 : 1 ≤ k) (hk : k ≤ 10) (i : Int) (hi : 1 ≤ i) (hp : Int) (HA : Option Addr) (hn hcp : Nat) (BA : Option Addr) (bcp : Nat) (bs : List Int) (an ai sq : Int) (PA : Option Addr) (pn pcp : Nat) (d : Hd) (s0 : 0 ≤ d.s) (s1 : d.s ≤ 18446744073709551615) (hB : RO w E 1 BA bs.length (bcs bs)) (hbl : bs.length ≤ 1000000) (hI : i = (m.cmR k).i) (hc : (m.cmR k).c < d.c) (hnx : nextB 0 d.s = true) :
    Calls Tryz.prog 49 #[.pointer (some ⟨x, 0, none⟩), .agg #[.int .i64 pk, .int .i64 k, .int .u64 i, .int .i64 hp, .slice HA hn hcp, .slice BA bs.length bcp, .int .i64 an, .int .u64 ai, .int .u64 sq, .slice PA pn pcp], .agg #[.int .i64 d.d, .int .u64 d.c, .int .u64 d.s, .int .u64 d.i]] w (RetTxr w E x b c (m.takeData k i d bs)) := by
  have HRES := hide (takeData_ref (m := m) (k := k) (i := i) (h := d) (bs := bs) hi)
  generalize m.takeData k i d bs = RES at HRES
  have HE := hide h
  have HBR : Hid (∀ W, Gr [b] w W → Reads W W.heap.size 1 BA bs.length (bcs bs)) := hide (fun W hW => (hB.tr (C' := E) (.of (hW.mono' (fun i hi => by rw [List.mem_singleton] at hi; subst hi; exact h.bE)))).1)
  haveI := h.bx
  haveI := h.fz
  haveI : LtN x w.heap.size := ⟨h.bx.lt⟩
  haveI : LtN b w.heap.size := ⟨h.fz.lt⟩
  haveI : NeN x b := ⟨fun e => h.xE (by rw [e]; exact h.bE)⟩
  obtain ⟨hok, A, c', ds, h9, hds, hmap, hcl⟩ := h.ro k (by omega)
  haveI := h9.c0
  haveI := h9.c1
  haveI := h9.c2
  haveI := h9.c3
  haveI := h9.c4
  haveI := h9.c5
  haveI := h9.c6
  haveI := h9.c7
  haveI := h9.c8
  have hun : ∀ b : Bool, (some undef = some (Value.bool b)) = False := fun b => by simp [undef]
  have i0 : (0 : Int) ≤ (k : Int) := by omega
  have i1 : (k : Int) < 11 := by omega
  clear h h9 hds hmap hcl hok hB
  have d1 : decide (i < (m.cmR k).i) = false := decide_eq_false (by omega)
  have d2 : (i == (m.cmR k).i) = true := by simpa using hI
  have d4 : (i != (m.cmR k).i) = false := by simpa using hI
  have d3 : decide (d.c < (m.cmR k).c) = false := decide_eq_false (by omega)
  have HO : Hid (oldB (m.cmR k) i d.c = false) := hide (by unfold oldB; rw [d1, d3, Bool.and_false]; rfl)
  have d5 : (d.c != (m.cmR k).c) = true := by simp; omega
  have HC : Hid (comeC (m.cmR k) i d.c = ⟨i, d.c, 0⟩) := hide (if_neg (fun h => by omega))
  have HCI : Hid (1 ≤ i) := hide hi
  clear hI hc
  go_enter Tryz.func49, Tryz.ntmps49
  go_upto_region 1 with fail
  go_quiet (fail)
  go_upto_region 2 with fail
  go_quiet (fail)
  go_upto_region 4 with fail
  go_quiet (fail)
  have HNX := hide hnx
  have HR2 : Hid (RES = ({ m with cm := fun j => if j = k then some ⟨i, d.c, nextG 0 d.s⟩ else m.cm j }, ⟨[⟨3, m.n, m.i, 8, [⟨k, d.c, nextG 0 d.s, i⟩], [], 0, 0, 0, []⟩], [((((k : Int), i), bs) : (Int × Int) × List Int)], []⟩)) := hide (by
    rw [HRES.out, HO.out, HC.out]
    unfold textA
    simp only [Bool.false_eq_true, if_false, HNX.out, if_true]
    )
  have T7 : Hid (∀ W, Calls Tryz.prog 73 #[rcvV 0, .int .u64 d.s] W fun e w' => e = .returned (.tuple #[rcvV (nextG 0 d.s), .bool true]) ∧ Below W.heap.size W w') := hide (fun W => by
    have := take7_s 0 d.s s0 s1 W
    rwa [hnx] at this)
  clear hnx
  go_upto_region 9 with fail
  go_region_held3 (fun w' => w'.cell? ⟨b, k * 9 + 8, none⟩ = some (.int .u64 0) ∧ w'.cell? ⟨w.heap.size + 1, 2, none⟩ = some (.int .u64 d.s)) ((refine ⟨?_, ?_⟩ <;> (first | (rw [cell?_box]; rfl) | exact CellAt.h))) (first | (go_at_call 73; (with_reducible refine (T7.out _).mono ?_); rintro e w5 ⟨rfl, hb5⟩; haveI : Stp _ w5 := ⟨hb5⟩; clear hb5) | fail)
  all_goals
    have z5 : w.heap.size + 1 + 1 + 1 < w5.heap.size := BoxAt.lt (w := w5) (n := w.heap.size + 1 + 1 + 1) inferInstance
    haveI : LtN w.heap.size w5.heap.size := ⟨by omega⟩
    haveI : LeN w.heap.size w5.heap.size := ⟨by omega⟩
    haveI : LtN (w.heap.size + 1) w5.heap.size := ⟨by omega⟩
    haveI : LtN (w.heap.size + 1 + 1) w5.heap.size := ⟨by omega⟩
    haveI : LtN (w.heap.size + 1 + 1 + 1) w5.heap.size := ⟨z5⟩
    haveI : LtN x w5.heap.size := ⟨Nat.lt_trans (LtN.h (a := x) (b := w.heap.size)) (by omega)⟩
    haveI : LtN b w5.heap.size := ⟨Nat.lt_trans (LtN.h (a := b) (b := w.heap.size)) (by omega)⟩
    go_upto_region 12 with fail
    go_region_held3 (fun w' => w'.cell? ⟨w.heap.size, 1, none⟩ = some (.int .i64 k) ∧ w'.cell? ⟨w.heap.size, 2, none⟩ = some (.int .u64 i) ∧ w'.cell? ⟨w.heap.size, 5, none⟩ = some (.slice BA bs.length bcp)) ((refine ⟨?_, ?_, ?_⟩ <;> (rw [cell?_box]; rfl)))
      (first
        | (refine step_append_w Tryz.okB rfl (.tmp 96) (.tmp 98) rfl (w5.heap.size + 1) (.slice (some ⟨w5.heap.size + 1, 0, none⟩) 0 0) 0 [] bs.length (bcs bs) ?_ ?_ ?_ ?_ ?_ ?_ ?_ ?_; ((focus (first | rfl | (simp [Act.eval, Act.put]; done))); (focus (exact own_emB7 _ _ _ (Nat.le_refl _))); (focus (refine ⟨_, _, by first | rfl | (simp [Act.eval, Act.put]; done), ?_⟩; exact HBR.out _ (W9.gr (k := k)))); (focus (exact bcs_one _)); (focus (unfold maxLen; omega)); (focus omega); (focus (first | omega | (simp; done) | (simp; omega) | exact blw.size | exact BoxAt.lt (n := w.heap.size) inferInstance)); intro v6 w6 ho6 hg6; rw [Nat.zero_add, List.nil_append] at ho6; haveI : StpB (w5.heap.size + 1) _ w6 := ⟨grown_belowT hg6 (by simp) (fun k hk => by have e : (w5.heap.size + 1 : Nat) = k := Option.some.inj hk; omega)⟩; obtain ⟨A6, c6, rfl, _, _⟩ := own_slice ho6; have z6 : w5.heap.size ≤ w6.heap.size := (by have := hg6.size; (try simp at this); omega); have O6 := hide (own_lo ho6 (show w5.heap.size ≤ w5.heap.size + 1 by omega)); clear ho6 hg6))
        | (refine step_append_w Tryz.okB rfl (.tmp 96) (.tmp 98) rfl (w5.heap.size) (.slice (some ⟨w5.heap.size, 0, none⟩) 0 0) 0 [] bs.length (bcs bs) ?_ ?_ ?_ ?_ ?_ ?_ ?_ ?_; ((focus (first | rfl | (simp [Act.eval, Act.put]; done))); (focus (exact own_emB7 _ _ _ (Nat.le_refl _))); (focus (refine ⟨_, _, by first | rfl | (simp [Act.eval, Act.put]; done), ?_⟩; exact HBR.out _ (W9.gr (k := k)))); (focus (exact bcs_one _)); (focus (unfold maxLen; omega)); (focus omega); (focus (first | omega | (simp; done) | (simp; omega) | exact blw.size | exact BoxAt.lt (n := w.heap.size) inferInstance)); intro v6 w6 ho6 hg6; rw [Nat.zero_add, List.nil_append] at ho6; haveI : StpB (w5.heap.size) _ w6 := ⟨grown_belowT hg6 (by simp) (fun k hk => by have e : (w5.heap.size : Nat) = k := Option.some.inj hk; omega)⟩; obtain ⟨A6, c6, rfl, _, _⟩ := own_slice ho6; have z6 : w5.heap.size ≤ w6.heap.size := (by have := hg6.size; (try simp at this); omega); have O6 := hide (own_lo ho6 (show w5.heap.size ≤ w5.heap.size by omega)); clear ho6 hg6))
        | fail)
    all_goals
      haveI : LtN w.heap.size w6.heap.size := ⟨by omega⟩
      haveI : LeN w.heap.size w6.heap.size := ⟨by omega⟩
      haveI : LtN (w.heap.size + 1) w6.heap.size := ⟨by omega⟩
      haveI : LtN (w.heap.size + 1 + 1) w6.heap.size := ⟨by omega⟩
      haveI : LtN (w.heap.size + 1 + 1 + 1) w6.heap.size := ⟨by omega⟩
      haveI : LtN x w6.heap.size := ⟨Nat.lt_of_lt_of_le (LtN.h (a := x) (b := w5.heap.size)) z6⟩
      haveI : LtN b w6.heap.size := ⟨Nat.lt_of_lt_of_le (LtN.h (a := b) (b := w5.heap.size)) z6⟩
      go_upto_region 13 with fail
      go_region_held3 (fun w' => w'.cell? ⟨x, 0, none⟩ = some (.int .i64 m.n) ∧ w'.cell? ⟨x, 1, none⟩ = some (.int .u64 m.i) ∧ w'.cell? ⟨w.heap.size, 1, none⟩ = some (.int .i64 k) ∧ w'.cell? ⟨b, k * 9 + 7, none⟩ = some (.int .u64 d.c) ∧ w'.cell? ⟨b, k * 9 + 8, none⟩ = some (.int .u64 (nextG 0 d.s)) ∧ w'.cell? ⟨b, k * 9 + 6, none⟩ = some (.int .u64 i)) ((refine ⟨?_, ?_, ?_, ?_, ?_, ?_⟩ <;> (first | (rw [cell?_box]; rfl) | exact CellAt.h))) (fail)
      all_goals
        go_wp2_with fail
        first
          | (refine bodyPost_ret (v := .agg #[.slice (some ⟨w6.heap.size + 1 + 1, 0, none⟩) 1 1, .slice (some ⟨w6.heap.size, 0, none⟩) 1 1, .slice none 0 0]) (by simp [results, Tryz.results49, go_sem]; done) rfl ?_; rw [HR2.out]; exact ⟨_, rfl, ans_ack (hb := w6.heap.size + 1) (q := w6.heap.size + 1 + 1) (d := ⟨k, d.c, nextG 0 d.s, i⟩) inferInstance inferInstance (by omega) (by omega) (by omega) (cb_fin (W6 := w6) (b1 := b) (b2 := w.heap.size + 1 + 1 + 1) (b3 := w.heap.size + 1 + 1) inferInstance O6.out (Trc.h (a := w6)) (LtN.h (a := b) (b := w5.heap.size)) (by omega) (by omega) (by omega) (by omega) (by omega)), text_fin HE.out (by omega) hk1 inferInstance inferInstance (by exact HCI.out) (fun j v hj hc => by (haveI := hc; haveI : NeN (k * 9 + j) (k * 9 + 8) := ⟨by omega⟩; haveI : NeN (k * 9 + j) (k * 9 + 7) := ⟨by omega⟩; haveI : NeN (k * 9 + j) (k * 9 + 6) := ⟨by omega⟩; exact inferInstance)) inferInstance inferInstance inferInstance, (inferInstance : W9 b k w _).gr⟩)
end
end Go.Proofs.YtniogmefbjfoaaaGreat
