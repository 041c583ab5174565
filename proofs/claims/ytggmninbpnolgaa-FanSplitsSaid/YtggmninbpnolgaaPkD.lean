/-
  Layer 6: packets are read: contracts: lives, heads.
-/
import Derived.Test.YtggmninbpnolgaaPk3
import Derived.Test.YtggmninbpnolgaaTcG
import Derived.Test.YtggmninbpnolgaaRdr
namespace Go.Proofs.Ytggmninbpnolgaa
set_option linter.unusedSimpArgs false
set_option linter.unusedVariables false
set_option linter.unusedSectionVars false
open Go.RowKit

theorem Try.okHd : ElemOk Try.prog 22 29 4 32 := elemOk_of (.agg #[.int .i64 0, .int .u64 0, .int .u64 0, .int .u64 0]) Try.underlying22 (by kernel_rfl) rfl (by omega)
def OwnH (w : World) (base : Nat) (v : Value) (l : List Hd) : Prop := w.ownsRow base 29 4 v l.length (hcs l)
/-- lives are read, whatever becomes of the reader -/
def rLvs : Nat → RS → List Pr → List Pr × RS
  | 0, s, acc => (acc, s)
  | k + 1, s, acc => rLvs k (rGet s).2 (acc ++ [(rGet s).1])
def rLives (s : RS) : List Pr × RS := rLvs (rU8 s).1.toNat (rU8 s).2 []
/-- a head is read, heads are -/
def rHd (ack : Bool) (s : RS) : Hd × RS :=
  let a := rU8 s
  let b := rUint a.2
  let c := rUint b.2
  let d := if ack then rUint c.2 else (0, c.2)
  (⟨a.1, b.1, c.1, d.1⟩, d.2)
def rHds (ack : Bool) : Nat → RS → List Hd → List Hd × RS
  | 0, s, acc => (acc, s)
  | k + 1, s, acc => rHds ack k (rHd ack s).2 (acc ++ [(rHd ack s).1])
def rHeads (ack : Bool) (s : RS) : List Hd × RS := rHds ack (rU8 s).1.toNat (rU8 s).2 []
def RetLv (g B : Nat) (w : World) (l : List Pr) (s : RS) (e : Ending) (w' : World) : Prop := ∃ v, e = .returned v ∧ OwnP w' w.heap.size v l ∧ Rds w' g B s.1 s.2 ∧ w.grownBy w' (some g)
def RetRH (g B : Nat) (w : World) (l : List Hd) (s : RS) (e : Ending) (w' : World) : Prop := ∃ v, e = .returned v ∧ OwnH w' w.heap.size v l ∧ Rds w' g B s.1 s.2 ∧ w.grownBy w' (some g)
theorem reads_h1x (W : World) (m : Nat) (h : Hd) [k : BoxAt W m #[.int .i64 h.d, .int .u64 h.c, .int .u64 h.s, .int .u64 h.i] 29] : Reads W W.heap.size 4 (some ⟨m, 0, none⟩) 1 (hcs [h]) :=
  ⟨rfl, fun _ => ⟨_, _, rfl, k.lt, fun j u hu => by
    rw [Nat.zero_add, cell?_box]
    simpa [hcs, hc] using hu⟩⟩
set_option maxRecDepth 100000 in
set_option maxHeartbeats 4000000 in
theorem lives_r (g B : Nat) (s : RS) (w : World) (h : Rds w g B s.1 s.2) (hn : s.1.length ≤ 1000000) :
    Calls Try.prog 80 #[.pointer (some ⟨g, 0, none⟩)] w (RetLv g B w (rLives s).1 (rLives s).2) := by
  have hle := h.le
  have htop := h.top
  have T1 := hide (u8R_s g B s w h)
  have hr := rU8_range h.ok
  have hl1 := rU8_len s
  have HQ := hide (show rLives s = rLvs (rU8 s).1.toNat (rU8 s).2 [] from rfl)
  generalize rLives s = Q at HQ ⊢
  generalize rU8 s = r1 at T1 hr hl1 HQ
  obtain ⟨x1, s1⟩ := r1
  obtain ⟨hr0, hr1⟩ := hr
  simp only at T1 hr0 hr1 hl1 HQ
  obtain ⟨n, rfl⟩ := Int.eq_ofNat_of_zero_le hr0
  have hn255 : n ≤ 255 := by omega
  simp only [Int.toNat_natCast] at HQ
  haveI : LtN g w.heap.size := ⟨by omega⟩
  haveI : LeN B w.heap.size := ⟨hle⟩
  clear h hr0 hr1
  go_enter Try.func80, Try.ntmps80
  go_wp2_with fail
  (with_reducible refine (T1.out).mono ?_)
  rintro e w1 ⟨rfl, hR, hG⟩
  haveI : StpG _ _ w1 := ⟨hG⟩
  haveI : Rdc w1 g B s1 := ⟨hR⟩
  clear hR hG
  clear T1
  go_wp2
  go_loopw [3, 6] (fun v j wr => ∃ (k : Nat) (acc : List Pr) (sk : RS), k ≤ n ∧ j = .int .u8 k ∧ OwnP wr w.heap.size v acc ∧ Rds wr g B sk.1 sk.2 ∧ w.grownBy wr (some g) ∧ sk.1.length ≤ s.1.length ∧ acc.length = k ∧ rLvs n s1 [] = rLvs (n - k) sk acc) (fun _ j _ => n - (intOf j).toNat)
  case atStart => exact ⟨0, [], s1, Nat.zero_le _, rfl, World.ownsRow_nil _ _ _ _, Rdc.h, Gby.h, hl1, rfl, by rw [Nat.sub_zero]⟩
  case round =>
    obtain ⟨k, acc, sk, hk, rfl, ho, hRk, hGk, hlk, hak, hrun⟩ := hrel
    obtain ⟨A, c, rfl, _, _⟩ := own_slice ho
    have HO := hide ho
    have HRUN := hide hrun
    have HA := hide hak
    have hal : acc.length ≤ 255 := by omega
    haveI : Rdc wr g B sk := ⟨hRk⟩
    haveI : Gby g w wr := ⟨hGk⟩
    haveI : LtN g wr.heap.size := ⟨by have := hGk.size; omega⟩
    have hwz := hGk.size
    haveI : LeN w.heap.size wr.heap.size := ⟨hwz⟩
    haveI : LeN B wr.heap.size := ⟨by omega⟩
    have hok := hRk.ok
    clear ho hrun hRk hGk hak
    by_cases hlt : k < n
    · have i1 : (k : Int) < (n : Int) := by omega
      have T2 := hide (fun W (hW : Rds W g B sk.1 sk.2) => getP_s g B sk W hW (by omega))
      have hl2 := rGet_len sk
      have hst : Hid (rLvs (n - k) sk acc = rLvs (n - (k + 1)) (rGet sk).2 (acc ++ [(rGet sk).1])) := hide (by rw [show n - k = (n - (k + 1)) + 1 by omega, rLvs])
      generalize rGet sk = r2 at T2 hl2 hst
      obtain ⟨⟨pn, pi⟩, s2⟩ := r2
      simp only at T2 hl2 hst
      clear hok
      go_wp2_with fail
      (with_reducible refine (T2.out _ Rdc.h).mono ?_)
      rintro e w3 ⟨rfl, hR, hG⟩
      haveI : StpG _ _ w3 := ⟨hG⟩
      haveI : Rdc w3 g B s2 := ⟨hR⟩
      clear hR hG
      have hz3 : w.heap.size ≤ w3.heap.size := (Gby.h (g := g) (a := w) (W := w3)).size
      have HO3 : Hid (w3.ownsRow w.heap.size 46 2 (.slice A acc.length c) acc.length (pcs acc)) := hide (own_kp HO.out)
      clear T2 HO
      go_wp2_with (at_builtin; refine wpList_append_w Try.okP rfl (.tmp 8) (.tmp 11) rfl w.heap.size (.slice A acc.length c) acc.length (pcs acc) 1 (pcs [(pn, pi)]) ?_ ?_ ?_ ?_ ?_ ?_ ?_ ?_; go_must ((focus (first | rfl | (simp [Act.eval, Act.put]; done))); (focus (exact own_tc HO3.out)); (focus (refine ⟨_, _, rfl, ?_⟩; exact reads_p1x _ _ _ _)); (focus (exact pc_one _)); (focus (unfold maxLen; omega)); (focus omega); (focus (first | omega | (simp; done) | (simp; omega) | exact BoxAt.lt (n := w.heap.size) inferInstance)); intro v7 w7 ho7 hg7; haveI : StpB w.heap.size _ w7 := ⟨grown_belowT hg7 (by simp; omega) (fun q hq => (HO3.out.lt q hq).1)⟩; have O7 := hide ho7; clear ho7 hg7))
      go_wp2
      go_roundw
      case rel => exact ⟨k + 1, acc ++ [(pn, pi)], s2, by omega, by go_num, by rw [OwnP, List.length_append, pcs_app]; exact O7.out, Rdc.h, Gby.h, by omega, by have := HA.out; simp; omega, HRUN.out.trans hst.out⟩
      case measure => simp [intOf]; omega
    · obtain rfl : k = n := by omega
      have HF : Hid (Q = (acc, sk)) := hide (by rw [HQ.out, HRUN.out, Nat.sub_self]; rfl)
      go_wp2
      go_ret
      exact ⟨_, rfl, by rw [HF.out]; exact HO.out, by rw [HF.out]; exact Rdc.h, Gby.h⟩
set_option maxRecDepth 100000 in
set_option maxHeartbeats 4000000 in
theorem heads_r_true (g B : Nat) (s : RS) (w : World) (h : Rds w g B s.1 s.2) (hn : s.1.length ≤ 1000000) :
    Calls Try.prog 81 #[.pointer (some ⟨g, 0, none⟩), .bool true] w (RetRH g B w (rHeads true s).1 (rHeads true s).2) := by
  have hle := h.le
  have htop := h.top
  have T1 := hide (u8R_s g B s w h)
  have hr := rU8_range h.ok
  have hl1 := rU8_len s
  have HQ := hide (show rHeads true s = rHds true (rU8 s).1.toNat (rU8 s).2 [] from rfl)
  generalize rHeads true s = Q at HQ ⊢
  generalize rU8 s = r1 at T1 hr hl1 HQ
  obtain ⟨x1, s1⟩ := r1
  obtain ⟨hr0, hr1⟩ := hr
  simp only at T1 hr0 hr1 hl1 HQ
  obtain ⟨n, rfl⟩ := Int.eq_ofNat_of_zero_le hr0
  have hn255 : n ≤ 255 := by omega
  simp only [Int.toNat_natCast] at HQ
  haveI : LtN g w.heap.size := ⟨by omega⟩
  haveI : LeN B w.heap.size := ⟨hle⟩
  clear h hr0 hr1
  go_enter Try.func81, Try.ntmps81
  go_wp2_with fail
  (with_reducible refine (T1.out).mono ?_)
  rintro e w1 ⟨rfl, hR, hG⟩
  haveI : StpG _ _ w1 := ⟨hG⟩
  haveI : Rdc w1 g B s1 := ⟨hR⟩
  clear hR hG
  clear T1
  go_wp2
  go_loopw [5, 9] (fun v j wr => ∃ (k : Nat) (acc : List Hd) (sk : RS), k ≤ n ∧ j = .int .u8 k ∧ OwnH wr w.heap.size v acc ∧ Rds wr g B sk.1 sk.2 ∧ w.grownBy wr (some g) ∧ sk.1.length ≤ s.1.length ∧ acc.length = k ∧ rHds true n s1 [] = rHds true (n - k) sk acc) (fun _ j _ => n - (intOf j).toNat)
  case atStart => exact ⟨0, [], s1, Nat.zero_le _, rfl, World.ownsRow_nil _ _ _ _, Rdc.h, Gby.h, hl1, rfl, by rw [Nat.sub_zero]⟩
  case round =>
    obtain ⟨k, acc, sk, hk, rfl, ho, hRk, hGk, hlk, hak, hrun⟩ := hrel
    obtain ⟨A, c, rfl, _, _⟩ := own_slice ho
    have HO := hide ho
    have HRUN := hide hrun
    have HA := hide hak
    have hal : acc.length ≤ 255 := by omega
    haveI : Rdc wr g B sk := ⟨hRk⟩
    haveI : Gby g w wr := ⟨hGk⟩
    haveI : LtN g wr.heap.size := ⟨by have := hGk.size; omega⟩
    have hwz := hGk.size
    haveI : LeN w.heap.size wr.heap.size := ⟨hwz⟩
    haveI : LeN B wr.heap.size := ⟨by omega⟩
    have hok := hRk.ok
    clear ho hrun hRk hGk hak
    by_cases hlt : k < n
    · have i1 : (k : Int) < (n : Int) := by omega
      have T2 := hide (fun W (hW : Rds W g B sk.1 sk.2) => u8R_s g B sk W hW)
      have hr2 := rU8_range hok
      have hl2 := rU8_len sk
      have hst : Hid (rHds true (n - k) sk acc = rHds true (n - (k + 1)) (rHd true sk).2 (acc ++ [(rHd true sk).1])) := hide (by rw [show n - k = (n - (k + 1)) + 1 by omega, rHds])
      unfold rHd at hst
      simp only at hst
      generalize rU8 sk = r2 at T2 hl2 hst hr2
      obtain ⟨x2, s2⟩ := r2
      obtain ⟨hx0, hx1⟩ := hr2
      simp only at T2 hl2 hst hx0 hx1
      have T3 := hide (fun W (hW : Rds W g B s2.1 s2.2) => uintR_s g B s2 W hW (by omega))
      have hl3 := rUint_len s2
      generalize rUint s2 = r3 at T3 hl3 hst
      obtain ⟨x3, s3⟩ := r3
      simp only at T3 hl3 hst
      have T4 := hide (fun W (hW : Rds W g B s3.1 s3.2) => uintR_s g B s3 W hW (by omega))
      have hl4 := rUint_len s3
      generalize rUint s3 = r4 at T4 hl4 hst
      obtain ⟨x4, s4⟩ := r4
      simp only at T4 hl4 hst
      simp only [if_true] at hst
      have T5 := hide (fun W (hW : Rds W g B s4.1 s4.2) => uintR_s g B s4 W hW (by omega))
      have hl5 := rUint_len s4
      generalize rUint s4 = r5 at T5 hl5 hst
      obtain ⟨x5, s5⟩ := r5
      simp only at T5 hl5 hst
      clear hok
      go_wp2_with fail
      (with_reducible refine (T2.out _ Rdc.h).mono ?_)
      rintro e w2 ⟨rfl, hR, hG⟩
      haveI : StpG _ _ w2 := ⟨hG⟩
      haveI : Rdc w2 g B s2 := ⟨hR⟩
      clear hR hG
      clear T2
      go_wp2_with fail
      (with_reducible refine (T3.out _ Rdc.h).mono ?_)
      rintro e w3 ⟨rfl, hR, hG⟩
      haveI : StpG _ _ w3 := ⟨hG⟩
      haveI : Rdc w3 g B s3 := ⟨hR⟩
      clear hR hG
      clear T3
      go_wp2_with fail
      (with_reducible refine (T4.out _ Rdc.h).mono ?_)
      rintro e w4 ⟨rfl, hR, hG⟩
      haveI : StpG _ _ w4 := ⟨hG⟩
      haveI : Rdc w4 g B s4 := ⟨hR⟩
      clear hR hG
      clear T4
      go_wp2_with fail
      (with_reducible refine (T5.out _ Rdc.h).mono ?_)
      rintro e w5 ⟨rfl, hR, hG⟩
      haveI : StpG _ _ w5 := ⟨hG⟩
      haveI : Rdc w5 g B s5 := ⟨hR⟩
      clear hR hG
      clear T5
      have hz3 : w.heap.size ≤ w5.heap.size := (Gby.h (g := g) (a := w) (W := w5)).size
      go_wp2_with (at_builtin; refine wpList_append_w Try.okHd rfl (.tmp 25) (.tmp 27) rfl w.heap.size (.slice A acc.length c) acc.length (hcs acc) 1 (hcs [⟨x2, x3, x4, x5⟩]) ?_ ?_ ?_ ?_ ?_ ?_ ?_ ?_; go_must ((focus (first | rfl | (simp [Act.eval, Act.put]; done))); (focus (exact own_kp HO.out)); (focus (refine ⟨_, _, rfl, ?_⟩; exact reads_h1x _ _ ⟨x2, x3, x4, x5⟩)); (focus (exact hc_one _)); (focus (unfold maxLen; omega)); (focus omega); (focus (first | omega | (simp; done) | (simp; omega) | exact BoxAt.lt (n := w.heap.size) inferInstance)); intro v7 w7 ho7 hg7; haveI : StpB w.heap.size _ w7 := ⟨grown_belowT hg7 (by simp; omega) (fun q hq => (HO.out.lt q hq).1)⟩; have O7 := hide ho7; clear ho7 hg7))
      go_wp2
      go_roundw
      case rel => exact ⟨k + 1, acc ++ [⟨x2, x3, x4, x5⟩], s5, by omega, by go_num, by rw [OwnH, List.length_append, hcs_app]; exact O7.out, Rdc.h, Gby.h, by omega, by have := HA.out; simp; omega, HRUN.out.trans hst.out⟩
      case measure => simp [intOf]; omega
    · obtain rfl : k = n := by omega
      have HF : Hid (Q = (acc, sk)) := hide (by rw [HQ.out, HRUN.out, Nat.sub_self]; rfl)
      go_wp2
      go_ret
      exact ⟨_, rfl, by rw [HF.out]; exact HO.out, by rw [HF.out]; exact Rdc.h, Gby.h⟩
set_option maxRecDepth 100000 in
set_option maxHeartbeats 4000000 in
theorem heads_r_false (g B : Nat) (s : RS) (w : World) (h : Rds w g B s.1 s.2) (hn : s.1.length ≤ 1000000) :
    Calls Try.prog 81 #[.pointer (some ⟨g, 0, none⟩), .bool false] w (RetRH g B w (rHeads false s).1 (rHeads false s).2) := by
  have hle := h.le
  have htop := h.top
  have T1 := hide (u8R_s g B s w h)
  have hr := rU8_range h.ok
  have hl1 := rU8_len s
  have HQ := hide (show rHeads false s = rHds false (rU8 s).1.toNat (rU8 s).2 [] from rfl)
  generalize rHeads false s = Q at HQ ⊢
  generalize rU8 s = r1 at T1 hr hl1 HQ
  obtain ⟨x1, s1⟩ := r1
  obtain ⟨hr0, hr1⟩ := hr
  simp only at T1 hr0 hr1 hl1 HQ
  obtain ⟨n, rfl⟩ := Int.eq_ofNat_of_zero_le hr0
  have hn255 : n ≤ 255 := by omega
  simp only [Int.toNat_natCast] at HQ
  haveI : LtN g w.heap.size := ⟨by omega⟩
  haveI : LeN B w.heap.size := ⟨hle⟩
  clear h hr0 hr1
  go_enter Try.func81, Try.ntmps81
  go_wp2_with fail
  (with_reducible refine (T1.out).mono ?_)
  rintro e w1 ⟨rfl, hR, hG⟩
  haveI : StpG _ _ w1 := ⟨hG⟩
  haveI : Rdc w1 g B s1 := ⟨hR⟩
  clear hR hG
  clear T1
  go_wp2
  go_loopw [5, 9] (fun v j wr => ∃ (k : Nat) (acc : List Hd) (sk : RS), k ≤ n ∧ j = .int .u8 k ∧ OwnH wr w.heap.size v acc ∧ Rds wr g B sk.1 sk.2 ∧ w.grownBy wr (some g) ∧ sk.1.length ≤ s.1.length ∧ acc.length = k ∧ rHds false n s1 [] = rHds false (n - k) sk acc) (fun _ j _ => n - (intOf j).toNat)
  case atStart => exact ⟨0, [], s1, Nat.zero_le _, rfl, World.ownsRow_nil _ _ _ _, Rdc.h, Gby.h, hl1, rfl, by rw [Nat.sub_zero]⟩
  case round =>
    obtain ⟨k, acc, sk, hk, rfl, ho, hRk, hGk, hlk, hak, hrun⟩ := hrel
    obtain ⟨A, c, rfl, _, _⟩ := own_slice ho
    have HO := hide ho
    have HRUN := hide hrun
    have HA := hide hak
    have hal : acc.length ≤ 255 := by omega
    haveI : Rdc wr g B sk := ⟨hRk⟩
    haveI : Gby g w wr := ⟨hGk⟩
    haveI : LtN g wr.heap.size := ⟨by have := hGk.size; omega⟩
    have hwz := hGk.size
    haveI : LeN w.heap.size wr.heap.size := ⟨hwz⟩
    haveI : LeN B wr.heap.size := ⟨by omega⟩
    have hok := hRk.ok
    clear ho hrun hRk hGk hak
    by_cases hlt : k < n
    · have i1 : (k : Int) < (n : Int) := by omega
      have T2 := hide (fun W (hW : Rds W g B sk.1 sk.2) => u8R_s g B sk W hW)
      have hr2 := rU8_range hok
      have hl2 := rU8_len sk
      have hst : Hid (rHds false (n - k) sk acc = rHds false (n - (k + 1)) (rHd false sk).2 (acc ++ [(rHd false sk).1])) := hide (by rw [show n - k = (n - (k + 1)) + 1 by omega, rHds])
      unfold rHd at hst
      simp only at hst
      generalize rU8 sk = r2 at T2 hl2 hst hr2
      obtain ⟨x2, s2⟩ := r2
      obtain ⟨hx0, hx1⟩ := hr2
      simp only at T2 hl2 hst hx0 hx1
      have T3 := hide (fun W (hW : Rds W g B s2.1 s2.2) => uintR_s g B s2 W hW (by omega))
      have hl3 := rUint_len s2
      generalize rUint s2 = r3 at T3 hl3 hst
      obtain ⟨x3, s3⟩ := r3
      simp only at T3 hl3 hst
      have T4 := hide (fun W (hW : Rds W g B s3.1 s3.2) => uintR_s g B s3 W hW (by omega))
      have hl4 := rUint_len s3
      generalize rUint s3 = r4 at T4 hl4 hst
      obtain ⟨x4, s4⟩ := r4
      simp only at T4 hl4 hst
      simp only [Bool.false_eq_true, if_false] at hst
      clear hok
      go_wp2_with fail
      (with_reducible refine (T2.out _ Rdc.h).mono ?_)
      rintro e w2 ⟨rfl, hR, hG⟩
      haveI : StpG _ _ w2 := ⟨hG⟩
      haveI : Rdc w2 g B s2 := ⟨hR⟩
      clear hR hG
      clear T2
      go_wp2_with fail
      (with_reducible refine (T3.out _ Rdc.h).mono ?_)
      rintro e w3 ⟨rfl, hR, hG⟩
      haveI : StpG _ _ w3 := ⟨hG⟩
      haveI : Rdc w3 g B s3 := ⟨hR⟩
      clear hR hG
      clear T3
      go_wp2_with fail
      (with_reducible refine (T4.out _ Rdc.h).mono ?_)
      rintro e w4 ⟨rfl, hR, hG⟩
      haveI : StpG _ _ w4 := ⟨hG⟩
      haveI : Rdc w4 g B s4 := ⟨hR⟩
      clear hR hG
      clear T4
      have hz3 : w.heap.size ≤ w4.heap.size := (Gby.h (g := g) (a := w) (W := w4)).size
      go_wp2_with (at_builtin; refine wpList_append_w Try.okHd rfl (.tmp 25) (.tmp 27) rfl w.heap.size (.slice A acc.length c) acc.length (hcs acc) 1 (hcs [⟨x2, x3, x4, 0⟩]) ?_ ?_ ?_ ?_ ?_ ?_ ?_ ?_; go_must ((focus (first | rfl | (simp [Act.eval, Act.put]; done))); (focus (exact own_kp HO.out)); (focus (refine ⟨_, _, rfl, ?_⟩; exact reads_h1x _ _ ⟨x2, x3, x4, 0⟩)); (focus (exact hc_one _)); (focus (unfold maxLen; omega)); (focus omega); (focus (first | omega | (simp; done) | (simp; omega) | exact BoxAt.lt (n := w.heap.size) inferInstance)); intro v7 w7 ho7 hg7; haveI : StpB w.heap.size _ w7 := ⟨grown_belowT hg7 (by simp; omega) (fun q hq => (HO.out.lt q hq).1)⟩; have O7 := hide ho7; clear ho7 hg7))
      go_wp2
      go_roundw
      case rel => exact ⟨k + 1, acc ++ [⟨x2, x3, x4, 0⟩], s4, by omega, by go_num, by rw [OwnH, List.length_append, hcs_app]; exact O7.out, Rdc.h, Gby.h, by omega, by have := HA.out; simp; omega, HRUN.out.trans hst.out⟩
      case measure => simp [intOf]; omega
    · obtain rfl : k = n := by omega
      have HF : Hid (Q = (acc, sk)) := hide (by rw [HQ.out, HRUN.out, Nat.sub_self]; rfl)
      go_wp2
      go_ret
      exact ⟨_, rfl, by rw [HF.out]; exact HO.out, by rw [HF.out]; exact Rdc.h, Gby.h⟩
end Go.Proofs.Ytggmninbpnolgaa
