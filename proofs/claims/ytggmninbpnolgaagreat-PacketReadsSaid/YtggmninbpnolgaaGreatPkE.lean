/-
  Layer 6: packets are written: contracts: top, lists, advert, data, ack.
-/
import Derived.Test.YtggmninbpnolgaaGreatPk3
import Derived.Test.YtggmninbpnolgaaGreatTcW
namespace Go.Proofs.YtggmninbpnolgaaGreat
set_option linter.unusedSimpArgs false
set_option linter.unusedVariables false
set_option linter.unusedSectionVars false
open Go.RowKit

theorem kputP (g : Nat) (v : Value) (bs : List Int) (A : Option Addr) (n i : Int) (w : World) (h : Wtr w g v bs) (hr : RdW w g v 2 A 1 (pcs [(n, i)])) (hn : bs.length ≤ 500000) (hwf : wfU64 i) :
    Calls Tryz.prog 70 #[.pointer (some ⟨g, 0, none⟩), .slice A 1 1] w (RetWr g v w (bs ++ procB (n, i))) := by
  have := putP_s g v bs A 1 [(n, i)] w h hr (by simp) hn (by simpa using hwf)
  simpa [procsB] using this
theorem kputU2 (g : Nat) (v : Value) (bs : List Int) (A : Option Addr) (a b : Int) (w : World) (h : Wtr w g v bs) (hr : RdW w g v 1 A 2 (ucs [a, b])) (hn : bs.length ≤ 500000) (ha : wfU64 a) (hb : wfU64 b) :
    Calls Tryz.prog 77 #[.pointer (some ⟨g, 0, none⟩), .slice A 2 2] w (RetWr g v w (bs ++ (uintB a ++ uintB b))) := by
  have := putU_s g v bs A 2 [a, b] w h hr (by simp) hn (by simpa using ⟨ha, hb⟩)
  simpa [uintsB] using this
theorem kputU3 (g : Nat) (v : Value) (bs : List Int) (A : Option Addr) (a b c : Int) (w : World) (h : Wtr w g v bs) (hr : RdW w g v 1 A 3 (ucs [a, b, c])) (hn : bs.length ≤ 500000) (ha : wfU64 a) (hb : wfU64 b) (hc : wfU64 c) :
    Calls Tryz.prog 77 #[.pointer (some ⟨g, 0, none⟩), .slice A 3 3] w (RetWr g v w (bs ++ (uintB a ++ (uintB b ++ uintB c)))) := by
  have := putU_s g v bs A 3 [a, b, c] w h hr (by simp) hn (by simpa using ⟨ha, hb, hc⟩)
  simpa [uintsB] using this
set_option maxRecDepth 100000 in
set_option maxHeartbeats 2000000 in
theorem top_s (g : Nat) (v : Value) (bs : List Int) (k n i hp : Int) (HA : Option Addr) (hcp : Nat) (hs : List Hd) (BA : Option Addr) (bcp : Nat) (bs0 : List Int) (an ai sq : Int) (PA : Option Addr) (pcp : Nat) (ps : List Pr) (w : World) (h : Wtr w g v bs) (hn : bs.length ≤ 400000) (hi : wfU64 i) (hp0 : 0 ≤ hp) (hp1 : hp ≤ 8) :
    Calls Tryz.prog 74 #[.agg #[.pointer (some ⟨g, 0, none⟩)], PkV k n i hp HA hs.length hcp BA bs0.length bcp an ai sq PA ps.length pcp] w (RetWr g v w (bs ++ procB (n, i) ++ [hp])) := by
  have TP := hide (fun A W (h : Wtr W g v bs) (hr : RdW W g v 2 A 1 (pcs [(n, i)])) => kputP g v bs A n i W h hr (by omega) hi)
  have hb := procsB_len [(n, i)]
  simp only [procsB, List.flatMap_cons, List.flatMap_nil, List.append_nil, List.length_singleton] at hb
  have TU := hide (fun v1 W (h : Wtr W g v1 (bs ++ procB (n, i))) => u8_s g v1 (bs ++ procB (n, i)) hp W h (by rw [List.length_append]; omega) hp0 (by omega))
  have hm : hp % 256 = hp := by omega
  haveI : Wr w g v bs := ⟨h⟩
  haveI : VIn w v := vIn h
  haveI : LtN g w.heap.size := ⟨h.lt⟩
  clear h
  go_enter Tryz.func74, Tryz.ntmps74
  go_wp2_with fail
  (with_reducible refine (TP.out _ _ Wr.h (rdw_p1 _ _ _ _ _ _)).mono ?_)
  rintro e w1 ⟨rfl, v1, hw, hs⟩
  haveI : Wr w1 g v1 _ := ⟨hw⟩
  haveI : StpW g _ _ v1 w1 := ⟨hs⟩
  haveI : VIn w1 v1 := vIn hw
  haveI : LtN g w1.heap.size := ⟨hw.lt⟩
  clear hw hs
  go_wp2_with fail
  (with_reducible refine (TU.out _ _ Wr.h).mono ?_)
  rintro e w2 ⟨rfl, v2, hw, hs⟩
  haveI : Wr w2 g v2 _ := ⟨hw⟩
  haveI : StpW g _ _ v2 w2 := ⟨hs⟩
  haveI : VIn w2 v2 := vIn hw
  haveI : LtN g w2.heap.size := ⟨hw.lt⟩
  clear hw hs
  go_wp2
  go_end0
  exact ⟨rfl, _, Wr.h, Wst.h⟩
set_option maxRecDepth 100000 in
set_option maxHeartbeats 2000000 in
theorem advC_s (g m : Nat) (v : Value) (bs : List Int) (n i : Int) (w : World) (h : Wtr w g v bs) (hm : BoxAt w m #[.pointer (some ⟨g, 0, none⟩)] 54) (hmg : NeN m g) (hmo : OffW w v m) (hn : bs.length ≤ 400000) (hi : wfU64 i) :
    Calls Tryz.prog 73 #[.agg #[.int .i64 n, .int .u64 i], .pointer (some ⟨m, 0, none⟩)] w (RetWr g v w (bs ++ procB (n, i))) := by
  have TP := hide (fun A W (h : Wtr W g v bs) (hr : RdW W g v 2 A 1 (pcs [(n, i)])) => kputP g v bs A n i W h hr (by omega) hi)
  haveI := hm
  haveI : Wr w g v bs := ⟨h⟩
  haveI : VIn w v := vIn h
  haveI : LtN g w.heap.size := ⟨h.lt⟩
  clear h
  go_enter Tryz.func73, Tryz.ntmps73
  go_wp2_with fail
  (with_reducible refine (TP.out _ _ Wr.h (rdw_p1 _ _ _ _ _ _)).mono ?_)
  rintro e w1 ⟨rfl, v1, hw, hs⟩
  haveI : Wr w1 g v1 _ := ⟨hw⟩
  haveI : StpW g _ _ v1 w1 := ⟨hs⟩
  haveI : VIn w1 v1 := vIn hw
  haveI : LtN g w1.heap.size := ⟨hw.lt⟩
  clear hw hs
  go_wp2
  go_end0
  exact ⟨rfl, _, Wr.h, Wst.h⟩
/-- a head's bytes, of data, of an ack -/
def hdB (x : Hd) : List Int := x.d :: (uintB x.c ++ uintB x.s)
def haB (x : Hd) : List Int := x.d :: (uintB x.c ++ (uintB x.s ++ uintB x.i))
structure HdF (x : Hd) : Prop where
  d0 : 0 ≤ x.d
  d1 : x.d ≤ 10
  c : wfU64 x.c
  s : wfU64 x.s
  i : wfU64 x.i
set_option maxRecDepth 100000 in
set_option maxHeartbeats 2000000 in
theorem datC_s (g m : Nat) (v : Value) (bs : List Int) (x : Hd) (w : World) (h : Wtr w g v bs) (hm : BoxAt w m #[.pointer (some ⟨g, 0, none⟩)] 54) (hmg : NeN m g) (hmo : OffW w v m) (hn : bs.length ≤ 400000) (hf : HdF x) :
    Calls Tryz.prog 76 #[.agg #[.int .i64 x.d, .int .u64 x.c, .int .u64 x.s, .int .u64 x.i], .pointer (some ⟨m, 0, none⟩)] w (RetWr g v w (bs ++ hdB x)) := by
  have d0 := hf.d0
  have d1 := hf.d1
  have TU := hide (fun W (h : Wtr W g v bs) => u8_s g v bs x.d W h (by omega) d0 (by omega))
  have TP := hide (fun v1 A W (h : Wtr W g v1 (bs ++ [x.d])) (hr : RdW W g v1 1 A 2 (ucs [x.c, x.s])) => kputU2 g v1 (bs ++ [x.d]) A x.c x.s W h hr (by rw [List.length_append]; simp; omega) hf.c hf.s)
  have hmd : x.d % 256 = x.d := by omega
  rw [show bs ++ hdB x = bs ++ [x.d] ++ (uintB x.c ++ uintB x.s) by simp [hdB]]
  haveI := hm
  haveI : Wr w g v bs := ⟨h⟩
  haveI : VIn w v := vIn h
  haveI : LtN g w.heap.size := ⟨h.lt⟩
  clear h
  go_enter Tryz.func76, Tryz.ntmps76
  go_wp2_with fail
  (with_reducible refine (TU.out _ Wr.h).mono ?_)
  rintro e w1 ⟨rfl, v1, hw, hs⟩
  haveI : Wr w1 g v1 _ := ⟨hw⟩
  haveI : StpW g _ _ v1 w1 := ⟨hs⟩
  haveI : VIn w1 v1 := vIn hw
  haveI : LtN g w1.heap.size := ⟨hw.lt⟩
  clear hw hs
  go_wp2_with fail
  (with_reducible refine (TP.out _ _ _ Wr.h (rdw_u2 _ _ _ _ _ _)).mono ?_)
  rintro e w2 ⟨rfl, v2, hw, hs⟩
  haveI : Wr w2 g v2 _ := ⟨hw⟩
  haveI : StpW g _ _ v2 w2 := ⟨hs⟩
  haveI : VIn w2 v2 := vIn hw
  haveI : LtN g w2.heap.size := ⟨hw.lt⟩
  clear hw hs
  go_wp2
  go_end0
  exact ⟨rfl, _, Wr.h, Wst.h⟩
set_option maxRecDepth 100000 in
set_option maxHeartbeats 2000000 in
theorem ackC_s (g m : Nat) (v : Value) (bs : List Int) (x : Hd) (w : World) (h : Wtr w g v bs) (hm : BoxAt w m #[.pointer (some ⟨g, 0, none⟩)] 54) (hmg : NeN m g) (hmo : OffW w v m) (hn : bs.length ≤ 400000) (hf : HdF x) :
    Calls Tryz.prog 79 #[.agg #[.int .i64 x.d, .int .u64 x.c, .int .u64 x.s, .int .u64 x.i], .pointer (some ⟨m, 0, none⟩)] w (RetWr g v w (bs ++ haB x)) := by
  have d0 := hf.d0
  have d1 := hf.d1
  have TU := hide (fun W (h : Wtr W g v bs) => u8_s g v bs x.d W h (by omega) d0 (by omega))
  have TP := hide (fun v1 A W (h : Wtr W g v1 (bs ++ [x.d])) (hr : RdW W g v1 1 A 3 (ucs [x.c, x.s, x.i])) => kputU3 g v1 (bs ++ [x.d]) A x.c x.s x.i W h hr (by rw [List.length_append]; simp; omega) hf.c hf.s hf.i)
  have hmd : x.d % 256 = x.d := by omega
  rw [show bs ++ haB x = bs ++ [x.d] ++ (uintB x.c ++ (uintB x.s ++ uintB x.i)) by simp [haB]]
  haveI := hm
  haveI : Wr w g v bs := ⟨h⟩
  haveI : VIn w v := vIn h
  haveI : LtN g w.heap.size := ⟨h.lt⟩
  clear h
  go_enter Tryz.func79, Tryz.ntmps79
  go_wp2_with fail
  (with_reducible refine (TU.out _ Wr.h).mono ?_)
  rintro e w1 ⟨rfl, v1, hw, hs⟩
  haveI : Wr w1 g v1 _ := ⟨hw⟩
  haveI : StpW g _ _ v1 w1 := ⟨hs⟩
  haveI : VIn w1 v1 := vIn hw
  haveI : LtN g w1.heap.size := ⟨hw.lt⟩
  clear hw hs
  go_wp2_with fail
  (with_reducible refine (TP.out _ _ _ Wr.h (rdw_u3 _ _ _ _ _ _ _)).mono ?_)
  rintro e w2 ⟨rfl, v2, hw, hs⟩
  haveI : Wr w2 g v2 _ := ⟨hw⟩
  haveI : StpW g _ _ v2 w2 := ⟨hs⟩
  haveI : VIn w2 v2 := vIn hw
  haveI : LtN g w2.heap.size := ⟨hw.lt⟩
  clear hw hs
  go_wp2
  go_end0
  exact ⟨rfl, _, Wr.h, Wst.h⟩
theorem RdW.at4 {w : World} {g : Nat} {v : Value} {A : Option Addr} {n k : Nat} {l : List Hd} (h : RdW w g v 4 A n (hcs l)) (hk : k < n) :
    ∃ b off p, A = some ⟨b, off, none⟩ ∧ b < w.heap.size ∧ b ≠ g ∧ v.ownBlock ≠ some b ∧ l[k]? = some p ∧ w.cell? ⟨b, off + k * 4, none⟩ = some (.int .i64 p.d) ∧ w.cell? ⟨b, off + k * 4 + 1, none⟩ = some (.int .u64 p.c) ∧ w.cell? ⟨b, off + k * 4 + 2, none⟩ = some (.int .u64 p.s) ∧ w.cell? ⟨b, off + k * 4 + 3, none⟩ = some (.int .u64 p.i) := by
  obtain ⟨b, off, hA, hb, hg, hv, hcl⟩ := h.2 (by omega)
  obtain ⟨b', off', p, hA', hb', hp, g1, g2, g3, g4⟩ := h.reads.at4 hk
  rw [hA] at hA'
  injection hA' with e; injection e with e1 e2; subst e1 e2
  exact ⟨b, off, p, hA, hb, hg, hv, hp, g1, g2, g3, g4⟩
theorem flat_len {α : Type} {f : α → List Int} {B : Nat} (hB : ∀ x, (f x).length ≤ B) : ∀ l : List α, (l.flatMap f).length ≤ l.length * B
  | [] => by simp
  | x :: l => by
    rw [List.flatMap_cons, List.length_append, List.length_cons, Nat.succ_mul]
    have := hB x; have := flat_len hB l; omega
theorem hdB_len (x : Hd) : (hdB x).length ≤ 21 := by
  have := uintB_len x.c; have := uintB_len x.s; simp [hdB]; omega
theorem haB_len (x : Hd) : (haB x).length ≤ 31 := by
  have := uintB_len x.c; have := uintB_len x.s; have := uintB_len x.i; simp [haB]; omega
theorem procB1_len (x : Pr) : (procB x).length ≤ 11 := by
  have := procsB_len [x]; simpa [procsB] using this
set_option maxRecDepth 100000 in
set_option maxHeartbeats 4000000 in
theorem listP_s (g m : Nat) (v : Value) (bs : List Int) (A : Option Addr) (c : Nat) (l : List Pr) (w : World) (h : Wtr w g v bs) (hm : BoxAt w m #[.pointer (some ⟨g, 0, none⟩)] 54) (hmg : NeN m g) (hmo : OffW w v m) (hr : RdW w g v 2 A l.length (pcs l)) (hn : bs.length ≤ 100000) (hl : l.length ≤ 255) (hf : ∀ x ∈ l, wfU64 x.2) :
    Calls Tryz.prog 72 #[.pointer (some ⟨g, 0, none⟩), .slice A l.length c, .func (.func 73) #[] #[.pointer (some ⟨m, 0, none⟩)]] w (RetWr g v w (bs ++ ((l.length : Int) :: l.flatMap procB))) := by
  have TU := hide (fun W (h : Wtr W g v bs) => u8_s g v bs (l.length : Int) W h (by omega) (by omega) (by omega))
  have hlm : (l.length : Int) % 256 = (l.length : Int) := by omega
  have HF := hide hf
  have hbl : ∀ k, ((l.take k).flatMap procB).length ≤ 10000 := fun k => by (have h1 := flat_len procB1_len (l.take k); rw [List.length_take] at h1; have h2 : min k l.length ≤ 255 := (by omega); have h3 := Nat.mul_le_mul_right 11 h2; omega)
  haveI := hm
  haveI : Rdw w g v A l.length 2 (pcs l) := ⟨hr⟩
  haveI : Wr w g v bs := ⟨h⟩
  haveI : VIn w v := vIn h
  clear h hr hf
  have HBL := hide hbl
  clear hbl
  go_enter Tryz.func72, Tryz.ntmps72
  go_wp2_with fail
  (with_reducible refine (TU.out _ Wr.h).mono ?_)
  rintro e w1 ⟨rfl, v1, hw, hs⟩
  haveI : Wr w1 g v1 _ := ⟨hw⟩
  haveI : StpW g _ _ v1 w1 := ⟨hs⟩
  haveI : VIn w1 v1 := vIn hw
  haveI : LtN g w1.heap.size := ⟨hw.lt⟩
  clear hw hs
  go_wp2
  go_loopw [15] (fun j wr => ∃ (k : Nat) (vk : Value), k ≤ l.length ∧ j = .int .i64 k ∧ Wtr wr g vk (bs ++ [(l.length : Int)] ++ (l.take k).flatMap procB) ∧ WStep g v w vk wr ∧ BoxAt wr m #[.pointer (some ⟨g, 0, none⟩)] 54 ∧ OffW wr vk m ∧ RdW wr g vk 2 A l.length (pcs l)) (fun j _ => l.length - (intOf j).toNat)
  case atStart => exact ⟨0, v1, Nat.zero_le _, rfl, by rw [List.take_zero, List.flatMap_nil, List.append_nil]; exact Wr.h, Wst.h, inferInstance, inferInstance, Rdw.h⟩
  case round =>
    obtain ⟨k, vk, hk, rfl, hw, hs, hbx, hof, hrd⟩ := hrel
    haveI : Wr wr g vk _ := ⟨hw⟩
    haveI : VIn wr vk := vIn hw
    haveI := hbx
    haveI := hof
    haveI : Rdw wr g vk A l.length 2 (pcs l) := ⟨hrd⟩
    haveI : LtN g wr.heap.size := ⟨hw.lt⟩
    have HS := hide hs
    clear hs hbx hof
    by_cases hlt : k < l.length
    · obtain ⟨b, off, q, hA, hb, hq, g1, g2⟩ := hrd.at2 hlt
      subst hA
      have HQ := hide hq
      haveI : InW b wr := ⟨hb⟩
      have i0 : (0 : Int) ≤ (k : Int) := by omega
      have i1 : (k : Int) < (l.length : Int) := by omega
      have hlen : (bs ++ [(l.length : Int)] ++ (l.take k).flatMap procB).length ≤ 400000 := by
        have := HBL.out k
        simp only [List.length_append, List.length_singleton]; omega
      have TC := hide (fun W (h : Wtr W g vk (bs ++ [(l.length : Int)] ++ (l.take k).flatMap procB)) (hm : BoxAt W m #[.pointer (some ⟨g, 0, none⟩)] 54) (ho : OffW W vk m) => advC_s g m vk _ q.1 q.2 W h hm hmg ho hlen (HF.out q (List.mem_of_getElem? HQ.out)))
      have hsn : Hid ((l.take (k + 1)).flatMap procB = (l.take k).flatMap procB ++ procB q) := hide (by rw [take_succ_of HQ.out]; simp)
      clear hw hrd hq hlen
      go_wp2_with fail
      (with_reducible refine (TC.out _ Wr.h inferInstance inferInstance).mono ?_)
      rintro e w5 ⟨rfl, v5, hw, hs⟩
      haveI : Wr w5 g v5 _ := ⟨hw⟩
      haveI : StpW g _ _ v5 w5 := ⟨hs⟩
      haveI : VIn w5 v5 := vIn hw
      have HW := hide hw
      clear hw hs TC
      go_wp2
      go_roundw
      case rel => exact ⟨k + 1, v5, by omega, by go_num, by rw [hsn.out, ← List.append_assoc]; exact HW.out, HS.out.trans (Wst.h (g := g) (v := vk) (a := wr)), inferInstance, inferInstance, Rdw.h⟩
      case measure => simp [intOf]; omega
    · obtain rfl : k = l.length := by omega
      clear hrd
      have HW := hide hw
      clear hw
      go_wp2
      go_end0
      exact ⟨rfl, vk, by have := HW.out; rw [List.take_length, List.append_assoc] at this; exact this, HS.out⟩
set_option maxRecDepth 100000 in
set_option maxHeartbeats 4000000 in
theorem listD_s (g m : Nat) (v : Value) (bs : List Int) (A : Option Addr) (c : Nat) (l : List Hd) (w : World) (h : Wtr w g v bs) (hm : BoxAt w m #[.pointer (some ⟨g, 0, none⟩)] 54) (hmg : NeN m g) (hmo : OffW w v m) (hr : RdW w g v 4 A l.length (hcs l)) (hn : bs.length ≤ 100000) (hl : l.length ≤ 255) (hf : ∀ x ∈ l, HdF x) :
    Calls Tryz.prog 75 #[.pointer (some ⟨g, 0, none⟩), .slice A l.length c, .func (.func 76) #[] #[.pointer (some ⟨m, 0, none⟩)]] w (RetWr g v w (bs ++ ((l.length : Int) :: l.flatMap hdB))) := by
  have TU := hide (fun W (h : Wtr W g v bs) => u8_s g v bs (l.length : Int) W h (by omega) (by omega) (by omega))
  have hlm : (l.length : Int) % 256 = (l.length : Int) := by omega
  have HF := hide hf
  have hbl : ∀ k, ((l.take k).flatMap hdB).length ≤ 10000 := fun k => by (have h1 := flat_len hdB_len (l.take k); rw [List.length_take] at h1; have h2 : min k l.length ≤ 255 := (by omega); have h3 := Nat.mul_le_mul_right 21 h2; omega)
  haveI := hm
  haveI : Rdw w g v A l.length 4 (hcs l) := ⟨hr⟩
  haveI : Wr w g v bs := ⟨h⟩
  haveI : VIn w v := vIn h
  clear h hr hf
  have HBL := hide hbl
  clear hbl
  go_enter Tryz.func75, Tryz.ntmps75
  go_wp2_with fail
  (with_reducible refine (TU.out _ Wr.h).mono ?_)
  rintro e w1 ⟨rfl, v1, hw, hs⟩
  haveI : Wr w1 g v1 _ := ⟨hw⟩
  haveI : StpW g _ _ v1 w1 := ⟨hs⟩
  haveI : VIn w1 v1 := vIn hw
  haveI : LtN g w1.heap.size := ⟨hw.lt⟩
  clear hw hs
  go_wp2
  go_loopw [15] (fun j wr => ∃ (k : Nat) (vk : Value), k ≤ l.length ∧ j = .int .i64 k ∧ Wtr wr g vk (bs ++ [(l.length : Int)] ++ (l.take k).flatMap hdB) ∧ WStep g v w vk wr ∧ BoxAt wr m #[.pointer (some ⟨g, 0, none⟩)] 54 ∧ OffW wr vk m ∧ RdW wr g vk 4 A l.length (hcs l)) (fun j _ => l.length - (intOf j).toNat)
  case atStart => exact ⟨0, v1, Nat.zero_le _, rfl, by rw [List.take_zero, List.flatMap_nil, List.append_nil]; exact Wr.h, Wst.h, inferInstance, inferInstance, Rdw.h⟩
  case round =>
    obtain ⟨k, vk, hk, rfl, hw, hs, hbx, hof, hrd⟩ := hrel
    haveI : Wr wr g vk _ := ⟨hw⟩
    haveI : VIn wr vk := vIn hw
    haveI := hbx
    haveI := hof
    haveI : Rdw wr g vk A l.length 4 (hcs l) := ⟨hrd⟩
    haveI : LtN g wr.heap.size := ⟨hw.lt⟩
    have HS := hide hs
    clear hs hbx hof
    by_cases hlt : k < l.length
    · obtain ⟨b, off, q, hA, hb, hg, hv, hq, g1, g2, g3, g4⟩ := hrd.at4 hlt
      subst hA
      have HQ := hide hq
      haveI : InW b wr := ⟨hb⟩
      have i0 : (0 : Int) ≤ (k : Int) := by omega
      have i1 : (k : Int) < (l.length : Int) := by omega
      have hlen : (bs ++ [(l.length : Int)] ++ (l.take k).flatMap hdB).length ≤ 400000 := by
        have := HBL.out k
        simp only [List.length_append, List.length_singleton]; omega
      have TC := hide (fun W (h : Wtr W g vk (bs ++ [(l.length : Int)] ++ (l.take k).flatMap hdB)) (hm : BoxAt W m #[.pointer (some ⟨g, 0, none⟩)] 54) (ho : OffW W vk m) => datC_s g m vk _ q W h hm hmg ho hlen (HF.out q (List.mem_of_getElem? HQ.out)))
      have hsn : Hid ((l.take (k + 1)).flatMap hdB = (l.take k).flatMap hdB ++ hdB q) := hide (by rw [take_succ_of HQ.out]; simp)
      clear hw hrd hq hlen
      go_wp2_with fail
      (with_reducible refine (TC.out _ Wr.h inferInstance inferInstance).mono ?_)
      rintro e w5 ⟨rfl, v5, hw, hs⟩
      haveI : Wr w5 g v5 _ := ⟨hw⟩
      haveI : StpW g _ _ v5 w5 := ⟨hs⟩
      haveI : VIn w5 v5 := vIn hw
      have HW := hide hw
      clear hw hs TC
      go_wp2
      go_roundw
      case rel => exact ⟨k + 1, v5, by omega, by go_num, by rw [hsn.out, ← List.append_assoc]; exact HW.out, HS.out.trans (Wst.h (g := g) (v := vk) (a := wr)), inferInstance, inferInstance, Rdw.h⟩
      case measure => simp [intOf]; omega
    · obtain rfl : k = l.length := by omega
      clear hrd
      have HW := hide hw
      clear hw
      go_wp2
      go_end0
      exact ⟨rfl, vk, by have := HW.out; rw [List.take_length, List.append_assoc] at this; exact this, HS.out⟩
set_option maxRecDepth 100000 in
set_option maxHeartbeats 4000000 in
theorem listA_s (g m : Nat) (v : Value) (bs : List Int) (A : Option Addr) (c : Nat) (l : List Hd) (w : World) (h : Wtr w g v bs) (hm : BoxAt w m #[.pointer (some ⟨g, 0, none⟩)] 54) (hmg : NeN m g) (hmo : OffW w v m) (hr : RdW w g v 4 A l.length (hcs l)) (hn : bs.length ≤ 100000) (hl : l.length ≤ 255) (hf : ∀ x ∈ l, HdF x) :
    Calls Tryz.prog 75 #[.pointer (some ⟨g, 0, none⟩), .slice A l.length c, .func (.func 79) #[] #[.pointer (some ⟨m, 0, none⟩)]] w (RetWr g v w (bs ++ ((l.length : Int) :: l.flatMap haB))) := by
  have TU := hide (fun W (h : Wtr W g v bs) => u8_s g v bs (l.length : Int) W h (by omega) (by omega) (by omega))
  have hlm : (l.length : Int) % 256 = (l.length : Int) := by omega
  have HF := hide hf
  have hbl : ∀ k, ((l.take k).flatMap haB).length ≤ 10000 := fun k => by (have h1 := flat_len haB_len (l.take k); rw [List.length_take] at h1; have h2 : min k l.length ≤ 255 := (by omega); have h3 := Nat.mul_le_mul_right 31 h2; omega)
  haveI := hm
  haveI : Rdw w g v A l.length 4 (hcs l) := ⟨hr⟩
  haveI : Wr w g v bs := ⟨h⟩
  haveI : VIn w v := vIn h
  clear h hr hf
  have HBL := hide hbl
  clear hbl
  go_enter Tryz.func75, Tryz.ntmps75
  go_wp2_with fail
  (with_reducible refine (TU.out _ Wr.h).mono ?_)
  rintro e w1 ⟨rfl, v1, hw, hs⟩
  haveI : Wr w1 g v1 _ := ⟨hw⟩
  haveI : StpW g _ _ v1 w1 := ⟨hs⟩
  haveI : VIn w1 v1 := vIn hw
  haveI : LtN g w1.heap.size := ⟨hw.lt⟩
  clear hw hs
  go_wp2
  go_loopw [15] (fun j wr => ∃ (k : Nat) (vk : Value), k ≤ l.length ∧ j = .int .i64 k ∧ Wtr wr g vk (bs ++ [(l.length : Int)] ++ (l.take k).flatMap haB) ∧ WStep g v w vk wr ∧ BoxAt wr m #[.pointer (some ⟨g, 0, none⟩)] 54 ∧ OffW wr vk m ∧ RdW wr g vk 4 A l.length (hcs l)) (fun j _ => l.length - (intOf j).toNat)
  case atStart => exact ⟨0, v1, Nat.zero_le _, rfl, by rw [List.take_zero, List.flatMap_nil, List.append_nil]; exact Wr.h, Wst.h, inferInstance, inferInstance, Rdw.h⟩
  case round =>
    obtain ⟨k, vk, hk, rfl, hw, hs, hbx, hof, hrd⟩ := hrel
    haveI : Wr wr g vk _ := ⟨hw⟩
    haveI : VIn wr vk := vIn hw
    haveI := hbx
    haveI := hof
    haveI : Rdw wr g vk A l.length 4 (hcs l) := ⟨hrd⟩
    haveI : LtN g wr.heap.size := ⟨hw.lt⟩
    have HS := hide hs
    clear hs hbx hof
    by_cases hlt : k < l.length
    · obtain ⟨b, off, q, hA, hb, hg, hv, hq, g1, g2, g3, g4⟩ := hrd.at4 hlt
      subst hA
      have HQ := hide hq
      haveI : InW b wr := ⟨hb⟩
      have i0 : (0 : Int) ≤ (k : Int) := by omega
      have i1 : (k : Int) < (l.length : Int) := by omega
      have hlen : (bs ++ [(l.length : Int)] ++ (l.take k).flatMap haB).length ≤ 400000 := by
        have := HBL.out k
        simp only [List.length_append, List.length_singleton]; omega
      have TC := hide (fun W (h : Wtr W g vk (bs ++ [(l.length : Int)] ++ (l.take k).flatMap haB)) (hm : BoxAt W m #[.pointer (some ⟨g, 0, none⟩)] 54) (ho : OffW W vk m) => ackC_s g m vk _ q W h hm hmg ho hlen (HF.out q (List.mem_of_getElem? HQ.out)))
      have hsn : Hid ((l.take (k + 1)).flatMap haB = (l.take k).flatMap haB ++ haB q) := hide (by rw [take_succ_of HQ.out]; simp)
      clear hw hrd hq hlen
      go_wp2_with fail
      (with_reducible refine (TC.out _ Wr.h inferInstance inferInstance).mono ?_)
      rintro e w5 ⟨rfl, v5, hw, hs⟩
      haveI : Wr w5 g v5 _ := ⟨hw⟩
      haveI : StpW g _ _ v5 w5 := ⟨hs⟩
      haveI : VIn w5 v5 := vIn hw
      have HW := hide hw
      clear hw hs TC
      go_wp2
      go_roundw
      case rel => exact ⟨k + 1, v5, by omega, by go_num, by rw [hsn.out, ← List.append_assoc]; exact HW.out, HS.out.trans (Wst.h (g := g) (v := vk) (a := wr)), inferInstance, inferInstance, Rdw.h⟩
      case measure => simp [intOf]; omega
    · obtain rfl : k = l.length := by omega
      clear hrd
      have HW := hide hw
      clear hw
      go_wp2
      go_end0
      exact ⟨rfl, vk, by have := HW.out; rw [List.take_length, List.append_assoc] at this; exact this, HS.out⟩
end Go.Proofs.YtggmninbpnolgaaGreat
