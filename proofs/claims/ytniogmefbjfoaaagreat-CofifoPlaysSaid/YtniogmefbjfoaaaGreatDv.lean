/-
  Layer 16: contracts: window.Due, and what it goes over.
-/
import Derived.Test.YtniogmefbjfoaaaGreatRg
import Derived.RangeFuncBox
import Derived.RangeFuncLeaves
import Derived.Shelf.RegionOpen
import Derived.OwnWalkIn
import Derived.TacticsInMore
import Derived.LoopNIn
import Derived.LoopIn
namespace Go.Proofs.YtniogmefbjfoaaaGreat
set_option linter.unusedSimpArgs false
set_option linter.unusedVariables false
set_option linter.unusedSectionVars false
open Go.RowKit Go.Shelf

/-- what Due hands over: the number and a copy of the body -/
abbrev encD (x : Int × Bd) : Array Value := #[.int .u64 x.1, .slice x.2.A x.2.bs.length x.2.c]
/-- what is known of it -/
structure RkD (lo : Nat) (ba : Int) (L : List (List Int)) (k : Nat) (x : Int × Bd) (W : World) : Prop where
  s : x.1 = ba + 1 + k
  b : x.2.bs = L.getD k []
  r : BdP lo W [] x.2
def RetDue (w : World) (ba : Int) (A : Option Addr) (n c : Nat) (L : List (List Int)) (e : Ending) (w' : World) : Prop :=
  ∃ A' c' ds, e = .returned (.func (.func 82) #[] #[.pointer (some ⟨w.heap.size + 1, 0, none⟩), .pointer (some ⟨w.heap.size, 0, none⟩)]) ∧ BoxAt w' (w.heap.size + 1) #[.slice A' ds.length c'] 66 ∧ BoxAt w' w.heap.size #[.int .u64 ba, .slice A n c] 68 ∧ ds.map Bd.bs = L ∧ BdsN w' w.heap.size A' ds ∧ Below w.heap.size w w'
theorem BdsR.take {W : World} {A : Option Addr} {k : Nat} {ds : List Bd} (h : BdsR W A ds) (hk : k ≤ ds.length) : BdsR W A (ds.take k) :=
  ⟨by
    have := h.r.head hk
    rw [bdcs, flat_take bdc_len] at this
    rw [List.length_take, Nat.min_eq_left hk]
    exact this, fun d hd => h.b d (List.mem_of_mem_take hd)⟩
set_option maxRecDepth 100000 in
set_option maxHeartbeats 4000000 in
theorem due_w (ba : Int) (A : Option Addr) (c : Nat) (ds : List Bd) (w : World) (h : BdsR w A ds) (hl : ds.length ≤ 48) (hb0 : 0 ≤ ba) (hb : ba + ds.length ≤ 34359738367) (ho : ∀ d ∈ ds, 1 ≤ d.bs.length ∧ d.bs.length ≤ 320) (hcap : ds.length ≤ c) :
    Calls Tryz.prog 63 #[sndV ba A ds.length c] w (RetDue w ba A ds.length c ((ds.map Bd.bs).take (min ds.length 8))) := by
  obtain ⟨q, hq⟩ : ∃ q, q = min ds.length 8 := ⟨_, rfl⟩
  have hq1 : q ≤ ds.length := by omega
  have TM := hide (fun W (h : BdsR W A ds) => wmay_s ba A c ds W h hl hb0 hb ho)
  have TC : Hid (∀ W cc, BdsR W A (ds.take q) → Calls Tryz.prog 55 #[.slice A q cc] W fun e w' => ∃ v ds', e = .returned v ∧ ds'.map Bd.bs = (ds.take q).map Bd.bs ∧ BdG W.heap.size w' v ds' ∧ Below W.heap.size W w') := hide (fun W cc (h : BdsR W A (ds.take q)) => by
    have := copied_s A cc (ds.take q) W h (by rw [List.length_take]; omega) (fun d hd => by have := ho d (List.mem_of_mem_take hd); omega)
    rw [List.length_take, Nat.min_eq_left hq1] at this
    exact this)
  have TD := hide (fun W => wdue_s ba A ds.length c W hl)
  have HD := hide h
  rw [← hq] at TD ⊢
  have i0 : (0 : Int) ≤ (q : Int) := by omega
  have i1 : (q : Int) ≤ (ds.length : Int) := by omega
  have m0 : q ≤ c := by omega
  have m1 : (q : Int) ≤ (c : Int) := by omega
  clear h ho hq
  go_enter Tryz.func63, Tryz.ntmps63
  go_upto_region 3 with (go_at_call 54; (with_reducible refine (TM.out _ (HD.out.step blw)).mono ?_); rintro e w1 ⟨rfl, hb1⟩; haveI : Stp _ w1 := ⟨hb1⟩; clear hb1)
  go_region_held3 (fun w' => w'.cell? ⟨w.heap.size, 0, none⟩ = some (.int .u64 ba) ∧ w'.cell? ⟨w.heap.size, 1, none⟩ = some (.slice A ds.length c)) ((refine ⟨?_, ?_⟩ <;> (rw [cell?_box]; rfl)))
    (first
      | (go_at_call 81; (with_reducible refine (TD.out _).mono ?_); rintro e w2 ⟨rfl, hb2⟩; haveI : Stp _ w2 := ⟨hb2⟩; clear hb2)
      | (go_at_call 55; (with_reducible refine (TC.out _ _ ((HD.out.take hq1).step blw)).mono ?_); rintro e w3 ⟨v3, ds3, rfl, hm3, hg3, hb3⟩; haveI : Stp _ w3 := ⟨hb3⟩; have z3 : w.heap.size + 1 < w3.heap.size := BoxAt.lt (w := w3) (n := w.heap.size + 1) inferInstance; obtain ⟨A3, c3, rfl, _, _⟩ := own_slice hg3.row; have HM := hide hm3; have HG := hide (hg3.lo (lo := w.heap.size + 1 + 1) (BoxAt.lt (n := w.heap.size + 1) inferInstance)); clear hg3 hm3 hb3)
      | fail)
  all_goals
    go_wp2
    go_ret
    refine ⟨A3, c3, ds3, rfl, inferInstance, inferInstance, ?_, ?_, blw⟩
    · rw [HM.out, List.map_take]
    · have HN := hide HG.out.new
      exact (BdsN.gr HN.out (Trc.h (C := [w.heap.size + 1]) (a := w3)).g (by simp)).lo (by omega)
end Go.Proofs.YtniogmefbjfoaaaGreat

namespace Go.Proofs.YtniogmefbjfoaaaGreat
set_option linter.unusedSimpArgs false
set_option linter.unusedVariables false
set_option linter.unusedSectionVars false
open Go.RowKit Go.Shelf

attribute [local go_sem] Oper.semAt_some
set_option maxRecDepth 100000 in
set_option maxHeartbeats 4000000 in
theorem due1_in (n l D g1 g3 lo : Nat) (ba : Int) (A : Option Addr) (c : Nat) (V : Value) (ds : List Bd) (J : Nat → World → Prop) (hb0 : 0 ≤ ba) (hbm : ba ≤ 34359738367) (hl : ds.length ≤ 8) (ho : ∀ d ∈ ds, d.bs.length ≤ 1000000)
    (hJb : ∀ k W W', J k W → Below W.heap.size W W' → J k W') (hJm : ∀ k W, J k W → BoxAt W g3 #[.slice A ds.length c] 66 ∧ BoxAt W g1 #[.int .u64 ba, V] 68 ∧ BdsR W A ds ∧ lo ≤ W.heap.size)
    (W : World) (hD : D < W.heap.size) (hll : l < W.heap.size)
    (hY : ∀ k x W1, k < ds.length → J k W1 → RkD lo ba (ds.map Bd.bs) k x W1 → W1.heap[D]? = W.heap[D]? → W1.heap[l]? = W.heap[l]? → YieldAt Fence.wide (n - 1) Tryz.prog l (encD x) W1 fun e W' => e = .returned (.bool true) ∧ J (k + 1) W' ∧ W'.heap[D]? = W.heap[D]? ∧ W'.heap[l]? = W.heap[l]?)
    (h0 : J 0 W) :
    CallsIn Fence.wide n Tryz.prog 82 #[.func (.yield l) #[] #[], .pointer (some ⟨g3, 0, none⟩), .pointer (some ⟨g1, 0, none⟩)] W fun e W' => (∃ v, e = .returned v) ∧ J ds.length W' ∧ W'.heap[D]? = W.heap[D]? ∧ W'.heap[l]? = W.heap[l]? := by
  have hnf : ∀ W, Sem.run Tryz.prog (binOp BinOp.eql 132 (.func (.yield l) #[] #[]) .nilFunc) W = .ok (.bool false) W := fun W => by first | rfl | (simp [go_sem]; done) | kernel_rfl
  have hmix : Tryz.prog.follows .mixedOrders = true := by kernel_rfl
  have HY := hide hY
  have HJM := hide hJm
  have HJB := hide hJb
  have HO := hide ho
  haveI hB3 := (hJm 0 W h0).1
  haveI hB1 := (hJm 0 W h0).2.1
  have H0 := hide h0
  clear hY hJm hJb ho h0
  refine callsIn_of_wp Tryz.func82 rfl trivial ?_ rfl
  simp only [Tryz.ntmps82, List.size_toArray, List.length_cons, List.length_nil, Nat.reduceAdd, Nat.reduceSub, Array.replicate_succ, Array.replicate_zero, List.push_toArray, List.append_toArray, List.nil_append, List.cons_append]
  gi_wp2
  gi_loopw [10] (fun i wr => ∃ k : Nat, k ≤ ds.length ∧ i = .int .i64 k ∧ J k wr ∧ wr.heap[D]? = W.heap[D]? ∧ wr.heap[l]? = W.heap[l]?)
    (fun i _ => ds.length - (intOf i).toNat)
  case atStart => exact ⟨0, Nat.zero_le _, rfl, H0.out, rfl, rfl⟩
  case round =>
    obtain ⟨k, hk, rfl, hJ, hwd, hwl⟩ := hrel
    have HJ := hide hJ
    have HWD := hide hwd
    have HWL := hide hwl
    clear hJ hwd hwl
    by_cases hlt : k < ds.length
    · have HM := hide (HJM.out k wr HJ.out)
      haveI := HM.out.1
      haveI := HM.out.2.1
      obtain ⟨b, off, p, hA, hb, hp, g⟩ := HM.out.2.2.1.r.atBd hlt
      subst hA
      haveI : CellAt wr b (off + k) (.slice p.A p.bs.length p.c) := ⟨hb, g⟩
      have hpm := List.mem_of_getElem? hp
      haveI : Src wr p.A p.bs.length 1 (bcs p.bs) := ⟨HM.out.2.2.1.b p hpm⟩
      have hpl := HO.out p hpm
      have HG := hide (show p.bs = (ds.map Bd.bs).getD k [] by simp [List.getD, hp])
      have HLO := hide HM.out.2.2.2
      have i0 : (0 : Int) ≤ (k : Int) := by omega
      have i1 : (k : Int) < (ds.length : Int) := by omega
      have i2 : (k : Int) < 8 := by omega
      have hDr : Hid (D < wr.heap.size) := hide (by have := HWD.out; rw [Array.getElem?_eq_getElem hD] at this; exact (Array.getElem?_eq_some_iff.1 this).1)
      have hlr : Hid (l < wr.heap.size) := hide (by have := HWL.out; rw [Array.getElem?_eq_getElem hll] at this; exact (Array.getElem?_eq_some_iff.1 this).1)
      clear hp hb g hpm
      gi_wp2
      have hwr : Hid (IntKind.u64.wrap (IntKind.u64.wrap (ba + 1) + IntKind.u64.wrap (k : Int)) = ba + 1 + k) := hide (by rw [IntWalk.u64_in (ba + 1) (by omega), IntWalk.u64_in (k : Int) (by omega), IntWalk.u64_in _ (by omega)])
      gi_region_with_o (first
        | (refine ⟨trivial, fun h0 => (by cases h0), ?_⟩; refine (callsIn_wide.2 (cloneB_s p.A p.c p.bs _ src hpl)).mono ?_; rintro e w1 ⟨v1, rfl, ho1, hb1⟩; haveI : Stp _ w1 := ⟨hb1⟩; obtain ⟨A1, c1, rfl, _, _⟩ := own_slice ho1; have hbw : Below wr.heap.size wr w1 := blw; obtain ⟨fn, tmps, assign, body, hy, hR⟩ := HY.out k ⟨IntKind.u64.wrap (IntKind.u64.wrap (ba + 1) + IntKind.u64.wrap (k : Int)), ⟨A1, c1, p.bs⟩⟩ w1 hlt (HJB.out k wr w1 HJ.out hbw) ⟨hwr.out, HG.out, BdP.own ho1 (fun _ h => by cases h) lo (Nat.le_trans HLO.out (Blw.size (a := wr) inferInstance))⟩ ((hbw.block _ hDr.out).trans HWD.out) ((hbw.block _ hlr.out).trans HWL.out); dsimp only [encD] at hy; clear ho1 hb1 hbw)
        | (refine ⟨fun h0 => (by cases h0), ?_⟩; refine hR.mono ?_; rintro e w3 ⟨rfl, hJ3, hD3, hl3⟩)
        | fail)
      all_goals
        gi_wp2
        go_roundw
        case rel => exact ⟨k + 1, by omega, by go_num, hJ3, hD3, hl3⟩
        case measure => simp [intOf]; omega
    · obtain rfl : k = ds.length := by omega
      gi_wp2
      go_end0
      exact ⟨⟨_, rfl⟩, HJ.out, HWD.out, HWL.out⟩
end Go.Proofs.YtniogmefbjfoaaaGreat
