/-
  Layer 14: the law FanSplits: true for every input (the walk).
-/
import Derived.Test.YthkkadbgggaenaaFan12
namespace Go.Proofs.Ythkkadbgggaenaa
set_option linter.unusedSimpArgs false
set_option linter.unusedVariables false
set_option linter.unusedSectionVars false
open Go.RowKit

theorem FanW.set4 {W : World} {B c : Nat} {A : Option Addr} {F : List (Int × List Hd)} {g : Nat} {cur : Array Value} (h : FanW W B A c F) (hb : BoxAt W g cur 29) (i1 i2 i3 i4 : Nat) (v1 v2 v3 v4 : Value) : FanW ((((W.setCell ⟨g, i1, none⟩ v1).setCell ⟨g, i2, none⟩ v2).setCell ⟨g, i3, none⟩ v3).setCell ⟨g, i4, none⟩ v4) B A c F := by
  have b1 := @BoxAt.setAt W g i1 v1 cur _ hb
  have b2 := @BoxAt.setAt _ g i2 v2 _ _ b1
  have b3 := @BoxAt.setAt _ g i3 v3 _ _ b2
  exact (((h.set hb i1 v1).set b1 i2 v2).set b2 i3 v3).set b3 i4 v4
theorem below_set4 {B g : Nat} {a W : World} (h : Below B a W) (hg : B ≤ g) (i1 i2 i3 i4 : Nat) (v1 v2 v3 v4 : Value) : Below B a ((((W.setCell ⟨g, i1, none⟩ v1).setCell ⟨g, i2, none⟩ v2).setCell ⟨g, i3, none⟩ v3).setCell ⟨g, i4, none⟩ v4) :=
  (((h.setCell (p := ⟨g, i1, none⟩) hg v1).setCell (p := ⟨g, i2, none⟩) hg v2).setCell (p := ⟨g, i3, none⟩) hg v3).setCell (p := ⟨g, i4, none⟩) hg v4
set_option maxRecDepth 100000 in
set_option maxHeartbeats 8000000 in
theorem fanSplitsY (A : Option Addr) (c : Nat) (hs : List Hd) (YA : Option Addr) (yc : Nat) (ws : List Wy) (w : World) (h : Reads w w.heap.size 4 A hs.length (hcs hs)) (h' : Reads w w.heap.size 3 YA ws.length (wcs ws)) (hl : hs.length ≤ 300) (hwl : ws.length ≤ 300) (hwf : ∀ y ∈ ws, wfI y.h) :
    Calls Try.prog 3 #[.slice A hs.length c, .slice YA ws.length yc] w (RetB w true) := by
  have TA := hide (fun W => awake14_t W)
  have TR := hide (fun A c W (h : Reads W W.heap.size 4 A hs.length (hcs hs)) (h' : Reads W W.heap.size 3 YA ws.length (wcs ws)) => rsplit_s A c hs YA yc ws W h h' (by omega) (by omega))
  have TH := hide (fun A c B d W (h : Reads W W.heap.size 4 A hs.length (hcs hs)) (h' : Reads W W.heap.size 4 B hs.length (hcs hs)) => sameH_s A c hs B d hs W h h' (by omega) (by omega))
  have TN := hide (fun A n c W => split_nil A n c W)
  have HFL : Hid ((splitL (askL ws) hs).length ≤ 300 ∧ ∀ f ∈ splitL (askL ws) hs, f.2.length ≤ 300) := hide ⟨by rw [splitL, List.length_map]; exact Nat.le_trans (keysL_len _ _) hl, fun f hf => by
    obtain ⟨k, _, rfl⟩ := List.mem_map.1 hf
    exact Nat.le_trans (List.length_filter_le _ _) hl⟩
  have TF := hide (fun A c B d W (h : FanR W A (splitL (askL ws) hs)) (h' : FanR W B (splitL (askL ws) hs)) => sameF_s A c (splitL (askL ws) hs) B d (splitL (askL ws) hs) W h h' (by have := HFL.out.1; omega) (by have := HFL.out.1; omega) (fun f hf => by have := HFL.out.2 f hf; omega) (fun f hf => by have := HFL.out.2 f hf; omega))
  simp only [decide_true] at TH TF
  have HWF := hide hwf
  have l1 : decide ((300 : Int) < (hs.length : Int)) = false := decide_eq_false (by omega)
  have l2 : decide ((300 : Int) < (ws.length : Int)) = false := decide_eq_false (by omega)
  have l3 : decide (300 < hs.length) = false := decide_eq_false (by omega)
  have l4 : decide (300 < ws.length) = false := decide_eq_false (by omega)
  have HY := hide h'
  haveI : Src w A hs.length 4 (hcs hs) := ⟨h⟩
  haveI : Src w YA ws.length 3 (wcs ws) := ⟨h'⟩
  clear h h' hwf
  go_enter Try.func3, Try.ntmps3
  go_wp2_with (at_builtin; refine wpList_append_w Try.okHd rfl (.tmp 20) (.tmp 21) rfl (w.heap.size + 1) (.slice (some ⟨w.heap.size + 1, 0, none⟩) 0 0) 0 [] hs.length (hcs hs) ?_ ?_ ?_ ?_ ?_ ?_ ?_ ?_; go_must ((focus (first | rfl | (simp [Act.eval, Act.put]; done))); (focus (exact own_emH _ (w.heap.size + 1) (by simp))); (focus (refine ⟨_, _, rfl, ?_⟩; exact src)); (focus (exact hc_one _)); (focus (unfold maxLen; omega)); (focus omega); (focus (first | omega | (simp; done) | (simp; omega) | exact BoxAt.lt (n := w.heap.size) inferInstance)); intro v1 w1 ho1 hg1; rw [Nat.zero_add, List.nil_append] at ho1; haveI : StpB (w.heap.size + 1) _ w1 := ⟨grown_belowT hg1 (by simp) (fun k hk => by have e : w.heap.size + 1 = k := Option.some.inj hk; omega)⟩; obtain ⟨A1, c1, rfl, _, _⟩ := own_slice ho1; have O1 := hide ho1; clear ho1 hg1))
  have z1 : w.heap.size < w1.heap.size := BoxAt.lt (n := w.heap.size) inferInstance
  obtain ⟨W0, hW⟩ : ∃ W, W = (((w1.alloc (.cells #[.slice A1 hs.length c1] 22)).alloc (.cells #[.int .i64 0] 3)).alloc (.cells #[.bool true] 4)) := ⟨_, rfl⟩
  rw [← hW]
  have hb01 : Below w1.heap.size w1 W0 := by rw [hW]; exact blw
  haveI : Stp w1 W0 := ⟨hb01⟩
  have hz0 : W0.heap.size = w1.heap.size + 1 + 1 + 1 := by rw [hW]; simp
  have k5 : BoxAt W0 w1.heap.size #[.slice A1 hs.length c1] 22 := by rw [hW]; infer_instance
  have k6 : BoxAt W0 (w1.heap.size + 1) #[.int .i64 0] 3 := by rw [hW]; infer_instance
  have k7 : BoxAt W0 (w1.heap.size + 1 + 1) #[.bool true] 4 := by rw [hW]; infer_instance
  have k3 : BoxAt W0 w.heap.size #[.slice YA ws.length yc] 23 := inferInstance
  have HBW := hide (show Below w.heap.size w W0 from blw)
  have S0 : Sk (w1.heap.size + 1 + 1) (w1.heap.size + 1) w1.heap.size w.heap.size A1 c1 hs YA yc ws 0 W0 := ⟨k7, k6, k5, k3, (Reads.of_own O1.out).below hb01, HY.out.below HBW.out⟩
  have HS0 := hide S0
  clear S0 k3 k5 k6 k7 hW
  refine (split_s 13 #[.pointer (some ⟨w1.heap.size + 1 + 1, 0, none⟩), .pointer (some ⟨w1.heap.size + 1, 0, none⟩), .pointer (some ⟨w1.heap.size, 0, none⟩), .pointer (some ⟨w.heap.size, 0, none⟩)] [w1.heap.size + 1 + 1, w1.heap.size + 1] hs (askL ws) (fun k W => Sk (w1.heap.size + 1 + 1) (w1.heap.size + 1) w1.heap.size w.heap.size A1 c1 hs YA yc ws k W) A c W0 src (by omega) (fun x _ => ask_wf HWF.out x.d) (by intro i hi; simp at hi; omega) (fun k X W hX he _ => hX.keep he (by omega) (by omega) (by omega) (by omega)) (fun k x W hk hI _ => fcall1_s _ _ _ _ A1 c1 hs YA yc ws k x W hI hk (by omega) (by omega) z1 (by omega) (by omega)) HS0.out (enters_of Try.func13 (by kernel_rfl) rfl)).mono ?_
  rintro e w2 ⟨v2, rfl, hF, hI, hG⟩
  generalize splitL (askL ws) hs = F at TR TF HFL hF
  obtain ⟨A2, c2, rfl⟩ : ∃ A2 c2, v2 = .slice A2 F.length c2 := by
    obtain ⟨X, _, q2, _⟩ := hF
    obtain ⟨A2, c2, e2, _, _⟩ := own_slice q2
    exact ⟨A2, c2, e2⟩
  have HW2 := hide hF.write
  have HR2 := hide hF.read
  have HI2 := hide hI
  have zg := hG.size
  haveI := hI.o
  haveI := hI.n
  haveI := hI.w
  haveI := hI.y
  haveI : Blw w w2 := ⟨HBW.out.trans (hG.below (by omega) (by intro i hi; simp at hi; omega))⟩
  haveI : LtN w1.heap.size W0.heap.size := ⟨by omega⟩
  haveI : LeN w.heap.size W0.heap.size := ⟨by omega⟩
  have hfl := HFL.out.1
  clear hF hI hG HS0 O1
  go_wp2_with fail
  (with_reducible refine (TR.out A1 c1 _ (HI2.out.hh.more (by omega)) src).mono ?_)
  rintro e w3 ⟨v3, rfl, hF3, hb3⟩
  haveI : Stp _ w3 := ⟨hb3⟩
  obtain ⟨A3, c3, rfl⟩ : ∃ A2 c2, v3 = .slice A2 F.length c2 := by
    obtain ⟨X, _, q2, _⟩ := hF3
    obtain ⟨A2, c2, e2, _, _⟩ := own_slice q2
    exact ⟨A2, c2, e2⟩
  have HR3 := hide hF3.read
  clear hF3 hb3 TR
  go_wp2_with fail
  (with_reducible refine (TF.out A2 c2 A3 c3 _ HR2.out.tc HR3.out.tc).mono ?_)
  rintro e w4 ⟨rfl, hb4⟩
  haveI : Stp _ w4 := ⟨hb4⟩
  have HB24 := hide (show Below w2.heap.size w2 w4 from blw)
  have z24 := HB24.out.size
  have HW4 := hide (HW2.out.below HB24.out)
  clear hb4 TF HW2 HR2 HR3
  go_wp2_with fail
  go_loopw [9] (fun j wr => ∃ m : Nat, m ≤ F.length ∧ j = .int .i64 m ∧ FanW wr W0.heap.size A2 c2 F ∧ Below W0.heap.size w4 wr) (fun j _ => F.length - (intOf j).toNat)
  case atStart => exact ⟨0, Nat.zero_le _, rfl, HW4.out, Below.refl _ _⟩
  case round =>
    obtain ⟨m, hm, rfl, hFW, hB⟩ := hrel
    have HFW := hide hFW
    have HB := hide hB
    clear hFW hB
    by_cases hlt : m < F.length
    · have i0 : (0 : Int) ≤ (m : Int) := by omega
      have i1 : (m : Int) < (F.length : Int) := by omega
      go_wp2_with fail
      go_loopw [10] (fun j wr => ∃ k : Nat, j = .int .i64 k ∧ k ≤ 300 ∧ FanW wr W0.heap.size A2 c2 F ∧ Below W0.heap.size w4 wr) (fun j _ => 301 - (intOf j).toNat)
      case atStart => exact ⟨0, rfl, by omega, HFW.out, HB.out⟩
      case round =>
        obtain ⟨k, rfl, hk3, hFW2, hB2⟩ := hrel
        obtain ⟨b, off, f, A7, c7, rfl, hb, hf, g1, hcell⟩ := hFW2.at hlt
        have HFW2 := hide hFW2
        have HB2 := hide hB2
        have hf3 := HFL.out.2 f (List.mem_of_getElem? hf)
        haveI : InW b wr := ⟨hb⟩
        clear hFW2 hB2 hf
        by_cases hlk : k < f.2.length
        · obtain ⟨g, cur, rfl, hg, hbx, hsz⟩ := hcell (by omega)
          haveI := hbx
          have HBX := hide hbx
          have j0 : (0 : Int) ≤ (k : Int) := by omega
          have j1 : (k : Int) < (f.2.length : Int) := by omega
          clear hcell
          obtain ⟨x0, d0⟩ : ∃ x, cur[k * 4]? = some x := ⟨_, Array.getElem?_eq_getElem (by omega)⟩
          obtain ⟨x1, d1⟩ : ∃ x, cur[k * 4 + 1]? = some x := ⟨_, Array.getElem?_eq_getElem (by omega)⟩
          obtain ⟨x2, d2⟩ : ∃ x, cur[k * 4 + 2]? = some x := ⟨_, Array.getElem?_eq_getElem (by omega)⟩
          obtain ⟨x3, d3⟩ : ∃ x, cur[k * 4 + 3]? = some x := ⟨_, Array.getElem?_eq_getElem (by omega)⟩
          have e01 : ∀ (A : Array Value) (v : Value), (A.setIfInBounds (k * 4) v)[k * 4 + 1]? = A[k * 4 + 1]? := fun A v => Array.getElem?_setIfInBounds_ne (by omega)
          have e02 : ∀ (A : Array Value) (v : Value), (A.setIfInBounds (k * 4) v)[k * 4 + 2]? = A[k * 4 + 2]? := fun A v => Array.getElem?_setIfInBounds_ne (by omega)
          have e03 : ∀ (A : Array Value) (v : Value), (A.setIfInBounds (k * 4) v)[k * 4 + 3]? = A[k * 4 + 3]? := fun A v => Array.getElem?_setIfInBounds_ne (by omega)
          have e12 : ∀ (A : Array Value) (v : Value), (A.setIfInBounds (k * 4 + 1) v)[k * 4 + 2]? = A[k * 4 + 2]? := fun A v => Array.getElem?_setIfInBounds_ne (by omega)
          have e13 : ∀ (A : Array Value) (v : Value), (A.setIfInBounds (k * 4 + 1) v)[k * 4 + 3]? = A[k * 4 + 3]? := fun A v => Array.getElem?_setIfInBounds_ne (by omega)
          have e23 : ∀ (A : Array Value) (v : Value), (A.setIfInBounds (k * 4 + 2) v)[k * 4 + 3]? = A[k * 4 + 3]? := fun A v => Array.getElem?_setIfInBounds_ne (by omega)
          go_wp2
          go_roundw
          case rel => exact ⟨k + 1, by go_num, by omega, HFW2.out.set4 HBX.out _ _ _ _ _ _ _ _, below_set4 HB2.out hg _ _ _ _ _ _ _ _⟩
          case measure => simp [intOf]; omega
        · have j1 : decide ((k : Int) < (f.2.length : Int)) = false := decide_eq_false (by omega)
          have j2 : decide (k < f.2.length) = false := decide_eq_false hlk
          clear hcell
          go_wp2
          go_roundw
          case rel => exact ⟨m + 1, by omega, by go_num, HFW2.out, HB2.out⟩
          case measure => simp [intOf]; omega
    · obtain rfl : m = F.length := by omega
      haveI : StpB W0.heap.size w4 wr := ⟨HB.out⟩
      haveI : LtN w.heap.size W0.heap.size := ⟨by omega⟩
      have HA1 := hide (((HI2.out.hh.below (HB24.out.mono (by omega))).below (HB.out.mono (by omega))).more (B' := wr.heap.size) (by have := HB.out.size; omega))
      clear HFW HB
      go_wp2_with fail
      (with_reducible refine (TH.out A c A1 c1 _ src HA1.out).mono ?_)
      rintro e w5 ⟨rfl, hb5⟩
      haveI : Stp _ w5 := ⟨hb5⟩
      clear hb5
      go_wp2_with fail
      (with_reducible refine (TN.out A hs.length c _).mono ?_)
      rintro e w6 ⟨rfl, rfl⟩
      go_wp2_with fail
      (with_reducible refine (TA.out _).mono ?_)
      rintro e w7 ⟨rfl, hb7⟩
      haveI : Stp _ w7 := ⟨hb7⟩
      clear hb7
      go_wp2
      go_ret
      exact ⟨rfl, blw⟩
end Go.Proofs.Ythkkadbgggaenaa
