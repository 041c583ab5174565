/-
  Layer 14: contracts: the law's many, the reference's Own and Bare.
-/
import Derived.Test.YthkkadbgggaenaaFan21
namespace Go.Proofs.Ythkkadbgggaenaa
set_option linter.unusedSimpArgs false
set_option linter.unusedVariables false
set_option linter.unusedSectionVars false
open Go.RowKit

instance (priority := low) CellAt.stpB (X W : World) (B b i : Nat) (v : Value) [s : StpB B X W] [k : CellAt X b i v] [l : LtN b B] : CellAt W b i v := ⟨Nat.lt_of_lt_of_le k.lt s.h.size, (s.h.cell (p := ⟨b, i, none⟩) l.h).trans k.h⟩
/-- how many heads and fans -/
def sumF (F : List (Int × List Hd)) : Nat := (F.map (fun f => 1 + f.2.length)).sum
theorem sumF_snoc (F : List (Int × List Hd)) (f : Int × List Hd) : sumF (F ++ [f]) = sumF F + (1 + f.2.length) := by simp [sumF]
theorem sumF_take (F : List (Int × List Hd)) (m : Nat) : sumF (F.take m) ≤ sumF F := by
  conv => rhs; rw [← List.take_append_drop m F]
  unfold sumF
  rw [List.map_append, List.sum_append]; omega
theorem sumF_len : ∀ F : List (Int × List Hd), F.length ≤ sumF F
  | [] => Nat.le_refl _
  | f :: F => by have := sumF_len F; simp [sumF] at *; omega
theorem sumF_all : ∀ F : List (Int × List Hd), F.length + (allH F).length = sumF F
  | [] => rfl
  | f :: F => by have := sumF_all F; simp [sumF, allH] at *; omega
theorem sumF_mem {F : List (Int × List Hd)} {f : Int × List Hd} (h : f ∈ F) : f.2.length ≤ sumF F := by
  induction F with
  | nil => cases h
  | cons x F ih =>
    rcases List.mem_cons.1 h with rfl | h
    · simp [sumF]; omega
    · have := ih h; simp [sumF] at *; omega
set_option maxRecDepth 100000 in
set_option maxHeartbeats 2000000 in
theorem many_s (A : Option Addr) (c : Nat) (F : List (Int × List Hd)) (w : World) (h : FanR w A F) (hfl : F.length ≤ 140737488351232) (hl : ∀ f ∈ F, f.2.length ≤ 140737488351232) :
    Calls Try.prog 18 #[.slice A F.length c] w (RetB w (decide (300 < sumF F))) := by
  have HF := hide h
  have HL := hide hl
  clear h hl
  go_enter Try.func18, Try.ntmps18
  go_wp2_with fail
  go_loopw [4, 3] (fun j v wr => ∃ m : Nat, m ≤ F.length ∧ j = .int .i64 m ∧ v = .int .i64 (sumF (F.take m)) ∧ sumF (F.take m) ≤ 300 ∧ Below w.heap.size w wr) (fun j _ _ => F.length - (intOf j).toNat)
  case atStart => exact ⟨0, Nat.zero_le _, rfl, rfl, by simp [sumF], Below.refl _ _⟩
  case round =>
    obtain ⟨m, hm, rfl, rfl, hs, hB⟩ := hrel
    haveI : Blw w wr := ⟨hB⟩
    clear hB
    by_cases hlt : m < F.length
    · obtain ⟨b, off, p, A6, c6, rfl, hb, hp, g1, g2, hr⟩ := (HF.out.tc (W := wr)).at hlt
      haveI : InW b wr := ⟨hb⟩
      have hpl := HL.out p (List.mem_of_getElem? hp)
      have HTK := hide (show sumF (F.take (m + 1)) = sumF (F.take m) + (1 + p.2.length) by rw [take_succ_of hp]; exact sumF_snoc _ _)
      have HTK2 := hide (sumF_take F (m + 1))
      have i0 : (0 : Int) ≤ (m : Int) := by omega
      have i1 : (m : Int) < (F.length : Int) := by omega
      generalize sumF (F.take m) = s at HTK hs
      clear hp hr
      by_cases h3 : 300 < s + (1 + p.2.length)
      · have HR := hide (show decide (300 < sumF F) = true from decide_eq_true (by have := HTK.out; have := HTK2.out; omega))
        have k1 : decide ((300 : Int) < (s : Int) + (1 + (p.2.length : Int))) = true := decide_eq_true (by omega)
        go_wp2
        go_ret
        exact ⟨by rw [HR.out]; rfl, blw⟩
      · have k1 : decide ((300 : Int) < (s : Int) + (1 + (p.2.length : Int))) = false := decide_eq_false (by omega)
        go_wp2
        go_roundw
        case rel => exact ⟨m + 1, by omega, by go_num, by rw [HTK.out]; go_num, by rw [HTK.out]; omega, blw⟩
        case measure => simp [intOf]; omega
    · obtain rfl : m = F.length := by omega
      rw [List.take_length] at hs
      have HR := hide (show decide (300 < sumF F) = false from decide_eq_false (by omega))
      go_wp2
      go_ret
      exact ⟨by rw [HR.out]; rfl, blw⟩
set_option maxRecDepth 100000 in
set_option maxHeartbeats 4000000 in
theorem rown_s (A : Option Addr) (c : Nat) (F : List (Int × List Hd)) (w : World) (h : FanR w A F) (hfl : F.length ≤ 100000) (hl : ∀ f ∈ F, f.2.length ≤ 100000) :
    Calls Try.prog 19 #[.slice A F.length c] w (fun e W' => ∃ v, e = .returned v ∧ FanO W' w.heap.size v F ∧ Below w.heap.size w W') := by
  have HF := hide h
  have HL := hide hl
  clear h hl
  go_enter Try.func19, Try.ntmps19
  go_wp2_with fail
  go_loopw [4, 3] (fun j v wr => ∃ (m : Nat) (X : List (Int × Value)), m ≤ F.length ∧ j = .int .i64 m ∧ FanX wr w.heap.size v (F.take m) X ∧ Below w.heap.size w wr) (fun j _ _ => F.length - (intOf j).toNat)
  case atStart => exact ⟨0, [], Nat.zero_le _, rfl, ⟨by simp, World.ownsRow_nil _ _ _ _, fun j x f hx _ => by simp at hx⟩, Below.refl _ _⟩
  case round =>
    obtain ⟨m, X, hm, rfl, hFX, hB⟩ := hrel
    have hml : (F.take m).length = m := by rw [List.length_take]; omega
    obtain ⟨A5, c5, hv, hc5, _⟩ := own_slice hFX.o
    rw [hml] at hv hc5
    subst hv
    haveI : Blw w wr := ⟨hB⟩
    have zr := hB.size
    haveI : LeN w.heap.size wr.heap.size := ⟨zr⟩
    have HFX := hide hFX
    have HOO : Hid (wr.ownsRow w.heap.size 36 2 (.slice A5 m c5) m (fvs X)) := hide (by have := hFX.o; rw [hml] at this; exact this)
    have HB := hide hB
    clear hFX hB
    by_cases hlt : m < F.length
    · obtain ⟨b, off, p, A6, c6, rfl, hb, hp, g1, g2, hr⟩ := (HF.out.tc (W := wr)).at hlt
      haveI : CellAt wr b (off + m * 2) _ := ⟨hb, g1⟩
      haveI : CellAt wr b (off + m * 2 + 1) _ := ⟨hb, g2⟩
      haveI : LtN b wr.heap.size := ⟨hb⟩
      haveI : Src wr A6 p.2.length 4 (hcs p.2) := ⟨hr⟩
      have hpl := HL.out p (List.mem_of_getElem? hp)
      have HTK := hide (show F.take (m + 1) = F.take m ++ [(p.1, p.2)] from take_succ_of hp)
      have i0 : (0 : Int) ≤ (m : Int) := by omega
      have i1 : (m : Int) < (F.length : Int) := by omega
      have HML := hide hml
      clear hp hr g1 g2 hml
      go_wp2_with fail
      go_region_law (first
        | (refine step_append_w Try.okHd rfl (.tmp 17) (.tmp 22) rfl wr.heap.size (.slice (some ⟨wr.heap.size, 0, none⟩) 0 0) 0 [] p.2.length (hcs p.2) ?_ ?_ ?_ ?_ ?_ ?_ ?_ ?_; go_must ((focus (first | rfl | (simp [Act.eval, Act.put]; done))); (focus (exact own_emH _ wr.heap.size (by simp))); (focus (refine ⟨_, _, by first | rfl | (simp [Act.eval, Act.put]; done), ?_⟩; exact src)); (focus (exact hc_one _)); (focus (unfold maxLen; omega)); (focus omega); (focus (first | omega | (simp; done) | (simp; omega) | exact BoxAt.lt (n := w.heap.size) inferInstance)); intro v7 w7 ho7 hg7; rw [Nat.zero_add, List.nil_append] at ho7; haveI : StpB wr.heap.size _ w7 := ⟨grown_belowT hg7 (by simp) (fun k hk => by have e : wr.heap.size = k := Option.some.inj hk; omega)⟩; obtain ⟨A7, c7, rfl, _, _⟩ := own_slice ho7; have hs7 : w.heap.size ≤ w7.heap.size := (by have := hg7.size; simp at this; omega); have O7 := hide ho7; clear ho7 hg7))
        | (refine step_append_w Try.okFn rfl (.tmp 11) (.tmp 25) rfl w.heap.size (.slice A5 m c5) m (fvs X) 1 (fvs [(p.1, .slice A7 p.2.length c7)]) ?_ ?_ ?_ ?_ ?_ ?_ ?_ ?_; go_must ((focus (first | rfl | (simp [Act.eval, Act.put]; done))); (focus (exact own_tc HOO.out)); (focus (refine ⟨_, _, by first | rfl | (simp [Act.eval, Act.put]; done), ?_⟩; exact reads_f1x _ _ _ _)); (focus (exact fv_one _ _ _ _)); (focus (unfold maxLen; omega)); (focus omega); (focus (first | omega | (simp; done) | (simp; omega) | exact BoxAt.lt (n := w.heap.size) inferInstance)); intro v10 w10 ho10 hg10; have HF10 := hide ((HFX.out.below (W' := w7.alloc (.cells #[.int .i64 p.1, .slice A7 p.2.length c7] 36)) blw).app (own_tc O7.out) (by omega) (by rw [HML.out]; exact ho10) hg10); haveI : StpB w.heap.size _ w10 := ⟨grown_belowT hg10 (by simp; omega) (fun q hq => (HOO.out.lt q hq).1)⟩; clear ho10 hg10)))
      all_goals
        go_wp2
        go_roundw
        case rel => exact ⟨m + 1, _, by omega, by go_num, by rw [HTK.out]; exact HF10.out, blw⟩
        case measure => simp [intOf]; omega
    · obtain rfl : m = F.length := by omega
      go_wp2
      go_ret
      exact ⟨_, rfl, by have := HFX.out.O; rw [List.take_length] at this; exact this, HB.out⟩
end Go.Proofs.Ythkkadbgggaenaa
