/-
  Layer 14: contracts: SortStableFunc at fewer than twenty heads, fan.Bare at few heads, fan.Split without a way.
-/
import Derived.Test.YthkkadbgggaenaaFan9
namespace Go.Proofs.Ythkkadbgggaenaa
set_option linter.unusedSimpArgs false
set_option linter.unusedVariables false
set_option linter.unusedSectionVars false
open Go.RowKit

theorem RowC.of {W : World} {B n c : Nat} {A : Option Addr} {L : List Hd} (h : W.ownsRow B 29 4 (.slice A n c) L.length (hcs L)) (hn : 0 < L.length) : ∃ g cur, A = some ⟨g, 0, none⟩ ∧ B ≤ g ∧ RowC W g cur L := by
  rcases h.2 with ⟨_, h0⟩ | ⟨g, cap, cur, e, hB, hg, h1, h2, h3, h4⟩
  · omega
  · injection e with e1 e2 e3
    refine ⟨g, cur, e1, hB, ⟨hg⟩, by rw [h3]; exact Nat.mul_le_mul_right 4 h1, fun i q p hp hq => ?_⟩
    have hi := (List.getElem?_eq_some_iff.1 hp).1
    have e5 : (cur.toList.take (L.length * 4))[i * 4 + q]? = (hcs L)[i * 4 + q]? := by rw [h4]
    rw [List.getElem?_take_of_lt (by omega), hcs, flat_get hc_len L i q p hp hq] at e5
    simpa using e5
theorem RowC.reads {W : World} {g : Nat} {cur : Array Value} {L : List Hd} (h : RowC W g cur L) : Reads W W.heap.size 4 (some ⟨g, 0, none⟩) L.length (hcs L) := by
  refine ⟨hcs_len L, fun _ => ⟨g, 0, rfl, BoxAt.lt h.b, fun j u hu => ?_⟩⟩
  haveI := h.b
  rw [Nat.zero_add, cell?_box]
  have hj : j < L.length * 4 := by have := (List.getElem?_eq_some_iff.1 hu).1; rwa [hcs_len] at this
  have hp : L[j / 4]? = some L[j / 4] := List.getElem?_eq_getElem (by omega)
  have e : j = j / 4 * 4 + j % 4 := by omega
  rw [e] at hu ⊢
  rw [h.c (j / 4) (j % 4) _ hp (by omega), ← hu, hcs, flat_get hc_len L (j / 4) (j % 4) _ hp (by omega)]
set_option maxRecDepth 100000 in
set_option maxHeartbeats 2000000 in
theorem stable_s (g c : Nat) (cur : Array Value) (L : List Hd) (w : World) (h : RowC w g cur L) (hl : L.length < 20) :
    Calls Try.prog 95 #[.slice (some ⟨g, 0, none⟩) L.length c, .int .i64 L.length, .func (.func 56) #[] #[]] w fun e w' => e = .returned (.tuple #[]) ∧ (∃ cur', RowC w' g cur' (insF 0 (L.length - 1) 1 L)) ∧ Gro [g] w w' := by
  have T : Hid (∀ W cur, RowC W g cur L → Calls Try.prog 127 #[.slice (some ⟨g, 0, none⟩) L.length c, .int .i64 0, .int .i64 L.length, .func (.func 56) #[] #[]] W fun e w' => e = .returned (.tuple #[]) ∧ (∃ cur', RowC w' g cur' (insF 0 (L.length - 1) 1 L)) ∧ Gro [g] W w') := hide (fun W cur h => insert_s g c 0 L.length cur L W h (by omega) (Nat.le_refl _) (by omega))
  have HR := hide h
  have l1 : decide ((20 : Int) ≤ (L.length : Int)) = false := decide_eq_false (by omega)
  have l2 : decide ((20 : Int) < (L.length : Int)) = false := decide_eq_false (by omega)
  have l3 : decide (20 ≤ L.length) = false := decide_eq_false (by omega)
  have l4 : decide (20 < L.length) = false := decide_eq_false (by omega)
  clear h
  go_enter Try.func95, Try.ntmps95
  go_wp2_with fail
  refine wp_loop_rounds 1 ?_
  rw [rounds_succ]
  go_wp2_with fail
  (with_reducible refine (T.out _ cur HR.out).mono ?_)
  rintro e w1 ⟨rfl, hr, hg⟩
  go_wp2_with fail
  refine wp_loop_rounds 1 ?_
  rw [rounds_succ]
  go_wp2
  go_end0
  exact ⟨rfl, hr, hg⟩
theorem sortStable_s (g c : Nat) (cur : Array Value) (L : List Hd) (w : World) (h : RowC w g cur L) (hl : L.length < 20) :
    Calls Try.prog 55 #[.slice (some ⟨g, 0, none⟩) L.length c, .func (.func 56) #[] #[]] w fun e w' => e = .returned (.tuple #[]) ∧ (∃ cur', RowC w' g cur' (insF 0 (L.length - 1) 1 L)) ∧ Gro [g] w w' := by
  have T := hide (stable_s g c cur L w h hl)
  go_enter Try.func55, Try.ntmps55
  go_wp2_with fail
  (with_reducible refine T.out.mono ?_)
  rintro e w1 ⟨rfl, hr, hg⟩
  go_wp2
  go_end0
  exact ⟨rfl, hr, hg⟩
set_option maxRecDepth 100000 in
theorem split_nil (A : Option Addr) (n c : Nat) (w : World) : Calls Try.prog 12 #[.slice A n c, .nilFunc] w fun e w' => e = .returned (.slice none 0 0) ∧ w = w' := by
  have hnf : ∀ W, Sem.run Try.prog (binOp BinOp.eql 32 .nilFunc .nilFunc) W = .ok (.bool true) W := fun W => by first | rfl | (simp [go_sem]; done) | kernel_rfl
  go_enter Try.func12, Try.ntmps12
  go_wp2
  go_ret
  exact ⟨rfl, rfl⟩
/-- all heads of fans -/
def allH (F : List (Int × List Hd)) : List Hd := F.flatMap (·.2)
theorem allH_le (F : List (Int × List Hd)) (m : Nat) : (allH (F.take m)).length ≤ (allH F).length := by
  conv => rhs; rw [← List.take_append_drop m F]
  unfold allH
  rw [List.flatMap_append, List.length_append]; omega
set_option maxRecDepth 100000 in
set_option maxHeartbeats 4000000 in
theorem bare_s (A : Option Addr) (c : Nat) (F : List (Int × List Hd)) (w : World) (h : FanR w A F) (hfl : F.length ≤ 1000000) (h0 : 0 < (allH F).length) (hl : (allH F).length < 20) :
    Calls Try.prog 20 #[.slice A F.length c] w fun e w' => ∃ g cur' c', e = .returned (.slice (some ⟨g, 0, none⟩) (allH F).length c') ∧ w.heap.size ≤ g ∧ RowC w' g cur' (insF 0 ((allH F).length - 1) 1 (allH F)) ∧ Below w.heap.size w w' := by
  have HF := hide h
  clear h
  go_enter Try.func20, Try.ntmps20
  go_wp2_with fail
  go_loopw [8, 3] (fun j v wr => ∃ m : Nat, m ≤ F.length ∧ j = .int .i64 m ∧ wr.ownsRow w.heap.size 29 4 v (allH (F.take m)).length (hcs (allH (F.take m))) ∧ Below w.heap.size w wr) (fun j _ _ => F.length - (intOf j).toNat)
  case atStart => exact ⟨0, Nat.zero_le _, rfl, World.ownsRow_nil _ _ _ _, Below.refl _ _⟩
  case round =>
    obtain ⟨m, hm, rfl, ho, hB⟩ := hrel
    obtain ⟨A5, c5, rfl, _, _⟩ := own_slice ho
    haveI : Blw w wr := ⟨hB⟩
    have HO := hide ho
    have hle := allH_le F m
    have zr := hB.size
    clear ho hB
    by_cases hlt : m < F.length
    · obtain ⟨b, off, p, A6, c6, rfl, hb, hp, g1, g2, hr⟩ := (HF.out.tc (W := wr)).at hlt
      haveI : InW b wr := ⟨hb⟩
      haveI : Src wr A6 p.2.length 4 (hcs p.2) := ⟨hr⟩
      have HTK := hide (show allH (F.take (m + 1)) = allH (F.take m) ++ p.2 by rw [take_succ_of hp]; simp [allH])
      have hle2 := allH_le F (m + 1)
      rw [HTK.out, List.length_append] at hle2
      have i0 : (0 : Int) ≤ (m : Int) := by omega
      have i1 : (m : Int) < (F.length : Int) := by omega
      generalize allH (F.take m) = al at HO HTK hle2 hle
      clear hp hr
      go_wp2_with (at_builtin; refine wpList_append_w Try.okHd rfl (.tmp 12) (.tmp 14) rfl w.heap.size (.slice A5 al.length c5) al.length (hcs al) p.2.length (hcs p.2) ?_ ?_ ?_ ?_ ?_ ?_ ?_ ?_; go_must ((focus (first | rfl | (simp [Act.eval, Act.put]; done))); (focus (exact own_tc HO.out)); (focus (refine ⟨_, _, rfl, ?_⟩; exact src)); (focus (exact hc_one _)); (focus (unfold maxLen; omega)); (focus omega); (focus (first | omega | (simp; done) | (simp; omega) | exact BoxAt.lt (n := w.heap.size) inferInstance)); intro v7 w7 ho7 hg7; haveI : StpB w.heap.size _ w7 := ⟨grown_belowT hg7 (by simp; omega) (fun q hq => (HO.out.lt q hq).1)⟩; have O7 := hide ho7; clear ho7 hg7))
      go_wp2
      go_roundw
      case rel => exact ⟨m + 1, by omega, by go_num, by rw [HTK.out, List.length_append, hcs_app]; exact O7.out, blw⟩
      case measure => simp [intOf]; omega
    · obtain rfl : m = F.length := by omega
      have HO8 := HO.out
      rw [List.take_length] at HO8
      obtain ⟨g, cur, rfl, hg, hr⟩ := RowC.of HO8 h0
      rw [List.take_length]
      have T := hide (sortStable_s g c5 cur (allH F) wr hr hl)
      have HBw := hide (show Below w.heap.size w wr from blw)
      clear HO HO8 hr
      go_wp2_with fail
      (with_reducible refine T.out.mono ?_)
      rintro e w8 ⟨rfl, ⟨cur', hr'⟩, hG⟩
      go_wp2
      go_ret
      exact ⟨g, cur', _, rfl, hg, hr', HBw.out.trans (hG.below zr (by simp; omega))⟩
end Go.Proofs.Ythkkadbgggaenaa
