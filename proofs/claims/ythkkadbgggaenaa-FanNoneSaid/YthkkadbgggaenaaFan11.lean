/-
  Layer 14: the law's awake.
-/
import Derived.Test.YthkkadbgggaenaaFan10
namespace Go.Proofs.Ythkkadbgggaenaa
set_option linter.unusedSimpArgs false
set_option linter.unusedVariables false
set_option linter.unusedSectionVars false
open Go.RowKit

theorem reads_boxF {W : World} {m k n : Nat} {cs : Array Value} {t : TypeId} (h : BoxAt W m cs t) (hn : cs.size = n * k) : Reads W W.heap.size k (some ⟨m, 0, none⟩) n cs.toList := by
  refine ⟨by simpa using hn, fun _ => ⟨_, _, rfl, h.lt, fun j u hu => ?_⟩⟩
  rw [Nat.zero_add, cell?_box]
  simpa using hu
abbrev h1 : Hd := ⟨1, 0, 0, 0⟩
abbrev h2 : Hd := ⟨2, 0, 0, 0⟩
abbrev h6 : Hd := ⟨6, 0, 0, 0⟩
abbrev h7 : Hd := ⟨7, 0, 0, 0⟩
def hopA (d : Int) : Int × Bool := if d = 2 then (3, true) else (4, decide (d < 7))
theorem sorted_ext {l m : List Int} (hl : l.Pairwise (· < ·)) (hm : m.Pairwise (· < ·)) (h : ∀ x, x ∈ l ↔ x ∈ m) : l = m := by
  have hp : l.Perm m := (List.perm_ext_iff_of_nodup (hl.imp (fun h => by omega)) (hm.imp (fun h => by omega))).2 h
  exact hp.eq_of_pairwise (le := fun a b => a < b) (fun a b _ _ h1 h2 => by omega) hl hm
theorem keysA : keysL hopA [h1, h2, h6, h7] = [3, 4] := by
  obtain ⟨k1, k2⟩ := keysL_spec hopA [h1, h2, h6, h7]
  refine sorted_ext k1 (by decide) (fun x => ?_)
  rw [k2]
  simp [hopA]
  constructor
  · rintro (h | h | h) <;> omega
  · rintro (h | h) <;> omega
theorem splitA : splitL hopA [h1, h2, h6, h7] = [(3, [h2]), (4, [h1, h6])] := by
  unfold splitL
  rw [keysA]
  simp [partL, hopA]
theorem bareA : insF 0 2 1 [h2, h1, h6] = [h1, h2, h6] := by decide
set_option maxRecDepth 100000 in
theorem acall_s (d : Int) (W : World) : Calls Try.prog 51 #[.int .i64 d] W fun e W' => e = .returned (.tuple #[.int .i64 (hopA d).1, .bool (hopA d).2]) ∧ W = W' := by
  unfold hopA
  by_cases hd : d = 2
  · have hd' : (d == 2) = true := by simpa using hd
    rw [if_pos hd]
    clear hd
    go_enter Try.func51, Try.ntmps51
    go_wp2
    go_ret2
    exact ⟨rfl, rfl⟩
  · have hd' : (d == 2) = false := by simpa using hd
    rw [if_neg hd]
    clear hd
    go_enter Try.func51, Try.ntmps51
    go_wp2
    go_ret2
    exact ⟨rfl, rfl⟩
theorem asplit_s (c m : Nat) (W : World) (h : BoxAt W m #[.int .i64 1, .int .u64 0, .int .u64 0, .int .u64 0, .int .i64 2, .int .u64 0, .int .u64 0, .int .u64 0, .int .i64 6, .int .u64 0, .int .u64 0, .int .u64 0, .int .i64 7, .int .u64 0, .int .u64 0, .int .u64 0] 29) :
    Calls Try.prog 12 #[.slice (some ⟨m, 0, none⟩) 4 c, .func (.func 51) #[] #[]] W fun e W' => ∃ v, e = .returned v ∧ FanO W' W.heap.size v [(3, [h2]), (4, [h1, h6])] ∧ Below W.heap.size W W' := by
  refine (split_s 51 #[] [] [h1, h2, h6, h7] hopA (fun _ _ => True) (some ⟨m, 0, none⟩) c W (reads_boxF h rfl) (by simp) (fun x hx => ?_) (by simp) (fun _ _ _ _ _ _ => trivial) (fun k x W2 _ _ _ => ?_) trivial (enters_of Try.func51 (by kernel_rfl) rfl)).mono ?_
  · unfold wfI hopA
    split <;> simp
  · refine (acall_s x.d W2).mono ?_
    rintro e W3 ⟨rfl, rfl⟩
    exact ⟨rfl, trivial, Gro.refl _ _⟩
  · rintro e W' ⟨v, rfl, hF, _, hG⟩
    rw [splitA] at hF
    exact ⟨v, rfl, hF, hG.below (Nat.le_refl _) (by simp)⟩
set_option maxRecDepth 100000 in
set_option maxHeartbeats 4000000 in
theorem awake14_t (w : World) : Calls Try.prog 11 #[] w (RetB w true) := by
  have T1 := hide (fun c m W h => asplit_s c m W h)
  have T2 : Hid (∀ A c W, FanR W A [(3, [h2]), (4, [h1, h6])] → Calls Try.prog 20 #[.slice A 2 c] W fun e w' => ∃ g cur' c', e = .returned (.slice (some ⟨g, 0, none⟩) 3 c') ∧ RowC w' g cur' [h1, h2, h6] ∧ Below W.heap.size W w') := hide (fun A c W h => (bare_s A c [(3, [h2]), (4, [h1, h6])] W h (by simp) (by simp [allH]) (by simp [allH])).mono (by
    rintro e w' ⟨g, cur', c', he, _, hr, hb⟩
    exact ⟨g, cur', c', he, by rw [← bareA]; exact hr, hb⟩))
  go_enter Try.func11, Try.ntmps11
  go_wp2_with fail
  (with_reducible refine (T1.out _ w.heap.size _ inferInstance).mono ?_)
  rintro e w1 ⟨v1, rfl, hF, hb⟩
  haveI : Stp _ w1 := ⟨hb⟩
  obtain ⟨X, q1, q2, q3⟩ := hF
  obtain ⟨A1, c1, rfl, _, _⟩ := own_slice q2
  have HFR := hide (FanO.read ⟨X, q1, q2, q3⟩)
  clear hb q1 q2 q3
  obtain ⟨b, off, f, A5, c5, rfl, hb, hf, g1, g2, _⟩ := HFR.out.at (k := 0) (by simp)
  simp at hf
  subst hf
  obtain ⟨b', off', f', A6, c6, e', hb', hf', g1', g2', _⟩ := HFR.out.at (k := 1) (by simp)
  injection e' with e'
  injection e' with e1 e2
  subst e1 e2
  simp at hf'
  subst hf'
  simp only [Nat.zero_mul, Nat.add_zero, Nat.one_mul, List.length_cons, List.length_nil, Nat.zero_add] at g1 g2 g1' g2'
  haveI : CellAt w1 b off _ := ⟨hb, g1⟩
  haveI : CellAt w1 b (off + 1) _ := ⟨hb, g2⟩
  haveI : CellAt w1 b (off + 2) _ := ⟨hb, g1'⟩
  haveI : CellAt w1 b (off + 2 + 1) _ := ⟨hb, g2'⟩
  clear g1 g2 g1' g2' hb hb'
  simp only [List.length_cons, List.length_nil, Nat.zero_add, Nat.reduceAdd]
  go_wp2_with fail
  (with_reducible refine (T2.out _ _ _ HFR.out).mono ?_)
  rintro e w2 ⟨g, cur', c', rfl, hr, hb⟩
  haveI : Stp _ w2 := ⟨hb⟩
  have r1 := hr.c 1 0 h2 rfl (by omega)
  have gl := BoxAt.lt hr.b
  haveI : CellAt w2 g 4 (.int .i64 2) := ⟨gl, by haveI := hr.b; rw [cell?_box]; exact r1⟩
  clear hb hr r1
  go_wp2
  go_ret
  exact ⟨rfl, blw⟩
end Go.Proofs.Ythkkadbgggaenaa
