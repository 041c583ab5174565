/-
  Layer 14: contract: rotateCmpFunc of heads.
-/
import Derived.Test.YthkkadbgggaenaaFan15
namespace Go.Proofs.Ythkkadbgggaenaa
set_option linter.unusedSimpArgs false
set_option linter.unusedVariables false
set_option linter.unusedSectionVars false
open Go.RowKit

theorem split_at' (L : List Hd) {n : Nat} (h : n ≤ L.length) : ∃ P Q, L = P ++ Q ∧ P.length = n ∧ Q.length = L.length - n := ⟨L.take n, L.drop n, (List.take_append_drop n L).symm, by simp; omega, by simp⟩
set_option maxRecDepth 100000 in
set_option maxHeartbeats 4000000 in
theorem rotate_s (g c a m b N : Nat) (cur : Array Value) (A X Y B : List Hd) (w : World) (h : RowC w g cur (A ++ (X ++ (Y ++ B)))) (hN : N = A.length + X.length + Y.length + B.length) (ha : a = A.length) (hm : m = A.length + X.length) (hb : b = A.length + X.length + Y.length) (hX : 0 < X.length) (hY : 0 < Y.length) (hl : N ≤ 1000000) :
    Calls Try.prog 167 #[.slice (some ⟨g, 0, none⟩) N c, .int .i64 a, .int .i64 m, .int .i64 b, .func (.func 56) #[] #[]] w fun e w' => e = .returned (.tuple #[]) ∧ (∃ cur', RowC w' g cur' (A ++ (Y ++ (X ++ B)))) ∧ Gro [g] w w' := by
  have HR := hide h
  have HE : Hid (N = A.length + X.length + Y.length + B.length ∧ a = A.length ∧ m = A.length + X.length ∧ b = A.length + X.length + Y.length ∧ 0 < X.length ∧ 0 < Y.length) := hide ⟨hN, ha, hm, hb, hX, hY⟩
  have z1 : m ≤ N := by omega
  have z2 : b ≤ N := by omega
  have z3 : a < m := by omega
  have z4 : m < b := by omega
  have c1 : (m : Int) - (a : Int) = ((X.length : Nat) : Int) := by omega
  have c2 : (b : Int) - (m : Int) = ((Y.length : Nat) : Int) := by omega
  have y1 : X.length ≤ N := by omega
  have y2 : Y.length ≤ N := by omega
  clear h hN ha hm hb hX hY
  go_enter Try.func167, Try.ntmps167
  go_wp2_with fail
  clear c1 c2 y1 y2
  go_loopw [10, 11] (fun iv jv wr => ∃ (i j : Nat) (cur : Array Value) (A1 X1 Y1 B1 : List Hd), iv = .int .i64 i ∧ jv = .int .i64 j ∧ RowC wr g cur (A1 ++ (X1 ++ (Y1 ++ B1))) ∧ A1.length + i = m ∧ X1.length = i ∧ Y1.length = j ∧ 0 < i ∧ 0 < j ∧ A1 ++ (Y1 ++ (X1 ++ B1)) = A ++ (Y ++ (X ++ B)) ∧ Gro [g] w wr) (fun i j _ => (intOf i).toNat + (intOf j).toNat)
  case atStart => exact ⟨X.length, Y.length, cur, A, X, Y, B, rfl, rfl, HR.out, by have := HE.out; omega, rfl, rfl, HE.out.2.2.2.2.1, HE.out.2.2.2.2.2, rfl, Gro.refl _ _⟩
  case round =>
    obtain ⟨i, j, cur2, A1, X1, Y1, B1, rfl, rfl, hR, hA1, hX1, hY1, hi, hj, hrun, hG⟩ := hrel
    have HR2 := hide hR
    have HRUN := hide hrun
    have HG := hide hG
    have hlen : A1.length + i + j + B1.length = N := by
      have e := congrArg List.length hrun
      have := HE.out
      simp only [List.length_append] at e
      omega
    have q1 : i ≤ m := by omega
    have q2 : m + j ≤ N := by omega
    obtain ⟨a1, ea⟩ : ∃ a1, a1 = A1.length := ⟨_, rfl⟩
    have q3 : (m : Int) - (i : Int) = (a1 : Int) := by omega
    clear hR hrun hG
    rcases Nat.lt_trichotomy i j with hlt | heq | hgt
    · obtain ⟨P, Q, rfl, hP, hQ⟩ := split_at' Y1 (n := j - i) (by omega)
      rw [List.length_append] at hY1
      have HR3 := HR2.out
      simp only [List.append_assoc] at HR3
      have HNEW : Hid (A1 ++ (P ++ (Q ++ (X1 ++ B1))) = A ++ (Y ++ (X ++ B))) := hide (by have := HRUN.out; simpa only [List.append_assoc] using this)
      obtain ⟨b1, eb⟩ : ∃ b1, b1 = A1.length + X1.length + P.length := ⟨_, rfl⟩
      have T := hide (swapRange_s g c a1 b1 i N cur2 A1 X1 P Q B1 wr HR3 (by omega) ea eb hX1 (by omega) hl)
      have q4 : (m : Int) + (j : Int) - (i : Int) = (b1 : Int) := by omega
      have q5 : (j : Int) - (i : Int) = ((j - i : Nat) : Int) := by omega
      clear eb
      have HL := hide (And.intro ea (And.intro hA1 (And.intro hX1 (And.intro hP (And.intro hQ hY1)))))
      clear HR3 HRUN HR2 hlen ea hA1 hX1 hP hQ hY1
      have d1 : decide ((i : Int) = (j : Int)) = false := decide_eq_false (by omega)
      have d2 : decide (i = j) = false := decide_eq_false (by omega)
      have d3 : decide ((j : Int) < (i : Int)) = false := decide_eq_false (by omega)
      have d4 : decide (j < i) = false := decide_eq_false (by omega)
      have d5 : ((i : Int) == (j : Int)) = false := beq_eq_false_iff_ne.2 (by omega)
      go_wp2_with fail
      (with_reducible refine T.out.mono ?_)
      rintro e w1 ⟨rfl, ⟨cur3, hr⟩, hg⟩
      have HR4 := hide hr
      have HG4 := hide hg
      clear hr hg
      go_wp2
      go_roundw
      case rel => exact ⟨i, j - i, cur3, A1, Q, P, X1 ++ B1, by go_num, by go_num, HR4.out, by have := HL.out; omega, by have := HL.out; omega, by have := HL.out; omega, by omega, by omega, HNEW.out, HG.out.trans HG4.out⟩
      case measure => simp [intOf]; omega
    · subst heq
      have T := hide (swapRange_s g c a1 m i N cur2 A1 X1 [] Y1 B1 wr HR2.out (by simp; omega) ea (by simp; omega) hX1 hY1 hl)
      have HNEW := hide HRUN.out
      clear HRUN HR2 hlen ea hA1 hX1 hY1
      have d1 : decide ((i : Int) = (i : Int)) = true := decide_eq_true rfl
      have d5 : ((i : Int) == (i : Int)) = true := beq_iff_eq.2 rfl
      go_wp2_with fail
      (with_reducible refine T.out.mono ?_)
      rintro e w1 ⟨rfl, ⟨cur3, hr⟩, hg⟩
      rw [List.nil_append] at hr
      have HR4 := hide hr
      have HG4 := hide hg
      clear hr hg
      go_wp2
      go_end0
      exact ⟨rfl, ⟨cur3, by rw [← HNEW.out]; exact HR4.out⟩, HG.out.trans HG4.out⟩
    · obtain ⟨P, Q, rfl, hP, hQ⟩ := split_at' X1 (n := j) (by omega)
      rw [List.length_append] at hX1
      have HR3 := HR2.out
      simp only [List.append_assoc] at HR3
      have HNEW : Hid (A1 ++ (Y1 ++ (P ++ (Q ++ B1))) = A ++ (Y ++ (X ++ B))) := hide (by have := HRUN.out; simpa only [List.append_assoc] using this)
      have T := hide (swapRange_s g c a1 m j N cur2 A1 P Q Y1 B1 wr HR3 (by omega) ea (by omega) hP hY1 hl)
      have q5 : (i : Int) - (j : Int) = ((i - j : Nat) : Int) := by omega
      have HL := hide (And.intro ea (And.intro hA1 (And.intro hX1 (And.intro hP (And.intro hQ hY1)))))
      clear HR3 HRUN HR2 hlen ea hA1 hX1 hP hQ hY1
      have d1 : decide ((i : Int) = (j : Int)) = false := decide_eq_false (by omega)
      have d2 : decide (i = j) = false := decide_eq_false (by omega)
      have d3 : decide ((j : Int) < (i : Int)) = true := decide_eq_true (by omega)
      have d4 : decide (j < i) = true := decide_eq_true (by omega)
      have d5 : ((i : Int) == (j : Int)) = false := beq_eq_false_iff_ne.2 (by omega)
      go_wp2_with fail
      (with_reducible refine T.out.mono ?_)
      rintro e w1 ⟨rfl, ⟨cur3, hr⟩, hg⟩
      have HR4 := hide hr
      have HG4 := hide hg
      clear hr hg
      go_wp2
      go_roundw
      case rel => exact ⟨i - j, j, cur3, A1 ++ Y1, Q, P, B1, by go_num, by go_num, by rw [List.append_assoc]; exact HR4.out, by have := HL.out; rw [List.length_append]; omega, by have := HL.out; omega, by have := HL.out; omega, by omega, by omega, by rw [List.append_assoc]; exact HNEW.out, HG.out.trans HG4.out⟩
      case measure => simp [intOf]; omega
end Go.Proofs.Ythkkadbgggaenaa
