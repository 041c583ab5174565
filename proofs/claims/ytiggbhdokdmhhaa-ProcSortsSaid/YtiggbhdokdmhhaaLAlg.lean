/-
  Walk: the law ProcAlgebra answers true at every input.
-/
import Derived.Test.YtiggbhdokdmhhaaJoin
import Derived.Test.YtiggbhdokdmhhaaAwake
namespace Go.Proofs.Ytiggbhdokdmhhaa
open Go.RowKit Go.Sort Go.Lib

theorem mem_chosenL {a b : List Pr} {f : Bool} {x : Pr} : x ∈ chosenL a b f ↔ x ∈ a ∧ (decide (x ∈ b) == f) = true := by
  simp only [chosenL, List.mem_filter, mem_sortedL]
theorem mem_meetL {a b : List Pr} {x : Pr} : x ∈ chosenL a b true ↔ x ∈ a ∧ x ∈ b := by rw [mem_chosenL]; simp
theorem mem_minusL {a b : List Pr} {x : Pr} : x ∈ chosenL a b false ↔ x ∈ a ∧ x ∉ b := by rw [mem_chosenL]; simp
theorem chosenL_len (a b : List Pr) (f : Bool) : (chosenL a b f).length ≤ a.length := Nat.le_trans (List.length_filter_le _ _) (sortedL_len a)

theorem alg1 (a b : List Pr) : sortedL (sortedL (chosenL a b true ++ chosenL a b false)) = sortedL a := by
  refine sortedL_congr fun x => ?_
  rw [mem_sortedL, List.mem_append, mem_meetL, mem_minusL]
  by_cases h : x ∈ b <;> simp [h]
theorem alg2 (a b : List Pr) : chosenL (chosenL a b true) (chosenL a b false) true = [] := by
  rw [List.eq_nil_iff_forall_not_mem]
  intro x
  rw [mem_meetL, mem_meetL, mem_minusL]
  rintro ⟨⟨_, h⟩, _, h'⟩
  exact h' h
theorem alg3 (a b : List Pr) : sortedL (sortedL (a ++ b)) = sortedL (sortedL (b ++ a)) := by
  refine sortedL_congr fun x => ?_
  rw [mem_sortedL, mem_sortedL, List.mem_append, List.mem_append, or_comm]
theorem alg4 (a b c : List Pr) : sortedL (sortedL (sortedL (a ++ b) ++ c)) = sortedL (sortedL (a ++ sortedL (b ++ c))) := by
  refine sortedL_congr fun x => ?_
  simp only [mem_sortedL, List.mem_append, or_assoc]
theorem alg5 (a b c : List Pr) : sortedL (chosenL a (sortedL (b ++ c)) true) = sortedL (sortedL (chosenL a b true ++ chosenL a c true)) := by
  refine sortedL_congr fun x => ?_
  simp only [mem_sortedL, List.mem_append, mem_meetL]
  by_cases h : x ∈ a <;> simp [h]
theorem alg6 (a b c : List Pr) : sortedL (chosenL a (sortedL (b ++ c)) false) = sortedL (chosenL (chosenL a b false) c false) := by
  refine sortedL_congr fun x => ?_
  simp only [mem_sortedL, List.mem_append, mem_minusL]
  by_cases h : x ∈ a <;> simp [h]
theorem sapp_len (a b : List Pr) : (sortedL (a ++ b)).length ≤ a.length + b.length := by have := sortedL_len (a ++ b); rwa [List.length_append] at this

theorem awake_t (w : World) : Calls Try.prog 13 #[] w (RetB w true) := awake_any w

set_option maxHeartbeats 4000000 in
theorem procAlgebra_true (A B C : Option Addr) (ca cb cc : Nat) (a b c : List Pr) (w : World) (sa : Sl w A a) (sb : Sl w B b) (sc : Sl w C c) :
    Calls Try.prog 6 #[.slice A a.length ca, .slice B b.length cb, .slice C c.length cc] w fun e w' => e = .returned (.bool true) ∧ Below w.heap.size w w' := by
  have hB := Below.refl w.heap.size w
  cases hh : hvB [⟨A, ca, a⟩, ⟨B, cb, b⟩, ⟨C, cc, c⟩]
  · have hl : a.length ≤ 300 ∧ b.length ≤ 300 ∧ c.length ≤ 300 := by simpa [hvB] using hh
    obtain ⟨la, lb, lc⟩ := hl
    have n1 := chosenL_len a b true
    have n2 := chosenL_len a b false
    have n3 := sapp_len (chosenL a b true) (chosenL a b false)
    have n4 := sapp_len a b
    have n5 := sapp_len b a
    have n6 := sapp_len (sortedL (a ++ b)) c
    have n7 := sapp_len b c
    have n8 := sapp_len a (sortedL (b ++ c))
    have n9 := chosenL_len a (sortedL (b ++ c)) true
    have n10 := chosenL_len a c true
    have n11 := sapp_len (chosenL a b true) (chosenL a c true)
    have n12 := chosenL_len a (sortedL (b ++ c)) false
    have n13 := chosenL_len (chosenL a b false) c false
    go_enter Try.func6, Try.ntmps6
    go_wp2_with fail
    refine (heavy_lit [⟨A, ca, a⟩, ⟨B, cb, b⟩, ⟨C, cc, c⟩] _ _ rfl (by simp)).mono ?_
    rw [hh]
    rintro e w1 ⟨rfl, hb⟩
    replace sa := sa.step hb
    replace sb := sb.step hb
    replace sc := sc.step hb
    replace hB := below_step hB hb
    clear hb
    go_wp2_with fail
    with_reducible refine (meet_s _ _ _ _ a b _ sa sb (by omega) (by omega)).mono ?_
    rintro e w2 ⟨A1, c1, rfl, s1, hb⟩
    replace sa := sa.step hb
    replace sb := sb.step hb
    replace sc := sc.step hb
    replace hB := below_step hB hb
    clear hb
    go_wp2_with fail
    with_reducible refine (minus_s _ _ _ _ a b _ sa sb (by omega) (by omega)).mono ?_
    rintro e w3 ⟨A2, c2, rfl, s2, hb⟩
    replace sa := sa.step hb
    replace sb := sb.step hb
    replace sc := sc.step hb
    replace s1 := s1.step hb
    replace hB := below_step hB hb
    clear hb
    go_wp2_with fail
    with_reducible refine (union2_s _ _ _ _ (chosenL a b true) (chosenL a b false) _ s1 s2 (by omega)).mono ?_
    rintro e w4 ⟨A3, c3, rfl, s3, hb⟩
    replace sa := sa.step hb
    replace sb := sb.step hb
    replace sc := sc.step hb
    replace s1 := s1.step hb
    replace s2 := s2.step hb
    replace hB := below_step hB hb
    clear hb
    go_wp2_with fail
    with_reducible refine (same_t _ _ _ _ (sortedL (chosenL a b true ++ chosenL a b false)) a _ s3 sa (by omega) (by omega) (alg1 a b)).mono ?_
    rintro e w5 ⟨rfl, hb⟩
    replace sa := sa.step hb
    replace sb := sb.step hb
    replace sc := sc.step hb
    replace s1 := s1.step hb
    replace s2 := s2.step hb
    replace s3 := s3.step hb
    replace hB := below_step hB hb
    clear hb
    go_wp2_with fail
    with_reducible refine (meet_s _ _ _ _ (chosenL a b true) (chosenL a b false) _ s1 s2 (by omega) (by omega)).mono ?_
    rintro e w6 ⟨A4, c4, rfl, s4, hb⟩
    replace sa := sa.step hb
    replace sb := sb.step hb
    replace sc := sc.step hb
    replace s1 := s1.step hb
    replace s2 := s2.step hb
    replace hB := below_step hB hb
    clear hb
    rw [alg2]
    rw [show ([] : List Pr).length = 0 from rfl]
    clear s4
    go_wp2_with fail
    with_reducible refine (union2_s _ _ _ _ a b _ sa sb (by omega)).mono ?_
    rintro e w7 ⟨A5, c5, rfl, s5, hb⟩
    replace sa := sa.step hb
    replace sb := sb.step hb
    replace sc := sc.step hb
    replace hB := below_step hB hb
    clear hb
    go_wp2_with fail
    with_reducible refine (union2_s _ _ _ _ b a _ sb sa (by omega)).mono ?_
    rintro e w8 ⟨A6, c6, rfl, s6, hb⟩
    replace sa := sa.step hb
    replace sb := sb.step hb
    replace sc := sc.step hb
    replace s5 := s5.step hb
    replace hB := below_step hB hb
    clear hb
    go_wp2_with fail
    with_reducible refine (same_t _ _ _ _ (sortedL (a ++ b)) (sortedL (b ++ a)) _ s5 s6 (by omega) (by omega) (alg3 a b)).mono ?_
    rintro e w9 ⟨rfl, hb⟩
    replace sa := sa.step hb
    replace sb := sb.step hb
    replace sc := sc.step hb
    replace s5 := s5.step hb
    replace s6 := s6.step hb
    replace hB := below_step hB hb
    clear hb
    go_wp2_with fail
    with_reducible refine (union2_s _ _ _ _ a b _ sa sb (by omega)).mono ?_
    rintro e w10 ⟨A7, c7, rfl, s7, hb⟩
    replace sa := sa.step hb
    replace sb := sb.step hb
    replace sc := sc.step hb
    replace hB := below_step hB hb
    clear hb
    go_wp2_with fail
    with_reducible refine (union2_s _ _ _ _ (sortedL (a ++ b)) c _ s7 sc (by omega)).mono ?_
    rintro e w11 ⟨A8, c8, rfl, s8, hb⟩
    replace sa := sa.step hb
    replace sb := sb.step hb
    replace sc := sc.step hb
    replace s7 := s7.step hb
    replace hB := below_step hB hb
    clear hb
    go_wp2_with fail
    with_reducible refine (union2_s _ _ _ _ b c _ sb sc (by omega)).mono ?_
    rintro e w12 ⟨A9, c9, rfl, s9, hb⟩
    replace sa := sa.step hb
    replace sb := sb.step hb
    replace sc := sc.step hb
    replace s7 := s7.step hb
    replace s8 := s8.step hb
    replace hB := below_step hB hb
    clear hb
    go_wp2_with fail
    with_reducible refine (union2_s _ _ _ _ a (sortedL (b ++ c)) _ sa s9 (by omega)).mono ?_
    rintro e w13 ⟨A10, c10, rfl, s10, hb⟩
    replace sa := sa.step hb
    replace sb := sb.step hb
    replace sc := sc.step hb
    replace s7 := s7.step hb
    replace s8 := s8.step hb
    replace s9 := s9.step hb
    replace hB := below_step hB hb
    clear hb
    go_wp2_with fail
    with_reducible refine (same_t _ _ _ _ (sortedL (sortedL (a ++ b) ++ c)) (sortedL (a ++ sortedL (b ++ c))) _ s8 s10 (by omega) (by omega) (alg4 a b c)).mono ?_
    rintro e w14 ⟨rfl, hb⟩
    replace sa := sa.step hb
    replace sb := sb.step hb
    replace sc := sc.step hb
    replace s7 := s7.step hb
    replace s8 := s8.step hb
    replace s9 := s9.step hb
    replace s10 := s10.step hb
    replace hB := below_step hB hb
    clear hb
    go_wp2_with fail
    with_reducible refine (union2_s _ _ _ _ b c _ sb sc (by omega)).mono ?_
    rintro e w15 ⟨A11, c11, rfl, s11, hb⟩
    replace sa := sa.step hb
    replace sb := sb.step hb
    replace sc := sc.step hb
    replace hB := below_step hB hb
    clear hb
    go_wp2_with fail
    with_reducible refine (meet_s _ _ _ _ a (sortedL (b ++ c)) _ sa s11 (by omega) (by omega)).mono ?_
    rintro e w16 ⟨A12, c12, rfl, s12, hb⟩
    replace sa := sa.step hb
    replace sb := sb.step hb
    replace sc := sc.step hb
    replace s11 := s11.step hb
    replace hB := below_step hB hb
    clear hb
    go_wp2_with fail
    with_reducible refine (meet_s _ _ _ _ a b _ sa sb (by omega) (by omega)).mono ?_
    rintro e w17 ⟨A13, c13, rfl, s13, hb⟩
    replace sa := sa.step hb
    replace sb := sb.step hb
    replace sc := sc.step hb
    replace s11 := s11.step hb
    replace s12 := s12.step hb
    replace hB := below_step hB hb
    clear hb
    go_wp2_with fail
    with_reducible refine (meet_s _ _ _ _ a c _ sa sc (by omega) (by omega)).mono ?_
    rintro e w18 ⟨A14, c14, rfl, s14, hb⟩
    replace sa := sa.step hb
    replace sb := sb.step hb
    replace sc := sc.step hb
    replace s11 := s11.step hb
    replace s12 := s12.step hb
    replace s13 := s13.step hb
    replace hB := below_step hB hb
    clear hb
    go_wp2_with fail
    with_reducible refine (union2_s _ _ _ _ (chosenL a b true) (chosenL a c true) _ s13 s14 (by omega)).mono ?_
    rintro e w19 ⟨A15, c15, rfl, s15, hb⟩
    replace sa := sa.step hb
    replace sb := sb.step hb
    replace sc := sc.step hb
    replace s11 := s11.step hb
    replace s12 := s12.step hb
    replace s13 := s13.step hb
    replace s14 := s14.step hb
    replace hB := below_step hB hb
    clear hb
    go_wp2_with fail
    with_reducible refine (same_t _ _ _ _ (chosenL a (sortedL (b ++ c)) true) (sortedL (chosenL a b true ++ chosenL a c true)) _ s12 s15 (by omega) (by omega) (alg5 a b c)).mono ?_
    rintro e w20 ⟨rfl, hb⟩
    replace sa := sa.step hb
    replace sb := sb.step hb
    replace sc := sc.step hb
    replace s11 := s11.step hb
    replace s12 := s12.step hb
    replace s13 := s13.step hb
    replace s14 := s14.step hb
    replace s15 := s15.step hb
    replace hB := below_step hB hb
    clear hb
    go_wp2_with fail
    with_reducible refine (union2_s _ _ _ _ b c _ sb sc (by omega)).mono ?_
    rintro e w21 ⟨A16, c16, rfl, s16, hb⟩
    replace sa := sa.step hb
    replace sb := sb.step hb
    replace sc := sc.step hb
    replace hB := below_step hB hb
    clear hb
    go_wp2_with fail
    with_reducible refine (minus_s _ _ _ _ a (sortedL (b ++ c)) _ sa s16 (by omega) (by omega)).mono ?_
    rintro e w22 ⟨A17, c17, rfl, s17, hb⟩
    replace sa := sa.step hb
    replace sb := sb.step hb
    replace sc := sc.step hb
    replace s16 := s16.step hb
    replace hB := below_step hB hb
    clear hb
    go_wp2_with fail
    with_reducible refine (minus_s _ _ _ _ a b _ sa sb (by omega) (by omega)).mono ?_
    rintro e w23 ⟨A18, c18, rfl, s18, hb⟩
    replace sa := sa.step hb
    replace sb := sb.step hb
    replace sc := sc.step hb
    replace s16 := s16.step hb
    replace s17 := s17.step hb
    replace hB := below_step hB hb
    clear hb
    go_wp2_with fail
    with_reducible refine (minus_s _ _ _ _ (chosenL a b false) c _ s18 sc (by omega) (by omega)).mono ?_
    rintro e w24 ⟨A19, c19, rfl, s19, hb⟩
    replace sa := sa.step hb
    replace sb := sb.step hb
    replace sc := sc.step hb
    replace s16 := s16.step hb
    replace s17 := s17.step hb
    replace s18 := s18.step hb
    replace hB := below_step hB hb
    clear hb
    go_wp2_with fail
    with_reducible refine (same_t _ _ _ _ (chosenL a (sortedL (b ++ c)) false) (chosenL (chosenL a b false) c false) _ s17 s19 (by omega) (by omega) (alg6 a b c)).mono ?_
    rintro e w25 ⟨rfl, hb⟩
    replace sa := sa.step hb
    replace sb := sb.step hb
    replace sc := sc.step hb
    replace s16 := s16.step hb
    replace s17 := s17.step hb
    replace s18 := s18.step hb
    replace s19 := s19.step hb
    replace hB := below_step hB hb
    clear hb
    go_wp2_with fail
    with_reducible refine (awake_t _).mono ?_
    rintro e w26 ⟨rfl, hb⟩
    replace hB := below_step hB hb
    clear hb
    go_wp2
    go_ret
    exact ⟨rfl, hB⟩
  · go_enter Try.func6, Try.ntmps6
    go_wp2_with fail
    refine (heavy_lit [⟨A, ca, a⟩, ⟨B, cb, b⟩, ⟨C, cc, c⟩] _ _ rfl (by simp)).mono ?_
    rw [hh]
    rintro e w1 ⟨rfl, hb⟩
    replace hB := below_step hB hb
    clear hb
    go_wp2_with fail
    with_reducible refine (awake_t _).mono ?_
    rintro e w26 ⟨rfl, hb⟩
    replace hB := below_step hB hb
    clear hb
    go_wp2
    go_ret
    exact ⟨rfl, hB⟩

end Go.Proofs.Ytiggbhdokdmhhaa
