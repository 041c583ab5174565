/-
  Walk: the law ProcJoins answers true at every input.
-/
import Derived.Test.YtiggbhdokdmhhaaLAlg
import Derived.Test.YtiggbhdokdmhhaaOpen
namespace Go.Proofs.Ytiggbhdokdmhhaa
open Go.RowKit Go.Sort Go.Lib

/-- the slice at A reads as these lists -/
def Sls (w : World) (A : Option Addr) (xs : List Sv) : Prop := Reads w w.heap.size 1 A xs.length (svs xs) ∧ ∀ x ∈ xs, x.ok w w.heap.size
theorem Sls.step {w w' : World} {A : Option Addr} {xs : List Sv} (h : Sls w A xs) (hb : Below w.heap.size w w') : Sls w' A xs :=
  ⟨(Reads.below h.1 hb).more hb.size, fun x hx => Sl.step (A := x.A) (h.2 x hx) hb⟩
theorem union_s (A : Option Addr) (c : Nat) (xs : List Sv) (w : World) (h : Sls w A xs) (hn : xs.length ≤ 1000000) (hm : (flatS xs).length ≤ 1000000) :
    Calls Try.prog 16 #[.slice A xs.length c] w (RetS w (sortedL (flatS xs))) :=
  (union_any A c xs w h.1 h.2 hn hm).mono fun _ _ ⟨A', h1, h2, h3⟩ => ⟨A', _, h1, h2, h3⟩
theorem both_e (A A' : Option Addr) (c c' : Nat) (a b ab : List Pr) (w : World) (h : Sl w A a) (h' : Sl w A' b) (hn : a.length + b.length ≤ 1000000) (hab : Hid (ab = a ++ b)) :
    Calls Try.prog 18 #[.slice A a.length c, .slice A' b.length c'] w (RetS w ab) := by rw [hab.out]; exact both_s A A' c c' a b w h h' hn
theorem flatS_small {xs : List Sv} (h : hvB xs = false) : xs.length ≤ 20 ∧ (flatS xs).length ≤ xs.length * 300 := by
  unfold hvB at h
  simp at h
  refine ⟨h.2, ?_⟩
  have h1 := h.1
  clear h
  induction xs with
  | nil => simp [flatS]
  | cons x xs ih =>
    have h2 := ih fun y hy => h1 y (List.mem_cons_of_mem _ hy)
    have h3 := h1 x (by simp)
    have : flatS (x :: xs) = x.l ++ flatS xs := by simp [flatS]
    rw [this, List.length_append, List.length_cons]; omega

set_option maxRecDepth 100000 in
set_option maxHeartbeats 4000000 in
theorem procJoins_true (A B M : Option Addr) (ca cb cm : Nat) (a b : List Pr) (ms : List Sv) (w : World) (sa : Sl w A a) (sb : Sl w B b) (sm : Sls w M ms) (hm : ms.length ≤ 9223372036854775807) :
    Calls Try.prog 5 #[.slice A a.length ca, .slice B b.length cb, .slice M ms.length cm] w fun e w' => e = .returned (.bool true) ∧ Below w.heap.size w w' := by
  have hB := Below.refl w.heap.size w
  cases hh : hvB [⟨A, ca, a⟩, ⟨B, cb, b⟩]
  · cases hh2 : hvB ms
    · have hl : a.length ≤ 300 ∧ b.length ≤ 300 := by simpa [hvB] using hh
      obtain ⟨la, lb⟩ := hl
      obtain ⟨lm, lf⟩ := flatS_small hh2
      obtain ⟨ab, hab⟩ : ∃ ab, ab = a ++ b := ⟨_, rfl⟩
      have n4 := sortedL_len ab
      have n3 : ab.length = a.length + b.length := by rw [hab, List.length_append]
      have n2 : ab.length ≤ 600 := by omega
      have HAB := hide hab
      clear hab n3
      have n5 := chosenL_len a b true
      have n6 := chosenL_len a b false
      have n7 := sortedL_len (flatS ms)
      have n8 := sortedL_len a
      go_enter Try.func5, Try.ntmps5
      go_wp2_with fail
      refine (heavy_lit [⟨A, ca, a⟩, ⟨B, cb, b⟩] _ _ rfl (by simp)).mono ?_
      rw [hh]
      rintro e w1 ⟨rfl, hb⟩
      replace sa := sa.step hb
      replace sb := sb.step hb
      replace sm := sm.step hb
      replace hB := below_step hB hb
      clear hb
      go_wp2_with fail
      refine (heavy_any M cm ms w1 sm.1 hm).mono ?_
      rw [hh2]
      rintro e w2 ⟨rfl, rfl⟩
      clear hh hh2
      go_wp2
      go_loopw [7, 8] (fun v i wr => ∃ k : Nat, k ≤ ms.length ∧ i = .int .i64 k ∧ OwnP wr w1.heap.size v (flatS (ms.take k)) ∧ Below w1.heap.size w1 wr) (fun _ i _ => ms.length - (intOf i).toNat)
      case atStart => exact ⟨0, Nat.zero_le _, rfl, World.ownsRow_nil _ _ _ _, Below.refl _ _⟩
      case round =>
        obtain ⟨k, hk, rfl, hown, hbw⟩ := hrel
        have HO := hide hown
        by_cases hlt : k < ms.length
        · obtain ⟨b1, off, x, rfl, hb, hx, g1⟩ := (Reads.below sm.1 hbw).atS hlt
          have hxo := Sv.ok_below (sm.2 x (List.mem_of_getElem? hx)) hbw
          have HX := hide (flatS_take hx)
          have hle := flatS_le ms (k + 1)
          have hl := congrArg List.length HX.out
          rw [List.length_append] at hl
          have hsum : (flatS (ms.take k)).length + x.l.length ≤ 1000000 := by omega
          have HXO := hide hxo
          clear hx hxo hl hle hown
          go_wp2_with (at_builtin; refine wpList_append_any _ Try.okP (by rfl) (.tmp 27) (.tmp 31) (by rfl) w1.heap.size _ _ (pcs (flatS (ms.take k))) (by rfl) HO.out w1.heap.size x.A x.l.length x.c (pcs x.l) (by rfl) HXO.out (pc_one x.l) (by unfold maxLen; omega) (by omega) hbw.size ?_; intro v1 w1' hown1 hg1 hnil1 hat1)
          go_roundw
          case rel =>
            refine ⟨k + 1, by omega, by go_num, ?_, hbw.grown hg1 hbw.size (fun g hg => (HO.out.lt g hg).1)⟩
            rw [OwnP, HX.out, List.length_append, pcs_app]; exact hown1
          case measure => simp [intOf]; omega
        · have hk' : k = ms.length := by omega
          subst hk'
          rw [List.take_length] at hown
          obtain ⟨FA, FC, rfl, _, _⟩ := own_slice hown
          have sf : Sl wr FA (flatS ms) := Reads.of_own hown
          clear hown HO hlt hk
          obtain ⟨hb, _⟩ := And.intro hbw trivial
          replace sa := sa.step hb
          replace sb := sb.step hb
          replace sm := sm.step hb
          replace hB := below_step hB hb
          clear hb
          clear hbw
          go_wp2_with (first
            | (at_builtin; refine wpList_append_any _ Try.okP (by rfl) (.tmp 33) (.tmp 34) (by rfl) wr.heap.size (.slice (some ⟨wr.heap.size, 0, none⟩) 0 0) 0 [] (by rfl) (own_empty wr) wr.heap.size A a.length ca (pcs a) (by rfl) (Reads.alloc sa (Nat.le_refl _) _) (pc_one _) (by unfold maxLen; omega) (by omega) (by simp) ?_; intro v1 w3 hown1 hg1 hnil1 hat1; obtain ⟨XA, XC, rfl, _, _⟩ := own_slice hown1; rw [Nat.zero_add, List.nil_append] at hown1; rw [Nat.zero_add]; have sx : Sl w3 XA a := Reads.of_own hown1; clear hown1; have hb3 : Below wr.heap.size wr w3 := (below_alloc wr _).grown hg1 (by simp) (by simp [Value.ownBlock]); have hs3 := hb3.size)
            | (at_builtin; refine wpList_append_any _ Try.okP (by rfl) (.tmp 36) (.tmp 37) (by rfl) w3.heap.size (.slice (some ⟨w3.heap.size, 0, none⟩) 0 0) 0 [] (by rfl) (own_empty w3) wr.heap.size B b.length cb (pcs b) (by rfl) ((Reads.below sb hb3).alloc hs3 _) (pc_one _) (by unfold maxLen; omega) (by omega) (by simp) ?_; intro v2 w4 hown2 hg2 hnil2 hat2; obtain ⟨YA, YC, rfl, _, _⟩ := own_slice hown2; rw [Nat.zero_add, List.nil_append] at hown2; rw [Nat.zero_add]; have sy : Sl w4 YA b := Reads.of_own hown2; clear hown2; have hb4 : Below w3.heap.size w3 w4 := (below_alloc w3 _).grown hg2 (by simp) (by simp [Value.ownBlock]))
            | fail)
          clear hg1 hg2 hnil1 hnil2 hat1 hat2 hs3
          replace sx := sx.step hb4
          have hb := below_step hb3 hb4
          clear hb3 hb4
          replace sa := sa.step hb
          replace sb := sb.step hb
          replace sm := sm.step hb
          replace sf := sf.step hb
          replace hB := below_step hB hb
          clear hb
          with_reducible refine (union2_s _ _ _ _ a b _ sx sy (by omega)).mono ?_
          rw [← HAB.out]
          rintro e w5 ⟨A1, c1, rfl, s1, hb⟩
          replace sa := sa.step hb
          replace sb := sb.step hb
          replace sm := sm.step hb
          replace sf := sf.step hb
          replace sx := sx.step hb
          replace sy := sy.step hb
          replace hB := below_step hB hb
          clear hb
          go_wp2_with fail
          with_reducible refine (both_e _ _ _ _ a b ab _ sa sb (by omega) HAB).mono ?_
          rintro e w6 ⟨A2, c2, rfl, s2, hb⟩
          replace sa := sa.step hb
          replace sb := sb.step hb
          replace sm := sm.step hb
          replace sf := sf.step hb
          replace sx := sx.step hb
          replace sy := sy.step hb
          replace s1 := s1.step hb
          replace hB := below_step hB hb
          clear hb
          go_wp2_with fail
          with_reducible refine (refSorted_s _ _ ab _ s2 (by omega)).mono ?_
          rintro e w7 ⟨A3, c3, rfl, s3, hb⟩
          replace sa := sa.step hb
          replace sb := sb.step hb
          replace sm := sm.step hb
          replace sf := sf.step hb
          replace sx := sx.step hb
          replace sy := sy.step hb
          replace s1 := s1.step hb
          replace s2 := s2.step hb
          replace hB := below_step hB hb
          clear hb
          go_wp2_with fail
          with_reducible refine (refEqual_t _ _ _ _ (sortedL ab) (sortedL ab) _ s1 s3 (by omega) rfl).mono ?_
          rintro e w8 ⟨rfl, hb⟩
          replace sa := sa.step hb
          replace sb := sb.step hb
          replace sm := sm.step hb
          replace sf := sf.step hb
          replace sx := sx.step hb
          replace sy := sy.step hb
          replace s1 := s1.step hb
          replace s2 := s2.step hb
          replace s3 := s3.step hb
          replace hB := below_step hB hb
          clear hb
          go_wp2_with fail
          with_reducible refine (union_s _ _ ms _ sm (by omega) (by omega)).mono ?_
          rintro e w9 ⟨A4, c4, rfl, s4, hb⟩
          replace sa := sa.step hb
          replace sb := sb.step hb
          replace sm := sm.step hb
          replace sf := sf.step hb
          replace sx := sx.step hb
          replace sy := sy.step hb
          replace hB := below_step hB hb
          clear hb
          go_wp2_with fail
          with_reducible refine (refSorted_s _ _ (flatS ms) _ sf (by omega)).mono ?_
          rintro e w10 ⟨A5, c5, rfl, s5, hb⟩
          replace sa := sa.step hb
          replace sb := sb.step hb
          replace sm := sm.step hb
          replace sf := sf.step hb
          replace sx := sx.step hb
          replace sy := sy.step hb
          replace s4 := s4.step hb
          replace hB := below_step hB hb
          clear hb
          go_wp2_with fail
          with_reducible refine (refEqual_t _ _ _ _ (sortedL (flatS ms)) (sortedL (flatS ms)) _ s4 s5 (by omega) rfl).mono ?_
          rintro e w11 ⟨rfl, hb⟩
          replace sa := sa.step hb
          replace sb := sb.step hb
          replace sm := sm.step hb
          replace sf := sf.step hb
          replace sx := sx.step hb
          replace sy := sy.step hb
          replace s4 := s4.step hb
          replace s5 := s5.step hb
          replace hB := below_step hB hb
          clear hb
          go_wp2_with fail
          with_reducible refine (meet_s _ _ _ _ a b _ sx sy (by omega) (by omega)).mono ?_
          rintro e w12 ⟨A6, c6, rfl, s6, hb⟩
          replace sa := sa.step hb
          replace sb := sb.step hb
          replace sm := sm.step hb
          replace sf := sf.step hb
          replace sx := sx.step hb
          replace sy := sy.step hb
          replace hB := below_step hB hb
          clear hb
          go_wp2_with fail
          with_reducible refine (kept_s _ _ _ _ a b true _ sa sb (by omega) (by omega)).mono ?_
          rintro e w13 ⟨A7, c7, rfl, s7, hb⟩
          replace sa := sa.step hb
          replace sb := sb.step hb
          replace sm := sm.step hb
          replace sf := sf.step hb
          replace sx := sx.step hb
          replace sy := sy.step hb
          replace s6 := s6.step hb
          replace hB := below_step hB hb
          clear hb
          go_wp2_with fail
          with_reducible refine (refEqual_t _ _ _ _ (chosenL a b true) (chosenL a b true) _ s6 s7 (by omega) rfl).mono ?_
          rintro e w14 ⟨rfl, hb⟩
          replace sa := sa.step hb
          replace sb := sb.step hb
          replace sm := sm.step hb
          replace sf := sf.step hb
          replace sx := sx.step hb
          replace sy := sy.step hb
          replace s6 := s6.step hb
          replace s7 := s7.step hb
          replace hB := below_step hB hb
          clear hb
          go_wp2_with fail
          with_reducible refine (minus_s _ _ _ _ a b _ sx sy (by omega) (by omega)).mono ?_
          rintro e w15 ⟨A8, c8, rfl, s8, hb⟩
          replace sa := sa.step hb
          replace sb := sb.step hb
          replace sm := sm.step hb
          replace sf := sf.step hb
          replace sx := sx.step hb
          replace sy := sy.step hb
          replace hB := below_step hB hb
          clear hb
          go_wp2_with fail
          with_reducible refine (kept_s _ _ _ _ a b false _ sa sb (by omega) (by omega)).mono ?_
          rintro e w16 ⟨A9, c9, rfl, s9, hb⟩
          replace sa := sa.step hb
          replace sb := sb.step hb
          replace sm := sm.step hb
          replace sf := sf.step hb
          replace sx := sx.step hb
          replace sy := sy.step hb
          replace s8 := s8.step hb
          replace hB := below_step hB hb
          clear hb
          go_wp2_with fail
          with_reducible refine (refEqual_t _ _ _ _ (chosenL a b false) (chosenL a b false) _ s8 s9 (by omega) rfl).mono ?_
          rintro e w17 ⟨rfl, hb⟩
          replace sa := sa.step hb
          replace sb := sb.step hb
          replace sm := sm.step hb
          replace sf := sf.step hb
          replace sx := sx.step hb
          replace sy := sy.step hb
          replace s8 := s8.step hb
          replace s9 := s9.step hb
          replace hB := below_step hB hb
          clear hb
          go_wp2_with fail
          with_reducible refine (refSorted_s _ _ a _ sa (by omega)).mono ?_
          rintro e w18 ⟨A10, c10, rfl, s10, hb⟩
          replace sa := sa.step hb
          replace sb := sb.step hb
          replace sm := sm.step hb
          replace sf := sf.step hb
          replace sx := sx.step hb
          replace sy := sy.step hb
          replace hB := below_step hB hb
          clear hb
          go_wp2_with fail
          with_reducible refine (refSorted_s _ _ b _ sb (by omega)).mono ?_
          rintro e w19 ⟨A11, c11, rfl, s11, hb⟩
          replace sa := sa.step hb
          replace sb := sb.step hb
          replace sm := sm.step hb
          replace sf := sf.step hb
          replace sx := sx.step hb
          replace sy := sy.step hb
          replace s10 := s10.step hb
          replace hB := below_step hB hb
          clear hb
          have n9 := sortedL_len b
          go_wp2_with fail
          with_reducible refine (refEqual_s _ _ _ _ (sortedL a) (sortedL b) _ s10 s11 (by omega) (by omega)).mono ?_
          rintro e w20 ⟨rfl, hb⟩
          replace sa := sa.step hb
          replace sb := sb.step hb
          replace sm := sm.step hb
          replace sf := sf.step hb
          replace sx := sx.step hb
          replace sy := sy.step hb
          replace s10 := s10.step hb
          replace s11 := s11.step hb
          replace hB := below_step hB hb
          clear hb
          go_wp2_with fail
          with_reducible refine (same_s _ _ _ _ a b _ sx sy (by omega) (by omega)).mono ?_
          rintro e w21 ⟨rfl, hb⟩
          replace sa := sa.step hb
          replace sb := sb.step hb
          replace sm := sm.step hb
          replace sf := sf.step hb
          replace sx := sx.step hb
          replace sy := sy.step hb
          replace hB := below_step hB hb
          clear hb
          have hd : (decide (sortedL a = sortedL b) == decide (sortedL a = sortedL b)) = true := by simp
          generalize decide (sortedL a = sortedL b) = d at hd ⊢
          go_wp2_with fail
          with_reducible refine (refEqual_t _ _ _ _ a a _ sx sa (by omega) rfl).mono ?_
          rintro e w22 ⟨rfl, hb⟩
          replace sa := sa.step hb
          replace sb := sb.step hb
          replace sm := sm.step hb
          replace sf := sf.step hb
          replace sx := sx.step hb
          replace sy := sy.step hb
          replace hB := below_step hB hb
          clear hb
          go_wp2_with fail
          with_reducible refine (refEqual_t _ _ _ _ b b _ sy sb (by omega) rfl).mono ?_
          rintro e w23 ⟨rfl, hb⟩
          replace sa := sa.step hb
          replace sb := sb.step hb
          replace sm := sm.step hb
          replace sf := sf.step hb
          replace sx := sx.step hb
          replace sy := sy.step hb
          replace hB := below_step hB hb
          clear hb
          go_wp2_with fail
          with_reducible refine (awake_t _).mono ?_
          rintro e w24 ⟨rfl, hb⟩
          replace hB := below_step hB hb
          clear hb
          go_wp2
          go_ret
          exact ⟨rfl, hB⟩
    · go_enter Try.func5, Try.ntmps5
      go_wp2_with fail
      refine (heavy_lit [⟨A, ca, a⟩, ⟨B, cb, b⟩] _ _ rfl (by simp)).mono ?_
      rw [hh]
      rintro e w1 ⟨rfl, hb⟩
      replace sm := sm.step hb
      replace hB := below_step hB hb
      clear hb
      go_wp2_with fail
      refine (heavy_any M cm ms w1 sm.1 hm).mono ?_
      rw [hh2]
      rintro e w2 ⟨rfl, rfl⟩
      go_wp2_with fail
      with_reducible refine (awake_t _).mono ?_
      rintro e w26 ⟨rfl, hb⟩
      replace hB := below_step hB hb
      clear hb
      go_wp2
      go_ret
      exact ⟨rfl, hB⟩
  · go_enter Try.func5, Try.ntmps5
    go_wp2_with fail
    refine (heavy_lit [⟨A, ca, a⟩, ⟨B, cb, b⟩] _ _ rfl (by simp)).mono ?_
    rw [hh]
    rintro e w1 ⟨rfl, hb⟩
    replace hB := below_step hB hb
    clear hb
    go_wp2_with fail
    with_reducible refine (awake_t _).mono ?_
    rintro e w26 ⟨rfl, hb⟩
    replace hB := below_step hB hb
    clear hb
    go_wp2
    go_ret
    exact ⟨rfl, hB⟩

end Go.Proofs.Ytiggbhdokdmhhaa
