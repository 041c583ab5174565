/-
  Contracts: view.PutId, view.Put; slices.Clone of bytes, the Writer's Bytes.
-/
import Derived.Test.YtgpmcpinnaggmaaWrt
namespace Go.Proofs.Ytgpmcpinnaggmaa
set_option linter.unusedSimpArgs false
set_option linter.unusedVariables false
set_option linter.unusedSectionVars false
open Go.RowKit

theorem RdW.lit2 {w : World} {g : Nat} {v : Value} {bs : List Int} (h : Wtr w g v bs) (n i : Int) : RdW (w.alloc (bx n i)) g v 2 (some ⟨w.heap.size, 0, none⟩) 1 (pcs [(n, i)]) :=
  ⟨rfl, fun _ => ⟨_, _, rfl, by simp, by have := h.lt; omega, h.row_lt (Nat.le_refl _), fun j u hu => by
    match j, hu with
    | 0, hu => simp [pcs, pc] at hu; subst hu; simp
    | 1, hu => simp [pcs, pc] at hu; subst hu; simp
    | j + 2, hu => simp [pcs, pc] at hu⟩⟩
abbrev bxI3 (r n i : Int) : Obj := .cells #[.int .u64 r, .int .i64 n, .int .u64 i] 29
/-- the bytes of a view's name -/
def vidB (r n i : Int) : List Int := uintB r ++ procB (n, i)
theorem vidB_len (r n i : Int) : (vidB r n i).length ≤ 21 := by
  have := uintB_len r
  have := uintB_len i
  simp [vidB, procB]; omega
set_option maxHeartbeats 400000 in
theorem putId_s (g : Nat) (v : Value) (bs : List Int) (r n i : Int) (w : World) (h : Wtr w g v bs) (hn : bs.length ≤ 400000) (hr : wfU64 r) (hi : wfU64 i) :
    Calls Try.prog 101 #[.pointer (some ⟨g, 0, none⟩), .agg #[.int .u64 r, .int .i64 n, .int .u64 i]] w (RetWr g v w (bs ++ vidB r n i)) := by
  have T := hide (uint_s g v bs r _ (h.below (below_alloc w (bxI3 r n i))) (by omega) hr.1 hr.2)
  have HB := hide (WStep.below (g := g) (v := v) (below_alloc w (bxI3 r n i)))
  have hgl := h.lt
  have HRL := hide (h.row_lt (Nat.le_refl _))
  have HI := hide hi
  clear h hr hi
  go_enter Try.func101, Try.ntmps101
  go_wp2_with fail
  with_reducible refine T.out.mono ?_
  rintro e w1 ⟨rfl, v1, hw1, hs1⟩
  haveI := hs1.boxAt (boxTop w _ _) (by omega) HRL.out
  have T2 : Hid (Calls Try.prog 59 #[.pointer (some ⟨g, 0, none⟩), .slice (some ⟨w1.heap.size, 0, none⟩) 1 1] _ _) := hide (putP_s g v1 _ (some ⟨w1.heap.size, 0, none⟩) 1 [(n, i)] _ (hw1.below (below_alloc w1 (bx n i))) (RdW.lit2 hw1 n i) (by simp) (by have := uintB_len r; simp; omega) (by simpa using HI.out))
  have HB2 := hide (WStep.below (g := g) (v := v1) (below_alloc w1 (bx n i)))
  have HS1 := hide hs1
  clear hw1 hs1 T
  go_wp2_with fail
  with_reducible refine T2.out.mono ?_
  rintro e w2 ⟨rfl, v2, hw2, hs2⟩
  have HW2 := hide hw2
  have HS2 := hide hs2
  clear hw2 hs2 T2
  go_wp2
  go_end0
  refine ⟨rfl, v2, ?_, ((HB.out.trans HS1.out).trans HB2.out).trans HS2.out⟩
  have := HW2.out
  simpa [vidB, procsB] using this

/-- the bytes of a view -/
def viewB (r n i : Int) (ms : List (Int × Int)) (us : List Int) : List Int := vidB r n i ++ [(ms.length : Int) % 256] ++ procsB ms ++ uintsB us
abbrev bxV (r n i : Int) (MA : Option Addr) (ml mc : Nat) (UA : Option Addr) (ul uc : Nat) : Obj := .cells #[.int .u64 r, .int .i64 n, .int .u64 i, .slice MA ml mc, .slice UA ul uc] 32
set_option maxHeartbeats 400000 in
theorem putV_s (g : Nat) (v : Value) (bs : List Int) (r n i : Int) (MA : Option Addr) (mc : Nat) (ms : List (Int × Int)) (UA : Option Addr) (uc : Nat) (us : List Int) (w : World) (h : Wtr w g v bs) (hn : bs.length ≤ 100000)
    (hm : RdW w g v 2 MA ms.length (pcs ms)) (hu : RdW w g v 1 UA us.length (ucs us)) (hml : ms.length ≤ 10000) (hul : us.length ≤ 10000) (hr : wfU64 r) (hi : wfU64 i) (hmw : ∀ p ∈ ms, wfU64 p.2) (huw : ∀ x ∈ us, wfU64 x) :
    Calls Try.prog 61 #[.pointer (some ⟨g, 0, none⟩), .agg #[.int .u64 r, .int .i64 n, .int .u64 i, .slice MA ms.length mc, .slice UA us.length uc]] w (RetWr g v w (bs ++ viewB r n i ms us)) := by
  have T := hide (putId_s g v bs r n i _ (h.below (below_alloc w (bxV r n i MA ms.length mc UA us.length uc))) (by omega) hr hi)
  have hB := WStep.below (g := g) (v := v) (below_alloc w (bxV r n i MA ms.length mc UA us.length uc))
  have HM := hide (hm.step hB)
  have HU := hide (hu.step hB)
  have HB := hide hB
  have hgl := h.lt
  have HRL := hide (h.row_lt (Nat.le_refl _))
  have HMW := hide hmw
  have HUW := hide huw
  clear h hr hi hm hu hmw huw hB
  go_enter Try.func61, Try.ntmps61
  go_wp2_with fail
  with_reducible refine T.out.mono ?_
  rintro e w1 ⟨rfl, v1, hw1, hs1⟩
  have hb1 := hs1.boxAt (boxTop w _ _) (by omega) HRL.out
  haveI := hb1
  have hv1 : v1.ownBlock ≠ some w.heap.size := by
    rcases hs1.own with e | ⟨k, hk, e⟩
    · rw [e]; exact HRL.out
    · rw [e]; intro e'; injection e' with e'; simp at hk; omega
  have HV1 := hide hv1
  have T2 := hide (u8_s g v1 _ ((ms.length : Int) % 256) w1 hw1 (by have := vidB_len r n i; simp; omega) (by omega) (by omega))
  replace HM := hide (HM.out.step hs1)
  replace HU := hide (HU.out.step hs1)
  have HS1 := hide (HB.out.trans hs1)
  clear hw1 hs1 T HB hv1
  go_wp2_with fail
  with_reducible refine T2.out.mono ?_
  rintro e w2 ⟨rfl, v2, hw2, hs2⟩
  have hb2 := hs2.boxAt hb1 (by omega) HV1.out
  haveI := hb2
  have hv2 : v2.ownBlock ≠ some w.heap.size := by
    rcases hs2.own with e | ⟨k, hk, e⟩
    · rw [e]; exact HV1.out
    · rw [e]; intro e'; injection e' with e'; have := hb1.lt; omega
  have HV2 := hide hv2
  replace HM := hide (HM.out.step hs2)
  replace HU := hide (HU.out.step hs2)
  have T3 := hide (putP_s g v2 _ MA mc ms w2 hw2 HM.out hml (by have := vidB_len r n i; simp; omega) HMW.out)
  have HS2 := hide (HS1.out.trans hs2)
  clear hw2 hs2 T2 HS1 hv2 HV1
  go_wp2_with fail
  with_reducible refine T3.out.mono ?_
  rintro e w3 ⟨rfl, v3, hw3, hs3⟩
  have hb3 := hs3.boxAt hb2 (by omega) HV2.out
  haveI := hb3
  replace HU := hide (HU.out.step hs3)
  have T4 := hide (putU_s g v3 _ UA uc us w3 hw3 HU.out hul (by have := vidB_len r n i; have := procsB_len ms; simp; omega) HUW.out)
  have HS3 := hide (HS2.out.trans hs3)
  clear hw3 hs3 T3 HS2 HV2
  go_wp2_with fail
  with_reducible refine T4.out.mono ?_
  rintro e w4 ⟨rfl, v4, hw4, hs4⟩
  have HW4 := hide hw4
  have HS4 := hide (HS3.out.trans hs4)
  clear hw4 hs4 T4 HS3
  go_wp2
  go_end0
  refine ⟨rfl, v4, ?_, HS4.out⟩
  have := HW4.out
  simpa [viewB] using this

/-- bytes of one's own -/
def OwnB (w : World) (base : Nat) (v : Value) (bs : List Int) : Prop := w.ownsRow base 5 1 v bs.length (bcs bs)
set_option maxHeartbeats 400000 in
theorem cloneB_s (A : Option Addr) (c : Nat) (bs : List Int) (w : World) (h : Reads w w.heap.size 1 A bs.length (bcs bs)) (hn : bs.length ≤ 1000000) :
    Calls Try.prog 88 #[.slice A bs.length c] w fun e w' => ∃ v, e = .returned v ∧ OwnB w' w.heap.size v bs ∧ Below w.heap.size w w' := by
  cases A with
  | none =>
    have h0 : bs.length = 0 := by
      rcases Nat.eq_zero_or_pos bs.length with h' | h'
      · exact h'
      · obtain ⟨_, _, h'', _⟩ := h.2 h'; cases h''
    have hl : bs = [] := List.eq_nil_of_length_eq_zero h0
    subst hl
    clear h h0
    have hnil : ∀ W c, (binOp .eql 22 (.slice none 0 c) (.slice none 0 0)).run Try.prog W = .ok (.bool true) W := fun W c => Lib.run_eql_slice_nil W 22 5 none 0 c 0 0 Try.underlying22
    rw [show ([] : List Int).length = 0 from rfl]
    go_enter Try.func88, Try.ntmps88
    go_wp2
    go_ret
    exact ⟨_, rfl, World.ownsRow_nil _ _ _ _, Below.refl _ _⟩
  | some ad =>
    have hnil : ∀ W, (binOp .eql 22 (.slice (some ad) bs.length c) (.slice none 0 0)).run Try.prog W = .ok (.bool false) W := fun W => Lib.run_eql_slice_nil W 22 5 (some ad) bs.length c 0 0 Try.underlying22
    go_enter Try.func88, Try.ntmps88
    go_wp2_with (at_builtin; go_must (refine wpList_append_any _ Try.okB (by rfl) (.tmp 5) (.tmp 6) (by rfl) w.heap.size (.slice (some ⟨w.heap.size, 0, none⟩) 0 0) 0 [] (by rfl) (World.ownsRow_lit w #[] 0 (Nat.le_refl _) (by unfold maxLen; omega) rfl) w.heap.size (some ad) bs.length c (bcs bs) (by rfl) (h.alloc (Nat.le_refl _) _) (bcs_one bs) (by unfold maxLen; omega) (by omega) (by simp) ?_); intro v1 w1 hown1 hg1 hnil1 hat1)
    go_ret
    rw [Nat.zero_add, List.nil_append] at hown1
    exact ⟨_, rfl, hown1, (below_alloc w _).grown hg1 (by simp) (by simp [Value.ownBlock])⟩
theorem Wtr.reads {w : World} {g : Nat} {A : Option Addr} {n c : Nat} {bs : List Int} (h : Wtr w g (.slice A n c) bs) : n = bs.length ∧ Reads w w.heap.size 1 A bs.length (bcs bs) := by
  obtain ⟨A', c', e, _⟩ := own_slice h.own
  injection e with e1 e2 e3
  subst e1 e2 e3
  exact ⟨rfl, Reads.of_own h.own⟩
set_option maxHeartbeats 400000 in
theorem bytes_s (g : Nat) (v : Value) (bs : List Int) (w : World) (h : Wtr w g v bs) (hn : bs.length ≤ 1000000) :
    Calls Try.prog 62 #[.pointer (some ⟨g, 0, none⟩)] w fun e w' => ∃ v, e = .returned v ∧ OwnB w' w.heap.size v bs ∧ Below w.heap.size w w' := by
  obtain ⟨A, c, rfl, _, _⟩ := own_slice h.own
  have T := hide (cloneB_s A c bs w h.reads.2 hn)
  haveI := h.boxAt
  clear h
  go_enter Try.func62, Try.ntmps62
  go_wp2_with fail
  with_reducible refine T.out.mono ?_
  rintro e w1 ⟨v1, rfl, ho, hb⟩
  have HO := hide ho
  clear ho
  go_wp2
  go_ret
  exact ⟨v1, rfl, HO.out, hb⟩
end Go.Proofs.Ytgpmcpinnaggmaa
