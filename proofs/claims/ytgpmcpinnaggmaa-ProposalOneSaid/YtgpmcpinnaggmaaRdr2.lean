/-
  Contracts: the Reader's number, wide (one byte), U8, Uint, End.
-/
import Derived.Test.YtgpmcpinnaggmaaRdr
namespace Go.Proofs.Ytgpmcpinnaggmaa
set_option linter.unusedSimpArgs false
set_option linter.unusedVariables false
set_option linter.unusedSectionVars false
open Go.RowKit

/-- the short number at the front of a reader's bytes -/
def numV (bs : List Int) (bad : Bool) : Int × Nat := if bad then (0, 0) else numGo 0 0 bs
theorem numGo_step {bs : List Int} {k : Nat} {X c : Int} (h : bs[k]? = some c) : numGo k X (bs.drop k) = (if k = 9 ∧ 1 < c then (0, 0) else if c < 128 then (if c = 0 ∧ 0 < k then (0, 0) else (X + c % 128 * 128 ^ k, k + 1)) else numGo (k + 1) (X + c % 128 * 128 ^ k) (bs.drop (k + 1))) := by
  obtain ⟨hk, rfl⟩ := List.getElem?_eq_some_iff.1 h
  rw [List.drop_eq_getElem_cons hk, numGo]
theorem pow_next {X c : Int} {k : Nat} (h0 : 0 ≤ X) (h1 : X < 128 ^ k) : 0 ≤ X + c % 128 * 128 ^ k ∧ X + c % 128 * 128 ^ k < 128 ^ (k + 1) := by
  have hp : (0 : Int) ≤ 128 ^ k := Int.pow_nonneg (by omega)
  rw [Int.pow_succ]
  generalize (128 : Int) ^ k = p at h1 hp ⊢
  have hm : 0 ≤ c % 128 * p := Int.mul_nonneg (by omega) hp
  have hm2 : c % 128 * p ≤ 127 * p := Int.mul_le_mul_of_nonneg_right (by omega) hp
  omega
theorem orStep {X x : Int} {k : Nat} (hk : k ≤ 9) (h0 : 0 ≤ X) (h1 : X < 128 ^ k) (h9 : k = 9 → x % 128 ≤ 1) : bits .or .u64 X (IntKind.u64.wrap (x % 128 * 2 ^ (7 * k))) = X + x % 128 * 128 ^ k := by
  have e : (2 : Int) ^ (7 * k) = 128 ^ k := by rw [Int.pow_mul]; rfl
  rw [e]
  have hp : (0 : Int) ≤ 128 ^ k := Int.pow_nonneg (by omega)
  have hle : x % 128 * 128 ^ k < 2 ^ 64 := by
    rcases Nat.lt_or_ge k 9 with h9' | h9'
    · have : (128 : Int) ^ k ≤ 128 ^ 8 := by
        have e : (128 : Nat) ^ k ≤ 128 ^ 8 := Nat.pow_le_pow_right (by omega) (by omega)
        exact_mod_cast e
      have h3 : x % 128 * 128 ^ k ≤ 127 * 128 ^ 8 := Int.mul_le_mul (by omega) this hp (by omega)
      have : (127 : Int) * 128 ^ 8 < 2 ^ 64 := by decide
      omega
    · obtain rfl : k = 9 := by omega
      have h3 : x % 128 * (128 : Int) ^ 9 ≤ 1 * 128 ^ 9 := Int.mul_le_mul_of_nonneg_right (h9 rfl) (by decide)
      have : (1 : Int) * 128 ^ 9 < 2 ^ 64 := by decide
      omega
  rw [IntWalk.u64_in _ ⟨Int.mul_nonneg (by omega) hp, by omega⟩]
  exact orShift hk h0 h1 (by omega) (by omega) h9
set_option maxHeartbeats 1000000 in
theorem number_s (g B : Nat) (bs : List Int) (bad : Bool) (w : World) (h : Rds w g B bs bad) (hn : bs.length ≤ 1000000) :
    Calls Try.prog 92 #[.pointer (some ⟨g, 0, none⟩)] w fun e w' => e = .returned (.tuple #[.int .u64 (numV bs bad).1, .int .i64 (numV bs bad).2]) ∧ w = w' := by
  obtain ⟨A, c, h⟩ := h
  have hb := h.boxAt
  haveI := hb
  have hok := h.ok
  have H := hide h
  have HK := hide hok
  clear h hok
  cases bad
  · have HV := hide (show numV bs false = numGo 0 0 bs from rfl)
    go_enter Try.func92, Try.ntmps92
    go_wp2
    go_loop [4, 16] (fun x i => ∃ (k : Nat) (X : Int), k ≤ bs.length ∧ k ≤ 9 ∧ i = .int .i64 k ∧ x = .int .u64 X ∧ 0 ≤ X ∧ X < 128 ^ k ∧ numGo 0 0 bs = numGo k X (bs.drop k)) (fun _ i => bs.length - (intOf i).toNat)
    case atStart => exact ⟨0, 0, Nat.zero_le _, by omega, rfl, rfl, by omega, by omega, rfl⟩
    case round =>
      obtain ⟨k, X, hk, hk9, rfl, rfl, hX0, hX1, hnum⟩ := hrel
      have HX1 := hide hX1
      have HN := hide (HV.out.trans hnum)
      clear hnum hX1 HV
      by_cases hlt : k < bs.length
      · obtain ⟨b, off, x, rfl, hb1, hbg, hx, g1⟩ := H.out.atB hlt
        obtain ⟨hx0, hx1⟩ := HK.out.get hx
        have HS := hide (numGo_step (X := X) hx)
        have ha := u8and127 hx0 hx1
        clear hx H
        by_cases hA : k = 9 ∧ 1 < x
        · have HZ := hide (show numV bs false = (0, 0) by rw [HN.out, HS.out, if_pos hA])
          obtain ⟨rfl, h1x⟩ := hA
          clear HN HS HX1
          go_wp2
          refine bodyPost_ret (v := .tuple #[.int .u64 0, .int .i64 0]) (by simp [results, Try.results92, go_sem]) rfl ⟨by rw [HZ.out]; rfl, rfl⟩
        · replace HS := hide (HS.out.trans (if_neg hA))
          by_cases h128 : x < 128
          · replace HS := hide (HS.out.trans (if_pos h128))
            have hst := hide (orStep (x := x) hk9 hX0 HX1.out (by omega))
            have hA1 : (k : Int) = 9 → x ≤ 1 := by omega
            by_cases hz : x = 0 ∧ 0 < k
            · have HZ := hide (show numV bs false = (0, 0) by rw [HN.out, HS.out, if_pos hz])
              obtain ⟨rfl, hk0⟩ := hz
              clear HN HS HX1 hA hst
              go_wp2
              all_goals refine bodyPost_ret (v := .tuple #[.int .u64 0, .int .i64 0]) (by simp [results, Try.results92, go_sem]) rfl ⟨by rw [HZ.out]; rfl, rfl⟩
            · replace HS := hide (HN.out.trans (HS.out.trans (if_neg hz)))
              by_cases hx00 : x = 0
              · obtain rfl : k = 0 := by omega
                subst hx00
                obtain rfl : X = 0 := by have := HX1.out; simp at this; omega
                clear HN HX1 hA hz hst hA1
                rw [Nat.add_zero] at g1
                go_wp2
                refine bodyPost_ret (v := .tuple #[.int .u64 0, .int .i64 1]) (by simp [results, Try.results92, go_sem]; rfl) rfl ⟨by rw [HS.out]; rfl, rfl⟩
              · have hxb : (x == 0) = false := by simp [hx00]
                by_cases hk90 : k = 9
                · subst hk90
                  obtain rfl : x = 1 := by omega
                  have hst1 : bits .or .u64 X 9223372036854775808 = X + 9223372036854775808 := by
                    have := hst.out
                    rw [show IntKind.u64.wrap (1 % 128 * 2 ^ (7 * 9)) = 9223372036854775808 by decide] at this
                    exact this
                  clear HN HX1 hA hz hst hA1
                  go_wp2
                  refine bodyPost_ret (v := .tuple #[.int .u64 (X + 9223372036854775808), .int .i64 10]) (by simp [results, Try.results92, go_sem]) rfl ⟨by rw [HS.out]; rfl, rfl⟩
                · have hkb : ((k : Int) == 9) = false := by simp; omega
                  have hkb' : ¬ (k : Int) = 9 := by omega
                  clear HN HX1 hA hz hA1
                  go_wp2
                  refine bodyPost_ret (v := .tuple #[.int .u64 (X + x % 128 * 128 ^ k), .int .i64 (k + 1 : Nat)]) (by simp [results, Try.results92, go_sem]; exact hst.out) rfl ⟨by rw [HS.out], rfl⟩
          · replace HS := hide (HS.out.trans (if_neg h128))
            have hge : 128 ≤ x := by omega
            have h9 : ¬ (k : Int) = 9 := by omega
            have h9' : ((k : Int) == 9) = false := by simp; omega
            clear hA
            have hst := hide (orStep (x := x) hk9 hX0 HX1.out (by omega))
            go_wp2
            refine ⟨⟨k + 1, X + x % 128 * 128 ^ k, by omega, by omega, by go_num, by rw [hst.out], (pow_next hX0 HX1.out).1, (pow_next hX0 HX1.out).2, HN.out.trans HS.out⟩, by simp [intOf]; omega⟩
      · have hk' : k = bs.length := by omega
        subst hk'
        have HZ := hide (show numV bs false = (0, 0) by rw [HN.out, List.drop_length]; rfl)
        clear HN
        go_wp2
        refine bodyPost_ret (v := .tuple #[.int .u64 0, .int .i64 0]) (by simp [results, Try.results92, go_sem]) rfl ⟨by rw [HZ.out]; rfl, rfl⟩
  · go_enter Try.func92, Try.ntmps92
    go_wp2
    refine bodyPost_ret (v := .tuple #[.int .u64 0, .int .i64 0]) (by simp [results, Try.results92, go_sem]) rfl ⟨rfl, rfl⟩
end Go.Proofs.Ytgpmcpinnaggmaa
