/-
  Two rows of bytes are the same just if their strings are.
-/
import Derived.Test.YtmleeohaaipdcaaTcL
namespace Go.Proofs.Ytmleeohaaipdcaa
set_option linter.unusedSimpArgs false
set_option linter.unusedVariables false
set_option linter.unusedSectionVars false
open Go.RowKit

theorem kstr_inj {a b : List Int} (ha : bOK a) (hb : bOK b) (h : (strOfNums a).toList = (strOfNums b).toList) : a = b := by
  have h1 : a.map (fun n => UInt8.ofNat n.toNat) = b.map (fun n => UInt8.ofNat n.toNat) := by
    rw [← strOfNums_data, ← strOfNums_data, ← ByteArray.toList_eq, ← ByteArray.toList_eq, h]
  clear h
  induction a generalizing b with
  | nil => cases b with
    | nil => rfl
    | cons y b => simp at h1
  | cons x a ih => cases b with
    | nil => simp at h1
    | cons y b =>
      simp only [List.map_cons, List.cons.injEq] at h1
      obtain ⟨x0, x1⟩ := ha x (by simp)
      obtain ⟨y0, y1⟩ := hb y (by simp)
      have h3 := congrArg UInt8.toNat h1.1
      simp only [UInt8.toNat_ofNat'] at h3
      rw [Nat.mod_eq_of_lt (by omega), Nat.mod_eq_of_lt (by omega)] at h3
      have e : x = y := by omega
      rw [e, ih (fun z hz => ha z (by simp [hz])) (fun z hz => hb z (by simp [hz])) h1.2]
theorem str_ne {a b : List Int} (ha : bOK a) (hb : bOK b) : ((strOfNums a).toList != (strOfNums b).toList) = !decide (a = b) := by
  by_cases h : a = b
  · subst h; simp
  · have : ¬ (strOfNums a).toList = (strOfNums b).toList := fun e => h (kstr_inj ha hb e)
    simp [h, this]
theorem str_eq {a b : List Int} (ha : bOK a) (hb : bOK b) : ((strOfNums a).toList == (strOfNums b).toList) = decide (a = b) := by
  have := str_ne ha hb
  simp only [bne] at this
  simpa using congrArg (fun x => !x) this
end Go.Proofs.Ytmleeohaaipdcaa
