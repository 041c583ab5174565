/-
  Layer 14: the library's slices.Sorted of maps.Keys, at a map with int keys.
-/
import Derived.Test.YthkkadbgggaenaaLayK
import Derived.Test.YthkkadbgggaenaaMap
import Derived.Test.YthkkadbgggaenaaFan2
import Derived.Test.YthkkadbgggaenaaInts
namespace Go.Proofs.Ythkkadbgggaenaa
set_option linter.unusedSimpArgs false
set_option linter.unusedVariables false
set_option linter.unusedSectionVars false
open Go.RowKit Go.Maps Go.Sort Go.Shelf

theorem Try.lawI : Keyed Try.prog 3 := int_keyed Try.underlying3
def wfI (x : Int) : Prop := -9223372036854775808 ≤ x ∧ x ≤ 9223372036854775807
theorem lit_wf {x : Int} : (Lit.int .i64 x).wf = true ↔ wfI x := by
  have e1 : IntKind.i64.min = -9223372036854775808 := rfl
  have e2 : IntKind.i64.max = 9223372036854775807 := rfl
  simp [Lit.wf, wfI, e1, e2]
theorem keyI {x : Int} (h : wfI x) : keyOf Try.prog 3 (.int .i64 x) = some (.int .i64 x) := by
  simp [keyOf, Try.underlying3, mapKey, lit_wf.2 h]
theorem mapF_keys {w : World} {b n : Nat} {f : Value → Option Value} (h : MapF w 3 b n f) (ks : List Int) (hnd : ks.Nodup) (hwf : ∀ x ∈ ks, wfI x) (hm : ∀ x, x ∈ ks ↔ (f (.int .i64 x)).isSome = true) :
    ∃ D, w.ownsMap Try.prog 3 heldE b n D ∧ ks.Perm (intKeys D) ∧ Maps.size D ≤ n := by
  obtain ⟨D, h1, h2⟩ := h
  refine ⟨D, h1, ?_, h1.size_le⟩
  obtain ⟨es, hD, hpw, _⟩ := h1.entries Try.lawI
  obtain ⟨es', hD', hko⟩ := h1.keysOf
  obtain rfl : es = es' := by rw [hD] at hD'; simpa using hD'
  have hwk := intKeys_wf h1 Try.underlying3
  subst hD
  refine perm_intKeys hpw (fun p hp => by obtain ⟨v, hv⟩ := hko p hp; obtain ⟨x, _, hx, _⟩ := Maps.keyOf_i64 Try.underlying3 hv; exact ⟨x, hx⟩) hnd (fun x => ?_)
  constructor
  · intro hx
    rw [(h2 (.int .i64 x) _ (keyI (hwf x hx))).1]
    exact (hm x).1 hx
  · intro hx
    have hmem : x ∈ intKeys (.map es) := by
      rw [has_eq, List.any_eq_true] at hx
      obtain ⟨p, hp, hs⟩ := hx
      obtain ⟨v, hv⟩ := hko p hp
      obtain ⟨y, _, hy, _⟩ := Maps.keyOf_i64 Try.underlying3 hv
      rw [hy] at hs
      exact List.mem_map.2 ⟨p, hp, by rw [hy]; have hs' := hs; simp [Lit.sameKey] at hs'; subst hs'; rfl⟩
    have hw := lit_wf.1 (hwk x hmem)
    rw [(h2 (.int .i64 x) _ (keyI hw)).1] at hx
    exact (hm x).2 hx
theorem keys_s (mb : Option Nat) (W : World) : Calls Try.prog 54 #[.map mb] W fun e w' => e = .returned (.func (.func 94) #[] #[.pointer (some ⟨W.heap.size, 0, none⟩)]) ∧ w' = W.alloc (.cells #[.map mb] 117) :=
  (callsIn_wide (n := 5)).1 (AnyZI.keys_in Try.keysZI Fence.wide 5 trivial rfl mb W)
theorem sorts_I (m : Nat) : AnyZI.SortsIn Try.prog Try.sortedZI_ren Fence.wide m :=
  ⟨fun blk off cap ss W hH hblk hsz => callsIn_wide.2 (AnyM.slices_Sort_int Try.sortMI blk off cap ss W hH hblk hsz),
   fun p cap W => callsIn_wide.2 (AnyM.slices_Sort_int_none Try.sortMI p cap W)⟩
def RetKs (w : World) (ks : List Int) (e : Ending) (w' : World) : Prop := ∃ v, e = .returned v ∧ w'.ownsRow w.heap.size 3 1 v ks.length (ics ks) ∧ Below w.heap.size w w'
theorem sortedM_s {w : World} {b n : Nat} {f : Value → Option Value} (h : MapF w 3 b n f) (hn : n ≤ 1000000) (ks : List Int) (hst : ks.Pairwise (· < ·)) (hwf : ∀ x ∈ ks, wfI x) (hm : ∀ x, x ∈ ks ↔ (f (.int .i64 x)).isSome = true) :
    Calls Try.prog 53 #[.func (.func 94) #[] #[.pointer (some ⟨w.heap.size, 0, none⟩)]] (w.alloc (.cells #[.map (some b)] 117)) (RetKs (w.alloc (.cells #[.map (some b)] 117)) ks) := by
  have hnd : ks.Nodup := hst.imp (fun h => by omega)
  obtain ⟨D, hown, hp, hsz⟩ := mapF_keys h ks hnd hwf hm
  have hbl := hown.lt
  have hseq : SeqGives Fence.wide 2 Try.prog 94 #[.pointer (some ⟨w.heap.size, 0, none⟩)] encZ (fun ss => ss.Perm (intKeys D)) (Maps.size D) (w.alloc (.cells #[.map (some b)] 117)) :=
    AnyZI.keys_gives (ρ := Try.keysZI_ren) { Try.keysZI with } Fence.wide _ trivial rfl (by omega) w.heap.size b n D _ (by simp) (by simp) (by
      obtain ⟨es, clock, hb, Ft, hs, hD⟩ := hown
      exact ⟨es, clock, (Below.heap_alloc _ _ b hbl).trans hb, Ft, hs, hD⟩)
  have cS := AnyZI.sorted_in Try.sortedZI Fence.wide 5 trivial trivial trivial trivial rfl (by omega) (sorts_I _) (enters_of Try.func87 (by kernel_rfl) rfl) 94 #[.pointer (some ⟨w.heap.size, 0, none⟩)] trivial (enters_of Try.func94 (by kernel_rfl) rfl) _ _ (by unfold maxLen; omega) (by omega) _ hseq
  change CallsIn _ _ Try.prog 53 _ _ _ at cS
  refine (callsIn_wide.1 cS).mono ?_
  rintro e w' ⟨v, ss, rfl, hS, hrow, _, hb⟩
  have hks : ss.mergeSort (fun x y => decide (x ≤ y)) = ks := by
    rw [mergeSort_of_perm_i (hS.trans hp.symm)]
    exact List.mergeSort_of_pairwise (hst.imp (fun h => by simp; omega))
  have hl : ss.length = ks.length := by rw [← hks, List.length_mergeSort]
  rw [hks, hl] at hrow
  exact ⟨v, rfl, hrow, hb⟩
end Go.Proofs.Ythkkadbgggaenaa
