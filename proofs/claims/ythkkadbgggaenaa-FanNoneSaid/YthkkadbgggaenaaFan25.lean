/-
  Layer 14: what FanNone counts: heads that have a way, by next steps; in plain Lean, and in a map. Contract: the law's function.
-/
import Derived.Test.YthkkadbgggaenaaFan24
namespace Go.Proofs.Ythkkadbgggaenaa
set_option linter.unusedSimpArgs false
set_option linter.unusedVariables false
set_option linter.unusedSectionVars false
open Go.RowKit Go.Maps

/-- the heads that have a way -/
def havL (hop : Int → Int × Bool) (hs : List Hd) : List Hd := hs.filter (fun x => (hop x.d).2)
theorem havL_snoc (hop : Int → Int × Bool) (hs : List Hd) (x : Hd) : havL hop (hs ++ [x]) = if (hop x.d).2 = true then havL hop hs ++ [x] else havL hop hs := by
  unfold havL
  rw [List.filter_append]
  by_cases h : (hop x.d).2 = true
  · rw [if_pos h]; simp [h]
  · rw [if_neg h]; simp [h]
theorem havL_len (hop : Int → Int × Bool) (hs : List Hd) : (havL hop hs).length ≤ hs.length := List.length_filter_le _ _
theorem one_of {β : Type} (L : List β) (k0 : Int) : ∀ ks : List Int, ks.Nodup → ks.flatMap (fun k => if k = k0 then L else []) = if k0 ∈ ks then L else []
  | [], _ => rfl
  | k :: ks, h => by
    obtain ⟨h1, h2⟩ := List.nodup_cons.1 h
    rw [List.flatMap_cons, one_of L k0 ks h2]
    by_cases e : k = k0
    · subst e; rw [if_pos rfl, if_neg h1]; simp
    · rw [if_neg e]
      have : (k0 ∈ k :: ks) ↔ k0 ∈ ks := by rw [List.mem_cons]; exact ⟨fun h => h.resolve_left (fun e' => e e'.symm), Or.inr⟩
      by_cases hk : k0 ∈ ks
      · rw [if_pos hk, if_pos (this.2 hk)]; rfl
      · rw [if_neg hk, if_neg (fun h => hk (this.1 h))]; rfl
theorem fibD_flat (d : Int) (f : Int → List Hd) (ks : List Int) : fibD d (ks.flatMap f) = ks.flatMap (fun k => fibD d (f k)) := by
  induction ks with
  | nil => rfl
  | cons k ks ih => rw [List.flatMap_cons, List.flatMap_cons, fibD_app, ih]
theorem fib_split (hop : Int → Int × Bool) (hs : List Hd) : Fib (allH (splitL hop hs)) (havL hop hs) := fun d => by
  have e0 : allH (splitL hop hs) = (keysL hop hs).flatMap (partL hop hs) := by
    unfold allH splitL
    rw [List.flatMap_map]
  obtain ⟨k1, k2⟩ := keysL_spec hop hs
  have hnd : (keysL hop hs).Nodup := k1.imp (fun h => by omega)
  rw [e0, fibD_flat]
  have e1 : ∀ k, fibD d (partL hop hs k) = if k = (hop d).1 then (if (hop d).2 = true then fibD d hs else []) else [] := fun k => by
    unfold fibD partL
    rw [List.filter_filter]
    by_cases hk : k = (hop d).1
    · rw [if_pos hk]
      by_cases ho : (hop d).2 = true
      · rw [if_pos ho]
        refine List.filter_congr fun x _ => ?_
        by_cases hx : x.d = d
        · simp [hx, ho, hk]
        · simp [hx]
      · rw [if_neg ho, List.filter_eq_nil_iff]
        intro x _ h
        simp at h
        exact ho (by rw [← h.1]; exact h.2.1)
    · rw [if_neg hk, List.filter_eq_nil_iff]
      intro x _ h
      simp at h
      exact hk (by rw [← h.1]; exact h.2.2.symm)
  have e2 : (keysL hop hs).flatMap (fun k => fibD d (partL hop hs k)) = (keysL hop hs).flatMap (fun k => if k = (hop d).1 then (if (hop d).2 = true then fibD d hs else []) else []) := by
    congr 1; funext k; exact e1 k
  rw [e2, one_of _ _ _ hnd]
  have e3 : fibD d (havL hop hs) = if (hop d).2 = true then fibD d hs else [] := by
    unfold fibD havL
    rw [List.filter_filter]
    by_cases ho : (hop d).2 = true
    · rw [if_pos ho]
      refine List.filter_congr fun x _ => ?_
      by_cases hx : x.d = d
      · simp [hx, ho]
      · simp [hx]
    · rw [if_neg ho, List.filter_eq_nil_iff]
      intro x _ h
      simp at h
      exact ho (by rw [← h.1]; exact h.2)
  rw [e3]
  by_cases hk : (hop d).1 ∈ keysL hop hs
  · rw [if_pos hk]
  · rw [if_neg hk]
    by_cases ho : (hop d).2 = true
    · rw [if_pos ho]
      symm
      unfold fibD
      rw [List.filter_eq_nil_iff]
      intro x hx h
      simp at h
      exact hk ((k2 _).2 ⟨x, hx, by rw [h]; exact ho, by rw [h]⟩)
    · rw [if_neg ho]
/-! ### the counts in a map -/
def StepF (hop : Int → Int × Bool) (l : List Hd) (f : Value → Option Value) : Prop := ∀ k, (partL hop l k = [] ∧ f (.int .i64 k) = none) ∨ (0 < (partL hop l k).length ∧ f (.int .i64 k) = some (.int .i64 ((partL hop l k).length : Nat)))
theorem StepF.getD {hop : Int → Int × Bool} {l : List Hd} {f : Value → Option Value} (h : StepF hop l f) (k : Int) : (f (.int .i64 k)).getD (.int .i64 0) = .int .i64 ((partL hop l k).length : Nat) := by
  rcases h k with ⟨h1, h2⟩ | ⟨h1, h2⟩
  · rw [h1, h2]; rfl
  · rw [h2]; rfl
theorem StepF.nil (hop : Int → Int × Bool) : StepF hop [] (fun _ => none) := fun _ => Or.inl ⟨rfl, rfl⟩
theorem StepF.skip {hop : Int → Int × Bool} {l : List Hd} {f : Value → Option Value} (h : StepF hop l f) {x : Hd} (hx : (hop x.d).2 = false) : StepF hop (l ++ [x]) f := fun k => by
  rw [partL_snoc, if_neg (by rw [hx]; simp)]; exact h k
theorem StepF.add {hop : Int → Int × Bool} {l : List Hd} {f : Value → Option Value} (h : StepF hop l f) {x : Hd} (hx : (hop x.d).2 = true) : StepF hop (l ++ [x]) (putF f (.int .i64 (hop x.d).1) (.int .i64 (((partL hop l (hop x.d).1).length : Nat) + 1))) := fun k => by
  rw [partL_snoc]
  by_cases hk : (hop x.d).1 = k
  · subst hk
    rw [if_pos ⟨hx, rfl⟩, putF_same]
    right
    refine ⟨by simp, ?_⟩
    rw [List.length_append]; simp
  · rw [if_neg (fun h => hk h.2), putF_other _ _ (fun e => hk (by injection e with _ e; exact e.symm))]
    exact h k
theorem StepF.keys {hop : Int → Int × Bool} {l : List Hd} {f : Value → Option Value} (h : StepF hop l f) (k : Int) : k ∈ keysL hop l ↔ (f (.int .i64 k)).isSome = true := by
  rw [(keysL_spec hop l).2]
  have : (∃ x ∈ l, (hop x.d).2 = true ∧ (hop x.d).1 = k) ↔ 0 < (partL hop l k).length := by
    rw [List.length_pos_iff_exists_mem]
    constructor
    · rintro ⟨x, h1, h2, h3⟩; exact ⟨x, List.mem_filter.2 ⟨h1, by simp [h2, h3]⟩⟩
    · rintro ⟨x, hx⟩
      obtain ⟨h1, h2⟩ := List.mem_filter.1 hx
      simp at h2
      exact ⟨x, h1, h2.1, h2.2⟩
  rw [this]
  rcases h k with ⟨h1, h2⟩ | ⟨h1, h2⟩
  · rw [h1, h2]; simp
  · rw [h2]; simp [h1]
theorem zeroI (w : World) : (zeroValue 3).run Try.prog w = .ok (.int .i64 0) w := by kernel_rfl
theorem mapF_size {w : World} {b n : Nat} {f : Value → Option Value} (h : MapF w 3 b n f) {t e : TypeId} (ht : Try.prog.underlying t = some (.map 3 e)) (ks : List Int) (hnd : ks.Nodup) (hwf : ∀ x ∈ ks, wfI x) (hm : ∀ x, x ∈ ks ↔ (f (.int .i64 x)).isSome = true) (ty : TypeId) :
    (Builtin.len_ #[t] ty #[.map (some b)]).run Try.prog w = .ok (.int .i64 (ks.length : Nat)) w := by
  obtain ⟨D, h1, hp, _⟩ := mapF_keys h ks hnd hwf hm
  have e := h1.len ht ty
  obtain ⟨es, hD, _⟩ := h1.entries Try.lawI
  have hl := hp.length_eq
  have e2 : Maps.size D = (intKeys D).length := by rw [hD]; simp [intKeys, Maps.size]
  rw [hl, ← e2]
  exact e
/-! ### the law's function -/
def NoneI (by_ : Nat) (B : Nat) (YA : Option Addr) (yc : Nat) (ws : List Wy) (W : World) : Prop := BoxAt W by_ #[.slice YA ws.length yc] 23 ∧ Reads W B 3 YA ws.length (wcs ws) ∧ B ≤ W.heap.size
set_option maxRecDepth 100000 in
theorem ncall_s (by_ B : Nat) (YA : Option Addr) (yc : Nat) (ws : List Wy) (d : Int) (W : World) (h : NoneI by_ B YA yc ws W) (hwl : ws.length ≤ 1000000) :
    Calls Try.prog 22 #[.int .i64 d, .pointer (some ⟨by_, 0, none⟩)] W fun e W' => e = .returned (.tuple #[.int .i64 (askL ws d).1, .bool (askL ws d).2]) ∧ Below W.heap.size W W' := by
  have TA := hide (fun W (h' : Reads W W.heap.size 3 YA ws.length (wcs ws)) => ask_s YA yc ws d W h' hwl)
  haveI := h.1
  haveI : Src W YA ws.length 3 (wcs ws) := ⟨h.2.1.more h.2.2⟩
  haveI : InW by_ W := ⟨h.1.lt⟩
  generalize askL ws d = r at TA
  obtain ⟨hk, ok⟩ := r
  unfold RetAsk at TA
  simp only at TA
  clear h
  go_enter Try.func22, Try.ntmps22
  go_wp2_with fail
  (with_reducible refine (TA.out _ src).mono ?_)
  rintro e w1 ⟨rfl, hb⟩
  haveI : Stp _ w1 := ⟨hb⟩
  clear hb
  go_wp2
  go_ret2
  exact ⟨rfl, blw⟩
end Go.Proofs.Ythkkadbgggaenaa
