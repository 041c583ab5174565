/-
  A drawn region by what holds while it runs: one proof an operation, whatever the order.
-/
import Derived.Deep.RegionHeld3
import Derived.Deep.DrawnRows
namespace Go.Proofs.YtniogmefbjfoaaaGreat
set_option linter.unusedSimpArgs false
set_option linter.unusedVariables false
set_option linter.unusedSectionVars false

section
variable {P : Program} {ops : Array Oper} {Q : Exit → Act → World → Prop} {md : Region.Mode}
theorem countP_lt {α : Type} (p q : α → Bool) : ∀ (l : List α), (∀ x ∈ l, p x = true → q x = true) → (∃ x ∈ l, q x = true ∧ p x = false) → l.countP p < l.countP q
  | [], _, h => by obtain ⟨x, hx, _⟩ := h; cases hx
  | y :: l, h1, h2 => by
    have hle : l.countP p ≤ l.countP q := List.countP_mono_left (fun x hx => h1 x (List.mem_cons_of_mem _ hx))
    rw [List.countP_cons, List.countP_cons]
    obtain ⟨x, hx, e1, e2⟩ := h2
    rcases List.mem_cons.1 hx with rfl | hx
    · rw [e1, e2]; simp; omega
    · have ih := countP_lt p q l (fun x hx => h1 x (List.mem_cons_of_mem _ hx)) ⟨x, hx, e1, e2⟩
      by_cases hp : p y = true
      · rw [hp, h1 y List.mem_cons_self hp]; simp; omega
      · have : p y = false := by simpa using hp
        rw [this]
        simp only [Bool.false_eq_true, if_false]
        omega
/-- how many have not come up -/
def leftR (n : Nat) (L : Array Bool) : Nat := (List.range n).countP fun i => !L.getD i true
theorem leftR_set {n i : Nat} {L : Array Bool} (hi : i < n) (hl : L.getD i true = false) (hs : L.size = n) : leftR n (L.setIfInBounds i true) < leftR n L := by
  refine countP_lt _ _ _ (fun x hx h => ?_) ⟨i, List.mem_range.2 hi, by simp [hl], ?_⟩
  · by_cases e : i = x
    · subst e; rw [hl]; rfl
    · rw [getD_set_ne true e] at h; exact h
  · have : i < L.size := by omega
    simp [Array.getD_eq_getD_getElem?, this]
theorem leftR_zero {n : Nat} {L : Array Bool} (h : leftR n L = 0) : ∀ i, i < n → L.getD i true = true := fun i hi => by
  have := List.countP_eq_zero.1 h i (List.mem_range.2 hi)
  simpa using this
theorem ready_lt {i : Nat} {L : Array Bool} (h : i ∈ Region.ready md ops L) : i < ops.size := by
  obtain ⟨_, o, ho, _⟩ := mem_ready.1 h
  by_cases e : i < ops.size
  · exact e
  · rw [Array.getElem?_eq_none (by omega)] at ho; cases ho
theorem ready_dep {i k : Nat} {L : Array Bool} (h : i ∈ Region.ready md ops L) (hk : ((ops[i]?).map fun o => o.after.any fun e => (e.on == k) && Region.binds md e).getD false = true) : L.getD k false = true := by
  obtain ⟨_, o, ho, hd⟩ := mem_ready.1 h
  rw [ho] at hk
  simp only [Option.map_some, Option.getD_some] at hk
  obtain ⟨j, hj, hk⟩ := Array.any_eq_true.1 hk
  simp only [Bool.and_eq_true, beq_iff_eq] at hk
  have := hd _ (Array.getElem_mem hj) hk.2
  rw [hk.1] at this
  exact this
theorem wpAny_inv (J : Array Bool → Act → World → Prop) (hs : ∀ L a w i, J L a w → i ∈ Region.ready md ops L → wpOp P ops Q i (J (L.setIfInBounds i true)) a w) (he : ∀ L a w, J L a w → Region.ready md ops L = [] → Q .normal a w) :
    ∀ (fuel : Nat) (L : Array Bool) (a : Act) (w : World), L.size = ops.size → leftR ops.size L ≤ fuel → J L a w → wpAny P md ops Q fuel L a w
  | 0, L, a, w, hz, hc, hJ => by
    have hr : Region.ready md ops L = [] := by
      rw [List.eq_nil_iff_forall_not_mem]
      intro i hi
      have h1 := leftR_zero (Nat.le_zero.1 hc) i (ready_lt hi)
      rw [(mem_ready.1 hi).1] at h1
      cases h1
    exact ⟨hr, he L a w hJ hr⟩
  | fuel + 1, L, a, w, hz, hc, hJ => ⟨fun hr => he L a w hJ hr, fun i hi => wpOp_mono (fun a' w' h => wpAny_inv J hs he fuel _ a' w' (by rw [Array.size_setIfInBounds]; exact hz) (by have := leftR_set (ready_lt hi) (mem_ready.1 hi).1 hz; omega) h) (hs L a w i hJ hi)⟩
/-- all have come up at the end -/
theorem all_listed {L : Array Bool} (hon : (List.range ops.size).all (fun i => ((ops[i]?).map fun o => o.after.all fun e => decide (e.on < i) || !Region.binds md e).getD true) = true) (hr : Region.ready md ops L = []) : ∀ i, i < ops.size → L.getD i true = true := by
  intro i
  induction i using Nat.strongRecOn with
  | _ i ih =>
    intro hi
    by_cases h : L.getD i true = true
    · exact h
    · exfalso
      have h' : L.getD i true = false := by simpa using h
      have h1 := List.all_eq_true.1 hon i (List.mem_range.2 hi)
      obtain ⟨o, ho⟩ : ∃ o, ops[i]? = some o := ⟨ops[i], Array.getElem?_eq_getElem hi⟩
      rw [ho] at h1
      simp only [Option.map_some, Option.getD_some] at h1
      have hm : i ∈ Region.ready md ops L := mem_ready.2 ⟨h', o, ho, fun e he hbe => by
        obtain ⟨k, hk, rfl⟩ := Array.mem_iff_getElem.1 he
        have h2 := Array.all_eq_true.1 h1 k hk
        rw [Bool.or_eq_true, hbe] at h2
        have h3 : (o.after[k]).on < i := of_decide_eq_true (h2.resolve_right (by simp))
        have h4 := ih _ h3 (by omega)
        by_cases h5 : (o.after[k]).on < L.size
        · simp [Array.getD_eq_getD_getElem?, h5] at h4 ⊢; exact h4
        · exfalso
          have h6 : L.getD i true = true := by
            rw [Array.getD_eq_getD_getElem?, Array.getElem?_eq_none (by omega)]; rfl
          rw [h6] at h'
          cases h'⟩
      rw [hr] at hm
      cases hm
/-- a region, by what holds while it runs -/
theorem wp_region_inv {id : Nat} {a : Act} {w : World} (hm : P.follows .mixedOrders = true) (J : Array Bool → Act → World → Prop) (h0 : J (Array.replicate ops.size false) a w.drew)
    (hs : ∀ L a w i, J L a w → i ∈ Region.ready .any ops L → wpOp P ops Q i (J (L.setIfInBounds i true)) a w)
    (hon : (List.range ops.size).all (fun i => ((ops[i]?).map fun o => o.after.all fun e => decide (e.on < i) || !Region.binds .any e).getD true) = true)
    (he : ∀ L a w, J L a w → (∀ i, i < ops.size → L.getD i true = true) → Q .normal a w) : (Code.region id ops true).wp P Q a w :=
  wp_region_any hm (wpAny_inv J hs (fun L a w hJ hr => he L a w hJ (all_listed hon hr)) ops.size _ a _ (by simp) (by
    unfold leftR
    exact Nat.le_trans List.countP_le_length (by simp)) h0)
end
/-- the operations of a region -/
def cdOps : Code → Array Oper
  | .region _ ops _ => ops
  | _ => #[]
/-- a part of a function's code: false: the first of a sequence, a body, the first way of an if; true: the rest of a sequence, the other way -/
def cdP : List Bool → Code → Code
  | false :: p, .seq a _ => cdP p a
  | true :: p, .seq _ b => cdP p b
  | false :: p, .cond _ t _ => cdP p t
  | true :: p, .cond _ _ e => cdP p e
  | false :: p, .block _ c => cdP p c
  | false :: p, .loop c => cdP p c
  | false :: p, .scope c => cdP p c
  | _, c => c
def lsf (f : Nat → Value) : Nat → Nat → List Value
  | _, 0 => []
  | i, n + 1 => f i :: lsf f (i + 1) n
theorem lsf_eq : ∀ (T S : List Value) (i : Nat) (f : Nat → Value), (∀ j, f (i + j) = T.getD j undef) → S = T → S = lsf f i T.length
  | [], _, _, _, _, e => e
  | a :: T, S, i, f, h, e => by
    rw [e]
    show a :: T = f i :: lsf f (i + 1) T.length
    rw [show f i = a from h 0, ← lsf_eq T T (i + 1) f (fun j => by rw [show i + 1 + j = i + (j + 1) by omega, h (j + 1)]; rfl) rfl]
/-- a frame, slot by slot -/
theorem frame_lsf {T : Array Value} {n : Nat} (h : T.size = n) : ∃ f : Nat → Value, (∀ j v, T[j]? = some v → f j = v) ∧ T = (lsf f 0 n).toArray := by
  obtain ⟨l⟩ := T
  have h1 := lsf_eq l l 0 (fun j => l.getD j undef) (fun j => by rw [Nat.zero_add]) rfl
  rw [show l.length = n from h] at h1
  refine ⟨fun j => l.getD j undef, fun j v hv => ?_, congrArg List.toArray h1⟩
  simp only [List.getElem?_toArray] at hv
  show l.getD j undef = v
  rw [List.getD_eq_getElem?_getD, hv]
  rfl
end Go.Proofs.YtniogmefbjfoaaaGreat
