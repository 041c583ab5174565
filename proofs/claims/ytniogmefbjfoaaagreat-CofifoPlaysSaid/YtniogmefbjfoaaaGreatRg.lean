/-
  A range over a function whose iterator lays new memory for what it hands over: the law for it, and regions that draw their order within a round.
-/
import Derived.Test.YtniogmefbjfoaaaGreatAk
import Derived.RangeFuncNested
import Derived.RangeFuncCalls
import Derived.OrdersIn
import Derived.OrdersHeld
namespace Go.Proofs.YtniogmefbjfoaaaGreat
set_option linter.unusedSimpArgs false
set_option linter.unusedVariables false
set_option linter.unusedSectionVars false
open Go.RowKit

section
variable {P : Program} {ops : Array Oper} {Q : Exit → Act → World → Prop} {md : Region.Mode} {l n : Nat}
theorem wp_inRound {o : Oper} {a : Act} {w : World} {K : Act → World → Prop} (hd : ∀ c, o.op ≠ .defer c) (h : o.wp P a w K Q) : o.wpIn (Fence.wide.inRound l) n P a w K Q := by
  refine ⟨fun _ _ => trivial, ?_⟩
  rw [Fence.inRound_round, Oper.semAt_some l a.eval o hd]
  unfold Oper.wp at h
  generalize (execOp a.eval o).run P w = r at h
  cases r with
  | ok x w' =>
    cases x with
    | value v => exact h
    | skip => exact h
    | defer d => exact h
    | enter f args => exact ⟨fun h0 => (by cases h0), CallsIn.inRound l (callsIn_wide.2 h)⟩
    | row row args => exact ⟨fun h0 => (by cases h0), fun c cs _ => (by obtain ⟨v, w1, r, s⟩ := h c cs; exact ⟨v, w1, r, stepsIn_wide.2 s⟩)⟩
    | _ => exact h.elim
  | halt x w' => cases x <;> exact h
theorem wpAny_inRound (hd : ∀ (i : Nat) (o : Oper), ops[i]? = some o → ∀ c, o.op ≠ .defer c) (hQ : ¬ LetsOut Q) : ∀ (fuel : Nat) (L : Array Bool) (a : Act) (w : World), wpAny P md ops Q fuel L a w → wpAnyIn (Fence.wide.inRound l) n P md ops Q fuel L a w
  | 0, _, _, _, h => h
  | fuel + 1, L, a, w, h => ⟨h.1, fun i hi => by
    have h1 := h.2 i hi
    unfold wpOp at h1
    unfold wpOpIn
    cases ho : ops[i]? with
    | none => rw [ho] at h1; exact wpAny_inRound hd hQ fuel _ _ _ h1
    | some o =>
      rw [ho] at h1
      simp only at h1 ⊢
      split
      · rename_i hw
        rw [if_pos hw] at h1
        rcases h1 with h2 | ⟨_, h2⟩
        · exact Oper.wpIn_mono (fun a w h => wpAny_inRound hd hQ fuel _ a w h) (wp_inRound (hd i o ho) h2)
        · exact absurd h2 hQ
      · rename_i hw
        rw [if_neg hw] at h1
        exact ⟨fun _ _ => trivial, wpAny_inRound hd hQ fuel _ _ _ h1⟩⟩
/-- a region that draws its order, in a round -/
theorem wp_region_inRound {id : Nat} {a : Act} {w : World} {S : World → Prop} (hm : P.follows .mixedOrders = true) (hd : ∀ (i : Nat) (o : Oper), ops[i]? = some o → ∀ c, o.op ≠ .defer c) (hQ : ¬ LetsOut Q)
    (h : wpAnyH P .any ops Q S ops.size (Array.replicate ops.size false) a w.drew) : (Code.region id ops true).wpIn (Fence.wide.inRound l) n P Q a w :=
  wpIn_region_any hm (wpAny_inRound hd hQ _ _ _ _ (wpAny_of_held _ _ _ _ h))
end
/-- how the body of a round is left: on, and the loop's own two blocks are as they were -/
def post16 (D l : Nat) (W : World) (R : World → Prop) : Exit → Act → World → Prop
  | .normal, _, W' => W'.heap[D]? = W.heap[D]? ∧ W'.heap[l]? = W.heap[l]? ∧ R W'
  | _, _, _ => False
theorem post16_out {D l : Nat} {W : World} {R : World → Prop} : ¬ LetsOut (post16 D l W R) := fun ⟨_, _, h⟩ => h
set_option maxHeartbeats 1000000 in
/-- 'for x := range seq', N rounds: J k holds when k are over; of what is handed over R is known -/
theorem wpIn_range16 {P : Program} {n : Nat} {α : Type} {g : Operand} {ps : Array Tmp} {assign body : Code} {Q : Exit → Act → World → Prop} {a : Act} {w : World} {gf : Nat} {lb : Array Value} (hg : a.eval g = .func (.func gf) #[] lb)
    (eg : ∀ args w, (callFunc gf args).run P w = .ok (.enter gf args) w) {encs : α → Array Value} (hps : ∀ x, (encs x).size = ps.size) (N : Nat) (J : Nat → World → Prop) (R : Nat → α → World → Prop)
    (hseq : ∀ W, Below w.heap.size w W → J 0 W → W.heap[w.heap.size]? = some (.deferred (some [])) →
      (∀ k x W1, k < N → J k W1 → R k x W1 → W1.heap[w.heap.size]? = W.heap[w.heap.size]? → W1.heap[w.heap.size + 1]? = W.heap[w.heap.size + 1]? → YieldAt Fence.wide (n - 1 - 1) P (w.heap.size + 1) (encs x) W1 fun e W' => e = .returned (.bool true) ∧ J (k + 1) W' ∧ W'.heap[w.heap.size]? = W.heap[w.heap.size]? ∧ W'.heap[w.heap.size + 1]? = W.heap[w.heap.size + 1]?) →
      CallsIn Fence.wide (n - 1) P gf (#[.func (.yield (w.heap.size + 1)) #[] #[]] ++ lb) W fun e W' => (∃ v, e = .returned v) ∧ J N W' ∧ W'.heap[w.heap.size]? = W.heap[w.heap.size]? ∧ W'.heap[w.heap.size + 1]? = W.heap[w.heap.size + 1]?)
    (h0 : ∀ o, J 0 ((w.alloc (.deferred (some []))).alloc o)) (hJp : ∀ k W o, J k W → J k (W.putObj (w.heap.size + 1) o)) (hRp : ∀ k x W o, R k x W → R k x (W.putObj (w.heap.size + 1) o)) (a₁ : α → Act)
    (hassign : ∀ (x : α) (W : World) (K : Act → World → Prop), K (a₁ x) W →
      assign.wpIn (Fence.wide.inRound (w.heap.size + 1)) (n - 1 - 1) P (Exit.then K (fun _ _ _ => False)) { tmps := (ps.zip (encs x)).foldl (fun t (p, v) => t.setIfInBounds p v) a.tmps, defers := [] } W)
    (hbody : ∀ (k : Nat) (x : α) (W : World), k < N → J k W → R k x W → body.wpIn (Fence.wide.inRound (w.heap.size + 1)) (n - 1 - 1) P (post16 w.heap.size (w.heap.size + 1) W (J (k + 1))) (a₁ x) W)
    (hdone : ∀ (W : World), J N W → W.heap[w.heap.size]? = some (.deferred (some [])) → Q .normal { a with defers := { target := .collected w.heap.size, args := #[] } :: a.defers } W) :
    (Code.rangeFunc g ps assign body).wpIn Fence.wide n P Q a w := by
  refine wpIn_rangeFunc fun fn _ => ?_
  let rec0 : Loop := { state := .ready, pending := none, fn, tmps := a.tmps, params := ps, assign, body, defers := w.heap.size }
  obtain ⟨W1, hW1⟩ : ∃ W1, (w.alloc (.deferred (some []))).alloc (.loop rec0) = W1 := ⟨_, rfl⟩
  have hL1 : W1.heap[w.heap.size + 1]? = some (.loop rec0) := by
    rw [← hW1]
    have := World.alloc_heap_new (w.alloc (.deferred (some []))) (.loop rec0)
    rwa [World.size_alloc] at this
  have hK1 : W1.heap[w.heap.size]? = some (.deferred (some [])) := by
    rw [← hW1]
    exact (Below.heap_alloc _ _ _ (by simp)).trans (World.alloc_heap_new w _)
  refine ⟨w.heap.size + 1, [{ target := .collected w.heap.size, args := #[] }], W1, { target := .fn (.func gf) lb, args := #[.func (.yield (w.heap.size + 1)) #[] #[]] }, W1, gf, #[.func (.yield (w.heap.size + 1)) #[] #[]] ++ lb, W1, ?_, ?_, fun _ _ => trivial, ?_, fun h => (by cases h), ?_⟩
  · rw [← hW1]; exact run_enterLoop_outer _ _ _ _ _
  · simp only [resolve, hg]
    simp [go_sem]
  · simp [invoke, go_sem, eg]
  refine (hseq W1 (by rw [← hW1]; exact ((Below.refl _ w).alloc (Nat.le_refl _) _).alloc (by simp) _) (by rw [← hW1]; exact h0 _) hK1 ?_).mono ?_
  · intro k x W hk hJ hR hD hl
    rw [hK1] at hD
    rw [hL1] at hl
    have hlt : w.heap.size + 1 < W.heap.size := (Array.getElem?_eq_some_iff.1 hl).1
    refine ⟨fn, _, assign, body, run_yield hl (hps x), roundIn_of_wpIn (F := Fence.wide) trivial (hassign x W _ ⟨_, run_beginRound hl rfl, ?_⟩)⟩
    refine wpIn_mono (hbody k x _ hk (hJp _ _ _ hJ) (hRp _ _ _ _ hR)) ?_
    intro e a' W' hp
    cases e with
    | normal =>
      obtain ⟨p1, p2, p3⟩ := hp
      rw [World.putObj_heap_same hlt] at p2
      rw [World.putObj_heap_other (by omega), hD] at p1
      have hlt' : w.heap.size + 1 < W'.heap.size := (Array.getElem?_eq_some_iff.1 p2).1
      refine ⟨_, _, run_endRound none p2, rfl, hJp _ _ _ p3, ?_, ?_⟩
      · rw [World.putObj_heap_other (by omega), p1, hK1]
      · rw [World.putObj_heap_same hlt', hL1]; rfl
    | _ => exact hp.elim
  · rintro e W' ⟨⟨v, rfl⟩, hJ, hD, hl⟩
    rw [hK1] at hD
    rw [hL1] at hl
    refine ⟨_, _, run_endLoop hl (by simp [rec0]), ?_⟩
    exact hdone _ (hJp _ _ _ hJ) (by rw [World.putObj_heap_other (by omega), hD])
end Go.Proofs.YtniogmefbjfoaaaGreat
