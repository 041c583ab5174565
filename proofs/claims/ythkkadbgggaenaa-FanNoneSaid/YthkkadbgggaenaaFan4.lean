/-
  Layer 14: the parts of heads in a map; contract: fan.Split.
-/
import Derived.Test.YthkkadbgggaenaaFan3
namespace Go.Proofs.Ythkkadbgggaenaa
set_option linter.unusedSimpArgs false
set_option linter.unusedVariables false
set_option linter.unusedSectionVars false
open Go.RowKit Go.Maps

theorem own_same {w w' : World} {base : Nat} {e : TypeId} {k n : Nat} {v : Value} {xs : List Value} (h : w.ownsRow base e k v n xs) (hs : ∀ i, base ≤ i → i < w.heap.size → w'.heap[i]? = w.heap[i]?) : w'.ownsRow base e k v n xs := by
  refine ⟨h.1, h.2.imp id ?_⟩
  rintro ⟨g, cap, cur, rfl, hbase, hg', h1⟩
  exact ⟨g, cap, cur, rfl, hbase, (hs g hbase (Array.getElem?_eq_some_iff.1 hg').1).trans hg', h1⟩
theorem own_gro {X W : World} {C : List Nat} {B : Nat} {e : TypeId} {k n : Nat} {v : Value} {xs : List Value} (h : X.ownsRow B e k v n xs) (hg : Gro C X W) (hc : ∀ i ∈ C, i < B) : W.ownsRow B e k v n xs :=
  own_same h fun i h1 h2 => hg.blk i h2 (fun hm => by have := hc i hm; omega)
theorem MapF.same {w w' : World} {k : TypeId} {b n : Nat} {f : Value → Option Value} (h : MapF w k b n f) (hb : w'.heap[b]? = w.heap[b]?) : MapF w' k b n f := by
  obtain ⟨D, ⟨es, clock, h1, h3⟩, h2⟩ := h
  exact ⟨D, ⟨es, clock, hb.trans h1, h3⟩, h2⟩
theorem own_block {w : World} {base : Nat} {e : TypeId} {k n : Nat} {v : Value} {xs : List Value} (h : w.ownsRow base e k v n xs) (hn : 0 < n) : ∃ g, v.ownBlock = some g ∧ base ≤ g ∧ g < w.heap.size := by
  rcases h.2 with ⟨_, h0⟩ | ⟨g, cap, cur, rfl, hbase, hg', _⟩
  · omega
  · exact ⟨g, rfl, hbase, (Array.getElem?_eq_some_iff.1 hg').1⟩
/-- heads by next steps, in a map -/
structure GM (W : World) (bm base n : Nat) (f : Value → Option Value) (P : Int → List Hd) : Prop where
  mp : MapF W 3 bm n f
  hlt : bm < base
  no : ∀ h, f (.int .i64 h) = none → P h = []
  own : ∀ h v, f (.int .i64 h) = some v → 0 < (P h).length ∧ W.ownsRow base 29 4 v (P h).length (hcs (P h))
  apart : ∀ h h' v v', f (.int .i64 h) = some v → f (.int .i64 h') = some v' → v.ownBlock = v'.ownBlock → h = h'
section
variable {W W' : World} {bm base n : Nat} {f : Value → Option Value} {P : Int → List Hd}
theorem GM.same (h : GM W bm base n f P) (hs : ∀ i, (i = bm ∨ base ≤ i) → i < W.heap.size → W'.heap[i]? = W.heap[i]?) : GM W' bm base n f P :=
  ⟨h.mp.same (hs bm (.inl rfl) h.mp.lt), h.hlt, h.no, fun k v hv => ⟨(h.own k v hv).1, own_same (h.own k v hv).2 (fun i h1 h2 => hs i (.inr h1) h2)⟩, h.apart⟩
theorem GM.below (h : GM W bm base n f P) (hb : Below W.heap.size W W') : GM W' bm base n f P := h.same fun i _ hi => hb.block i hi
theorem GM.gro {C : List Nat} (h : GM W bm base n f P) (hg : Gro C W W') (hc : ∀ i ∈ C, i < bm) : GM W' bm base n f P :=
  h.same fun i hi hl => hg.blk i hl (fun hm => by have := hc i hm; have := h.hlt; omega)
/-- what lies at a key, nil where nothing does -/
theorem GM.at (h : GM W bm base n f P) (k : Int) : W.ownsRow base 29 4 ((f (.int .i64 k)).getD (.slice none 0 0)) (P k).length (hcs (P k)) := by
  cases hf : f (.int .i64 k) with
  | none => rw [h.no k hf]; exact World.ownsRow_nil _ _ _ _
  | some v => exact (h.own k v hf).2
theorem GM.row_ge (h : GM W bm base n f P) (k : Int) : ((f (.int .i64 k)).getD (.slice none 0 0)).ownBlock = none ∨ ∃ g, ((f (.int .i64 k)).getD (.slice none 0 0)).ownBlock = some g ∧ base ≤ g ∧ g < W.heap.size := by
  cases hf : f (.int .i64 k) with
  | none => exact .inl rfl
  | some v => exact .inr (own_block (h.own k v hf).2 (h.own k v hf).1)
theorem GM.row_ne (h : GM W bm base n f P) (k : Int) : ((f (.int .i64 k)).getD (.slice none 0 0)).ownBlock ≠ some bm := by
  obtain e | ⟨g, e, hg, _⟩ := h.row_ge k
  · rw [e]; simp
  · rw [e]; intro e'; injection e' with e'; have := h.hlt; omega
/-- one more at a key -/
theorem GM.put (h : GM W bm base n f P) {k : Int} {x : Hd} {v' : Value} {W1 W2 : World} (ho : W1.ownsRow base 29 4 v' ((P k).length + 1) (hcs (P k) ++ hcs [x])) (hg : W.grownBy W1 ((f (.int .i64 k)).getD (.slice none 0 0)).ownBlock)
    (ha : v'.ownBlock = ((f (.int .i64 k)).getD (.slice none 0 0)).ownBlock ∨ v'.ownBlock = some W.heap.size) (hm : MapF W2 3 bm (n + 1) (putF f (.int .i64 k) v')) (hg2 : W1.grownBy W2 (some bm)) :
    GM W2 bm base (n + 1) (putF f (.int .i64 k) v') (fun j => if j = k then P k ++ [x] else P j) := by
  have hne : ∀ j, j ≠ k → (Value.int .i64 j) ≠ Value.int .i64 k := fun j hj e => hj (by injection e)
  have oth : ∀ j v, j ≠ k → f (.int .i64 j) = some v → ∃ g, v.ownBlock = some g ∧ g < W.heap.size ∧ ((f (.int .i64 k)).getD (.slice none 0 0)).ownBlock ≠ some g := fun j v hj hv => by
    obtain ⟨g, g1, _, g2⟩ := own_block (h.own j v hv).2 (h.own j v hv).1
    refine ⟨g, g1, g2, fun e => ?_⟩
    cases hf : f (.int .i64 k) with
    | none => rw [hf] at e; simp [Value.ownBlock] at e
    | some u => rw [hf] at e; simp only [Option.getD_some] at e; exact hj (h.apart j k v u hv hf (g1.trans e.symm))
  refine ⟨hm, h.hlt, fun j hj => ?_, fun j v hv => ?_, fun j j' v v2 hv hv2 he => ?_⟩
  · by_cases e : j = k
    · subst e; rw [putF_same] at hj; cases hj
    · rw [if_neg e]; rw [putF_other _ _ (hne j e)] at hj; exact h.no j hj
  · by_cases e : j = k
    · subst e
      rw [putF_same] at hv
      injection hv with hv
      subst hv
      simp only [if_true]
      rw [List.length_append, List.length_singleton, hcs_app]
      exact ⟨by omega, own_grown ho hg2 h.hlt⟩
    · rw [if_neg e]
      rw [putF_other _ _ (hne j e)] at hv
      obtain ⟨g, g1, _, g3⟩ := oth j v e hv
      exact ⟨(h.own j v hv).1, own_grown (own_other (h.own j v hv).2 hg (fun g' hg' => by rw [g1] at hg'; injection hg' with hg'; subst hg'; exact g3)) hg2 h.hlt⟩
  · have key : ∀ j v, j ≠ k → f (.int .i64 j) = some v → v'.ownBlock ≠ v.ownBlock := fun j v hj hv e => by
      obtain ⟨g, g1, g2, g3⟩ := oth j v hj hv
      rcases ha with ha | ha
      · exact g3 (ha.symm.trans (e.trans g1))
      · rw [g1, ha] at e; injection e with e; omega
    by_cases e : j = k
    · by_cases e' : j' = k
      · rw [e, e']
      · rw [e, putF_same] at hv
        rw [putF_other _ _ (hne j' e')] at hv2
        injection hv with hv
        subst hv
        exact absurd he (key j' v2 e' hv2)
    · by_cases e' : j' = k
      · rw [e', putF_same] at hv2
        rw [putF_other _ _ (hne j e)] at hv
        injection hv2 with hv2
        subst hv2
        exact absurd he.symm (key j v e hv)
      · rw [putF_other _ _ (hne j e)] at hv
        rw [putF_other _ _ (hne j' e')] at hv2
        exact h.apart j j' v v2 hv hv2 he
end
theorem gm_made (w : World) (base : Nat) (hb : w.heap.size < base) : GM (w.alloc (.map #[] 0)) w.heap.size base 0 (fun _ => none) (fun _ => []) :=
  ⟨mapF_made w _, hb, fun _ _ => rfl, (fun _ _ h => by cases h), (fun _ _ _ _ h => by cases h)⟩
end Go.Proofs.Ythkkadbgggaenaa
