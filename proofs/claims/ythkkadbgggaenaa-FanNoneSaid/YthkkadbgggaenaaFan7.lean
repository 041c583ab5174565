/-
  Layer 14: contract of the reference: Split.
-/
import Derived.Test.YthkkadbgggaenaaFan6
namespace Go.Proofs.Ythkkadbgggaenaa
set_option linter.unusedSimpArgs false
set_option linter.unusedVariables false
set_option linter.unusedSectionVars false
open Go.RowKit Go.Maps

/-! ### plain -/
def aboveL (ks : List Int) (m : Nat) (k : Int) : Prop := m = 0 ∨ ∃ z, ks[m - 1]? = some z ∧ z < k
def candL (hop : Int → Int × Bool) (ks : List Int) (m : Nat) (x : Hd) : Prop := (hop x.d).2 = true ∧ aboveL ks m (hop x.d).1
/-- the least one so far -/
def StL (hop : Int → Int × Bool) (ks : List Int) (m : Nat) (l : List Hd) (L : Int) (fd : Bool) : Prop :=
  (fd = false ∧ ∀ x ∈ l, ¬ candL hop ks m x) ∨ (fd = true ∧ (∃ x ∈ l, candL hop ks m x ∧ (hop x.d).1 = L) ∧ ∀ y ∈ l, candL hop ks m y → L ≤ (hop y.d).1)
theorem StL.skip {hop : Int → Int × Bool} {ks : List Int} {m : Nat} {l : List Hd} {L : Int} {fd : Bool} {x : Hd} (h : StL hop ks m l L fd) (hx : candL hop ks m x → fd = true ∧ L ≤ (hop x.d).1) : StL hop ks m (l ++ [x]) L fd := by
  rcases h with ⟨rfl, h⟩ | ⟨rfl, ⟨y, hy, hc⟩, h⟩
  · refine .inl ⟨rfl, fun z hz hz' => ?_⟩
    rcases List.mem_append.1 hz with hz | hz
    · exact h z hz hz'
    · simp at hz; subst hz; have := (hx hz').1; cases this
  · refine .inr ⟨rfl, ⟨y, by simp [hy], hc⟩, fun z hz hz' => ?_⟩
    rcases List.mem_append.1 hz with hz | hz
    · exact h z hz hz'
    · simp at hz; subst hz; exact (hx hz').2
theorem StL.take {hop : Int → Int × Bool} {ks : List Int} {m : Nat} {l : List Hd} {L : Int} {fd : Bool} {x : Hd} (h : StL hop ks m l L fd) (hx : candL hop ks m x) (hlt : fd = true → (hop x.d).1 < L) : StL hop ks m (l ++ [x]) (hop x.d).1 true := by
  refine .inr ⟨rfl, ⟨x, by simp, hx, rfl⟩, fun z hz hz' => ?_⟩
  rcases List.mem_append.1 hz with hz | hz
  · rcases h with ⟨rfl, h⟩ | ⟨rfl, _, h⟩
    · exact absurd hz' (h z hz)
    · have := h z hz hz'; have := hlt rfl; omega
  · simp at hz; subst hz; exact Int.le_refl _
theorem next_none {hop : Int → Int × Bool} {hs : List Hd} {m : Nat} (hm : m ≤ (keysL hop hs).length) {L : Int} (h : StL hop (keysL hop hs) m hs L false) : m = (keysL hop hs).length := by
  obtain ⟨h1, h2⟩ := keysL_spec hop hs
  rcases h with ⟨_, h⟩ | ⟨h, _⟩
  · by_cases hlt : m < (keysL hop hs).length
    · exfalso
      obtain ⟨x, hx, hx2, hx3⟩ := (h2 _).1 (List.getElem_mem hlt)
      refine h x hx ⟨hx2, ?_⟩
      rw [hx3]
      by_cases h0 : m = 0
      · exact .inl h0
      · refine .inr ⟨(keysL hop hs)[m - 1], List.getElem?_eq_getElem (by omega), ?_⟩
        exact List.pairwise_iff_getElem.1 h1 (m - 1) m (by omega) hlt (by omega)
    · omega
  · cases h
theorem next_some {hop : Int → Int × Bool} {hs : List Hd} {m : Nat} {L : Int} (h : StL hop (keysL hop hs) m hs L true) : (keysL hop hs)[m]? = some L := by
  obtain ⟨h1, h2⟩ := keysL_spec hop hs
  rcases h with ⟨h, _⟩ | ⟨_, ⟨x, hx, hc, he⟩, hmin⟩
  · cases h
  · have hL : L ∈ keysL hop hs := (h2 L).2 ⟨x, hx, hc.1, he⟩
    obtain ⟨j, hj, hjL⟩ := List.getElem_of_mem hL
    have hab := hc.2
    rw [he] at hab
    have hjm : m ≤ j := by
      rcases hab with h0 | ⟨z, hz, hzL⟩
      · omega
      · by_cases hlt : j < m
        · exfalso
          obtain ⟨hz1, hz2⟩ := List.getElem?_eq_some_iff.1 hz
          by_cases e : j = m - 1
          · subst e; omega
          · have := List.pairwise_iff_getElem.1 h1 j (m - 1) hj hz1 (by omega)
            omega
        · omega
    by_cases e : j = m
    · subst e; rw [List.getElem?_eq_getElem hj, hjL]
    · exfalso
      have hml : m < (keysL hop hs).length := by omega
      obtain ⟨y, hy, hy2, hy3⟩ := (h2 _).1 (List.getElem_mem hml)
      have hcy : candL hop (keysL hop hs) m y := ⟨hy2, by
        rw [hy3]
        by_cases h0 : m = 0
        · exact .inl h0
        · exact .inr ⟨(keysL hop hs)[m - 1], List.getElem?_eq_getElem (by omega), List.pairwise_iff_getElem.1 h1 (m - 1) m (by omega) hml (by omega)⟩⟩
      have h3 := hmin y hy hcy
      have h4 := List.pairwise_iff_getElem.1 h1 m j hml hj (by omega)
      omega
/-! ### fans while they are made -/
structure FanX (W : World) (B : Nat) (v : Value) (F : List (Int × List Hd)) (X : List (Int × Value)) : Prop where
  e : X.map (·.1) = F.map (·.1)
  o : W.ownsRow B 36 2 v F.length (fvs X)
  r : ∀ (j : Nat) (x : Int × Value) (f : Int × List Hd), X[j]? = some x → F[j]? = some f → W.ownsRow B 29 4 x.2 f.2.length (hcs f.2)
theorem FanX.O {W : World} {B : Nat} {v : Value} {F : List (Int × List Hd)} {X : List (Int × Value)} (h : FanX W B v F X) : FanO W B v F := ⟨X, h.e, h.o, h.r⟩
theorem FanX.below {W W' : World} {B : Nat} {v : Value} {F : List (Int × List Hd)} {X : List (Int × Value)} (h : FanX W B v F X) (hb : Below W.heap.size W W') : FanX W' B v F X := ⟨h.e, own_below h.o hb (Nat.le_refl _), fun j x f hx hf => own_below (h.r j x f hx hf) hb (Nat.le_refl _)⟩
theorem own_types {W : World} {B B' : Nat} {e e' : TypeId} {k k' n n' : Nat} {v v' : Value} {xs xs' : List Value} (h : W.ownsRow B e k v n xs) (h' : W.ownsRow B' e' k' v' n' xs') (he : e ≠ e') : ∀ g, v.ownBlock = some g → v'.ownBlock ≠ some g := by
  intro g hg hg'
  rcases h.2 with ⟨rfl, _⟩ | ⟨a, cap, cur, rfl, _, h1, _⟩
  · cases hg
  · rcases h'.2 with ⟨rfl, _⟩ | ⟨a', cap', cur', rfl, _, h2, _⟩
    · cases hg'
    · simp only [Value.ownBlock, Option.some.injEq] at hg hg'
      subst hg hg'
      rw [h1] at h2
      injection h2 with h2
      injection h2 with _ h3
      exact he h3
theorem FanX.app {W W' : World} {B B' : Nat} {v v' r : Value} {F : List (Int × List Hd)} {X : List (Int × Value)} {k : Int} {l : List Hd} (h : FanX W B v F X) (hrow : W.ownsRow B' 29 4 r l.length (hcs l)) (hB : B ≤ B') (ho : W'.ownsRow B 36 2 v' (F.length + 1) (fvs X ++ fvs [(k, r)])) (hg : W.grownBy W' v.ownBlock) :
    FanX W' B v' (F ++ [(k, l)]) (X ++ [(k, r)]) := by
  have hxl : X.length = F.length := by have := congrArg List.length h.e; simpa using this
  refine ⟨by rw [List.map_append, List.map_append, h.e]; rfl, by rw [List.length_append, List.length_singleton, fvs_app]; exact ho, fun j x f hx hf => ?_⟩
  by_cases hj : j < F.length
  · rw [List.getElem?_append_left (by omega)] at hx
    rw [List.getElem?_append_left hj] at hf
    have hr := h.r j x f hx hf
    exact own_other hr hg (fun g hg' e => own_types hr h.o (by decide) g hg' e)
  · have hj' : j = F.length := by
      have := (List.getElem?_eq_some_iff.1 hf).1
      rw [List.length_append, List.length_singleton] at this; omega
    subst hj'
    rw [List.getElem?_append_right (by omega), hxl, Nat.sub_self] at hx
    rw [List.getElem?_append_right (by omega), Nat.sub_self] at hf
    simp at hx hf
    subst hx hf
    exact own_base (own_other hrow hg (fun g hg' e => own_types hrow h.o (by decide) g hg' e)) hB
end Go.Proofs.Ythkkadbgggaenaa
