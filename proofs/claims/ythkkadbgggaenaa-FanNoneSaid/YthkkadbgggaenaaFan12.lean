/-
  Layer 14: the law FanSplits: true for every input.
-/
import Derived.Test.YthkkadbgggaenaaFan11
namespace Go.Proofs.Ythkkadbgggaenaa
set_option linter.unusedSimpArgs false
set_option linter.unusedVariables false
set_option linter.unusedSectionVars false
open Go.RowKit

theorem ask_wf {ws : List Wy} (h : ∀ y ∈ ws, wfI y.h) (d : Int) : wfI (askL ws d).1 := by
  induction ws with
  | nil => simp [askL, wfI]
  | cons x l ih =>
    rw [askL]
    split
    · exact h x (by simp)
    · exact ih (fun y hy => h y (by simp [hy]))
theorem Reads.same {X W : World} {B k n : Nat} {A : Option Addr} {xs : List Value} (h : Reads X B k A n xs) (hs : ∀ i, i < B → W.heap[i]? = X.heap[i]?) : Reads W B k A n xs := by
  refine ⟨h.1, fun hn => ?_⟩
  obtain ⟨b, off, e, hb, hc⟩ := h.2 hn
  exact ⟨b, off, e, hb, fun j u hu => (World.cell?_of_block (a := ⟨b, off + j, none⟩) (hs b hb)).trans (hc j u hu)⟩
theorem Sk.keep {bo bn bw by_ : Nat} {WA : Option Addr} {wcp : Nat} {hs : List Hd} {YA : Option Addr} {ycp : Nat} {ws : List Wy} {k : Nat} {X W : World} {B : Nat} (h : Sk bo bn bw by_ WA wcp hs YA ycp ws k X) (hs' : ∀ i, i < B → W.heap[i]? = X.heap[i]?) (h1 : bo < B) (h2 : bn < B) (h3 : bw < B) (h4 : by_ < B) : Sk bo bn bw by_ WA wcp hs YA ycp ws k W :=
  ⟨⟨(hs' _ h1).trans h.o.eq⟩, ⟨(hs' _ h2).trans h.n.eq⟩, ⟨(hs' _ h3).trans h.w.eq⟩, ⟨(hs' _ h4).trans h.y.eq⟩, h.hh.same (fun i hi => hs' i (by omega)), h.hw.same (fun i hi => hs' i (by omega))⟩
/-- fans that may be written over -/
def FanW (W : World) (B : Nat) (A : Option Addr) (c : Nat) (F : List (Int × List Hd)) : Prop := ∃ X : List (Int × Value), X.map (·.1) = F.map (·.1) ∧ W.ownsRow B 36 2 (.slice A F.length c) F.length (fvs X) ∧ ∀ (j : Nat) (x : Int × Value) (f : Int × List Hd), X[j]? = some x → F[j]? = some f → ∃ A' c', x.2 = .slice A' f.2.length c' ∧ (0 < f.2.length → ∃ g cur, A' = some ⟨g, 0, none⟩ ∧ B ≤ g ∧ BoxAt W g cur 29 ∧ f.2.length * 4 ≤ cur.size)
theorem FanO.write {W : World} {B c : Nat} {A : Option Addr} {F : List (Int × List Hd)} (h : FanO W B (.slice A F.length c) F) : FanW W B A c F := by
  obtain ⟨X, h1, h2, h3⟩ := h
  refine ⟨X, h1, h2, fun j x f hx hf => ?_⟩
  have ho := h3 j x f hx hf
  obtain ⟨A5, c5, e5, _, _⟩ := own_slice ho
  rw [e5] at ho
  refine ⟨A5, c5, e5, fun h0 => ?_⟩
  obtain ⟨g, cur, e, hg, hr⟩ := RowC.of ho h0
  exact ⟨g, cur, e, hg, hr.b, hr.sz⟩
theorem FanW.below {W W' : World} {B c : Nat} {A : Option Addr} {F : List (Int × List Hd)} (h : FanW W B A c F) (hb : Below W.heap.size W W') : FanW W' B A c F := by
  obtain ⟨X, h1, h2, h3⟩ := h
  refine ⟨X, h1, own_below h2 hb (Nat.le_refl _), fun j x f hx hf => ?_⟩
  obtain ⟨A5, c5, e5, h5⟩ := h3 j x f hx hf
  refine ⟨A5, c5, e5, fun h0 => ?_⟩
  obtain ⟨g, cur, e, hg, hr, hz⟩ := h5 h0
  exact ⟨g, cur, e, hg, ⟨(hb.block _ hr.lt).trans hr.eq⟩, hz⟩
theorem FanW.set {W : World} {B c : Nat} {A : Option Addr} {F : List (Int × List Hd)} {g : Nat} {cur : Array Value} (h : FanW W B A c F) (hb : BoxAt W g cur 29) (i : Nat) (v : Value) : FanW (W.setCell ⟨g, i, none⟩ v) B A c F := by
  obtain ⟨X, h1, h2, h3⟩ := h
  refine ⟨X, h1, own_other h2 (grown_setCell W g i v) (fun g' hg' e => ?_), fun j x f hx hf => ?_⟩
  · injection e with e
    subst e
    rcases h2.2 with ⟨e, _⟩ | ⟨a, cap, cu, e, _, h4, _⟩
    · rw [e] at hg'; cases hg'
    · rw [e] at hg'
      simp only [Value.ownBlock, Option.some.injEq] at hg'
      subst hg'
      rw [hb.eq] at h4
      injection h4 with h4
      injection h4 with _ h5
      exact absurd h5 (by decide)
  · obtain ⟨A5, c5, e5, h5⟩ := h3 j x f hx hf
    refine ⟨A5, c5, e5, fun h0 => ?_⟩
    obtain ⟨g2, cur2, e, hg, hr, hz⟩ := h5 h0
    haveI := hr
    by_cases eg : g2 = g
    · subst eg
      exact ⟨g2, _, e, hg, @BoxAt.setAt W _ i v cur2 _ hr, by simpa using hz⟩
    · exact ⟨g2, cur2, e, hg, ⟨by rw [Below.heap_setCell _ _ _ _ (fun e => eg e)]; exact hr.eq⟩, hz⟩
theorem FanW.at {W : World} {B c : Nat} {A : Option Addr} {F : List (Int × List Hd)} (h : FanW W B A c F) {k : Nat} (hk : k < F.length) :
    ∃ b off f A' c', A = some ⟨b, off, none⟩ ∧ b < W.heap.size ∧ F[k]? = some f ∧ W.cell? ⟨b, off + k * 2 + 1, none⟩ = some (.slice A' f.2.length c') ∧ (0 < f.2.length → ∃ g cur, A' = some ⟨g, 0, none⟩ ∧ B ≤ g ∧ BoxAt W g cur 29 ∧ f.2.length * 4 ≤ cur.size) := by
  obtain ⟨X, h1, h2, h3⟩ := h
  have hxl : X.length = F.length := by have := congrArg List.length h1; simpa using this
  obtain ⟨b, off, rfl, hb, hc⟩ := (Reads.of_own h2).2 (by omega)
  have hx : X[k]? = some X[k] := List.getElem?_eq_getElem (by omega)
  have hf : F[k]? = some F[k] := List.getElem?_eq_getElem hk
  obtain ⟨A', c', e, hr⟩ := h3 k _ _ hx hf
  obtain ⟨_, c2⟩ := fvs_get hx
  refine ⟨b, off, F[k], A', c', rfl, hb, hf, ?_, hr⟩
  rw [← e, Nat.add_assoc]; exact hc _ _ c2
end Go.Proofs.Ythkkadbgggaenaa
