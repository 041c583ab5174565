/-
  How fans lie in memory, read from the drawn argument; how long they are at most.
-/
import Derived.Test.YthkkadbgggaenaaOpenF
import Derived.Test.YthkkadbgggaenaaFan6
import Derived.SizedLaws
namespace Go.Proofs.Ythkkadbgggaenaa
set_option linter.unusedSimpArgs false
set_option linter.unusedVariables false
set_option linter.unusedSectionVars false
open Go.ChangeShapes Go.WideShapes Go.ChangeAt Go.RowKit Go.Deep

theorem reach_eqF : reachBytes = 140737488351232 := rfl
theorem weightsAll_memF {H : Type} {P : Program} {e : TypeId} : ∀ {l : List (DataW H)} {d : DataW H}, d ∈ l → ∀ n ∈ d.weights P e, n ∈ DataW.weightsAll P e l
  | d' :: r, d, hd, n, hn => by
    simp only [DataW.weightsAll, List.mem_append]
    rcases List.mem_cons.1 hd with rfl | h
    · exact Or.inl hn
    · exact Or.inr (weightsAll_memF h n hn)
section
variable {H : Type} {enc : TypeId × Value → H} {P : Program} {w : World} {base : Nat} {spare : Nat → Bool} {held : Bool}
/-- a slice that came in, within the form's own reach -/
theorem open_slW {α : Type} [Inhabited α] {t e : TypeId} {k : Nat} (E : α → List Value) (R : α → Prop) (hk : P.cellsOf e = k) (hEk : ∀ a, (E a).length = k) (hk0 : 0 < k)
    (hE : ∀ n cs x, cs.length = k → DataW.trod enc P w base spare held n e cs = some x → (∀ q ∈ x.1.weights P e, q ≤ reachBytes) → ∃ a, cs = E a ∧ R a)
    (ht : P.underlying t = some (.slice e)) (hb : 0 < P.bytesOf e) {fuel : Nat} {cs : List Value} {x : DataW H × List MemPlace} (h : DataW.trod enc P w base spare held fuel t cs = some x) (hw : ∀ q ∈ x.1.weights P t, q ≤ reachBytes) :
    ∃ (A : Option Addr) (l : List α) (c : Nat), cs = [.slice A l.length c] ∧ l.length ≤ reachBytes ∧ Reads w w.heap.size k A l.length (l.flatMap E) ∧ ∀ a ∈ l, R a := by
  rcases open_slice ht h with ⟨rfl, _⟩ | ⟨a, len, cap, m, n, D, Pl, hcs, hb', hl, hm, hmm, hx, hi⟩
  · exact ⟨none, [], 0, rfl, Nat.zero_le _, Reads.none_, by simp⟩
  · have hlm : len ≤ m := by rw [hmm]; split <;> omega
    rw [hk] at hi
    subst hx
    simp only [DataW.weights, ht, List.mem_cons, List.mem_append] at hw
    have hlen' : len ≤ reachBytes := by
      have h1 := hw _ (Or.inl rfl)
      rw [List.length_map, List.length_range] at h1
      exact Nat.le_trans (Nat.le_trans (Nat.le_add_right _ _) (Nat.le_mul_of_pos_right _ hb)) h1
    have hget : ∀ i, ∃ a', i < len → w.cells? base (a.add (i * k)) k = some (E a') ∧ R a' := by
      intro i
      by_cases hil : i < len
      · obtain ⟨cs', h1, h2⟩ := hi i (by omega)
        obtain ⟨_, hlen, _⟩ := World.cells?_some h1
        obtain ⟨a', rfl, h4⟩ := hE n cs' _ hlen h2 (fun q hq => hw q (Or.inr (Or.inl (weightsAll_memF (List.mem_map.2 ⟨i, List.mem_range.2 hil, rfl⟩) q hq))))
        exact ⟨a', fun _ => ⟨h1, h4⟩⟩
      · exact ⟨default, fun h => absurd h hil⟩
    obtain ⟨F, hF⟩ := Classical.axiomOfChoice hget
    have hlen : ((List.range len).map F).length = len := by simp
    have hcell : ∀ i j, i < len → j < k → w.cell? (a.add (i * k + j)) = (E (F i))[j]? := by
      intro i j hil hj
      have h1 := (World.cells?_some (hF i hil).1).2.2 j hj
      rw [Go.Deep.add_add] at h1; exact h1
    refine ⟨some a, (List.range len).map F, cap, by rw [hlen]; exact hcs, by rw [hlen]; exact hlen', ?_, ?_⟩
    · rw [hlen]
      refine ⟨by rw [flat_length hEk, hlen], fun hpos => ?_⟩
      have h0 : w.cell? (a.add (0 * k + 0)) = some ((E (F 0))[0]'(by rw [hEk]; omega)) := by
        rw [hcell 0 0 hpos hk0]; exact List.getElem?_eq_getElem _
      have hsp : a.spot = none := by have := World.cell?_spot h0; simpa [Addr.add] using this
      have hlt := cell_lt h0
      obtain ⟨b, off, spot⟩ := a
      simp only at hsp; subst hsp
      refine ⟨b, off, rfl, by simpa [Addr.add] using hlt, fun j u hu => ?_⟩
      have hj : j < len * k := by
        have := (List.getElem?_eq_some_iff.1 hu).1
        rw [flat_length hEk, hlen] at this; exact this
      have hq : j / k < len := Nat.div_lt_of_lt_mul (by rw [Nat.mul_comm]; exact hj)
      have hr : j % k < k := Nat.mod_lt _ hk0
      have e1 := hcell (j / k) (j % k) hq hr
      have hdm : j / k * k + j % k = j := by rw [Nat.mul_comm]; exact Nat.div_add_mod j k
      rw [hdm] at e1
      have hg : ((List.range len).map F)[j / k]? = some (F (j / k)) := by simp [hq]
      have e2 := flat_get hEk ((List.range len).map F) (j / k) (j % k) _ hg hr
      rw [hdm, hu] at e2
      rw [← e2] at e1
      rw [← e1]
      unfold Addr.add
      split
      · rename_i h0; subst h0; rfl
      · rfl
    · intro x hx'
      obtain ⟨i, hi', rfl⟩ := List.mem_map.1 hx'
      exact (hF i (by simpa using hi')).2
end
/-- a fan as it came in -/
structure FnC where
  hop : Int
  A : Option Addr
  c : Nat
  hs : List Hd
  deriving Inhabited
def FnC.cl (x : FnC) : List Value := [.int .i64 x.hop, .slice x.A x.hs.length x.c]
def FnC.f (x : FnC) : Int × List Hd := (x.hop, x.hs)
theorem FnC.cl_fvs (l : List FnC) : l.flatMap FnC.cl = fvs (l.map fun x => (x.hop, .slice x.A x.hs.length x.c)) := by
  induction l with
  | nil => rfl
  | cons x l ih => simp only [List.flatMap_cons, List.map_cons]; rw [ih]; rfl
theorem FnC.fanR {w : World} {A : Option Addr} {l : List FnC} (h : Reads w w.heap.size 2 A l.length (l.flatMap FnC.cl)) (hr : ∀ x ∈ l, Reads w w.heap.size 4 x.A x.hs.length (hcs x.hs)) : FanR w A (l.map FnC.f) := by
  refine ⟨l.map fun x => (x.hop, .slice x.A x.hs.length x.c), ?_, ?_, ?_⟩
  · rw [List.map_map, List.map_map]; rfl
  · rw [List.length_map, ← FnC.cl_fvs]; exact h
  · intro j x f hx hf
    rw [List.getElem?_map] at hx hf
    cases hj : l[j]? with
    | none => rw [hj] at hx; cases hx
    | some y =>
      rw [hj] at hx hf
      simp only [Option.map_some, Option.some.injEq] at hx hf
      subst hx hf
      exact ⟨y.A, y.c, rfl, hr y (List.mem_of_getElem? hj)⟩
theorem Try.fieldsFn : ∃ f0 f1, Try.prog.underlying 36 = some (.struct #[f0, f1]) ∧ (f0.type = 3 ∧ f0.offset = 0) ∧ (f1.type = 22 ∧ f1.offset = 1) := ⟨_, _, Try.underlying36, ⟨rfl, rfl⟩, ⟨rfl, rfl⟩⟩
theorem Try.cellsFn : Try.prog.cellsOf 36 = 2 := by kernel_rfl
theorem Try.cellsHsF : Try.prog.cellsOf 22 = 1 := by kernel_rfl
section
variable {H : Type} {enc : TypeId × Value → H} {w : World} {base : Nat} {spare : Nat → Bool} {held : Bool}
set_option maxRecDepth 100000 in
theorem trod_fan {fuel : Nat} {cs : List Value} {y : DataW H × List MemPlace} (hl : cs.length = 2) (h : DataW.trod enc Try.prog w base spare held fuel 36 cs = some y) (hw : ∀ q ∈ y.1.weights Try.prog 36, q ≤ reachBytes) :
    ∃ x : FnC, cs = x.cl ∧ (Reads w w.heap.size 4 x.A x.hs.length (hcs x.hs) ∧ x.hs.length ≤ reachBytes) := by
  obtain ⟨f0, f1, hu, ⟨t0, o0⟩, ⟨t1, o1⟩⟩ := Try.fieldsFn
  obtain ⟨y0, y1, n, rfl, _, g0, g1⟩ := trod_struct2 hu h
  rw [t0, o0, Try.cellsIF] at g0
  rw [t1, o1, Try.cellsHsF] at g1
  simp only [DataW.weights, hu] at hw
  match cs, hl with
  | [c0, c1], _ =>
    obtain ⟨a, e0, _, _⟩ := DataW.trod_int Try.underlying3 g0
    have hw1 : ∀ q ∈ y1.1.weights Try.prog 22, q ≤ reachBytes := fun q hq => hw q (by
      simp only [List.map_cons, List.map_nil, DataW.weightsEach, List.mem_append, t1]
      exact Or.inr (Or.inl hq))
    obtain ⟨A, l, c, e1, h1, h2, _⟩ := open_slW hc (fun _ => True) Try.cellsHdF hc_len (by omega) (fun _ _ _ hl h _ => trod_headF hl h) Try.underlying22 (by decide +kernel) g1 hw1
    simp at e0 e1
    exact ⟨⟨a, A, c, l⟩, by rw [e0, e1]; rfl, h2, h1⟩
set_option maxRecDepth 100000 in
theorem open_fans {r : Reach} {b0 : Nat} {v : Value} {d : DataW H} {p : List MemPlace} (hv : Value.okWide Try.prog w r b0 25 v) (h : DataW.Trod enc Try.prog w base spare held 25 v d p) (hw : ∀ q ∈ d.weights Try.prog 25, q ≤ reachBytes) :
    ∃ (A : Option Addr) (F : List (Int × List Hd)) (c : Nat), v = .slice A F.length c ∧ FanR w A F ∧ F.length ≤ 140737488351232 ∧ ∀ f ∈ F, f.2.length ≤ 140737488351232 := by
  obtain ⟨a0, len, cap, rfl⟩ := okWide_slice Try.underlying25 hv
  obtain ⟨fuel, hf⟩ := h
  obtain ⟨A, l, c, hcs', h1, h2, h3⟩ := open_slW FnC.cl (fun x => Reads w w.heap.size 4 x.A x.hs.length (hcs x.hs) ∧ x.hs.length ≤ reachBytes) Try.cellsFn (fun _ => rfl) (by omega) (fun _ _ _ hl h hw => trod_fan hl h hw) Try.underlying25 (by decide +kernel) hf hw
  simp [Value.cells] at hcs'
  obtain ⟨rfl, rfl, rfl⟩ := hcs'
  rw [reach_eqF] at h1
  refine ⟨_, l.map FnC.f, _, by rw [List.length_map], FnC.fanR h2 (fun x hx => (h3 x hx).1), by rw [List.length_map]; exact h1, fun f hf => ?_⟩
  obtain ⟨x, hx, rfl⟩ := List.mem_map.1 hf
  have := (h3 x hx).2
  rw [reach_eqF] at this
  exact this
end
end Go.Proofs.Ythkkadbgggaenaa
