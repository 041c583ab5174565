/-
  Plain laws: what is known of each node stays what must be, whatever happens to a registry.
-/
import Derived.Test.YtoajcdcdbkjefaaKnown
namespace Go.Proofs.Ytoajcdcdbkjefaa
set_option linter.unusedSimpArgs false
set_option linter.unusedVariables false
set_option linter.unusedSectionVars false
open Go.RowKit Go.Sort Go.Lib

/-- of a node that was never heard of nothing is known -/
def Zn (m : List Cl) (nw : Nat → Int) : Prop := ∀ n : Nat, 1 ≤ n → n ≤ 10 → (∀ x ∈ m, x.n ≠ (n : Int)) → nw n = 0
theorem goneR_mem {st : Cl → Bool} {m : List Cl} {y : Cl} (h : y ∈ goneR st m) : ∃ x ∈ m, y = if goes st x = true then { x with gone := true } else x := by
  unfold goneR at h
  obtain ⟨x, hx, rfl⟩ := List.mem_map.1 h
  exact ⟨x, hx, rfl⟩
theorem goneR_node {st : Cl → Bool} {m : List Cl} {n : Int} (h : ∀ y ∈ goneR st m, y.n ≠ n) : ∀ x ∈ m, x.n ≠ n := by
  intro x hx
  have := h (if goes st x = true then { x with gone := true } else x) (by unfold goneR; exact List.mem_map.2 ⟨x, hx, rfl⟩)
  split at this <;> exact this
theorem may_gone {st : Cl → Bool} {m : List Cl} (h : mayR m = true) : mayR (goneR st m) = true := by
  obtain ⟨h1, h2, h3⟩ := (mayR_iff m).1 h
  refine (mayR_iff _).2 ⟨?_, ?_, by unfold goneR; rw [List.length_map]; exact h3⟩
  · unfold rising goneR
    rw [List.pairwise_map]
    refine h1.imp fun {x y} h => ?_
    have e : ∀ y : Cl, (if goes st y = true then { y with gone := true } else y).n = y.n := fun y => by split <;> rfl
    rw [e, e]; exact h
  · intro y hy
    obtain ⟨x, hx, rfl⟩ := goneR_mem hy
    split <;> exact h2 x hx
theorem same_node {m : List Cl} (h : mayR m = true) {x y : Cl} (hx : x ∈ m) (hy : y ∈ m) (he : x.n = y.n) : x = y := by
  have hr := mayR_rising h
  obtain ⟨i, hi, rfl⟩ := List.getElem_of_mem hx
  obtain ⟨j, hj, rfl⟩ := List.getElem_of_mem hy
  rcases Nat.lt_trichotomy i j with h | h | h
  · have := List.pairwise_iff_getElem.1 hr i j hi hj h; omega
  · subst h; rfl
  · have := List.pairwise_iff_getElem.1 hr j i hj hi h; omega
section
variable {m : List Cl} {nw cd : Nat → Int} {th : Nat → Bool}
/-- somebody goes -/
theorem Kn.gone (h : Kn m nw cd th) {st : Cl → Bool} {a : Int} (hst : ∀ x, st x = true → x.n = a) :
    Kn (goneR st m) nw cd (if decide (0 < (m.filter (goes st)).length) = true then upd th a.toNat false else th) := by
  refine ⟨may_gone h.may, ?_, ?_⟩
  · intro y hy
    obtain ⟨x, hx, rfl⟩ := goneR_mem hy
    obtain ⟨e1, e2, e3⟩ := h.each x hx
    by_cases hg : goes st x = true
    · have hxa : x.n = a := hst x (by unfold goes at hg; simp at hg; exact hg.2)
      have hok : decide (0 < (m.filter (goes st)).length) = true := by
        simp only [decide_eq_true_eq]; exact List.length_pos_of_mem (List.mem_filter.2 ⟨hx, hg⟩)
      rw [if_pos hg, if_pos hok]
      refine ⟨e1, e2, ?_⟩
      simp [upd, hxa]
    · rw [if_neg hg]
      refine ⟨e1, e2, ?_⟩
      by_cases hok : decide (0 < (m.filter (goes st)).length) = true
      · rw [if_pos hok]
        simp only [decide_eq_true_eq] at hok
        obtain ⟨z, hz⟩ := List.exists_mem_of_length_pos hok
        obtain ⟨hz1, hz2⟩ := List.mem_filter.1 hz
        have hza : z.n = a := hst z (by unfold goes at hz2; simp at hz2; exact hz2.2)
        have hne : x.n ≠ a := fun e => by
          have := same_node h.may hx hz1 (by rw [e, hza])
          subst this; exact hg hz2
        have n1 := h.node hx
        have n2 := h.node hz1
        have : x.n.toNat ≠ a.toNat := by omega
        simp [upd, this, e3]
      · rw [if_neg hok]; exact e3
  · intro n h1 h2 hno
    have := h.others n h1 h2 (goneR_node hno)
    split
    · unfold upd; split <;> simp [this]
    · exact this
theorem Zn.gone (h : Zn m nw) {st : Cl → Bool} : Zn (goneR st m) nw := fun n h1 h2 hno => h n h1 h2 (goneR_node hno)
theorem Kn.cids (h : Kn m nw cd th) {x : Cl} (hx : x ∈ m) : Kn m nw (upd cd x.n.toNat x.cid) th := by
  refine ⟨h.may, ?_, h.others⟩
  intro y hy
  obtain ⟨e1, e2, e3⟩ := h.each y hy
  refine ⟨e1, ?_, e3⟩
  unfold upd
  split
  · rename_i he
    have n1 := h.node hx
    have n2 := h.node hy
    have := same_node h.may hy hx (by omega)
    subst this; omega
  · exact e2
variable {now sn si kind n i rnd cid : Int} {set : List (Int × Int)}
/-- what a client that is heard comes to -/
theorem hear_shape (hm : mayR m = true) : (hearR m now sn si kind n i rnd cid set).2 = 0 ∧ (hearR m now sn si kind n i rnd cid set).1 = m ∨
    (hearR m now sn si kind n i rnd cid set).2 ≠ 0 ∧ mayB n i = true ∧ ∃ z : Cl, z.n = n ∧ z.i = i ∧ z.gone = false ∧ z ∈ (hearR m now sn si kind n i rnd cid set).1 ∧
      (∀ y ∈ (hearR m now sn si kind n i rnd cid set).1, y = z ∨ y ∈ m ∧ y.n ≠ n) ∧ (∀ y ∈ m, y.n ≠ n → y ∈ (hearR m now sn si kind n i rnd cid set).1) ∧ cid ≤ z.cid ∧
      ((∀ x ∈ m, x.n ≠ n) ∨ ∃ x ∈ m, x.n = n ∧ (x.i < i ∨ x.i = i ∧ x.cid ≤ z.cid)) := by
  by_cases hok : okN kind n i = true
  · have hmay : mayB n i = true := by unfold okN at hok; rw [Bool.and_eq_true] at hok; exact hok.2
    have mem_ins : ∀ (z : Cl) (y : Cl), z.n = n → (y ∈ insR z (lessR m n) ↔ y = z ∨ y ∈ m ∧ y.n ≠ n) := by
      intro z y hz
      have hp := insR_perm (c := z) (l := lessR m n) (by rw [hz]; exact less_ne m n)
      rw [hp.mem_iff, List.mem_append, List.mem_singleton]
      unfold lessR
      rw [List.mem_filter]
      constructor
      · rintro (⟨h1, h2⟩ | h)
        · exact .inr ⟨h1, by simpa using h2⟩
        · exact .inl h
      · rintro (h | ⟨h1, h2⟩)
        · exact .inr h
        · exact .inl ⟨h1, by simpa using h2⟩
    cases hf : m.find? (fun x => x.n == n) with
    | some x =>
      have hxm := List.mem_of_find?_eq_some hf
      have hxn : x.n = n := by have := List.find?_some hf; simpa using this
      by_cases hlt : i < x.i
      · left; unfold hearR; rw [hok, hf]; simp [hlt]
      · by_cases heq : x.i = i
        · right
          have e : hearR m now sn si kind n i rnd cid set = (m.map fun y => if y.n = n then ⟨n, i, max x.cid cid, max x.rnd rnd, now, false⟩ else y, if x.gone then 3 else if decide (x.cid < cid) || (decide (cid = x.cid) && !nobB set sn si) then 2 else 1) := by
            unfold hearR; rw [hok, hf]; simp [hlt, heq]
          rw [e]
          refine ⟨by simp only; split <;> (try split) <;> simp, hmay, ⟨n, i, max x.cid cid, max x.rnd rnd, now, false⟩, rfl, rfl, rfl, ?_, ?_, ?_, by simp only; omega, .inr ⟨x, hxm, hxn, .inr ⟨heq, by simp only; omega⟩⟩⟩
          · exact List.mem_map.2 ⟨x, hxm, by rw [if_pos hxn]⟩
          · intro y hy
            obtain ⟨y', hy', rfl⟩ := List.mem_map.1 hy
            by_cases h : y'.n = n
            · left; rw [if_pos h]
            · right; rw [if_neg h]; exact ⟨hy', h⟩
          · intro y hy hn'
            exact List.mem_map.2 ⟨y, hy, by rw [if_neg hn']⟩
        · right
          have e : hearR m now sn si kind n i rnd cid set = (insR ⟨n, i, cid, rnd, now, false⟩ (lessR m n), 3) := by
            unfold hearR; rw [hok, hf]; simp [hlt, heq]
          rw [e]
          refine ⟨by simp, hmay, ⟨n, i, cid, rnd, now, false⟩, rfl, rfl, rfl, (mem_ins _ _ rfl).2 (.inl rfl), fun y hy => (mem_ins _ _ rfl).1 hy, fun y hy hn' => (mem_ins _ _ rfl).2 (.inr ⟨hy, hn'⟩), by simp, .inr ⟨x, hxm, hxn, .inl (by omega)⟩⟩
    | none =>
      have hno : ∀ x ∈ m, x.n ≠ n := by
        intro x hx; have := List.find?_eq_none.1 hf x hx; simpa using this
      by_cases h6 : 6 ≤ m.length
      · left; unfold hearR; rw [hok, hf]; simp [h6]
      · right
        have e : hearR m now sn si kind n i rnd cid set = (insR ⟨n, i, cid, rnd, now, false⟩ (lessR m n), 3) := by
          unfold hearR; rw [hok, hf]; simp [h6]
        rw [e]
        exact ⟨by simp, hmay, ⟨n, i, cid, rnd, now, false⟩, rfl, rfl, rfl, (mem_ins _ _ rfl).2 (.inl rfl), fun y hy => (mem_ins _ _ rfl).1 hy, fun y hy hn' => (mem_ins _ _ rfl).2 (.inr ⟨hy, hn'⟩), by simp, .inl hno⟩
  · have hok' : okN kind n i = false := by simpa using hok
    left; unfold hearR; rw [hok']; simp
theorem Kn.hear (h : Kn m nw cd th) (hz : Zn m nw) (hc : 0 ≤ cid) (hk : (hearR m now sn si kind n i rnd cid set).2 ≠ 0) :
    1 ≤ n ∧ n ≤ 10 ∧ nw n.toNat ≤ i ∧
    Kn (hearR m now sn si kind n i rnd cid set).1 (upd nw n.toNat i) (if nw n.toNat < i then upd cd n.toNat 0 else cd) (upd th n.toNat true) ∧
    Zn (hearR m now sn si kind n i rnd cid set).1 (upd nw n.toNat i) := by
  have hmay' := (hear_once (now := now) (sn := sn) (si := si) (kind := kind) (n := n) (i := i) (rnd := rnd) (cid := cid) (set := set) h.may).1
  rcases hear_shape (now := now) (sn := sn) (si := si) (kind := kind) (n := n) (i := i) (rnd := rnd) (cid := cid) (set := set) h.may with ⟨h0, _⟩ | ⟨_, hmay, z, z1, z2, z3, z4, z5, z6, z7, z8⟩
  · exact absurd h0 hk
  · have hb : 1 ≤ n ∧ n ≤ 10 ∧ 0 < i := by unfold mayB at hmay; simp at hmay; exact hmay
    have hle : nw n.toNat ≤ i := by
      rcases z8 with h1 | ⟨x, hx, hxn, h1⟩
      · have := hz n.toNat (by omega) (by omega) (fun x hx => by have := h1 x hx; omega)
        omega
      · have := (h.each x hx).1
        rw [hxn] at this; omega
    refine ⟨hb.1, hb.2.1, hle, ⟨hmay', ?_, ?_⟩, ?_⟩
    · intro y hy
      rcases z5 y hy with rfl | ⟨hym, hyn⟩
      · refine ⟨by simp [upd, z1, z2], ?_, by simp [upd, z1, z3]⟩
        rw [z1]
        split
        · simp [upd]; omega
        · rename_i hlt
          rcases z8 with h1 | ⟨x, hx, hxn, h1⟩
          · have := hz n.toNat (by omega) (by omega) (fun x hx => by have := h1 x hx; omega)
            omega
          · obtain ⟨e1, e2, _⟩ := h.each x hx
            rw [hxn] at e1 e2
            omega
      · obtain ⟨e1, e2, e3⟩ := h.each y hym
        have n1 := h.node hym
        have hne : y.n.toNat ≠ n.toNat := by omega
        refine ⟨by simp [upd, hne, e1], ?_, by simp [upd, hne, e3]⟩
        split
        · simp [upd, hne]; exact e2
        · exact e2
    · intro q h1 h2 hno
      have hqn : q ≠ n.toNat := fun e => hno z z4 (by rw [z1, e]; omega)
      unfold upd
      rw [if_neg hqn]
      refine h.others q h1 h2 fun x hx hxq => ?_
      exact hno x (z6 x hx (by omega)) hxq
    · intro q h1 h2 hno
      have hqn : q ≠ n.toNat := fun e => hno z z4 (by rw [z1, e]; omega)
      unfold upd
      rw [if_neg hqn]
      refine hz q h1 h2 fun x hx hxq => ?_
      exact hno x (z6 x hx (by omega)) hxq
end
end Go.Proofs.Ytoajcdcdbkjefaa
