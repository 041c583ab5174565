/-
  Layer 16: the end, when what came of a node is told anew; maps whose keys are nodes.
-/
import Derived.Test.YtniogmefbjfoaaaGreatTd
namespace Go.Proofs.YtniogmefbjfoaaaGreat
set_option linter.unusedSimpArgs false
set_option linter.unusedVariables false
set_option linter.unusedSectionVars false
open Go.RowKit Go.Maps Go.WideElems

set_option maxRecDepth 100000 in
theorem mapF_tight {w : World} {b n : Nat} {f : Value → Option Value} (h : MapF w 3 b n f) (hk : ∀ x, wfI x → (f (.int .i64 x)).isSome = true → 1 ≤ x ∧ x ≤ 10) : MapF w 3 b 10 f := by
  obtain ⟨D, h1, h2⟩ := h
  obtain ⟨es', hD', hpw, _⟩ := h1.entries Tryz.lawI
  obtain ⟨es, clock, hb, F, hs, hD⟩ := h1
  have hsz : es.size = es'.length := by
    rw [hD] at hD'
    injection hD' with hD'
    rw [← hD', length_sorted]
    simp
  have hkey : ∀ p ∈ es', ∃ x : Int, p.1 = .int .i64 x ∧ 1 ≤ x ∧ x ≤ 10 := fun p hp => by
    have hp' : p ∈ (es.toList.map (rg Tryz.prog 3 heldE)).foldr DataW.insert [] := by
      rw [hD] at hD'
      injection hD' with hD'
      rw [hD']; exact hp
    obtain ⟨q, hq, rfl⟩ := List.mem_map.1 (mem_sorted.1 hp')
    obtain ⟨y, hy⟩ := F.reads q hq
    have hkk := rd_key hy
    obtain ⟨x, _, hx, hwx⟩ := Maps.keyOf_int_inv Tryz.underlying3 hkk
    have e1 : (rg Tryz.prog 3 heldE q).1 = y.1 := by rw [rg_of hy]
    refine ⟨x, by rw [e1, hx], ?_⟩
    have hw := lit_wf.1 hwx
    refine hk x hw ?_
    rw [← (h2 _ _ (keyI hw)).1, hD', has_eq]
    exact List.any_eq_true.2 ⟨_, hp, by rw [e1, hx]; simp [Lit.sameKey]⟩
  have hlen : es'.length ≤ 10 := by
    have hnd : (es'.map (fun p => match p.1 with | .int _ x => x | _ => 0)).Nodup := by
      refine List.pairwise_map.2 (hpw.imp_of_mem (fun {p q} hp hq hne e => hne ?_))
      obtain ⟨x, hx, _⟩ := hkey p hp
      obtain ⟨y, hy, _⟩ := hkey q hq
      rw [hx, hy] at e ⊢
      simp only at e
      rw [e]
    have := nodup_le16 (k := tens) hnd (fun a ha => by
      obtain ⟨p, hp, rfl⟩ := List.mem_map.1 ha
      obtain ⟨x, hx, h3⟩ := hkey p hp
      rw [hx]
      exact mem_tens.2 h3)
    rw [List.length_map] at this
    exact Nat.le_trans this (by decide)
  exact ⟨D, ⟨es, clock, hb, F, by omega, hD⟩, h2⟩
/-- what came of node n is told in block g -/
theorem EnM.fin {w W : World} {E C D : List Nat} {x : Nat} {m : En} {rb fb : Nat} {rp cp : Int → Nat} (h : EnM w E C x m rb fb rp cp) {n : Int} {c1 : Cm} {g : Nat} (hn : 1 ≤ n ∧ n ≤ 10) (hg : Gr D w W) (hD : ∀ i ∈ D, i < w.heap.size → i = fb ∨ (i = cp n ∧ m.cm n ≠ none))
    (hgn : (g = cp n ∧ m.cm n ≠ none) ∨ w.heap.size ≤ g) {cp' : Int → Nat} (hcp : ∀ k, cp' k = if k = n then g else cp k) (hfm : MapF W 3 fb 10 (cameF { m with cm := fun k => if k = n then some c1 else m.cm k } cp')) (hbx : BoxAt W g (cmcs c1) 115) (D' : List Nat) (hD' : ∀ i ∈ D', w.heap.size ≤ i ∧ i < W.heap.size) :
    EnM W (D' ++ (g :: E)) (g :: C) x { m with cm := fun k => if k = n then some c1 else m.cm k } rb fb rp cp' := by
  have hcE : m.cm n ≠ none → cp n ∈ C := fun hc => by
    obtain ⟨c, hc'⟩ := Option.ne_none_iff_exists'.1 hc
    exact (h.co n c hc').2
  have hDE : ∀ i ∈ D, i ∈ E ∨ w.heap.size ≤ i := fun i hi => by
    by_cases hl : i < w.heap.size
    · rcases hD i hi hl with rfl | ⟨rfl, hc⟩
      · exact .inl (h.CE _ h.fC)
      · exact .inl (h.CE _ (hcE hc))
    · exact .inr (by omega)
  have hge : g ∈ E ∨ w.heap.size ≤ g := by
    rcases hgn with ⟨rfl, hc⟩ | h1
    · exact .inl (h.CE _ (hcE hc))
    · exact .inr h1
  have t : Tr E (D' ++ (g :: E)) w W := ⟨hg.less hDE, fun i hi => by
    rcases List.mem_append.1 hi with hi | hi
    · exact .inr (hD' i hi).1
    rcases List.mem_cons.1 hi with rfl | hi
    · exact hge
    · exact .inl hi⟩
  have hk : ∀ i, i < w.heap.size → i ≠ fb → (m.cm n ≠ none → i ≠ cp n) → W.heap[i]? = w.heap[i]? := fun i hi h1 h2 => hg.blk i hi (fun hm => by
    rcases hD i hm hi with e | ⟨e, hc⟩
    · exact h1 e
    · exact h2 hc e)
  have hrow : ∀ k, m.oth k → rp k ≠ fb ∧ (m.cm n ≠ none → rp k ≠ cp n) := fun k hk' => by
    obtain ⟨_, A, c', ds, h1, _⟩ := (h.ro k hk').1
    refine ⟨fun e => ?_, fun hc e => ?_⟩
    · obtain ⟨D, ⟨es, clock, h2, _⟩, _⟩ := h.fm
      rw [← e, h1.eq] at h2
      cases h2
    · obtain ⟨c, hc'⟩ := Option.ne_none_iff_exists'.1 hc
      have h2 := (h.co n c hc').1.eq
      rw [← e, h1.eq] at h2
      simp [cmcs] at h2
  exact {
    n1 := h.n1
    bx := (t.box h.bx h.xE).1
    xE := (t.box h.bx h.xE).2
    rm := h.rm.same (t.g.blk rb h.rm.lt h.rE)
    rE := fun hm => by
      have h1 := h.rm.lt
      rcases t.n _ hm with h2 | h2
      · exact h.rE h2
      · omega
    fm := hfm
    fC := List.mem_cons_of_mem _ h.fC
    CE := fun i hi => by
      rcases List.mem_cons.1 hi with rfl | hi
      · exact List.mem_append_right _ List.mem_cons_self
      · exact List.mem_append_right _ (List.mem_cons_of_mem _ (h.CE i hi))
    ltE := fun i hi => by
      rcases List.mem_append.1 hi with hi | hi
      · exact (hD' i hi).2
      rcases List.mem_cons.1 hi with rfl | hi
      · exact hbx.lt
      · exact Nat.lt_of_lt_of_le (h.ltE i hi) hg.size
    ro := fun k hk' => by
      have h1 := h.ro k hk'
      exact ⟨h1.1.keep t (hk _ h1.1.lt (hrow k hk').1 (hrow k hk').2), List.mem_cons_of_mem _ h1.2⟩
    ri := h.ri
    co := fun k c hc => by
      rw [hcp k]
      by_cases e : k = n
      · subst e
        simp only [if_true] at hc ⊢
        injection hc with hc
        subst hc
        exact ⟨hbx, List.mem_cons_self⟩
      · simp only [if_neg e] at hc ⊢
        have h1 := h.co k c hc
        refine ⟨⟨?_⟩, List.mem_cons_of_mem _ h1.2⟩
        rw [hk _ h1.1.lt (fun e' => by
          obtain ⟨D, ⟨es, clock, h2, _⟩, _⟩ := h.fm
          have h3 := h1.1.eq
          rw [e', h2] at h3
          cases h3) (fun hc' e' => e (h.ci k n (by rw [hc]; simp) hc' e'))]
        exact h1.1.eq
    ci := fun k l hk' hl he => by
      rw [hcp k, hcp l] at he
      have hnew : ∀ q, q ≠ n → m.cm q ≠ none → cp q ≠ g := fun q hq hc e => by
        obtain ⟨c, hc'⟩ := Option.ne_none_iff_exists'.1 hc
        rcases hgn with ⟨h1, h2⟩ | h1
        · exact hq (h.ci q n hc h2 (by rw [e, h1]))
        · have := (h.co q c hc').1.lt
          omega
      by_cases e1 : k = n
      · by_cases e2 : l = n
        · rw [e1, e2]
        · simp only [e1, if_true, if_neg e2] at he
          simp only [if_neg e2] at hl
          exact absurd he.symm (hnew l e2 hl)
      · by_cases e2 : l = n
        · simp only [e2, if_true, if_neg e1] at he
          simp only [if_neg e1] at hk'
          exact absurd he (hnew k e1 hk')
        · simp only [if_neg e1, if_neg e2] at he hk' hl
          exact h.ci k l hk' hl he
    cn := fun k hk' => by
      by_cases e : k = n
      · subst e; exact hn
      · simp only [if_neg e] at hk'
        exact h.cn k hk' }
end Go.Proofs.YtniogmefbjfoaaaGreat
