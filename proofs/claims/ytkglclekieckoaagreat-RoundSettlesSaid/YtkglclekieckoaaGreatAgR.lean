/-
  Layer 18: what of an agreement never changes: no program in sight.
-/
import Derived.Test.YtkglclekieckoaaGreatTr
import Derived.Test.YtkglclekieckoaaGreatPpM
import Derived.Test.YtkglclekieckoaaGreatLaw17
namespace Go.Proofs.YtkglclekieckoaaGreat
set_option linter.unusedSimpArgs false
set_option linter.unusedVariables false
set_option linter.unusedSectionVars false
open Go.RowKit

abbrev um : Int := 18446744073709551615
structure Ag.Inv (a : Ag) : Prop where
  ri : a.gt.Pairwise fun x y => x.n < y.n
  mb : ∀ p ∈ a.gt, p.mayB = true
  rg : ∀ p ∈ a.gt, p.rd ≤ um
  wf : ∀ p ∈ a.gt, ∀ c ∈ p.cs, wfP c
  r0 : 0 ≤ a.rd
  r1 : a.rd ≤ um
  cw : ∀ x ∈ a.cl, wfP (x.n, x.i) ∧ 0 ≤ x.cid ∧ x.cid ≤ um ∧ 0 ≤ x.rnd ∧ x.rnd ≤ um
  mc : mayR a.cl = true
  se : a.sv ∈ a.ss
  st : a.ss = [a.sv] ∨ togetherB a.ss = true
  ow : ∀ p ∈ a.gt, p.sv = a.sv → p.rd = a.rd
/-! ### rows of proposals -/
theorem gotL_mem {L : List Pp} {p q : Pp} : q ∈ gotL L p ↔ q = p ∨ (q ∈ L ∧ q.n ≠ p.n) := by
  unfold gotL
  simp only [List.mem_append, List.mem_filter, List.mem_cons, decide_eq_true_eq]
  constructor
  · rintro (⟨h, h2⟩ | h | ⟨h, h2⟩)
    · exact .inr ⟨h, by omega⟩
    · exact .inl h
    · exact .inr ⟨h, by omega⟩
  · rintro (h | ⟨h, h2⟩)
    · exact .inr (.inl h)
    · by_cases h3 : q.n < p.n
      · exact .inl ⟨h, h3⟩
      · exact .inr (.inr ⟨h, by omega⟩)
theorem gotL_ri {L : List Pp} (h : L.Pairwise fun x y => x.n < y.n) (p : Pp) : (gotL L p).Pairwise fun x y => x.n < y.n := by
  unfold gotL
  rw [List.pairwise_append]
  refine ⟨h.filter _, ?_, ?_⟩
  · rw [List.pairwise_cons]
    exact ⟨fun y hy => by simpa using (List.mem_filter.1 hy).2, h.filter _⟩
  · intro x hx y hy
    have h1 : x.n < p.n := by simpa using (List.mem_filter.1 hx).2
    rcases List.mem_cons.1 hy with rfl | hy
    · exact h1
    · have h2 : p.n < y.n := by simpa using (List.mem_filter.1 hy).2
      omega
theorem find_sv {L : List Pp} (h : L.Pairwise fun x y => x.n < y.n) {p : Pp} (hp : p ∈ L) {s : Pr} (e : p.sv = s) : L.find? (fun q => decide (q.sv = s)) = some p := by
  induction L with
  | nil => cases hp
  | cons x l ih =>
    rw [List.pairwise_cons] at h
    rw [List.find?_cons]
    rcases List.mem_cons.1 hp with rfl | hp
    · simp [e]
    · have hx := h.1 p hp
      have : ¬ x.sv = s := fun e' => by rw [← e] at e'; have := congrArg Prod.fst e'; simp [Pp.sv] at this; omega
      simp [this, ih h.2 hp]
theorem find_mem {L : List Pp} {p : Pp} {s : Pr} (h : L.find? (fun q => decide (q.sv = s)) = some p) : p ∈ L ∧ p.sv = s := ⟨List.mem_of_find?_eq_some h, by simpa using List.find?_some h⟩
theorem propsG_of {L : List Pp} : ∀ {ss : List Pr} {l : List Pp}, propsG L ss = some l → l.map Pp.sv = ss ∧ (∀ p ∈ l, p ∈ L) ∧ ∀ s ∈ ss, ∃ p ∈ l, L.find? (fun q => decide (q.sv = s)) = some p := by
  intro ss
  induction ss with
  | nil => intro l h; simp [propsG] at h; subst h; simp
  | cons s ss ih =>
    intro l h
    unfold propsG at h
    cases hf : L.find? (fun q => decide (q.sv = s)) with
    | none => rw [hf] at h; cases h
    | some p =>
      rw [hf] at h
      simp only at h
      cases hg : propsG L ss with
      | none => rw [hg] at h; cases h
      | some m =>
        rw [hg] at h
        simp only [Option.some.injEq] at h
        subst h
        obtain ⟨h1, h2, h3⟩ := ih hg
        refine ⟨by rw [List.map_cons, (find_mem hf).2, h1], ?_, ?_⟩
        · intro q hq
          rcases List.mem_cons.1 hq with rfl | hq
          · exact (find_mem hf).1
          · exact h2 q hq
        · intro t ht
          rcases List.mem_cons.1 ht with rfl | ht
          · exact ⟨p, by simp, hf⟩
          · obtain ⟨q, hq, h4⟩ := h3 t ht
            exact ⟨q, by simp [hq], h4⟩
/-! ### servers, clients -/
theorem together_iff (l : List Pr) : togetherB l = true ↔ (∀ p ∈ l, p.1 ≤ 4) ∧ 1 ≤ l.length ∧ l.length ≤ 4 ∧ setB l = true ∧ livesB l = true := by
  have h := lives_nodes l
  unfold togetherB
  simp only [Bool.and_eq_true, List.all_eq_true, decide_eq_true_eq]
  have e : (nodesL l).length = l.length ↔ livesB l = true := by
    rw [← h]; simp only [beq_iff_eq]; omega
  rw [e]
  constructor
  · rintro ⟨h1, h2, h3, h4, h5⟩; exact ⟨h1, h2, h3, h4, h5⟩
  · rintro ⟨h1, h2, h3, h4, h5⟩; exact ⟨h1, h2, h3, h4, h5⟩
theorem there_rising {l : List Cl} (h : mayR l = true) : rising (thereL l) := (mayR_rising h).filter _
theorem lives_lt {l : List Cl} (h : rising l) : (livesL l).Pairwise fun x y => x.1 < y.1 := by
  unfold livesL
  rw [List.pairwise_map]
  exact h
theorem livesB_of {l : List Pr} (h : l.Pairwise fun x y => x.1 < y.1) : livesB l = true := by
  unfold livesB
  refine decide_eq_true ?_
  rw [List.nodup_iff_pairwise_ne, List.pairwise_map]
  exact h.imp fun {a b} hab e => by omega
theorem ss_of {l : List Pr} (h : l.Pairwise fun x y => x.1 < y.1) : SS l := h.imp fun {a b} hab => by unfold ltP; exact .inl hab
theorem own_facts {l : List Cl} (h : mayR l = true) : setB (livesL (thereL l)) = true ∧ livesB (livesL (thereL l)) = true ∧ (livesL (thereL l)).length ≤ 6 ∧ ∀ p ∈ livesL (thereL l), p.1 ≤ 10 := by
  obtain ⟨_, h2, h3⟩ := (mayR_iff l).1 h
  have hl := lives_lt (there_rising h)
  have hm : ∀ p ∈ livesL (thereL l), mayB p.1 p.2 = true := fun p hp => by
    obtain ⟨x, hx, rfl⟩ := List.mem_map.1 hp
    exact h2 x (List.mem_filter.1 hx).1
  refine ⟨setB_of (ss_of hl) hm, livesB_of hl, ?_, fun p hp => ?_⟩
  · unfold livesL
    rw [List.length_map]
    exact Nat.le_trans (List.length_filter_le _ _) h3
  · have := hm p hp
    simp [mayB] at this
    exact this.2.1
theorem myP_may {a : Ag} (ht : togetherB a.ss = true) (hs : a.sv ∈ a.ss) (h0 : 0 < a.rd) (hm : mayR a.cl = true) (hc : ∀ x ∈ thereL a.cl, 0 < x.cid) : (myP a).mayB = true := by
  obtain ⟨t1, t2, t3, t4, t5⟩ := (together_iff _).1 ht
  obtain ⟨o1, o2, o3, o4⟩ := own_facts hm
  unfold Pp.mayB myP
  simp only [Bool.and_eq_true, apartB_iff, decide_eq_true_eq, Bool.not_eq_true', decide_eq_false_iff_not, beq_iff_eq]
  refine ⟨by omega, ⟨by omega, t4, t5, t1⟩, hs, h0, ⟨by omega, o1, o2, o4⟩, by simp [livesL], ?_⟩
  intro hm
  obtain ⟨x, hx, e⟩ := List.mem_map.1 hm
  have := hc x hx
  omega
theorem upC_n' (x : Cl) : (upC x).n = x.n ∧ (upC x).i = x.i ∧ (upC x).rnd = x.rnd ∧ (upC x).gone = x.gone := by unfold upC; split <;> simp
theorem mayR_up' (l : List Cl) : mayR (l.map upC) = mayR l := by
  rw [Bool.eq_iff_iff, mayR_iff, mayR_iff]
  unfold rising
  rw [List.pairwise_map]
  simp only [List.mem_map, forall_exists_index, and_imp, forall_apply_eq_imp_iff₂, List.length_map, (upC_n' _).1, (upC_n' _).2.1]
theorem there_up (l : List Cl) : thereL (l.map upC) = (thereL l).map upC := by
  unfold thereL
  rw [List.filter_map]
  congr 1
  apply List.filter_congr
  intro x _
  simp [(upC_n' x).2.2.2]
theorem there_gone {l : List Cl} {x : Cl} (h : x ∈ thereL l) : x ∈ l ∧ x.gone = false := by
  obtain ⟨h1, h2⟩ := List.mem_filter.1 h
  exact ⟨h1, by simpa using h2⟩
/-- raised numbers -/
theorem raise_of {m : List Cl} (h : (raiseR m).2 = true) : (raiseR m).1 = m.map upC ∧ ∀ x ∈ thereL m, x.cid ≠ um := by
  unfold raiseR at h ⊢
  split
  · rename_i h1; rw [if_pos h1] at h; cases h
  · rename_i h1
    refine ⟨rfl, fun x hx e => h1 ?_⟩
    obtain ⟨h2, h3⟩ := there_gone hx
    exact List.any_eq_true.2 ⟨x, h2, by simp [raiB, h3, e]⟩
/-! ### a round is begun -/
theorem propose_no {a : Ag} {t : Tu} {n : Int} (h : n = 0 ∨ n = um ∨ (raiseR (takenR a.cl)).2 = false) : proposeP a t n = ({ a with sp := true }, t) := if_pos h
theorem propose_yes {a : Ag} {t : Tu} {n : Int} (h : ¬ (n = 0 ∨ n = um ∨ (raiseR (takenR a.cl)).2 = false)) : proposeP a t n = (putA (toldA (begunA a n)), sentT (toldA (begunA a n)) t) := if_neg h
theorem Ag.Inv.cl_up {a : Ag} (h : a.Inv) {n : Int} (hr : (raiseR (takenR a.cl)).2 = true) : (begunA a n).cl = a.cl.map upC ∧ mayR (begunA a n).cl = true ∧ (∀ x ∈ (begunA a n).cl, wfP (x.n, x.i) ∧ 0 ≤ x.cid ∧ x.cid ≤ um ∧ 0 ≤ x.rnd ∧ x.rnd ≤ um) ∧ ∀ x ∈ thereL (begunA a n).cl, 0 < x.cid := by
  have hm := takenR_of h.mc
  rw [hm] at hr
  obtain ⟨h1, h2⟩ := raise_of hr
  have e : (begunA a n).cl = a.cl.map upC := by show (raiseR (takenR a.cl)).1 = _; rw [hm, h1]
  refine ⟨e, by rw [e, mayR_up', h.mc], ?_, ?_⟩
  · rw [e]
    intro x hx
    obtain ⟨y, hy, rfl⟩ := List.mem_map.1 hx
    obtain ⟨q1, q2, q3, q4, q5⟩ := h.cw y hy
    obtain ⟨u1, u2, u3, u4⟩ := upC_n' y
    rw [u1, u2, u3]
    refine ⟨q1, ?_, ?_, q4, q5⟩
    · unfold upC; split
      · exact q2
      · show 0 ≤ y.cid + 1; omega
    · unfold upC; split
      · exact q3
      · rename_i hg
        have := h2 y (List.mem_filter.2 ⟨hy, by simpa using hg⟩)
        show y.cid + 1 ≤ um
        unfold um at *; omega
  · rw [e, there_up]
    intro x hx
    obtain ⟨y, hy, rfl⟩ := List.mem_map.1 hx
    obtain ⟨h3, h4⟩ := there_gone hy
    have := (h.cw y h3).2.1
    unfold upC
    rw [h4]
    simp
    omega
theorem Ag.Inv.stop {a : Ag} (h : a.Inv) : Ag.Inv { a with sp := true } := ⟨h.ri, h.mb, h.rg, h.wf, h.r0, h.r1, h.cw, h.mc, h.se, h.st, h.ow⟩
theorem propose_inv {a : Ag} (h : a.Inv) (ht : togetherB a.ss = true) (t : Tu) {n : Int} (h0 : 0 ≤ n) (h1 : n ≤ um) : Ag.Inv (proposeP a t n).1 := by
  by_cases hb : n = 0 ∨ n = um ∨ (raiseR (takenR a.cl)).2 = false
  · rw [propose_no hb]; exact h.stop
  · rw [propose_yes hb]
    simp only [not_or, Bool.not_eq_false] at hb
    obtain ⟨hn0, _, hr⟩ := hb
    obtain ⟨c1, c2, c3, c4⟩ := h.cl_up (n := n) hr
    have hmy : (myP (toldA (begunA a n))).mayB = true := myP_may ht h.se (by show 0 < n; omega) c2 c4
    have hsv : (myP (toldA (begunA a n))).sv = a.sv := rfl
    have hcs : ∀ c ∈ (myP (toldA (begunA a n))).cs, wfP c := fun c hc => by
      obtain ⟨x, hx, rfl⟩ := List.mem_map.1 hc
      exact (c3 x (there_gone hx).1).1
    refine ⟨gotL_ri h.ri _, ?_, ?_, ?_, h0, h1, c3, c2, h.se, h.st, ?_⟩
    · intro p hp
      rcases gotL_mem.1 hp with rfl | ⟨hp, _⟩
      · exact hmy
      · exact h.mb p hp
    · intro p hp
      rcases gotL_mem.1 hp with rfl | ⟨hp, _⟩
      · exact h1
      · exact h.rg p hp
    · intro p hp
      rcases gotL_mem.1 hp with rfl | ⟨hp, _⟩
      · exact hcs
      · exact h.wf p hp
    · intro p hp e
      rcases gotL_mem.1 hp with rfl | ⟨hp, hne⟩
      · rfl
      · exact absurd (congrArg Prod.fst e) (fun e' => hne e')
theorem upU_range {n : Int} (h0 : 0 ≤ n) (h1 : n ≤ um) : 0 ≤ upU n ∧ upU n ≤ um := by
  unfold upU um at *
  split <;> omega
/-- where it comes to a view or goes on, its servers are those of a renewal, or it alone -/
theorem Ag.Inv.sole {a : Ag} (h : a.Inv) (hr : (raiseR (takenR a.cl)).2 = true) (hs : a.ss = [a.sv]) (n : Int) : whomL (begunA a n) = livesL (thereL (begunA a n).cl) := by
  obtain ⟨c1, c2, c3, c4⟩ := h.cl_up (n := n) hr
  have hown : ownL (begunA a n) = livesL (thereL (begunA a n).cl) := by unfold ownL; rw [takenR_of c2]; rfl
  have hk : ∀ (L : List Pp) (M : List Pr), L.foldl (fun L p => if p.sv ≠ (begunA a n).sv ∧ p.sv ∈ (begunA a n).ss then sortedL (L ++ p.cs) else L) M = M := by
    intro L
    induction L with
    | nil => intro M; rfl
    | cons x L ih =>
      intro M
      rw [List.foldl_cons, if_neg, ih]
      rintro ⟨h1, h2⟩
      have : x.sv ∈ a.ss := h2
      rw [hs] at this
      exact h1 (List.mem_singleton.1 this)
  have hl : ∀ l : List Pr, (l.Pairwise fun x y => x.1 < y.1) → lastOf l = l := by
    intro l
    induction l with
    | nil => intro _; rfl
    | cons x l ih =>
      intro hp
      cases l with
      | nil => rfl
      | cons y l =>
        rw [List.pairwise_cons] at hp
        have := hp.1 y (by simp)
        unfold lastOf
        rw [if_neg (by omega), ih hp.2]
  have hkn : knownL (begunA a n) = livesL (thereL (begunA a n).cl) := by unfold knownL; rw [hk, hown]
  have hlo : lastOf (knownL (begunA a n)) = livesL (thereL (begunA a n).cl) := by rw [hkn, hl _ (lives_lt (there_rising c2))]
  unfold whomL
  rw [hlo, if_neg (by have := (own_facts c2).2.2.1; omega)]
theorem agree_rd {l : List Pp} (h : agreeB l = true) : ∀ p ∈ l, ∀ q ∈ l, p.rd = q.rd := by
  obtain ⟨_, _, rd, ss, _, h3, _⟩ := agreeB_iff.1 h
  intro p hp q hq
  rw [(h3 p hp).2.1, (h3 q hq).2.1]
/-- how a go at a view ends -/
inductive Gone1 (a : Ag) (t : Tu) : (Ag × Tu) × Bool → Prop
  | still (h : a.dn = true ∨ a.sp = true ∨ propsL a = none ∨ ∃ l, propsL a = some l ∧ agreeB l = false) : Gone1 a t ((a, t), false)
  | more (l : List Pp) (h0 : a.dn = false) (h1 : a.sp = false) (h2 : propsL a = some l) (h3 : agreeB l = true) (h4 : strange l a.td = true) : Gone1 a t (proposeP a t (upU a.rd), true)
  | none (l : List Pp) (h0 : a.dn = false) (h1 : a.sp = false) (h2 : propsL a = some l) (h3 : agreeB l = true) (h4 : strange l a.td = false) (h5 : viewP l = none) : Gone1 a t ((doneA a, t), false)
  | made (l : List Pp) (x : (Int × Int × Int) × List Pr × List Int) (h0 : a.dn = false) (h1 : a.sp = false) (h2 : propsL a = some l) (h3 : agreeB l = true) (h4 : strange l a.td = false) (h5 : viewP l = some x) : Gone1 a t (({ doneA a with vw := vwOf x }, { t with md := true, vw := vwOf x, ts := t.ts ++ (ownL a).map fun p => comeT p (vwOf x) }), false)
theorem agree1_gone (a : Ag) (t : Tu) : Gone1 a t (agree1 a t) := by
  unfold agree1
  cases h0 : a.dn
  · cases h1 : a.sp
    · simp only [Bool.or_self, Bool.false_eq_true, ↓reduceIte]
      cases h2 : propsL a with
      | none => exact .still (.inr (.inr (.inl h2)))
      | some l =>
        simp only
        cases h3 : agreeB l
        · simp only [↓reduceIte]
          exact .still (.inr (.inr (.inr ⟨l, h2, h3⟩)))
        · simp only [Bool.true_eq_false, ↓reduceIte]
          cases h4 : strange l a.td
          · simp only [Bool.false_eq_true, ↓reduceIte]
            cases h5 : viewP l with
            | none => exact .none l h0 h1 h2 h3 h4 h5
            | some x => exact .made l x h0 h1 h2 h3 h4 h5
          · simp only [↓reduceIte]
            exact .more l h0 h1 h2 h3 h4
    · simp only [Bool.or_true, ↓reduceIte]
      exact .still (.inr (.inl h1))
  · simp only [Bool.true_or, ↓reduceIte]
    exact .still (.inl h0)
theorem Ag.Inv.ss_nd {a : Ag} (h : a.Inv) : livesB a.ss = true := by
  rcases h.st with e | e
  · rw [e]; simp [livesB]
  · exact ((together_iff _).1 e).2.2.2.2
theorem Ag.Inv.other {a : Ag} (h : a.Inv) (hs : a.ss ≠ [a.sv]) : ∃ s ∈ a.ss, s.1 ≠ a.n := by
  have hn := h.ss_nd
  unfold livesB at hn
  simp only [decide_eq_true_eq] at hn
  have hse := h.se
  cases hss : a.ss with
  | nil => rw [hss] at hse; cases hse
  | cons x l =>
    cases l with
    | nil => rw [hss] at hse hs; exact absurd (by rw [List.mem_singleton.1 hse]) hs
    | cons y l =>
      rw [hss] at hn
      simp only [List.map_cons, List.nodup_cons, List.mem_cons, not_or] at hn
      by_cases e : x.1 = a.n
      · exact ⟨y, by simp, fun e' => hn.1.1 (by omega)⟩
      · exact ⟨x, by simp, e⟩
theorem agree_mine {a : Ag} (h : a.Inv) {l : List Pp} (h2 : propsL a = some l) (h3 : agreeB l = true) : ∀ p ∈ l, p.rd = a.rd := by
  obtain ⟨_, g2, g3⟩ := propsG_of h2
  obtain ⟨q, hq, hf⟩ := g3 a.sv h.se
  intro p hp
  rw [agree_rd h3 p hp q hq]
  exact h.ow q (find_mem hf).1 (find_mem hf).2
theorem agree1_twice {a : Ag} (h : a.Inv) (t : Tu) (hm : (agree1 a t).2 = true) : (agree1 (agree1 a t).1.1 (agree1 a t).1.2).2 = false := by
  have hg := agree1_gone a t
  generalize agree1 a t = r at hm hg
  cases hg with
  | still => cases hm
  | none => cases hm
  | made => cases hm
  | more l h0 h1 h2 h3 h4 =>
    have hrd := agree_mine h h2 h3
    by_cases hb : upU a.rd = 0 ∨ upU a.rd = um ∨ (raiseR (takenR a.cl)).2 = false
    · rw [propose_no hb]
      simp [agree1]
    · rw [propose_yes hb]
      simp only [not_or, Bool.not_eq_false] at hb
      obtain ⟨hn0, _, hr⟩ := hb
      have hn : upU a.rd = a.rd + 1 := by unfold upU at hn0 ⊢; split <;> simp_all
      have hg2 := agree1_gone (putA (toldA (begunA a (upU a.rd)))) (sentT (toldA (begunA a (upU a.rd))) t)
      generalize hq : agree1 (putA (toldA (begunA a (upU a.rd)))) (sentT (toldA (begunA a (upU a.rd))) t) = r2 at hg2
      cases hg2 with
      | still => rfl
      | none => rfl
      | made => rfl
      | more l' k0 k1 k2 k3 k4 =>
        exfalso
        obtain ⟨g1, g2, g3⟩ := propsG_of k2
        have hri := gotL_ri h.ri (myP (toldA (begunA a (upU a.rd))))
        have hmy : (myP (toldA (begunA a (upU a.rd)))) ∈ gotL a.gt (myP (toldA (begunA a (upU a.rd)))) := gotL_mem.2 (.inl rfl)
        obtain ⟨q, hq1, hq2⟩ := g3 a.sv h.se
        have e1 : q = myP (toldA (begunA a (upU a.rd))) := by
          have := find_sv hri hmy (s := a.sv) rfl
          have := hq2.symm.trans this
          injection this
        by_cases hs : a.ss = [a.sv]
        · have hl : l' = [q] := by
            have : l'.length = 1 := by have := congrArg List.length g1; simpa [hs, putA, toldA, begunA] using this
            match l', this, hq1 with
            | [x], _, hq1 => rw [List.mem_singleton.1 hq1]
          rw [hl, e1] at k4
          have hw := h.sole hr hs (upU a.rd)
          unfold strange at k4
          simp only [List.any_cons, List.any_nil, Bool.or_false, List.any_eq_true, Bool.not_eq_true', decide_eq_false_iff_not] at k4
          obtain ⟨c, hc, hc2⟩ := k4
          apply hc2
          show c ∈ whomL (begunA a (upU a.rd))
          rw [hw]
          exact hc
        · obtain ⟨s, hs1, hs2⟩ := h.other hs
          obtain ⟨p, hp1, hp2⟩ := g3 s hs1
          obtain ⟨hp3, hp4⟩ := find_mem hp2
          have hpn : p.n = s.1 := congrArg Prod.fst hp4
          have hpa : p ∈ a.gt := by
            rcases gotL_mem.1 hp3 with e | ⟨hp, _⟩
            · exact absurd (show p.n = a.n by rw [e]; rfl) (by omega)
            · exact hp
          have hpl : p ∈ l := by
            obtain ⟨_, _, m3⟩ := propsG_of h2
            obtain ⟨p', hp', hf⟩ := m3 s hs1
            have := find_sv h.ri hpa (s := s) hp4
            rw [this] at hf
            injection hf with hf
            rw [hf]; exact hp'
          have r1 := hrd p hpl
          have r2 := agree_rd k3 p hp1 q hq1
          rw [e1] at r2
          have r3 : p.rd = upU a.rd := r2
          omega
theorem view_may_rd {l : List Pp} {x : (Int × Int × Int) × List Pr × List Int} (h : viewP l = some x) : ∀ p ∈ l, x.1.1 = p.rd := by
  obtain ⟨⟨rd, vn, vi⟩, ms, us⟩ := x
  obtain ⟨h1, _, _, _, h5, _⟩ := viewP_some h
  intro p hp
  rw [h5]
  cases l with
  | nil => cases hp
  | cons y l => exact agree_rd h1 y (by simp) p hp
theorem Ag.Inv.done {a : Ag} (h : a.Inv) : Ag.Inv (doneA a) := ⟨h.ri, h.mb, h.rg, h.wf, h.r0, h.r1, h.cw, h.mc, h.se, h.st, h.ow⟩
theorem Ag.Inv.seen {a : Ag} (h : a.Inv) (v : Vw) : Ag.Inv { doneA a with vw := v } := ⟨h.ri, h.mb, h.rg, h.wf, h.r0, h.r1, h.cw, h.mc, h.se, h.st, h.ow⟩
theorem agree1_inv {a : Ag} (h : a.Inv) (ht : togetherB a.ss = true) (t : Tu) : Ag.Inv (agree1 a t).1.1 ∧ togetherB (agree1 a t).1.1.ss = true := by
  have hg := agree1_gone a t
  generalize agree1 a t = r at hg
  cases hg with
  | still => exact ⟨h, ht⟩
  | none => exact ⟨h.done, ht⟩
  | made => exact ⟨h.seen _, ht⟩
  | more =>
    have := upU_range h.r0 h.r1
    refine ⟨propose_inv h ht t this.1 this.2, ?_⟩
    by_cases hb : upU a.rd = 0 ∨ upU a.rd = um ∨ (raiseR (takenR a.cl)).2 = false
    · rw [propose_no hb]; exact ht
    · rw [propose_yes hb]; exact ht
theorem agree_inv {a : Ag} (h : a.Inv) (ht : togetherB a.ss = true) (t : Tu) : Ag.Inv (agreeP a t).1 := by
  have h1 := agree1_inv h ht t
  unfold agreeP
  split
  · exact (agree1_inv h1.1 h1.2 _).1
  · exact h1.1
end Go.Proofs.YtkglclekieckoaaGreat

namespace Go.Proofs.YtkglclekieckoaaGreat
set_option linter.unusedSimpArgs false
set_option linter.unusedVariables false
set_option linter.unusedSectionVars false
open Go.RowKit

/-- what has become of an agreement, and the turn -/
structure Grown (a0 : Ag) (K : List Pp) (r : Ag × Tu) : Prop where
  inv : r.1.Inv
  sv : r.1.sv = a0.sv
  rd : a0.rd ≤ r.1.rd
  md : r.2.md = true → r.1.dn = true ∧ r.2.vw.r = r.1.rd
  sd : r.2.sd = true → r.2.pp.rd = r.1.rd ∧ r.2.pp.sv = r.1.sv
  kp : ∀ g ∈ K, g.n ≠ a0.n → g ∈ r.1.gt
theorem Grown.same {a : Ag} (h : a.Inv) : Grown a a.gt (a, tu0) := ⟨h, rfl, Int.le_refl _, (fun h => by cases h), (fun h => by cases h), fun g hg _ => hg⟩
theorem Grown.propose {a0 a : Ag} {K : List Pp} {t : Tu} (h : Grown a0 K (a, t)) (ht : togetherB a.ss = true) (hm : t.md = false) {n : Int} (h0 : 0 ≤ n) (h1 : n ≤ um) (hn : n = 0 ∨ a.rd ≤ n) : Grown a0 K (proposeP a t n) ∧ togetherB (proposeP a t n).1.ss = true ∧ (proposeP a t n).2.md = false := by
  have hi := propose_inv h.inv ht t h0 h1
  by_cases hb : n = 0 ∨ n = um ∨ (raiseR (takenR a.cl)).2 = false
  · rw [propose_no hb] at hi ⊢
    exact ⟨⟨hi, h.sv, h.rd, (fun e => by rw [hm] at e; cases e), h.sd, h.kp⟩, ht, hm⟩
  · rw [propose_yes hb] at hi ⊢
    simp only [not_or] at hb
    have hr : a.rd ≤ n := by rcases hn with e | e; · exact absurd e hb.1
                             · exact e
    refine ⟨⟨hi, h.sv, Int.le_trans h.rd hr, (fun e => ?_), (fun _ => ⟨rfl, rfl⟩), fun g hg hne => ?_⟩, ht, hm⟩
    · have e : t.md = true := e
      rw [hm] at e; cases e
    · have hsn : a.n = a0.n := congrArg Prod.fst h.sv
      exact gotL_mem.2 (.inr ⟨h.kp g hg hne, fun e => hne (e.trans hsn)⟩)
theorem Grown.agree1 {a0 a : Ag} {K : List Pp} {t : Tu} (h : Grown a0 K (a, t)) (ht : togetherB a.ss = true) (hm : t.md = false) : Grown a0 K (agree1 a t).1 ∧ togetherB (agree1 a t).1.1.ss = true ∧ ((agree1 a t).2 = true → (agree1 a t).1.2.md = false) := by
  have hg := agree1_gone a t
  generalize Go.Proofs.YtkglclekieckoaaGreat.agree1 a t = r at hg
  cases hg with
  | still => exact ⟨h, ht, fun e => by cases e⟩
  | none l h0 h1 h2 h3 h4 h5 => exact ⟨⟨h.inv.done, h.sv, h.rd, (fun e => by rw [hm] at e; cases e), h.sd, h.kp⟩, ht, fun e => by cases e⟩
  | made l x h0 h1 h2 h3 h4 h5 =>
    refine ⟨⟨h.inv.seen _, h.sv, h.rd, (fun _ => ⟨rfl, ?_⟩), h.sd, h.kp⟩, ht, fun e => by cases e⟩
    obtain ⟨_, _, g3⟩ := propsG_of h2
    obtain ⟨q, hq, _⟩ := g3 a.sv h.inv.se
    show x.1.1 = a.rd
    rw [view_may_rd h5 q hq, agree_mine h.inv h2 h3 q hq]
  | more l h0 h1 h2 h3 h4 =>
    have hu := upU_range h.inv.r0 h.inv.r1
    have hge : upU a.rd = 0 ∨ a.rd ≤ upU a.rd := by unfold upU; split <;> omega
    have := h.propose ht hm hu.1 hu.2 hge
    exact ⟨this.1, this.2.1, fun _ => this.2.2⟩
theorem Grown.agree {a0 a : Ag} {K : List Pp} {t : Tu} (h : Grown a0 K (a, t)) (ht : togetherB a.ss = true) (hm : t.md = false) : Grown a0 K (agreeP a t) := by
  have h1 := h.agree1 ht hm
  unfold agreeP
  split
  · rename_i hb
    exact (Grown.agree1 (a0 := a0) (K := K) (a := (Go.Proofs.YtkglclekieckoaaGreat.agree1 a t).1.1) (t := (Go.Proofs.YtkglclekieckoaaGreat.agree1 a t).1.2) h1.1 h1.2.1 (h1.2.2 hb)).1
  · exact h1.1
theorem mostL_ge (a : Ag) : a.rd ≤ mostL a ∧ (0 ≤ a.rd → a.Inv → 0 ≤ mostL a ∧ mostL a ≤ um) := by
  have key : ∀ (L : List Pp) (m : Int), (∀ p ∈ L, p.rd ≤ um) → m ≤ um → m ≤ L.foldl (fun n p => if p.sv ∈ a.ss then max n p.rd else n) m ∧ L.foldl (fun n p => if p.sv ∈ a.ss then max n p.rd else n) m ≤ um := by
    intro L
    induction L with
    | nil => intro m _ h; exact ⟨Int.le_refl _, h⟩
    | cons x L ih =>
      intro m hL hm
      rw [List.foldl_cons]
      split
      · have h1 := hL x (by simp)
        have := ih (max m x.rd) (fun p hp => hL p (by simp [hp])) (by omega)
        exact ⟨by omega, this.2⟩
      · exact ih m (fun p hp => hL p (by simp [hp])) hm
  have key2 : ∀ (L : List Pp) (m : Int), m ≤ L.foldl (fun n p => if p.sv ∈ a.ss then max n p.rd else n) m := by
    intro L
    induction L with
    | nil => intro m; exact Int.le_refl _
    | cons x L ih =>
      intro m
      rw [List.foldl_cons]
      split
      · have := ih (max m x.rd); omega
      · exact ih m
  refine ⟨?_, fun h0 hi => ?_⟩
  · have := key2 a.gt (max a.rd (maxR (thereL (takenR a.cl))))
    unfold mostL; omega
  · have hx : maxR (thereL (takenR a.cl)) ≤ um := by
      rw [takenR_of hi.mc]
      have : ∀ (l : List Cl) (m : Int), (∀ x ∈ l, x.rnd ≤ um) → m ≤ um → l.foldl (fun a x => max a x.rnd) m ≤ um := by
        intro l
        induction l with
        | nil => intro m _ h; exact h
        | cons x l ih => intro m hl hm; rw [List.foldl_cons]; exact ih _ (fun y hy => hl y (by simp [hy])) (by have := hl x (by simp); omega)
      exact this _ 0 (fun x hx => (hi.cw x (there_gone hx).1).2.2.2.2) (by unfold um; omega)
    have h1 := key a.gt (max a.rd (maxR (thereL (takenR a.cl)))) hi.rg (by have := hi.r1; omega)
    unfold mostL
    exact ⟨by omega, h1.2⟩
/-- what a list of clients is that comes in -/
def clOk (cl : List Cl) : Prop := ∀ x ∈ cl, wfP (x.n, x.i) ∧ 0 ≤ x.cid ∧ x.cid ≤ um ∧ 0 ≤ x.rnd ∧ x.rnd ≤ um
theorem Ag.Inv.with {a : Ag} (h : a.Inv) {ss : List Pr} {cl : List Cl} (ht : togetherB ss = true) (hs : a.sv ∈ ss) (hm : mayR cl = true) (hc : clOk cl) : Ag.Inv { a with ss := ss, cl := cl } :=
  ⟨h.ri, h.mb, h.rg, h.wf, h.r0, h.r1, hc, hm, hs, .inr ht, h.ow⟩
theorem renew_grown {a : Ag} (h : a.Inv) (ss : List Pr) {cl : List Cl} (hc : clOk cl) : Grown a a.gt (renewP a ss cl) := by
  unfold renewP
  split
  · exact .same h
  · rename_i hb
    simp only [Bool.or_eq_true, Bool.not_eq_true', decide_eq_false_iff_not, not_or, Bool.not_eq_true, Bool.not_eq_false, Classical.not_not] at hb
    obtain ⟨h1, h2, h3, h4⟩ := hb
    have hi := h.with h2 h3 h4 hc
    have hg : Grown a a.gt ({ a with ss := ss, cl := cl }, tu0) := ⟨hi, rfl, Int.le_refl _, (fun e => by cases e), (fun e => by cases e), fun g hg _ => hg⟩
    obtain ⟨m1, m2⟩ := mostL_ge { a with ss := ss, cl := cl }
    obtain ⟨m3, m4⟩ := m2 h.r0 hi
    have hu := upU_range m3 m4
    have m5 : a.rd ≤ mostL { a with ss := ss, cl := cl } := m1
    have hp := hg.propose h2 rfl hu.1 hu.2 (by show _ ∨ a.rd ≤ _; unfold upU; split <;> omega)
    exact Grown.agree (a0 := a) hp.1 hp.2.1 hp.2.2
/-- what a proposal is that comes in -/
structure ppOk (p : Pp) : Prop where
  rg : p.rd ≤ um
  wf : ∀ c ∈ p.cs, wfP c
theorem may_br (p : Pp) : p.br.mayB = p.mayB := rfl
theorem Ag.Inv.put {a : Ag} (h : a.Inv) {p : Pp} (hp : ppOk p) (hm : p.mayB = true) (hn : p.n ≠ a.n) : Ag.Inv { a with gt := gotL a.gt p.br } := by
  refine ⟨gotL_ri h.ri _, ?_, ?_, ?_, h.r0, h.r1, h.cw, h.mc, h.se, h.st, ?_⟩
  · intro q hq
    rcases gotL_mem.1 hq with rfl | ⟨hq, _⟩
    · exact hm
    · exact h.mb q hq
  · intro q hq
    rcases gotL_mem.1 hq with rfl | ⟨hq, _⟩
    · exact hp.rg
    · exact h.rg q hq
  · intro q hq
    rcases gotL_mem.1 hq with rfl | ⟨hq, _⟩
    · exact hp.wf
    · exact h.wf q hq
  · intro q hq e
    rcases gotL_mem.1 hq with rfl | ⟨hq, _⟩
    · exact absurd (congrArg Prod.fst e) hn
    · exact h.ow q hq e
theorem Ag.Inv.two {a : Ag} (h : a.Inv) {s : Pr} (hs : s ∈ a.ss) (hn : s.1 ≠ a.n) : togetherB a.ss = true := by
  rcases h.st with e | e
  · rw [e] at hs
    rw [List.mem_singleton.1 hs] at hn
    exact absurd rfl hn
  · exact e
/-- is it refused, or too late? -/
def noneB (a : Ag) (p : Pp) : Bool := a.sp || (!p.mayB || decide (p.n = a.n)) || lateB a.gt p
theorem take_none {a : Ag} {p : Pp} (h : noneB a p = true) : takeP a p = (a, tu0) := by
  unfold noneB at h
  unfold takeP
  split
  · rfl
  · rename_i hb
    simp only [Bool.not_eq_true] at hb
    rw [hb, Bool.false_or] at h
    rw [if_pos h]
theorem take_grown {a : Ag} (h : a.Inv) {p : Pp} (hp : ppOk p) : (∃ K, Grown a K (takeP a p)) ∧ noneB (takeP a p).1 p = true := by
  by_cases hnb : noneB a p = true
  · rw [take_none hnb]
    exact ⟨⟨_, .same h⟩, hnb⟩
  · have hnb' : noneB a p = false := by simpa using hnb
    unfold noneB at hnb'
    simp only [Bool.or_eq_false_iff, Bool.not_eq_false', decide_eq_false_iff_not] at hnb'
    obtain ⟨⟨h1, h2, h3⟩, h4⟩ := hnb'
    have hi := h.put hp h2 h3
    have hgs : Grown a (gotL a.gt p.br) ({ a with gt := gotL a.gt p.br }, tu0) := ⟨hi, rfl, Int.le_refl _, (fun e => by cases e), (fun e => by cases e), fun g hg _ => hg⟩
    have hG : Grown a (gotL a.gt p.br) (takeP a p) := by
      unfold takeP
      rw [if_neg (by rw [h1, h2]; simp [h3]), if_neg (by rw [h4]; simp)]
      simp only
      split
      · rename_i hs
        have ht : togetherB a.ss = true := h.two hs h3
        split
        · rename_i hlt
          have := h.r0
          have hr : ({ a with gt := gotL a.gt p.br } : Ag).rd ≤ p.rd := by show a.rd ≤ p.rd; omega
          have hq := hgs.propose ht rfl (n := p.rd) (by omega) hp.rg (.inr hr)
          exact Grown.agree hq.1 hq.2.1 hq.2.2
        · exact Grown.agree hgs ht rfl
      · exact hgs
    refine ⟨⟨_, hG⟩, ?_⟩
    have hk := hG.kp p.br (gotL_mem.2 (.inl rfl)) h3
    unfold noneB
    have hl : lateB (takeP a p).1.gt p = true := List.any_eq_true.2 ⟨_, hk, by
      have e1 : p.br.sv = p.sv := rfl
      have e2 : p.br.rd = p.rd := rfl
      rw [e1, e2]; simp⟩
    rw [hl, Bool.or_true]
theorem take_again {a : Ag} (h : a.Inv) {p : Pp} (hp : ppOk p) : takeP (takeP a p).1 p = ((takeP a p).1, tu0) := take_none (take_grown h hp).2
theorem new_inv (n i : Int) : (newA n i).Inv := ⟨List.Pairwise.nil, (fun _ h => by cases h), (fun _ h => by cases h), (fun _ h => by cases h), Int.le_refl _, by show (0 : Int) ≤ um; unfold um; omega, (fun _ h => by cases h), (by simp [newA, mayR]), List.mem_singleton.2 rfl, .inl rfl, (fun _ h => by cases h)⟩
theorem mine_of {a : Ag} (h : a.Inv) {p : Pp} (hm : mineP a = some p) : p.rd = a.rd ∧ p.sv = a.sv ∧ p.mayB = true := by
  obtain ⟨h1, h2⟩ := find_mem hm
  exact ⟨h.ow p h1 h2, h2, h.mb p h1⟩
end Go.Proofs.YtkglclekieckoaaGreat
