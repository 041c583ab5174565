/-
  Layer 18: the plain law of ProposalOne, once more in a text of its own: of one server's proposals of a round there is but one: views of one name are one.
-/
import Derived.Test.YtkglclekieckoaaGreatPpM
import Derived.Test.YtkglclekieckoaaGreatAgR
import Derived.Test.YtkglclekieckoaaGreatMn3
namespace Go.Proofs.YtkglclekieckoaaGreat
set_option linter.unusedSimpArgs false
set_option linter.unusedVariables false
set_option linter.unusedSectionVars false
open Go.RowKit

theorem agree_nd {l : List Pp} {ss : List Pr} (hl : l.length = ss.length) (hs : sortedL (l.map Pp.sv) = ss) : (l.map Pp.sv).Nodup := by
  have h1 : SS ss := by rw [← hs]; exact sortedL_ss _
  refine (sorted_is h1 (fun p hp => ?_) (by rw [List.length_map]; exact hl)).1 hs
  rw [← hs]; exact mem_sortedL.2 hp
theorem one_view1 {all l m : List Pp} (hu : ∀ x ∈ all, ∀ y ∈ all, x.sv = y.sv → x.rd = y.rd → x = y) (hl : ∀ x ∈ l, x ∈ all) (hm : ∀ x ∈ m, x ∈ all) {rd vn vi : Int} {ms ms' : List Pr} {us us' : List Int}
    (v : viewP l = some ((rd, vn, vi), ms, us)) (v' : viewP m = some ((rd, vn, vi), ms', us')) : ms' = ms ∧ us' = us := by
  obtain ⟨a1, _, _, _, a5, a6, _, _⟩ := viewP_some v
  obtain ⟨b1, _, _, _, b5, b6, _, _⟩ := viewP_some v'
  obtain ⟨c0, c1, r1, s1, c2, c3, c4⟩ := agreeB_iff.1 a1
  obtain ⟨d0, d1, r2, s2, d2, d3, d4⟩ := agreeB_iff.1 b1
  obtain ⟨e1, e2, e3⟩ := heads c0 c3
  obtain ⟨f1, f2, f3⟩ := heads d0 d3
  rw [e1] at a5
  rw [f1] at b5
  rw [e2] at a6
  rw [f2] at b6
  have hr : r1 = r2 := by rw [← a5, ← b5]
  have g1 : (vn, vi) ∈ s1 := by rw [a6]; exact getD0_mem _ (by have := (mayB_facts e3).1; rwa [e2] at this)
  have g2 : (vn, vi) ∈ s2 := by rw [b6]; exact getD0_mem _ (by have := (mayB_facts f3).1; rwa [f2] at this)
  rw [← c4, mem_sortedL] at g1
  rw [← d4, mem_sortedL] at g2
  obtain ⟨p, hp, hp1⟩ := List.mem_map.1 g1
  obtain ⟨q, hq, hq1⟩ := List.mem_map.1 g2
  have hpq : p = q := hu p (hl p hp) q (hm q hq) (hp1.trans hq1.symm) (by rw [(c3 p hp).2.1, (d3 q hq).2.1, hr])
  have hs : s1 = s2 := by rw [← (c3 p hp).2.2, ← (d3 q hq).2.2, hpq]
  have n1 : l.Nodup := List.Pairwise.of_map Pp.sv (fun _ _ h e => h (by rw [e])) (agree_nd c2 c4)
  have n2 : m.Nodup := List.Pairwise.of_map Pp.sv (fun _ _ h e => h (by rw [e])) (agree_nd d2 d4)
  have hperm : l.Perm m := (List.perm_ext_iff_of_nodup n1 n2).2 (fun x => by
    constructor
    · intro hx
      have h1 : x.sv ∈ sortedL (l.map Pp.sv) := mem_sortedL.2 (List.mem_map.2 ⟨x, hx, rfl⟩)
      rw [c4, hs, ← d4, mem_sortedL] at h1
      obtain ⟨y, hy, hyx⟩ := List.mem_map.1 h1
      have : x = y := hu x (hl x hx) y (hm y hy) hyx.symm (by rw [(c3 x hx).2.1, (d3 y hy).2.1, hr])
      rw [this]; exact hy
    · intro hx
      have h1 : x.sv ∈ sortedL (m.map Pp.sv) := mem_sortedL.2 (List.mem_map.2 ⟨x, hx, rfl⟩)
      rw [d4, ← hs, ← c4, mem_sortedL] at h1
      obtain ⟨y, hy, hyx⟩ := List.mem_map.1 h1
      have : x = y := hu x (hm x hx) y (hl y hy) hyx.symm (by rw [(d3 x hx).2.1, (c3 y hy).2.1, hr])
      rw [this]; exact hy)
  rw [viewP_perm hperm, v'] at v
  simp only [Option.some.injEq, Prod.mk.injEq] at v
  exact ⟨v.2.1, v.2.2⟩
end Go.Proofs.YtkglclekieckoaaGreat

namespace Go.Proofs.YtkglclekieckoaaGreat
set_option linter.unusedSimpArgs false
set_option linter.unusedVariables false
set_option linter.unusedSectionVars false
open Go.RowKit

/-- numbers by nodes, with one written -/
def updC (c : Int → Int) (n v : Int) : Int → Int := fun m => if m = n then v else c m
/-- the last numbers that the clients were told -/
def cidsA : (Int → Int) → List Te → (Int → Int)
  | c, [] => c
  | c, e :: ts => cidsA (if e.nt.k = 4 then updC c e.n e.nt.cd else c) ts
/-- start notices only, each above the last number -/
def startsOk : (Int → Int) → List Te → Prop
  | _, [] => True
  | c, e :: ts => (5 ≤ e.n ∧ e.n ≤ 10 ∧ e.nt.k = 4 ∧ c e.n < e.nt.cd ∧ (e.n, e.i) ∈ e.nt.st) ∧ startsOk (updC c e.n e.nt.cd) ts
theorem cidsA_app (c : Int → Int) (l m : List Te) : cidsA c (l ++ m) = cidsA (cidsA c l) m := by
  induction l generalizing c with
  | nil => rfl
  | cons e l ih => exact ih _
theorem startsOk_app {c : Int → Int} {l m : List Te} (h : startsOk c l) (k : startsOk (cidsA c l) m) : startsOk c (l ++ m) := by
  induction l generalizing c with
  | nil => exact k
  | cons e l ih =>
    obtain ⟨h1, h2⟩ := h
    refine ⟨h1, ih h2 ?_⟩
    have : cidsA c (e :: l) = cidsA (updC c e.n e.nt.cd) l := by show cidsA (if e.nt.k = 4 then _ else _) l = _; rw [if_pos h1.2.2.1]
    rw [← this]; exact k
/-- the notices of one round's beginning -/
theorem starts_batch {a : Ag} : ∀ {L : List Cl} {c : Int → Int}, rising L → (∀ x ∈ L, 5 ≤ x.n ∧ x.n ≤ 10 ∧ c x.n < x.cid ∧ (x.n, x.i) ∈ a.td) →
    startsOk c (L.map fun x => startT a (x.n, x.i) x.cid) ∧ (∀ x ∈ L, cidsA c (L.map fun x => startT a (x.n, x.i) x.cid) x.n = x.cid) ∧ ∀ m, (∀ x ∈ L, x.n ≠ m) → cidsA c (L.map fun x => startT a (x.n, x.i) x.cid) m = c m := by
  intro L
  induction L with
  | nil => intro c _ _; exact ⟨trivial, (fun x hx => by cases hx), fun m _ => rfl⟩
  | cons y L ih =>
    intro c hr hx
    unfold rising at hr
    rw [List.pairwise_cons] at hr
    have hy := hx y (by simp)
    have e : cidsA c ((y :: L).map fun x => startT a (x.n, x.i) x.cid) = cidsA (updC c y.n y.cid) (L.map fun x => startT a (x.n, x.i) x.cid) := rfl
    obtain ⟨i1, i2, i3⟩ := ih (c := updC c y.n y.cid) hr.2 (fun x hxL => by
      have h1 := hx x (by simp [hxL])
      have h2 := hr.1 x hxL
      refine ⟨h1.1, h1.2.1, ?_, h1.2.2.2⟩
      unfold updC; rw [if_neg (by omega)]; exact h1.2.2.1)
    refine ⟨⟨⟨hy.1, hy.2.1, rfl, hy.2.2.1, hy.2.2.2⟩, i1⟩, ?_, ?_⟩
    · intro x hxm
      rw [e]
      rcases List.mem_cons.1 hxm with rfl | hxL
      · rw [i3 x.n (fun z hz => by have := hr.1 z hz; omega)]
        unfold updC; rw [if_pos rfl]
      · exact i2 x hxL
    · intro m hm
      rw [e, i3 m (fun z hz => hm z (by simp [hz]))]
      unfold updC; rw [if_neg (fun e => hm y (by simp) e.symm)]
/-- of lives that each stand for their node, none is lost -/
theorem lastOf_mem : ∀ {l : List Pr}, (∀ p ∈ l, p.2 = 1) → ∀ p ∈ l, p ∈ lastOf l := by
  intro l
  induction l with
  | nil => intro _ p hp; cases hp
  | cons x l ih =>
    intro h1 p hp
    cases l with
    | nil => exact hp
    | cons y l =>
      have hl : ∀ q ∈ y :: l, q.2 = 1 := fun q hq => h1 q (List.mem_cons_of_mem _ hq)
      unfold lastOf
      split
      · rename_i e
        rcases List.mem_cons.1 hp with rfl | hp
        · have e2 : y = p := Prod.ext e (by rw [h1 y (by simp), h1 p (by simp)])
          exact ih hl p (by rw [← e2]; simp)
        · exact ih hl p hp
      · rcases List.mem_cons.1 hp with rfl | hp
        · simp
        · exact List.mem_cons_of_mem _ (ih hl p hp)
theorem known_mem {L : List Pp} {P : Pp → Prop} [DecidablePred P] : ∀ {M : List Pr}, (∀ p ∈ M, p.2 = 1) → (∀ g ∈ L, P g → ∀ c ∈ g.cs, c.2 = 1) →
    (∀ p ∈ M, p ∈ L.foldl (fun L p => if P p then sortedL (L ++ p.cs) else L) M) ∧ ∀ p ∈ L.foldl (fun L p => if P p then sortedL (L ++ p.cs) else L) M, p.2 = 1 := by
  induction L with
  | nil => intro M h1 _; exact ⟨fun p hp => hp, h1⟩
  | cons g L ih =>
    intro M h1 h2
    rw [List.foldl_cons]
    split
    · rename_i hP
      obtain ⟨i1, i2⟩ := ih (M := sortedL (M ++ g.cs)) (fun p hp => by
        rcases List.mem_append.1 (mem_sortedL.1 hp) with h | h
        · exact h1 p h
        · exact h2 g (by simp) hP p h) (fun g hg => h2 g (by simp [hg]))
      exact ⟨fun p hp => i1 p (mem_sortedL.2 (List.mem_append_left _ hp)), i2⟩
    · exact ih h1 (fun g hg => h2 g (by simp [hg]))
/-- whoever is a client of its own, it is told of -/
theorem whom_own {a : Ag} (hm : mayR a.cl = true) (hi : ∀ x ∈ a.cl, x.i = 1) (hg : ∀ g ∈ a.gt, g.sv ≠ a.sv → ∀ c ∈ g.cs, c.2 = 1) : ∀ x ∈ thereL a.cl, (x.n, x.i) ∈ whomL a := by
  intro x hx
  have hown : ownL a = livesL (thereL a.cl) := by unfold ownL; rw [takenR_of hm]; rfl
  have h0 : (x.n, x.i) ∈ ownL a := by rw [hown]; exact List.mem_map.2 ⟨x, hx, rfl⟩
  have h1 : ∀ p ∈ ownL a, p.2 = 1 := by
    rw [hown]
    intro p hp
    obtain ⟨y, hy, rfl⟩ := List.mem_map.1 hp
    exact hi y (there_gone hy).1
  obtain ⟨k1, k2⟩ := known_mem (L := a.gt) (P := fun p => p.sv ≠ a.sv ∧ p.sv ∈ a.ss) h1 (fun g hg' hp => hg g hg' hp.1)
  unfold whomL
  split
  · exact h0
  · exact lastOf_mem k2 _ (k1 _ h0)
/-- in the middle of a turn: nothing but start notices yet -/
structure Mid (S : List Pp) (c0 : Int → Int) (who : Int) (a0 a : Ag) (t : Tu) : Prop where
  inv : a.Inv
  sv : a.sv = a0.sv
  cl : ∀ x ∈ a.cl, 5 ≤ x.n ∧ x.n ≤ 10 ∧ (x.n - 5) % 4 = who ∧ x.i = 1 ∧ x.gone = false
  cc : a.sp = false → ∀ x ∈ a.cl, x.cid = cidsA c0 t.ts x.n
  kept : ∀ n, (n - 5) % 4 ≠ who → cidsA c0 t.ts n = c0 n
  cr : ∀ n, 0 ≤ cidsA c0 t.ts n ∧ cidsA c0 t.ts n ≤ um
  ts : startsOk c0 t.ts
  gt : ∀ g ∈ a.gt, g ∈ S ∨ (t.sd = true ∧ g = t.pp)
  pp : t.sd = true → t.pp.sv = a0.sv ∧ a0.rd < t.pp.rd ∧ t.pp.rd ≤ a.rd ∧ t.pp.mayB = true ∧ ppOk t.pp ∧ t.pp.br = t.pp ∧ ∀ c ∈ t.pp.cs, c.2 = 1
  rd : a0.rd ≤ a.rd
  vr : a.vw.r ≤ a.rd
  v0 : a.vw = a0.vw
  lt : a.dn = false → a.vw.r < a.rd ∨ a.rd = 0
  md : t.md = false
/-- its own proposal is of the clients that it has -/
def OwnA (a : Ag) : Prop := a.sp = false → ∀ g ∈ a.gt, g.sv = a.sv → g.cs = livesL (thereL a.cl) ∧ g.us = (thereL a.cl).map Cl.cid
theorem there_all {l : List Cl} (h : ∀ x ∈ l, x.gone = false) : thereL l = l := List.filter_eq_self.2 (fun x hx => by rw [h x hx]; rfl)
theorem upC_cid {x : Cl} (h : x.gone = false) : (upC x).cid = x.cid + 1 := by unfold upC; rw [h]; simp
theorem Mid.propose {S : List Pp} {c0 : Int → Int} {who : Int} {a0 a : Ag} {t : Tu} (h : Mid S c0 who a0 a t) (hS : ∀ g ∈ S, ∀ c ∈ g.cs, c.2 = 1) (ht : togetherB a.ss = true) (hsp : a.sp = false) {n : Int} (h0 : 0 ≤ n) (h1 : n ≤ um) (hn : n = 0 ∨ a.rd < n) :
    Mid S c0 who a0 (proposeP a t n).1 (proposeP a t n).2 ∧ OwnA (proposeP a t n).1 ∧ togetherB (proposeP a t n).1.ss = true := by
  have hi := propose_inv h.inv ht t h0 h1
  by_cases hb : n = 0 ∨ n = um ∨ (raiseR (takenR a.cl)).2 = false
  · rw [propose_no hb] at hi ⊢
    exact ⟨⟨hi, h.sv, h.cl, (fun e => by cases e), h.kept, h.cr, h.ts, h.gt, h.pp, h.rd, h.vr, h.v0, h.lt, h.md⟩, (fun e => by cases e), ht⟩
  · rw [propose_yes hb] at hi ⊢
    simp only [not_or, Bool.not_eq_false] at hb
    obtain ⟨hn0, hn1, hr⟩ := hb
    have hlt : a.rd < n := by rcases hn with e | e; · exact absurd e hn0
                              · exact e
    obtain ⟨c1, c2, c3, c4⟩ := h.inv.cl_up (n := n) hr
    have hcl : ∀ x ∈ (begunA a n).cl, 5 ≤ x.n ∧ x.n ≤ 10 ∧ (x.n - 5) % 4 = who ∧ x.i = 1 ∧ x.gone = false := by
      rw [c1]
      intro x hx
      obtain ⟨y, hy, rfl⟩ := List.mem_map.1 hx
      obtain ⟨u1, u2, u3, u4⟩ := upC_n' y
      rw [u1, u2, u4]
      exact h.cl y hy
    have hth : thereL (begunA a n).cl = (begunA a n).cl := there_all (fun x hx => (hcl x hx).2.2.2.2)
    have hg1 : ∀ g ∈ a.gt, ∀ c ∈ g.cs, c.2 = 1 := fun g hg => by
      rcases h.gt g hg with e | ⟨e1, rfl⟩
      · exact hS g e
      · exact (h.pp e1).2.2.2.2.2.2
    have hwh : ∀ x ∈ (begunA a n).cl, (x.n, x.i) ∈ (toldA (begunA a n)).td := by
      have := whom_own (a := begunA a n) c2 (fun x hx => (hcl x hx).2.2.2.1) (fun g hg _ => hg1 g hg)
      rw [hth] at this
      exact this
    have hcc : ∀ x ∈ (begunA a n).cl, cidsA c0 t.ts x.n < x.cid := by
      rw [c1]
      intro x hx
      obtain ⟨y, hy, rfl⟩ := List.mem_map.1 hx
      rw [upC_cid (h.cl y hy).2.2.2.2, (upC_n' y).1, h.cc hsp y hy]
      omega
    obtain ⟨b1, b2, b3⟩ := starts_batch (a := toldA (begunA a n)) (L := (begunA a n).cl) (c := cidsA c0 t.ts) (mayR_rising c2) (fun x hx => ⟨(hcl x hx).1, (hcl x hx).2.1, hcc x hx, hwh x hx⟩)
    have ets : (sentT (toldA (begunA a n)) t).ts = t.ts ++ (begunA a n).cl.map (fun c => startT (toldA (begunA a n)) (c.n, c.i) c.cid) := by
      show t.ts ++ (thereL (begunA a n).cl).map _ = _
      rw [hth]
    refine ⟨⟨hi, h.sv, hcl, ?_, ?_, ?_, ?_, ?_, ?_, ?_, ?_, h.v0, ?_, h.md⟩, ?_, ht⟩
    · intro _ x hx
      rw [ets, cidsA_app]
      exact (b2 x hx).symm
    · intro m hm
      rw [ets, cidsA_app, b3 m (fun x hx e => hm (by rw [← e]; exact (hcl x hx).2.2.1))]
      exact h.kept m hm
    · intro m
      rw [ets, cidsA_app]
      by_cases hx : ∃ x ∈ (begunA a n).cl, x.n = m
      · obtain ⟨x, hx, rfl⟩ := hx
        rw [b2 x hx]
        exact ⟨(c3 x hx).2.1, (c3 x hx).2.2.1⟩
      · rw [b3 m (fun x hx' e => hx ⟨x, hx', e⟩)]
        exact h.cr m
    · rw [ets]
      exact startsOk_app h.ts b1
    · intro g hg
      rcases gotL_mem.1 hg with rfl | ⟨hg, hne⟩
      · exact .inr ⟨rfl, rfl⟩
      · rcases h.gt g hg with e | ⟨e1, e2⟩
        · exact .inl e
        · exact absurd (congrArg Prod.fst ((congrArg Pp.sv e2).trans ((h.pp e1).1.trans h.sv.symm))) hne
    · intro _
      refine ⟨h.sv, Int.lt_of_le_of_lt h.rd hlt, Int.le_refl _, myP_may ht h.inv.se (by show 0 < n; omega) c2 c4, ⟨h1, ?_⟩, rfl, ?_⟩
      · intro c hc
        obtain ⟨x, hx, rfl⟩ := List.mem_map.1 hc
        exact (c3 x (there_gone hx).1).1
      · intro c hc
        obtain ⟨x, hx, rfl⟩ := List.mem_map.1 hc
        exact (hcl x (there_gone hx).1).2.2.2.1
    · exact Int.le_of_lt (Int.lt_of_le_of_lt h.rd hlt)
    · exact Int.le_of_lt (Int.lt_of_le_of_lt h.vr hlt)
    · intro _
      exact .inl (Int.lt_of_le_of_lt h.vr hlt)
    · intro _ g hg e
      rcases gotL_mem.1 hg with rfl | ⟨hg, hne⟩
      · exact ⟨rfl, rfl⟩
      · exact absurd (congrArg Prod.fst e) hne
/-- what a turn has done -/
structure TOk (S : List Pp) (c0 : Int → Int) (who : Int) (a0 a : Ag) (t : Tu) : Prop where
  inv : a.Inv
  sv : a.sv = a0.sv
  cl : ∀ x ∈ a.cl, 5 ≤ x.n ∧ x.n ≤ 10 ∧ (x.n - 5) % 4 = who ∧ x.i = 1 ∧ x.gone = false
  cc : a.sp = false → ∀ x ∈ a.cl, x.cid = cidsA c0 t.ts x.n
  kept : ∀ n, (n - 5) % 4 ≠ who → cidsA c0 t.ts n = c0 n
  cr : ∀ n, 0 ≤ cidsA c0 t.ts n ∧ cidsA c0 t.ts n ≤ um
  gt : ∀ g ∈ a.gt, g ∈ S ∨ (t.sd = true ∧ g = t.pp)
  pp : t.sd = true → t.pp.sv = a0.sv ∧ a0.rd < t.pp.rd ∧ t.pp.rd ≤ a.rd ∧ t.pp.mayB = true ∧ ppOk t.pp ∧ t.pp.br = t.pp ∧ ∀ c ∈ t.pp.cs, c.2 = 1
  rd : a0.rd ≤ a.rd
  vr : a.vw.r ≤ a.rd
  lt : a.dn = false → a.vw.r < a.rd ∨ a.rd = 0
  own : OwnA a
  ts : ∃ t1 t2, t.ts = t1 ++ t2 ∧ startsOk c0 t1 ∧ ∀ e ∈ t2, e.nt.k = 5 ∧ 5 ≤ e.n ∧ e.n ≤ 10 ∧ e.nt.vw = t.vw ∧ startV t.vw.ms t.vw.us (e.n, e.i) = .tuple #[.int .u64 (cidsA c0 t1 e.n), .bool true] ∧ (∀ c ∈ t.vw.ms, c ∈ a.td) ∧ t.vw.r = a.rd
  md : t.md = true → ∃ l x, (∀ g ∈ l, g ∈ a.gt) ∧ viewP l = some x ∧ t.vw = vwOf x ∧ a0.vw.r < t.vw.r ∧ a.vw = t.vw
  v0 : t.md = false → a.vw = a0.vw
theorem Mid.turn {S : List Pp} {c0 : Int → Int} {who : Int} {a0 a : Ag} {t : Tu} (h : Mid S c0 who a0 a t) (ho : OwnA a) : TOk S c0 who a0 a t :=
  ⟨h.inv, h.sv, h.cl, h.cc, h.kept, h.cr, h.gt, h.pp, h.rd, h.vr, h.lt, ho, ⟨t.ts, [], (List.append_nil _).symm, h.ts, fun e he => by cases he⟩, (fun e => by rw [h.md] at e; cases e), fun _ => h.v0⟩
theorem cidsA_comes (c : Int → Int) {l : List Te} (h : ∀ e ∈ l, e.nt.k = 5) : cidsA c l = c := by
  induction l generalizing c with
  | nil => rfl
  | cons e l ih =>
    show cidsA (if e.nt.k = 4 then _ else c) l = c
    rw [if_neg (by rw [h e (by simp)]; decide)]
    exact ih c (fun e he => h e (by simp [he]))
theorem Mid.agree1_turn {S : List Pp} {c0 : Int → Int} {who : Int} {a0 a : Ag} {t : Tu} (h : Mid S c0 who a0 a t) (ho : OwnA a) (hm : (agree1 a t).2 = false) : TOk S c0 who a0 (agree1 a t).1.1 (agree1 a t).1.2 := by
  have hg := agree1_gone a t
  generalize agree1 a t = r at hm hg
  cases hg with
  | still => exact h.turn ho
  | more => cases hm
  | none l h0 h1 h2 h3 h4 h5 =>
    exact ⟨h.inv.done, h.sv, h.cl, h.cc, h.kept, h.cr, h.gt, h.pp, h.rd, h.vr, (fun e => by cases e), ho, ⟨t.ts, [], (List.append_nil _).symm, h.ts, fun e he => by cases he⟩, (fun e => by rw [h.md] at e; cases e), fun _ => h.v0⟩
  | made l x h0 h1 h2 h3 h4 h5 =>
    obtain ⟨⟨rd, vn, vi⟩, ms, us⟩ := x
    obtain ⟨g1, g2, g3⟩ := propsG_of h2
    obtain ⟨q, hq, hf⟩ := g3 a.sv h.inv.se
    have hqm := find_mem hf
    obtain ⟨o1, o2⟩ := ho h1 q hqm.1 hqm.2
    have hrd : rd = a.rd := by
      have := view_may_rd h5 q hq
      rw [agree_mine h.inv h2 h3 q hq] at this
      exact this
    have h6 : ∀ p ∈ l, 0 < p.rd := fun p hp => (mayB_facts (h.inv.mb p (g2 p hp))).2.2.2.2.2.1
    have hr0 : 0 < a.rd := by rw [← agree_mine h.inv h2 h3 q hq]; exact h6 q hq
    have hvr : a.vw.r < a.rd := by
      rcases h.lt h0 with e | e
      · exact e
      · omega
    have hown : ownL a = livesL a.cl := by unfold ownL; rw [takenR_of h.inv.mc]; exact congrArg livesL (there_all (fun x hx => (h.cl x hx).2.2.2.2))
    have hth : thereL a.cl = a.cl := there_all (fun x hx => (h.cl x hx).2.2.2.2)
    rw [hth] at o1 o2
    have hcm : ∀ e ∈ (ownL a).map (fun p => comeT p (vwOf ((rd, vn, vi), ms, us))), e.nt.k = 5 := fun e he => by
      obtain ⟨p, _, rfl⟩ := List.mem_map.1 he
      rfl
    have hms := viewP_ms h5
    have hcA : ∀ (ts : List Te), cidsA c0 (ts ++ (ownL a).map (fun p => comeT p (vwOf ((rd, vn, vi), ms, us)))) = cidsA c0 ts := fun ts => by rw [cidsA_app, cidsA_comes _ hcm]
    refine ⟨h.inv.seen _, h.sv, h.cl, ?_, ?_, ?_, h.gt, h.pp, h.rd, Int.le_of_eq hrd, (fun e => by cases e), ho, ?_, ?_, fun e => by cases e⟩
    · intro e x hx
      rw [show (({ t with md := true, vw := vwOf ((rd, vn, vi), ms, us), ts := t.ts ++ (ownL a).map fun p => comeT p (vwOf ((rd, vn, vi), ms, us)) } : Tu).ts) = t.ts ++ (ownL a).map (fun p => comeT p (vwOf ((rd, vn, vi), ms, us))) from rfl, hcA]
      exact h.cc h1 x hx
    · intro n hn
      rw [show (({ t with md := true, vw := vwOf ((rd, vn, vi), ms, us), ts := t.ts ++ (ownL a).map fun p => comeT p (vwOf ((rd, vn, vi), ms, us)) } : Tu).ts) = t.ts ++ (ownL a).map (fun p => comeT p (vwOf ((rd, vn, vi), ms, us))) from rfl, hcA]
      exact h.kept n hn
    · intro n
      rw [show (({ t with md := true, vw := vwOf ((rd, vn, vi), ms, us), ts := t.ts ++ (ownL a).map fun p => comeT p (vwOf ((rd, vn, vi), ms, us)) } : Tu).ts) = t.ts ++ (ownL a).map (fun p => comeT p (vwOf ((rd, vn, vi), ms, us))) from rfl, hcA]
      exact h.cr n
    · refine ⟨t.ts, _, rfl, h.ts, fun e he => ?_⟩
      obtain ⟨p, hp, rfl⟩ := List.mem_map.1 he
      rw [hown] at hp
      obtain ⟨x, hx, rfl⟩ := List.mem_map.1 hp
      refine ⟨rfl, (h.cl x hx).1, (h.cl x hx).2.1, rfl, ?_, ?_, hrd⟩
      · have hpr : ((x.n, x.i), x.cid) ∈ prs l := by
          refine List.mem_flatMap.2 ⟨q, hq, ?_⟩
          rw [o1, o2]
          unfold livesL
          rw [List.zip_map']
          exact List.mem_map.2 ⟨x, hx, rfl⟩
        have := viewP_at h5 hpr
        rw [h.cc h1 x hx] at this
        exact this
      · intro c hc
        have hc' : c ∈ clsP l := hms.1.mem_iff.1 hc
        obtain ⟨p, hp, hcp⟩ := List.mem_flatMap.1 hc'
        by_cases ht : c ∈ a.td
        · exact ht
        · have : strange l a.td = true := List.any_eq_true.2 ⟨p, hp, List.any_eq_true.2 ⟨c, hcp, by simpa using ht⟩⟩
          rw [this] at h4; cases h4
    · intro _
      exact ⟨l, _, g2, h5, rfl, by show a0.vw.r < rd; rw [← h.v0, hrd]; exact hvr, rfl⟩
theorem Mid.agree1_more {S : List Pp} {c0 : Int → Int} {who : Int} {a0 a : Ag} {t : Tu} (h : Mid S c0 who a0 a t) (hS : ∀ g ∈ S, ∀ c ∈ g.cs, c.2 = 1) (ht : togetherB a.ss = true) (hm : (agree1 a t).2 = true) : Mid S c0 who a0 (agree1 a t).1.1 (agree1 a t).1.2 ∧ OwnA (agree1 a t).1.1 ∧ togetherB (agree1 a t).1.1.ss = true := by
  have hg := agree1_gone a t
  generalize agree1 a t = r at hm hg
  cases hg with
  | still => cases hm
  | none => cases hm
  | made => cases hm
  | more l h0 h1 h2 h3 h4 =>
    have hu := upU_range h.inv.r0 h.inv.r1
    exact h.propose hS ht h1 hu.1 hu.2 (by unfold upU; split <;> omega)
theorem Mid.agree {S : List Pp} {c0 : Int → Int} {who : Int} {a0 a : Ag} {t : Tu} (h : Mid S c0 who a0 a t) (ho : OwnA a) (hS : ∀ g ∈ S, ∀ c ∈ g.cs, c.2 = 1) (ht : togetherB a.ss = true) : TOk S c0 who a0 (agreeP a t).1 (agreeP a t).2 := by
  unfold agreeP
  split
  · rename_i hb
    obtain ⟨m1, m2, m3⟩ := h.agree1_more hS ht hb
    exact m1.agree1_turn m2 (agree1_twice h.inv t hb)
  · rename_i hb
    exact h.agree1_turn ho (by simpa using hb)
end Go.Proofs.YtkglclekieckoaaGreat

namespace Go.Proofs.YtkglclekieckoaaGreat
set_option linter.unusedSimpArgs false
set_option linter.unusedVariables false
set_option linter.unusedSectionVars false
open Go.RowKit

/-- one of the servers, with what was sent -/
structure SrvOk (S : List Pp) (c : Int → Int) (who : Int) (i : Int) (a : Ag) : Prop where
  inv : a.Inv
  sv : a.sv = (who + 1, i)
  cl : ∀ x ∈ a.cl, 5 ≤ x.n ∧ x.n ≤ 10 ∧ (x.n - 5) % 4 = who ∧ x.i = 1 ∧ x.gone = false
  cc : a.sp = false → ∀ x ∈ a.cl, x.cid = c x.n
  gt : ∀ g ∈ a.gt, g ∈ S
  vr : a.vw.r ≤ a.rd
  lt : a.dn = false → a.vw.r < a.rd ∨ a.rd = 0
  own : OwnA a
  ub : ∀ g ∈ S, g.sv = a.sv → g.rd ≤ a.rd
  lf : ∀ g ∈ S, g.n = who + 1 → g.i ≤ i
  cr : ∀ n, 0 ≤ c n ∧ c n ≤ um
/-- what was sent -/
structure SentOk (S : List Pp) : Prop where
  un : ∀ x ∈ S, ∀ y ∈ S, x.sv = y.sv → x.rd = y.rd → x = y
  ok : ∀ x ∈ S, x.mayB = true ∧ ppOk x ∧ x.br = x ∧ 1 ≤ x.n ∧ x.n ≤ 4 ∧ ∀ c ∈ x.cs, c.2 = 1
/-- the views that were made -/
def ViewsOk (S : List Pp) (V : List Vw) : Prop := ∀ v ∈ V, ∃ l x, (∀ g ∈ l, g ∈ S) ∧ viewP l = some x ∧ v.br = vwOf x
theorem SrvOk.new (S : List Pp) (c : Int → Int) (who i : Int) (hc : ∀ n, 0 ≤ c n ∧ c n ≤ um) (hl : ∀ g ∈ S, g.n = who + 1 → g.i < i) : SrvOk S c who i (newA (who + 1) i) :=
  ⟨new_inv _ _, rfl, (fun x hx => by cases hx), (fun _ x hx => by cases hx), (fun g hg => by cases hg), Int.le_refl _, (fun _ => .inr rfl), (fun _ g hg => by cases hg), (fun g hg e => by
    have h1 : g.n = who + 1 := congrArg Prod.fst e
    have h2 : g.i = i := congrArg Prod.snd e
    have := hl g hg h1
    omega), (fun g hg e => by have := hl g hg e; omega), hc⟩
/-- a turn of nothing -/
theorem SrvOk.still {S : List Pp} {c : Int → Int} {who i : Int} {a : Ag} (h : SrvOk S c who i a) : TOk S c who a a tu0 :=
  ⟨h.inv, rfl, h.cl, h.cc, (fun n _ => rfl), h.cr, (fun g hg => .inl (h.gt g hg)), (fun e => by cases e), Int.le_refl _, h.vr, h.lt, h.own, ⟨[], [], rfl, trivial, fun e he => by cases he⟩, (fun e => by cases e), fun _ => rfl⟩
theorem SrvOk.mid {S : List Pp} {c : Int → Int} {who i : Int} {a : Ag} (h : SrvOk S c who i a) : Mid S c who a a tu0 :=
  ⟨h.inv, rfl, h.cl, h.cc, (fun n _ => rfl), h.cr, trivial, (fun g hg => .inl (h.gt g hg)), (fun e => by cases e), Int.le_refl _, h.vr, rfl, h.lt, rfl⟩
/-- renewed -/
theorem SrvOk.renew {S : List Pp} {c : Int → Int} {who i : Int} {a : Ag} (h : SrvOk S c who i a) (hS : SentOk S) {ss : List Pr} {cl : List Cl}
    (hc : ∀ x ∈ cl, 5 ≤ x.n ∧ x.n ≤ 10 ∧ (x.n - 5) % 4 = who ∧ x.i = 1 ∧ x.gone = false) (hcc : ∀ x ∈ cl, x.cid = c x.n) (hok : clOk cl) : TOk S c who a (renewP a ss cl).1 (renewP a ss cl).2 := by
  unfold renewP
  split
  · exact h.still
  · rename_i hb
    simp only [Bool.or_eq_true, Bool.not_eq_true', decide_eq_false_iff_not, not_or, Bool.not_eq_true, Bool.not_eq_false, Classical.not_not] at hb
    obtain ⟨h1, h2, h3, h4⟩ := hb
    have hi := h.inv.with h2 h3 h4 hok
    have hm : Mid S c who a { a with ss := ss, cl := cl } tu0 := ⟨hi, rfl, hc, (fun _ => hcc), (fun n _ => rfl), h.cr, trivial, (fun g hg => .inl (h.gt g hg)), (fun e => by cases e), Int.le_refl _, h.vr, rfl, h.lt, rfl⟩
    obtain ⟨m1, m2⟩ := mostL_ge { a with ss := ss, cl := cl }
    obtain ⟨m3, m4⟩ := m2 h.inv.r0 hi
    have hu := upU_range m3 m4
    have m5 : a.rd ≤ mostL { a with ss := ss, cl := cl } := m1
    have hs : ∀ g ∈ S, ∀ c ∈ g.cs, c.2 = 1 := fun g hg => (hS.ok g hg).2.2.2.2.2
    obtain ⟨p1, p2, p3⟩ := hm.propose hs h2 h1 hu.1 hu.2 (by show _ ∨ a.rd < _; unfold upU; split <;> omega)
    exact p1.agree p2 hs p3
/-- a proposal that was sent comes -/
theorem SrvOk.take {S : List Pp} {c : Int → Int} {who i : Int} {a : Ag} (h : SrvOk S c who i a) (hS : SentOk S) {p : Pp} (hp : p ∈ S) : TOk S c who a (takeP a p).1 (takeP a p).2 := by
  obtain ⟨p1, p2, p3, _⟩ := hS.ok p hp
  have hs : ∀ g ∈ S, ∀ c ∈ g.cs, c.2 = 1 := fun g hg => (hS.ok g hg).2.2.2.2.2
  unfold takeP
  split
  · exact h.still
  · rename_i hb
    simp only [Bool.or_eq_true, Bool.not_eq_true', decide_eq_true_eq, not_or, Bool.not_eq_true, Bool.not_eq_false] at hb
    obtain ⟨h1, h2, h3⟩ := hb
    split
    · exact h.still
    · have hi := h.inv.put p2 h2 h3
      have ho : OwnA { a with gt := gotL a.gt p.br } := fun _ g hg e => by
        rcases gotL_mem.1 hg with rfl | ⟨hg, _⟩
        · exact absurd (congrArg Prod.fst e) h3
        · exact h.own h1 g hg e
      have hm : Mid S c who a { a with gt := gotL a.gt p.br } tu0 := ⟨hi, rfl, h.cl, h.cc, (fun n _ => rfl), h.cr, trivial, (fun g hg => by
        rcases gotL_mem.1 hg with rfl | ⟨hg, _⟩
        · exact .inl (by rw [p3]; exact hp)
        · exact .inl (h.gt g hg)), (fun e => by cases e), Int.le_refl _, h.vr, rfl, h.lt, rfl⟩
      simp only
      split
      · rename_i hin
        have ht : togetherB a.ss = true := h.inv.two hin h3
        split
        · rename_i hlt
          have := h.inv.r0
          obtain ⟨q1, q2, q3⟩ := hm.propose hs ht h1 (n := p.rd) (by omega) p2.rg (.inr (by show a.rd < p.rd; omega))
          exact q1.agree q2 hs q3
        · exact hm.agree ho hs ht
      · exact hm.turn ho
/-- what is sent behind a turn -/
def sentS (S : List Pp) (t : Tu) : List Pp := if t.sd = true then S ++ [t.pp] else S
def viewsS (V : List Vw) (t : Tu) : List Vw := if t.md = true then V ++ [t.vw] else V
theorem mem_sentS {S : List Pp} {t : Tu} {g : Pp} : g ∈ sentS S t ↔ g ∈ S ∨ (t.sd = true ∧ g = t.pp) := by
  unfold sentS
  split
  · rename_i h; simp [h]
  · rename_i h; simp [h]
theorem TOk.sent {S : List Pp} {c : Int → Int} {who i : Int} {a b : Ag} {t : Tu} (h : TOk S c who a b t) (ha : SrvOk S c who i a) (hS : SentOk S) (hw : 0 ≤ who ∧ who ≤ 3) : SentOk (sentS S t) := by
  have hnew : t.sd = true → ∀ y ∈ S, t.pp.sv = y.sv → t.pp.rd = y.rd → False := fun e y hy e1 e2 => by
    obtain ⟨q1, q2, _⟩ := h.pp e
    have := ha.ub y hy (by rw [← e1, q1])
    omega
  constructor
  · intro x hx y hy e1 e2
    rcases mem_sentS.1 hx with hx | ⟨s1, rfl⟩ <;> rcases mem_sentS.1 hy with hy | ⟨s2, rfl⟩
    · exact hS.un x hx y hy e1 e2
    · exact (hnew s2 x hx e1.symm e2.symm).elim
    · exact (hnew s1 y hy e1 e2).elim
    · rfl
  · intro x hx
    rcases mem_sentS.1 hx with hx | ⟨s1, rfl⟩
    · exact hS.ok x hx
    · obtain ⟨q1, q2, q3, q4, q5, q6, q7⟩ := h.pp s1
      have hn : t.pp.n = who + 1 := by
        have := congrArg Prod.fst (q1.trans ha.sv)
        exact this
      exact ⟨q4, q5, q6, by omega, by omega, q7⟩
/-- the server whose turn it was -/
theorem TOk.srv {S : List Pp} {c : Int → Int} {who i : Int} {a b : Ag} {t : Tu} (h : TOk S c who a b t) (ha : SrvOk S c who i a) : SrvOk (sentS S t) (cidsA c t.ts) who i b := by
  refine ⟨h.inv, h.sv.trans ha.sv, h.cl, h.cc, fun g hg => mem_sentS.2 (h.gt g hg), h.vr, h.lt, h.own, ?_, ?_, h.cr⟩
  · intro g hg e
    rcases mem_sentS.1 hg with hg | ⟨s1, rfl⟩
    · have := ha.ub g hg (e.trans h.sv)
      have := h.rd
      omega
    · exact (h.pp s1).2.2.1
  · intro g hg e
    rcases mem_sentS.1 hg with hg | ⟨s1, rfl⟩
    · exact ha.lf g hg e
    · have := congrArg Prod.snd ((h.pp s1).1.trans ha.sv)
      have : t.pp.i = i := this
      omega
/-- another server -/
theorem TOk.other {S : List Pp} {c : Int → Int} {who who' i i' : Int} {a b a' : Ag} {t : Tu} (h : TOk S c who a b t) (ha : SrvOk S c who i a) (ha' : SrvOk S c who' i' a') (hne : who' ≠ who) : SrvOk (sentS S t) (cidsA c t.ts) who' i' a' := by
  refine ⟨ha'.inv, ha'.sv, ha'.cl, ?_, fun g hg => mem_sentS.2 (.inl (ha'.gt g hg)), ha'.vr, ha'.lt, ha'.own, ?_, ?_, h.cr⟩
  · intro e x hx
    rw [h.kept x.n (by have := (ha'.cl x hx).2.2.1; omega)]
    exact ha'.cc e x hx
  · intro g hg e
    rcases mem_sentS.1 hg with hg | ⟨s1, rfl⟩
    · exact ha'.ub g hg e
    · have h1 : t.pp.n = who + 1 := congrArg Prod.fst ((h.pp s1).1.trans ha.sv)
      have h2 : t.pp.n = who' + 1 := congrArg Prod.fst (e.trans ha'.sv)
      omega
  · intro g hg e
    rcases mem_sentS.1 hg with hg | ⟨s1, rfl⟩
    · exact ha'.lf g hg e
    · have h1 : t.pp.n = who + 1 := congrArg Prod.fst ((h.pp s1).1.trans ha.sv)
      omega
/-- views of one name are one -/
theorem TOk.one {S : List Pp} {V : List Vw} {c : Int → Int} {who i : Int} {a b : Ag} {t : Tu} (h : TOk S c who a b t) (ha : SrvOk S c who i a) (hS : SentOk S) (hw : 0 ≤ who ∧ who ≤ 3) (hV : ViewsOk S V) (hm : t.md = true) :
    ∀ v ∈ V, v.r = t.vw.r → v.n = t.vw.n → v.i = t.vw.i → v.ms = t.vw.ms ∧ v.us = t.vw.us := by
  have hS' := h.sent ha hS hw
  obtain ⟨l, x, g1, g2, g3, _⟩ := h.md hm
  intro v hv e1 e2 e3
  obtain ⟨l', x', k1, k2, k3⟩ := hV v hv
  obtain ⟨⟨rd, vn, vi⟩, ms, us⟩ := x
  obtain ⟨⟨rd', vn', vi'⟩, ms', us'⟩ := x'
  have r1 : v.r = rd' := congrArg Vw.r k3
  have r2 : v.n = vn' := congrArg Vw.n k3
  have r3 : v.i = vi' := congrArg Vw.i k3
  have r4 : v.ms = ms' := congrArg Vw.ms k3
  have r5 : v.us = us' := congrArg Vw.us k3
  have q1 : t.vw.r = rd := congrArg Vw.r g3
  have q2 : t.vw.n = vn := congrArg Vw.n g3
  have q3 : t.vw.i = vi := congrArg Vw.i g3
  have q4 : t.vw.ms = ms := congrArg Vw.ms g3
  have q5 : t.vw.us = us := congrArg Vw.us g3
  have a1 : rd' = rd := by omega
  have a2 : vn' = vn := by omega
  have a3 : vi' = vi := by omega
  subst a1 a2 a3
  have := one_view1 (all := sentS S t) hS'.un (fun y hy => mem_sentS.2 (h.gt y (g1 y hy))) (fun y hy => mem_sentS.2 (.inl (k1 y hy))) g2 k2
  rw [r4, r5, q4, q5]
  exact this
theorem TOk.views {S : List Pp} {V : List Vw} {c : Int → Int} {who : Int} {a b : Ag} {t : Tu} (h : TOk S c who a b t) (hV : ViewsOk S V) (hbr : t.vw.br = t.vw) : ViewsOk (sentS S t) (viewsS V t) := by
  intro v hv
  unfold viewsS at hv
  have hold : ∀ v ∈ V, ∃ l x, (∀ g ∈ l, g ∈ sentS S t) ∧ viewP l = some x ∧ v.br = vwOf x := fun v hv => by
    obtain ⟨l, x, k1, k2, k3⟩ := hV v hv
    exact ⟨l, x, fun g hg => mem_sentS.2 (.inl (k1 g hg)), k2, k3⟩
  split at hv
  · rename_i hm
    rcases List.mem_append.1 hv with hv | hv
    · exact hold v hv
    · rw [List.mem_singleton.1 hv]
      obtain ⟨l, x, g1, g2, g3, _⟩ := h.md hm
      exact ⟨l, x, fun g hg => mem_sentS.2 (h.gt g (g1 g hg)), g2, hbr.trans g3⟩
  · exact hold v hv
theorem TOk.vmay {S : List Pp} {c : Int → Int} {who : Int} {a b : Ag} {t : Tu} (h : TOk S c who a b t) (hm : t.md = true) : t.vw.mayB = true := by
  obtain ⟨l, ⟨⟨rd, vn, vi⟩, ms, us⟩, g1, g2, g3, _⟩ := h.md hm
  rw [g3]
  exact viewP_may g2 none none 0 0
end Go.Proofs.YtkglclekieckoaaGreat

namespace Go.Proofs.YtkglclekieckoaaGreat
set_option linter.unusedSimpArgs false
set_option linter.unusedVariables false
set_option linter.unusedSectionVars false
open Go.RowKit

/-- the last numbers, as the memory has them -/
def cidsN : (Nat → Int) → List Te → (Nat → Int)
  | c, [] => c
  | c, e :: ts => cidsN (if e.nt.k = 4 then updN c e.n.toNat e.nt.cd else c) ts
theorem cidsN_app (c : Nat → Int) (l m : List Te) : cidsN c (l ++ m) = cidsN (cidsN c l) m := by
  induction l generalizing c with
  | nil => rfl
  | cons e l ih => exact ih _
def ofN (c : Nat → Int) : Int → Int := fun z => c z.toNat
theorem ofN_upd {c : Nat → Int} {n v : Int} (h : 0 ≤ n) : ∀ z, 0 ≤ z → ofN (updN c n.toNat v) z = updC (ofN c) n v z := fun z hz => by
  unfold ofN updN updC
  by_cases e : z = n
  · rw [if_pos (by rw [e]), if_pos e]
  · rw [if_neg (by omega), if_neg e]
theorem cidsA_congr : ∀ (l : List Te) {c d : Int → Int} (_ : ∀ z, 0 ≤ z → c z = d z), ∀ z, 0 ≤ z → cidsA c l z = cidsA d l z
  | [], _, _, h => h
  | e :: l, c, d, h => by
    show ∀ z, 0 ≤ z → cidsA (if e.nt.k = 4 then updC c e.n e.nt.cd else c) l z = cidsA (if e.nt.k = 4 then updC d e.n e.nt.cd else d) l z
    refine cidsA_congr l ?_
    split
    · intro z hz
      unfold updC
      split
      · rfl
      · exact h z hz
    · exact h
theorem cidsN_eq : ∀ (l : List Te) (c : Nat → Int) (_ : ∀ e ∈ l, 0 ≤ e.n), ∀ z, 0 ≤ z → cidsN c l z.toNat = cidsA (ofN c) l z
  | [], _, _ => fun z _ => rfl
  | e :: l, c, h => by
    intro z hz
    show cidsN (if e.nt.k = 4 then updN c e.n.toNat e.nt.cd else c) l z.toNat = cidsA (if e.nt.k = 4 then updC (ofN c) e.n e.nt.cd else ofN c) l z
    rw [cidsN_eq l _ (fun e' he => h e' (by simp [he])) z hz]
    refine cidsA_congr l ?_ z hz
    split
    · exact ofN_upd (h e (by simp))
    · exact fun _ _ => rfl
/-- a start notice, or one of a view -/
inductive TellOk (c : Int → Int) (a : Ag) (v : Vw) (e : Te) : Prop
  | start (h1 : e.nt.k = 4) (h2 : c e.n < e.nt.cd) (h3 : (e.n, e.i) ∈ e.nt.st)
  | come (h1 : e.nt.k = 5) (h2 : e.nt.vw = v) (h3 : startV v.ms v.us (e.n, e.i) = .tuple #[.int .u64 (c e.n), .bool true]) (h4 : ∀ x ∈ v.ms, x ∈ a.td) (h5 : v.r = a.rd)
theorem starts_at : ∀ {l : List Te} {c : Int → Int} {j : Nat} {e : Te}, startsOk c l → l[j]? = some e → 5 ≤ e.n ∧ e.n ≤ 10 ∧ e.nt.k = 4 ∧ cidsA c (l.take j) e.n < e.nt.cd ∧ (e.n, e.i) ∈ e.nt.st
  | [], _, _, _, _, h => by simp at h
  | x :: l, c, 0, e, h, he => by
    have e1 : x = e := by simpa using he
    subst e1
    exact h.1
  | x :: l, c, j + 1, e, h, he => by
    have := starts_at h.2 (show l[j]? = some e by simpa using he)
    rw [List.take_succ_cons]
    have e2 : cidsA c (x :: l.take j) = cidsA (updC c x.n x.nt.cd) (l.take j) := by
      show cidsA (if x.nt.k = 4 then _ else _) _ = _
      rw [if_pos h.1.2.2.1]
    rw [e2]
    exact this
theorem TOk.tell {S : List Pp} {c0 : Int → Int} {who : Int} {a0 a : Ag} {t : Tu} (h : TOk S c0 who a0 a t) {j : Nat} {e : Te} (he : t.ts[j]? = some e) : 5 ≤ e.n ∧ e.n ≤ 10 ∧ TellOk (cidsA c0 (t.ts.take j)) a t.vw e := by
  obtain ⟨t1, t2, e1, h1, h2⟩ := h.ts
  rw [e1] at he ⊢
  by_cases hj : j < t1.length
  · rw [List.getElem?_append_left hj] at he
    obtain ⟨q1, q2, q3, q4, q5⟩ := starts_at h1 he
    refine ⟨q1, q2, .start q3 ?_ q5⟩
    rw [List.take_append_of_le_length (Nat.le_of_lt hj)]
    exact q4
  · rw [List.getElem?_append_right (by omega)] at he
    obtain ⟨q1, q2, q3, q4, q5, q6, q7⟩ := h2 e (List.mem_of_getElem? he)
    refine ⟨q2, q3, .come q1 q4 ?_ q6 q7⟩
    rw [show (t1 ++ t2).take j = t1 ++ t2.take (j - t1.length) by rw [List.take_append, List.take_of_length_le (by omega)], cidsA_app, cidsA_comes _ (fun e he => (h2 e (List.mem_of_mem_take he)).1)]
    exact q5
theorem TOk.nodes {S : List Pp} {c0 : Int → Int} {who : Int} {a0 a : Ag} {t : Tu} (h : TOk S c0 who a0 a t) : ∀ e ∈ t.ts, 5 ≤ e.n ∧ e.n ≤ 10 := fun e he => by
  obtain ⟨j, hj, rfl⟩ := List.mem_iff_getElem.1 he
  have := h.tell (List.getElem?_eq_getElem hj)
  exact ⟨this.1, this.2.1⟩
theorem cidsN_br : ∀ (l : List Te) (c : Nat → Int), cidsN c (l.map Te.br) = cidsN c l
  | [], _ => rfl
  | _ :: l, _ => cidsN_br l _
/-- a tell, as the memory has it -/
theorem TOk.at {S : List Pp} {cc : Nat → Int} {who : Int} {a0 a : Ag} {ts : List Te} {A : Option Addr} {k : Nat} {sd md : Bool} {pp : Pp} {vw : Vw} (h : TOk S (ofN cc) who a0 a.br (Tu.br ⟨A, k, ts, sd, pp, md, vw⟩)) {j : Nat} {e : Te} (he : ts[j]? = some e) :
    5 ≤ e.n ∧ e.n ≤ 10 ∧ ((e.nt.k = 4 ∧ cidsN cc (ts.take j) e.n.toNat < e.nt.cd ∧ (e.n, e.i) ∈ e.nt.st) ∨ (e.nt.k = 5 ∧ startV e.nt.vw.ms e.nt.vw.us (e.n, e.i) = .tuple #[.int .u64 (cidsN cc (ts.take j) e.n.toNat), .bool true] ∧ (∀ x ∈ e.nt.vw.ms, x ∈ a.td) ∧ e.nt.vw.r = a.rd)) := by
  have he' : (ts.map Te.br)[j]? = some e.br := by rw [List.getElem?_map, he]; rfl
  obtain ⟨h1, h2, h3⟩ := h.tell (j := j) (e := e.br) he'
  have hn : ∀ x ∈ (ts.map Te.br).take j, 0 ≤ x.n := fun x hx => by have := (h.nodes x (List.mem_of_mem_take hx)).1; omega
  have e1 : 0 ≤ e.n := by have : 5 ≤ e.n := h1; omega
  have e2 : cidsN cc (ts.take j) e.n.toNat = cidsA (ofN cc) ((ts.map Te.br).take j) e.n := by rw [← cidsN_eq _ cc hn e.n e1, ← List.map_take, cidsN_br]
  refine ⟨h1, h2, ?_⟩
  rw [e2]
  cases h3 with
  | start q1 q2 q3 => exact .inl ⟨q1, q2, q3⟩
  | come q1 q2 q3 q4 q5 =>
    have q2 : e.nt.vw.br = vw.br := q2
    have r1 : e.nt.vw.ms = vw.ms := (congrArg Vw.ms q2 : e.nt.vw.br.ms = vw.br.ms)
    have r2 : e.nt.vw.us = vw.us := (congrArg Vw.us q2 : e.nt.vw.br.us = vw.br.us)
    have r3 : e.nt.vw.r = vw.r := (congrArg Vw.r q2 : e.nt.vw.br.r = vw.br.r)
    rw [r1, r2, r3]
    exact .inr ⟨q1, q3, q4, q5⟩
end Go.Proofs.YtkglclekieckoaaGreat

namespace Go.Proofs.YtkglclekieckoaaGreat
set_option linter.unusedSimpArgs false
set_option linter.unusedVariables false
set_option linter.unusedSectionVars false
open Go.RowKit

theorem SrvOk.congr {S : List Pp} {c d : Int → Int} {who i : Int} {a : Ag} (h : SrvOk S c who i a) (he : ∀ z, 0 ≤ z → c z = d z) (hd : ∀ z, 0 ≤ d z ∧ d z ≤ um) : SrvOk S d who i a :=
  ⟨h.inv, h.sv, h.cl, fun e x hx => by rw [← he x.n (by have := (h.cl x hx).1; omega)]; exact h.cc e x hx, h.gt, h.vr, h.lt, h.own, h.ub, h.lf, hd⟩
/-- what holds of the four -/
structure OneS (aa : Nat → Ag) (inc cc : Nat → Int) (S : List Pp) (V : List Vw) : Prop where
  srv : ∀ k : Nat, k < 4 → SrvOk (S.map Pp.br) (ofN cc) (k : Int) (inc k) (aa k).br
  st : SentOk (S.map Pp.br)
  vs : ViewsOk (S.map Pp.br) V
  i1 : ∀ k : Nat, k < 4 → 1 ≤ inc k
theorem sent_map (S : List Pp) (t : Tu) : (if t.sd = true then S ++ [t.pp] else S).map Pp.br = sentS (S.map Pp.br) t.br := by
  have e : t.br.sd = t.sd := rfl
  unfold sentS
  rw [e]
  split
  · rw [List.map_append]; rfl
  · rfl
theorem OneS.turned {aa : Nat → Ag} {inc cc : Nat → Int} {S : List Pp} {V : List Vw} (h : OneS aa inc cc S V) {who : Nat} (hw : who < 4) {a : Ag} {t : Tu} (hT : TOk (S.map Pp.br) (ofN cc) who (aa who).br a.br t.br) :
    OneS (updN aa who a) inc (cidsN cc t.ts) (if t.sd = true then S ++ [t.pp] else S) (if t.md = true then V ++ [t.vw] else V) := by
  have hww : 0 ≤ (who : Int) ∧ (who : Int) ≤ 3 := by omega
  have hns : ∀ x ∈ t.ts.map Te.br, 0 ≤ x.n := fun x hx => by have : 5 ≤ x.n := (hT.nodes x hx).1; omega
  have hc : ∀ z, 0 ≤ z → cidsA (ofN cc) t.br.ts z = ofN (cidsN cc t.ts) z := fun z hz => by
    show cidsA (ofN cc) (t.ts.map Te.br) z = cidsN cc t.ts z.toNat
    rw [← cidsN_eq _ cc hns z hz, cidsN_br]
  have hcr : ∀ z, 0 ≤ ofN (cidsN cc t.ts) z ∧ ofN (cidsN cc t.ts) z ≤ um := fun z => by
    have e : ofN (cidsN cc t.ts) z = ofN (cidsN cc t.ts) (z.toNat : Int) := by unfold ofN; rw [Int.toNat_natCast]
    rw [e, ← hc _ (by omega)]
    exact hT.cr _
  refine ⟨fun k hk => ?_, ?_, ?_, h.i1⟩
  · rw [sent_map]
    by_cases e : k = who
    · subst e
      rw [updN_at]
      exact (hT.srv (h.srv k hk)).congr hc hcr
    · rw [updN_ne _ _ e]
      exact (hT.other (h.srv who hw) (h.srv k hk) (by omega)).congr hc hcr
  · rw [sent_map]
    exact hT.sent (h.srv who hw) h.st hww
  · rw [sent_map]
    have hv := hT.views h.vs rfl
    intro v hm
    have e : t.br.md = t.md := rfl
    unfold viewsS at hv
    rw [e] at hv
    split at hm
    · rename_i hmd
      rw [if_pos hmd] at hv
      rcases List.mem_append.1 hm with h1 | h1
      · exact hv v (List.mem_append_left _ h1)
      · rw [List.mem_singleton.1 h1]
        exact hv t.br.vw (List.mem_append_right _ (List.mem_singleton.2 rfl))
    · rename_i hmd
      rw [if_neg hmd] at hv
      exact hv v hm
theorem OneS.one {aa : Nat → Ag} {inc cc : Nat → Int} {S : List Pp} {V : List Vw} (h : OneS aa inc cc S V) {who : Nat} (hw : who < 4) {a : Ag} {t : Tu} (hT : TOk (S.map Pp.br) (ofN cc) who (aa who).br a.br t.br) :
    t.md = true → ∀ v ∈ V, v.r = t.vw.r → v.n = t.vw.n → v.i = t.vw.i → v.ms = t.vw.ms ∧ v.us = t.vw.us :=
  fun hm => hT.one (h.srv who hw) h.st (by omega) h.vs hm
/-- a new life begins -/
theorem OneS.life {aa : Nat → Ag} {inc cc : Nat → Int} {S : List Pp} {V : List Vw} (h : OneS aa inc cc S V) {who : Nat} (hw : who < 4) {a : Ag} (ha : a.br = newA (who + 1) (inc who + 1)) : OneS (updN aa who a) (updN inc who (inc who + 1)) cc S V := by
  refine ⟨fun k hk => ?_, h.st, h.vs, fun k hk => ?_⟩
  · by_cases e : k = who
    · subst e
      rw [updN_at, updN_at, ha]
      exact SrvOk.new _ _ _ _ (h.srv k hk).cr (fun g hg e => by have := (h.srv k hk).lf g hg e; omega)
    · rw [updN_ne _ _ e, updN_ne _ _ e]
      exact h.srv k hk
  · by_cases e : k = who
    · subst e; rw [updN_at]; have := h.i1 k hk; omega
    · rw [updN_ne _ _ e]; exact h.i1 k hk
/-- the beginning -/
theorem OneS.begun {aa : Nat → Ag} {inc : Nat → Int} (h : ∀ k : Nat, k < 4 → (aa k).br = newA (k + 1) 1 ∧ inc k = 1) : OneS aa inc (fun _ => 0) [] [] :=
  ⟨fun k hk => by
    rw [(h k hk).1, (h k hk).2]
    exact SrvOk.new _ _ _ _ (fun z => ⟨Int.le_refl _, by show (0 : Int) ≤ um; unfold um; omega⟩) (fun g hg => by cases hg), ⟨(fun x hx => by cases hx), fun x hx => by cases hx⟩, (fun v hv => by cases hv), fun k hk => by rw [(h k hk).2]; exact Int.le_refl _⟩
end Go.Proofs.YtkglclekieckoaaGreat
