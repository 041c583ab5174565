/-
  RoundSettles in plain words, first part: rounds and numbers stay small, so nobody stops.
-/
import Derived.Test.YtkglclekieckoaaGreatOne4
namespace Go.Proofs.YtkglclekieckoaaGreat
set_option linter.unusedSimpArgs false
set_option linter.unusedVariables false
set_option linter.unusedSectionVars false
open Go.RowKit

/-- where nothing is too great, a round is begun -/
theorem propose_ok {a : Ag} (hi : a.Inv) (t : Tu) {n : Int} (h0 : 0 < n) (h1 : n < um) (hc : ∀ x ∈ a.cl, x.cid < um) : proposeP a t n = (putA (toldA (begunA a n)), sentT (toldA (begunA a n)) t) ∧ (begunA a n).cl = a.cl.map upC ∧ (raiseR (takenR a.cl)).2 = true := by
  have hr : raiseR (takenR a.cl) = (a.cl.map upC, true) := by
    rw [takenR_of hi.mc]
    unfold raiseR
    rw [if_neg]
    intro h
    obtain ⟨x, hx, he⟩ := List.any_eq_true.1 h
    have := hc x hx
    unfold raiB at he
    simp only [Bool.and_eq_true, beq_iff_eq] at he
    unfold um at this
    omega
  refine ⟨propose_yes ?_, by show (raiseR (takenR a.cl)).1 = _; rw [hr], by rw [hr]⟩
  rw [hr]
  simp only [not_or]
  exact ⟨by omega, by omega, by simp⟩
theorem cids_le {a : Ag} {K : Int} : ∀ (L : List Cl) (c : Int → Int), (∀ m, c m ≤ K) → (∀ x ∈ L, x.cid ≤ K) → ∀ m, cidsA c (L.map fun x => startT a (x.n, x.i) x.cid) m ≤ K
  | [], _, h, _ => h
  | x :: L, c, h, hx => by
    show ∀ m, cidsA (updC c x.n x.cid) (L.map fun x => startT a (x.n, x.i) x.cid) m ≤ K
    refine cids_le L _ (fun m => ?_) (fun y hy => hx y (List.mem_cons_of_mem _ hy))
    unfold updC
    split
    · exact hx x List.mem_cons_self
    · exact h m
/-- in the middle of a turn: how great rounds and numbers are -/
structure MB (R K : Int) (c0 : Int → Int) (a : Ag) (t : Tu) : Prop where
  sp : a.sp = false
  rd : a.rd ≤ R
  ck : ∀ n, cidsA c0 t.ts n ≤ K
  pc : t.sd = true → ∀ q ∈ t.pp.cs, 5 ≤ q.1 ∧ q.1 ≤ 10
theorem MB.mono {R R' K K' : Int} {c0 : Int → Int} {a : Ag} {t : Tu} (h : MB R K c0 a t) (hr : R ≤ R') (hk : K ≤ K') : MB R' K' c0 a t := ⟨h.sp, Int.le_trans h.rd hr, fun n => Int.le_trans (h.ck n) hk, h.pc⟩
theorem upC_le {x : Cl} {K : Int} (h : x.cid ≤ K) : (upC x).cid ≤ K + 1 := by
  unfold upC
  split
  · omega
  · show x.cid + 1 ≤ K + 1; omega
theorem MB.propose {S : List Pp} {c0 : Int → Int} {who R K : Int} {a0 a : Ag} {t : Tu} (hM : Mid S c0 who a0 a t) (h : MB R K c0 a t) {n : Int} (h0 : 0 < n) (h1 : n < um) (hK : K < um) : MB n (K + 1) c0 (proposeP a t n).1 (proposeP a t n).2 := by
  have hcc : ∀ x ∈ a.cl, x.cid ≤ K := fun x hx => by rw [hM.cc h.sp x hx]; exact h.ck x.n
  obtain ⟨e1, e2, _⟩ := propose_ok hM.inv t h0 h1 (fun x hx => Int.lt_of_le_of_lt (hcc x hx) hK)
  rw [e1]
  refine ⟨h.sp, Int.le_refl _, fun m => ?_, fun _ q hq => ?_⟩
  case refine_2 =>
    obtain ⟨x, hx, rfl⟩ := List.mem_map.1 hq
    have hx := (there_gone hx).1
    have hx : x ∈ (begunA a n).cl := hx
    rw [e2] at hx
    obtain ⟨y, hy, rfl⟩ := List.mem_map.1 hx
    have := hM.cl y hy
    rw [(upC_n' y).1]
    exact ⟨this.1, this.2.1⟩
  show cidsA c0 (t.ts ++ (thereL (begunA a n).cl).map (fun c => startT (toldA (begunA a n)) (c.n, c.i) c.cid)) m ≤ K + 1
  rw [cidsA_app]
  refine cids_le _ _ (fun m => by have := h.ck m; omega) (fun x hx => ?_) m
  have hx := (there_gone hx).1
  rw [e2] at hx
  obtain ⟨y, hy, rfl⟩ := List.mem_map.1 hx
  exact upC_le (hcc y hy)
theorem MB.go1 {S : List Pp} {c0 : Int → Int} {who R K : Int} {a0 a : Ag} {t : Tu} (hM : Mid S c0 who a0 a t) (h : MB R K c0 a t) (hR : R + 1 < um) (hK : K < um) : MB (R + 1) (K + 1) c0 (agree1 a t).1.1 (agree1 a t).1.2 := by
  have hg := agree1_gone a t
  generalize agree1 a t = r at hg
  cases hg with
  | still => exact h.mono (by omega) (by omega)
  | none => exact ⟨h.sp, Int.le_trans h.rd (by omega), fun n => Int.le_trans (h.ck n) (by omega), h.pc⟩
  | made l x h0 h1 h2 h3 h4 h5 =>
    refine ⟨h.sp, Int.le_trans h.rd (by omega), fun n => ?_, h.pc⟩
    show cidsA c0 (t.ts ++ (ownL a).map fun p => comeT p (vwOf x)) n ≤ K + 1
    rw [cidsA_app, cidsA_comes _ (fun e he => by obtain ⟨p, _, rfl⟩ := List.mem_map.1 he; rfl)]
    have := h.ck n
    omega
  | more l h0 h1 h2 h3 h4 =>
    have hr := hM.inv.r0
    have hrd := h.rd
    have e : upU a.rd = a.rd + 1 := by unfold upU; rw [if_neg (by unfold um at hR; omega)]
    rw [e]
    exact (MB.propose hM h (by omega) (by omega) hK).mono (by omega) (Int.le_refl _)
theorem MB.goP {S : List Pp} {c0 : Int → Int} {who R K : Int} {a0 a : Ag} {t : Tu} (hM : Mid S c0 who a0 a t) (hS : ∀ g ∈ S, ∀ c ∈ g.cs, c.2 = 1) (ht : togetherB a.ss = true) (h : MB R K c0 a t) (hR : R + 1 < um) (hK : K < um) : MB (R + 1) (K + 1) c0 (agreeP a t).1 (agreeP a t).2 := by
  unfold agreeP
  split
  · rename_i hb
    have h1 := MB.go1 hM h hR hK
    have hst := agree1_twice hM.inv t hb
    -- the second go makes no round
    have hg := agree1_gone (agree1 a t).1.1 (agree1 a t).1.2
    generalize agree1 (agree1 a t).1.1 (agree1 a t).1.2 = r at hg hst
    cases hg with
    | still => exact h1
    | none => exact ⟨h1.sp, h1.rd, h1.ck, h1.pc⟩
    | more => cases hst
    | made l x q0 q1 q2 q3 q4 q5 =>
      refine ⟨h1.sp, h1.rd, fun n => ?_, h1.pc⟩
      show cidsA c0 ((agree1 a t).1.2.ts ++ (ownL (agree1 a t).1.1).map fun p => comeT p (vwOf x)) n ≤ K + 1
      rw [cidsA_app, cidsA_comes _ (fun e he => by obtain ⟨p, _, rfl⟩ := List.mem_map.1 he; rfl)]
      exact h1.ck n
  · exact MB.go1 hM h hR hK
theorem mostL_le {a : Ag} {B : Int} (hm : mayR a.cl = true) (h1 : a.rd ≤ B) (h2 : ∀ g ∈ a.gt, g.rd ≤ B) (h3 : ∀ x ∈ a.cl, x.rnd = 0) (h0 : 0 ≤ B) : mostL a ≤ B := by
  have hr : maxR (thereL (takenR a.cl)) ≤ B := by
    rw [takenR_of hm]
    have key : ∀ (l : List Cl) (m : Int), (∀ x ∈ l, x.rnd = 0) → m ≤ B → l.foldl (fun a x => max a x.rnd) m ≤ B := by
      intro l
      induction l with
      | nil => intro m _ h; exact h
      | cons x l ih => intro m hx hm; exact ih _ (fun y hy => hx y (List.mem_cons_of_mem _ hy)) (by show max m x.rnd ≤ B; rw [hx x List.mem_cons_self]; omega)
    exact key _ 0 (fun x hx => h3 x (there_gone hx).1) h0
  have key : ∀ (L : List Pp) (m : Int), (∀ g ∈ L, g.rd ≤ B) → m ≤ B → L.foldl (fun n p => if p.sv ∈ a.ss then max n p.rd else n) m ≤ B := by
    intro L
    induction L with
    | nil => intro m _ h; exact h
    | cons x L ih =>
      intro m hx hm
      refine ih _ (fun y hy => hx y (List.mem_cons_of_mem _ hy)) ?_
      have := hx x List.mem_cons_self
      show (if x.sv ∈ a.ss then max m x.rd else m) ≤ B
      split <;> omega
  exact key a.gt _ h2 (by omega)
/-- all that the four have is small -/
structure BndS (B : Int) (aa : Nat → Ag) (cc : Nat → Int) (S : List Pp) : Prop where
  sp : ∀ k, k < 4 → (aa k).sp = false
  rd : ∀ k, k < 4 → (aa k).rd ≤ B
  ck : ∀ n, cc n ≤ B
  sn : ∀ g ∈ S, g.rd ≤ B
  b0 : 0 ≤ B
  cn : ∀ g ∈ S, ∀ q ∈ g.cs, 5 ≤ q.1 ∧ q.1 ≤ 10
theorem BndS.mono {B B' : Int} {aa : Nat → Ag} {cc : Nat → Int} {S : List Pp} (h : BndS B aa cc S) (hb : B ≤ B') : BndS B' aa cc S := ⟨h.sp, fun k hk => Int.le_trans (h.rd k hk) hb, fun n => Int.le_trans (h.ck n) hb, fun g hg => Int.le_trans (h.sn g hg) hb, Int.le_trans h.b0 hb, h.cn⟩
theorem BndS.mb {B : Int} {aa : Nat → Ag} {cc : Nat → Int} {S : List Pp} (h : BndS B aa cc S) {k : Nat} (hk : k < 4) : MB B B (ofN cc) (aa k).br tu0 := ⟨h.sp k hk, h.rd k hk, fun n => h.ck _, fun e => by cases e⟩
/-- renewed -/
theorem SrvOk.renew_mb {S : List Pp} {c : Int → Int} {who i B : Int} {a : Ag} (h : SrvOk S c who i a) (hS : SentOk S) (hsn : ∀ g ∈ S, g.rd ≤ B) (hm0 : MB B B c a tu0) (hB0 : 0 ≤ B) (hB : B + 2 < um) {ss : List Pr} {cl : List Cl}
    (hc : ∀ x ∈ cl, 5 ≤ x.n ∧ x.n ≤ 10 ∧ (x.n - 5) % 4 = who ∧ x.i = 1 ∧ x.gone = false) (hcc : ∀ x ∈ cl, x.cid = c x.n) (hr0 : ∀ x ∈ cl, x.rnd = 0) (hok : clOk cl) : MB (B + 2) (B + 2) c (renewP a ss cl).1 (renewP a ss cl).2 := by
  unfold renewP
  split
  · exact hm0.mono (by omega) (by omega)
  · rename_i hb
    simp only [Bool.or_eq_true, Bool.not_eq_true', decide_eq_false_iff_not, not_or, Bool.not_eq_true, Bool.not_eq_false, Classical.not_not] at hb
    obtain ⟨h1, h2, h3, h4⟩ := hb
    have hi := h.inv.with h2 h3 h4 hok
    have hm : Mid S c who a { a with ss := ss, cl := cl } tu0 := ⟨hi, rfl, hc, (fun _ => hcc), (fun n _ => rfl), h.cr, trivial, (fun g hg => .inl (h.gt g hg)), (fun e => by cases e), Int.le_refl _, h.vr, rfl, h.lt, rfl⟩
    obtain ⟨m1, m2⟩ := mostL_ge { a with ss := ss, cl := cl }
    obtain ⟨m3, m4⟩ := m2 h.inv.r0 hi
    have hml : mostL { a with ss := ss, cl := cl } ≤ B := mostL_le (a := { a with ss := ss, cl := cl }) h4 hm0.rd (fun g hg => hsn g (h.gt g hg)) hr0 hB0
    have hs : ∀ g ∈ S, ∀ c ∈ g.cs, c.2 = 1 := fun g hg => (hS.ok g hg).2.2.2.2.2
    have e : upU (mostL { a with ss := ss, cl := cl }) = mostL { a with ss := ss, cl := cl } + 1 := by unfold upU; rw [if_neg (by unfold um at hB; omega)]
    have m5 : a.rd ≤ mostL { a with ss := ss, cl := cl } := m1
    simp only
    rw [e]
    obtain ⟨p1, p2, p3⟩ := hm.propose hs h2 h1 (n := mostL { a with ss := ss, cl := cl } + 1) (by omega) (by omega) (.inr (by show a.rd < _; omega))
    have hb1 := MB.propose hm (R := B) (K := B) ⟨hm0.sp, hm0.rd, hm0.ck, fun e => by cases e⟩ (n := mostL { a with ss := ss, cl := cl } + 1) (by omega) (by omega) (by omega)
    exact (MB.goP p1 hs p3 (hb1.mono (R' := B + 1) (by omega) (Int.le_refl _)) (by omega) (by omega)).mono (by omega) (by omega)
/-- a proposal comes -/
theorem SrvOk.take_mb {S : List Pp} {c : Int → Int} {who i B : Int} {a : Ag} (h : SrvOk S c who i a) (hS : SentOk S) (hsn : ∀ g ∈ S, g.rd ≤ B) (hm0 : MB B B c a tu0) (hB0 : 0 ≤ B) (hB : B + 2 < um) {p : Pp} (hp : p ∈ S) : MB (B + 2) (B + 2) c (takeP a p).1 (takeP a p).2 := by
  obtain ⟨p1, p2, p3, _⟩ := hS.ok p hp
  have hs : ∀ g ∈ S, ∀ c ∈ g.cs, c.2 = 1 := fun g hg => (hS.ok g hg).2.2.2.2.2
  unfold takeP
  split
  · exact hm0.mono (by omega) (by omega)
  · rename_i hb
    simp only [Bool.or_eq_true, Bool.not_eq_true', decide_eq_true_eq, not_or, Bool.not_eq_true, Bool.not_eq_false] at hb
    obtain ⟨h1, h2, h3⟩ := hb
    split
    · exact hm0.mono (by omega) (by omega)
    · have hi := h.inv.put p2 h2 h3
      have hm : Mid S c who a { a with gt := gotL a.gt p.br } tu0 := ⟨hi, rfl, h.cl, h.cc, (fun n _ => rfl), h.cr, trivial, (fun g hg => by
        rcases gotL_mem.1 hg with rfl | ⟨hg, _⟩
        · exact .inl (by rw [p3]; exact hp)
        · exact .inl (h.gt g hg)), (fun e => by cases e), Int.le_refl _, h.vr, rfl, h.lt, rfl⟩
      have hb0 : MB B B c { a with gt := gotL a.gt p.br } tu0 := ⟨hm0.sp, hm0.rd, hm0.ck, fun e => by cases e⟩
      simp only
      split
      · rename_i hin
        have ht : togetherB a.ss = true := h.inv.two hin h3
        split
        · rename_i hlt
          have := h.inv.r0
          have hpr := hsn p hp
          obtain ⟨q1, q2, q3⟩ := hm.propose hs ht h1 (n := p.rd) (by omega) p2.rg (.inr (by show a.rd < p.rd; omega))
          have hb1 := MB.propose hm hb0 (n := p.rd) (by omega) (by omega) (by omega)
          exact (MB.goP q1 hs q3 (hb1.mono (R' := B) hpr (Int.le_refl _)) (by omega) (by omega)).mono (by omega) (by omega)
        · exact (MB.goP hm hs ht hb0 (by omega) (by omega)).mono (by omega) (by omega)
      · exact hb0.mono (by omega) (by omega)
/-- a turn keeps it -/
theorem BndS.turned {B B' : Int} {aa : Nat → Ag} {inc cc : Nat → Int} {S : List Pp} {V : List Vw} (h : BndS B aa cc S) (hO : OneS aa inc cc S V) {who : Nat} (hw : who < 4) {a : Ag} {t : Tu} (hT : TOk (S.map Pp.br) (ofN cc) who (aa who).br a.br t.br) (hm : MB B' B' (ofN cc) a.br t.br) (hB : B ≤ B') : BndS B' (updN aa who a) (cidsN cc t.ts) (if t.sd = true then S ++ [t.pp] else S) := by
  have hns : ∀ x ∈ t.ts.map Te.br, 0 ≤ x.n := fun x hx => by have : 5 ≤ x.n := (hT.nodes x hx).1; omega
  refine ⟨fun k hk => ?_, fun k hk => ?_, fun n => ?_, fun g hg => ?_, Int.le_trans h.b0 hB, fun g hg => ?_⟩
  · by_cases e : k = who
    · subst e; rw [updN_at]; exact hm.sp
    · rw [updN_ne _ _ e]; exact h.sp k hk
  · by_cases e : k = who
    · subst e; rw [updN_at]; exact hm.rd
    · rw [updN_ne _ _ e]; exact Int.le_trans (h.rd k hk) hB
  · have e : cidsN cc t.ts n = cidsA (ofN cc) t.br.ts (n : Int) := by
      show _ = cidsA (ofN cc) (t.ts.map Te.br) (n : Int)
      rw [← cidsN_eq _ cc hns (n : Int) (by omega), cidsN_br, Int.toNat_natCast]
    rw [e]
    exact hm.ck _
  · have hold : ∀ g ∈ S, g.rd ≤ B' := fun g hg => Int.le_trans (h.sn g hg) hB
    split at hg
    · rename_i hsd
      rcases List.mem_append.1 hg with hg | hg
      · exact hold g hg
      · rw [List.mem_singleton.1 hg]
        have h1 := (hT.pp hsd).2.2.1
        have h2 : a.rd ≤ B' := hm.rd
        exact Int.le_trans h1 h2
    · exact hold g hg
  · split at hg
    · rename_i hsd
      rcases List.mem_append.1 hg with hg | hg
      · exact h.cn g hg
      · rw [List.mem_singleton.1 hg]
        exact hm.pc hsd
    · exact h.cn g hg
end Go.Proofs.YtkglclekieckoaaGreat

namespace Go.Proofs.YtkglclekieckoaaGreat
set_option linter.unusedSimpArgs false
set_option linter.unusedVariables false
set_option linter.unusedSectionVars false
open Go.RowKit

/-- who is on, in which lives, with which clients -/
structure Cfg where
  O : List Nat
  inc : Nat → Int
  CL : Nat → List Pr
def Cfg.life (c : Cfg) (k : Nat) : Pr := ((k : Int) + 1, c.inc k)
def Cfg.SL (c : Cfg) : List Pr := c.O.map c.life
/-- lives of clients of the four -/
def Cli (l : List Pr) : Prop := ∀ p ∈ l, 5 ≤ p.1 ∧ p.1 ≤ 10 ∧ p.2 = 1
structure Cfg.Ok (c : Cfg) : Prop where
  o : c.O.Pairwise (· < ·)
  lt : ∀ k ∈ c.O, k < 4
  i1 : ∀ k ∈ c.O, 1 ≤ c.inc k
  cl : ∀ k ∈ c.O, (c.CL k).Pairwise fun x y => x.1 < y.1
  cc : ∀ k ∈ c.O, Cli (c.CL k)
theorem Cfg.life_inj {c : Cfg} {s t : Nat} (h : c.life s = c.life t) : s = t := by
  have := congrArg Prod.fst h
  simp only [Cfg.life] at this
  omega
theorem Cfg.mem_SL {c : Cfg} {p : Pr} : p ∈ c.SL ↔ ∃ s ∈ c.O, c.life s = p := List.mem_map
theorem rise_le : ∀ (l : List Int) (lo : Int) (k : Nat), l.Pairwise (· < ·) → (∀ x ∈ l, lo ≤ x ∧ x < lo + k) → l.length ≤ k
  | [], _, _, _, _ => Nat.zero_le _
  | x :: l, lo, k, h, hx => by
    rw [List.pairwise_cons] at h
    have h1 := hx x List.mem_cons_self
    have := rise_le l (x + 1) ((lo + k - x - 1).toNat) h.2 (fun y hy => by
      have h2 := h.1 y hy
      have h3 := hx y (List.mem_cons_of_mem _ hy)
      omega)
    rw [List.length_cons]
    omega
theorem one_rise {l : List Pr} (h : SS l) (h1 : ∀ p ∈ l, p.2 = 1) : l.Pairwise fun x y => x.1 < y.1 := by
  unfold SS at h
  refine List.Pairwise.imp_of_mem (R := ltP) (fun {a b} ha hb hab => ?_) h
  unfold ltP at hab
  rcases hab with h2 | ⟨_, h2⟩
  · exact h2
  · rw [h1 a ha, h1 b hb] at h2; omega
theorem cli_len {l : List Pr} (h : l.Pairwise fun x y => x.1 < y.1) (hc : Cli l) : l.length ≤ 6 := by
  have := rise_le (l.map Prod.fst) 5 6 (by rw [List.pairwise_map]; exact h) (fun x hx => by
    obtain ⟨p, hp, rfl⟩ := List.mem_map.1 hx
    have := hc p hp
    omega)
  rwa [List.length_map] at this
theorem lastOf_self : ∀ {l : List Pr}, (l.Pairwise fun x y => x.1 < y.1) → lastOf l = l
  | [], _ => rfl
  | [x], _ => rfl
  | x :: y :: l, h => by
    rw [List.pairwise_cons] at h
    have h1 := h.1 y List.mem_cons_self
    unfold lastOf
    rw [if_neg (by omega), lastOf_self h.2]
theorem known_cli {P : Pp → Prop} [DecidablePred P] : ∀ (L : List Pp) (M : List Pr), (M.Pairwise fun x y => x.1 < y.1) → Cli M → (∀ g ∈ L, Cli g.cs) →
    ((L.foldl (fun L p => if P p then sortedL (L ++ p.cs) else L) M).Pairwise fun x y => x.1 < y.1) ∧ Cli (L.foldl (fun L p => if P p then sortedL (L ++ p.cs) else L) M) ∧ (∀ p ∈ M, p ∈ L.foldl (fun L p => if P p then sortedL (L ++ p.cs) else L) M) ∧ ∀ g ∈ L, P g → ∀ p ∈ g.cs, p ∈ L.foldl (fun L p => if P p then sortedL (L ++ p.cs) else L) M
  | [], M, h1, h2, _ => ⟨h1, h2, fun _ h => h, fun _ h => by cases h⟩
  | g :: L, M, h1, h2, h3 => by
    rw [List.foldl_cons]
    have h3' : ∀ g ∈ L, Cli g.cs := fun g hg => h3 g (List.mem_cons_of_mem _ hg)
    by_cases hP : P g
    · have hcl : Cli (sortedL (M ++ g.cs)) := fun p hp => by
        rcases List.mem_append.1 (mem_sortedL.1 hp) with h | h
        · exact h2 p h
        · exact h3 g List.mem_cons_self p h
      obtain ⟨k1, k2, k3, k4⟩ := known_cli (P := P) L (sortedL (M ++ g.cs)) (one_rise (sortedL_ss _) (fun p hp => (hcl p hp).2.2)) hcl h3'
      rw [if_pos hP]
      refine ⟨k1, k2, fun p hp => k3 p (mem_sortedL.2 (List.mem_append_left _ hp)), fun q hq hPq p hp => ?_⟩
      rcases List.mem_cons.1 hq with rfl | hq
      · exact k3 p (mem_sortedL.2 (List.mem_append_right _ hp))
      · exact k4 q hq hPq p hp
    · obtain ⟨k1, k2, k3, k4⟩ := known_cli (P := P) L M h1 h2 h3'
      rw [if_neg hP]
      refine ⟨k1, k2, k3, fun q hq hPq p hp => ?_⟩
      rcases List.mem_cons.1 hq with rfl | hq
      · exact absurd hPq hP
      · exact k4 q hq hPq p hp
/-- all that it knows of is told -/
theorem whom_is {a : Ag} (hm : mayR a.cl = true) (ho : Cli (livesL (thereL a.cl))) (hg : ∀ g ∈ a.gt, Cli g.cs) : (∀ p ∈ livesL (thereL a.cl), p ∈ whomL a) ∧ ∀ g ∈ a.gt, g.sv ≠ a.sv → g.sv ∈ a.ss → ∀ p ∈ g.cs, p ∈ whomL a := by
  have hown : ownL a = livesL (thereL a.cl) := by unfold ownL; rw [takenR_of hm]; rfl
  obtain ⟨k1, k2, k3, k4⟩ := known_cli (P := fun p => p.sv ≠ a.sv ∧ p.sv ∈ a.ss) a.gt (ownL a) (by rw [hown]; exact lives_lt (there_rising hm)) (by rw [hown]; exact ho) hg
  have hk : whomL a = knownL a := by
    have h6 := cli_len k1 k2
    have e : lastOf (knownL a) = knownL a := lastOf_self k1
    unfold whomL
    rw [e, if_neg (by have : (knownL a).length ≤ 6 := h6; omega)]
  rw [hk]
  exact ⟨fun p hp => k3 p (by rw [hown]; exact hp), fun g hg h1 h2 p hp => k4 g hg ⟨h1, h2⟩ p hp⟩
/-- a server that is on -/
structure Sd (c : Cfg) (k : Nat) (a : Ag) : Prop where
  inv : a.Inv
  sp : a.sp = false
  sv : a.sv = c.life k
  ss : a.ss = c.SL
  lv : livesL a.cl = c.CL k
  gn : ∀ x ∈ a.cl, x.gone = false
  tg : togetherB a.ss = true
  gc : ∀ g ∈ a.gt, Cli g.cs
/-- a proposal of one of them -/
structure Fr (c : Cfg) (s : Nat) (g : Pp) : Prop where
  sv : g.sv = c.life s
  ss : g.ss = c.SL
  cs : g.cs = c.CL s
/-- what a round's beginning leaves -/
structure Beg (c : Cfg) (k : Nat) (a : Ag) (n : Int) (r : Ag × Tu) : Prop where
  sd : Sd c k r.1
  rd : r.1.rd = n
  dn : r.1.dn = false
  vw : r.1.vw = a.vw
  snd : r.2.sd = true
  fr : Fr c k r.2.pp
  prd : r.2.pp.rd = n
  may : r.2.pp.mayB = true
  ok : ppOk r.2.pp
  br : r.2.pp.br = r.2.pp
  gt : r.1.gt = gotL a.gt r.2.pp
  own : ∀ p ∈ c.CL k, p ∈ r.1.td
  oth : ∀ g ∈ a.gt, g.sv ≠ c.life k → g.sv ∈ c.SL → ∀ p ∈ g.cs, p ∈ r.1.td
theorem there_self {l : List Cl} (h : ∀ x ∈ l, x.gone = false) : thereL l = l := List.filter_eq_self.2 (fun x hx => by rw [h x hx]; rfl)
theorem lives_up (l : List Cl) : livesL (l.map upC) = livesL l := by
  unfold livesL
  rw [List.map_map]
  exact List.map_congr_left (fun x _ => by show ((upC x).n, (upC x).i) = _; rw [(upC_n' x).1, (upC_n' x).2.1])
theorem Sd.begin {c : Cfg} {k : Nat} {a : Ag} (hc : c.Ok) (hk : k ∈ c.O) (h : Sd c k a) (t : Tu) {n : Int} (h0 : 0 < n) (h1 : n < um) (hs : ∀ x ∈ a.cl, x.cid < um) : Beg c k a n (proposeP a t n) := by
  have hi := propose_inv h.inv h.tg t (n := n) (by omega) (by omega)
  obtain ⟨e1, e2, e3⟩ := propose_ok h.inv t h0 h1 hs
  obtain ⟨c1, c2, c3, c4⟩ := h.inv.cl_up (n := n) e3
  rw [e1] at hi ⊢
  have hgn : ∀ x ∈ (begunA a n).cl, x.gone = false := by
    rw [e2]
    intro x hx
    obtain ⟨y, hy, rfl⟩ := List.mem_map.1 hx
    rw [(upC_n' y).2.2.2]
    exact h.gn y hy
  have hlv : livesL (begunA a n).cl = c.CL k := by rw [e2, lives_up]; exact h.lv
  have hth : thereL (begunA a n).cl = (begunA a n).cl := there_self hgn
  have hcs : (myP (toldA (begunA a n))).cs = c.CL k := by
    show livesL (thereL (begunA a n).cl) = _
    rw [hth, hlv]
  obtain ⟨w1, w2⟩ := whom_is (a := begunA a n) c2 (by rw [hth, hlv]; exact hc.cc k hk) h.gc
  rw [hth, hlv] at w1
  refine ⟨⟨hi, h.sp, h.sv, h.ss, hlv, hgn, h.tg, ?_⟩, rfl, rfl, rfl, rfl, ⟨h.sv, h.ss, hcs⟩, rfl, ?_, ⟨Int.le_of_lt h1, ?_⟩, rfl, rfl, w1, ?_⟩
  · intro g hg
    rcases gotL_mem.1 hg with rfl | ⟨hg, _⟩
    · rw [hcs]; exact hc.cc k hk
    · exact h.gc g hg
  · exact myP_may h.tg h.inv.se (by show 0 < n; exact h0) c2 c4
  · intro q hq
    obtain ⟨x, hx, rfl⟩ := List.mem_map.1 hq
    exact (c3 x (there_gone hx).1).1
  · intro g hg hne hin
    exact w2 g hg (by show g.sv ≠ a.sv; rw [h.sv]; exact hne) (by show g.sv ∈ a.ss; rw [h.ss]; exact hin)
theorem got_uniq {L : List Pp} (h : L.Pairwise fun x y => x.n < y.n) {g g' : Pp} (hg : g ∈ L) (hg' : g' ∈ L) (e : g.n = g'.n) : g = g' := by
  induction L with
  | nil => cases hg
  | cons x L ih =>
    rw [List.pairwise_cons] at h
    rcases List.mem_cons.1 hg with rfl | h1
    · rcases List.mem_cons.1 hg' with rfl | h2
      · rfl
      · have := h.1 g' h2; omega
    · rcases List.mem_cons.1 hg' with rfl | h2
      · have := h.1 g h1; omega
      · exact ih h.2 h1 h2
/-- each of them has proposed this very round -/
def Full (c : Cfg) (a : Ag) : Prop := ∀ s ∈ c.O, ∃ g ∈ a.gt, g.sv = c.life s ∧ g.rd = a.rd ∧ g.ss = c.SL
/-- done, with what these proposals make -/
def DoneB (c : Cfg) (a : Ag) : Prop := a.dn = true ∧ ∃ l, l.map Pp.sv = c.SL ∧ (∀ p ∈ l, p ∈ a.gt ∧ p.rd = a.rd) ∧ ∀ x, viewP l = some x → a.vw = vwOf x
theorem props_some {L : List Pp} (h : L.Pairwise fun x y => x.n < y.n) : ∀ ss : List Pr, (∀ s ∈ ss, ∃ g ∈ L, g.sv = s) → ∃ l, propsG L ss = some l
  | [], _ => ⟨[], rfl⟩
  | s :: ss, hs => by
    obtain ⟨g, hg, e⟩ := hs s List.mem_cons_self
    obtain ⟨l, hl⟩ := props_some h ss (fun s' hs' => hs s' (List.mem_cons_of_mem _ hs'))
    refine ⟨g :: l, ?_⟩
    unfold propsG
    rw [find_sv h hg e]
    simp only
    rw [hl]
theorem Full.props {c : Cfg} {k : Nat} {a : Ag} (h : Sd c k a) (hf : Full c a) : ∃ l, propsL a = some l ∧ agreeB l = true ∧ l.map Pp.sv = c.SL ∧ ∀ p ∈ l, p ∈ a.gt ∧ p.rd = a.rd := by
  obtain ⟨l, hl⟩ := props_some h.inv.ri a.ss (fun s hs => by
    rw [h.ss] at hs
    obtain ⟨t, ht, rfl⟩ := Cfg.mem_SL.1 hs
    obtain ⟨g, hg, e, _⟩ := hf t ht
    exact ⟨g, hg, e⟩)
  obtain ⟨g1, g2, _⟩ := propsG_of hl
  have g1' : l.map Pp.sv = c.SL := by rw [g1, h.ss]
  have hall : ∀ p ∈ l, p.rd = a.rd ∧ p.ss = c.SL := fun p hp => by
    have hm : p.sv ∈ c.SL := by rw [← g1']; exact List.mem_map.2 ⟨p, hp, rfl⟩
    obtain ⟨t, ht, e⟩ := Cfg.mem_SL.1 hm
    obtain ⟨g, hg, e1, e2, e3⟩ := hf t ht
    have : p = g := got_uniq h.inv.ri (g2 p hp) hg (congrArg Prod.fst (e.symm.trans e1.symm))
    rw [this]
    exact ⟨e2, e3⟩
  obtain ⟨t1, t2, t3, t4, t5⟩ := (together_iff _).1 h.tg
  have hlen : l.length = c.SL.length := by rw [← g1', List.length_map]
  rw [h.ss] at t2 t3 t4
  refine ⟨l, hl, agreeB_iff.2 ⟨fun e => by rw [e] at hlen; simp at hlen; omega, by omega, a.rd, c.SL, hlen, fun p hp => ⟨h.inv.mb p (g2 p hp), hall p hp⟩, ?_⟩, g1', fun p hp => ⟨g2 p hp, (hall p hp).1⟩⟩
  rw [g1']
  exact sortedL_self (setB_ss t4)
theorem Full.of {c : Cfg} {k : Nat} {a : Ag} (h : Sd c k a) (hk : k ∈ c.O) (ho : ∃ g ∈ a.gt, Fr c k g) {l : List Pp} (h1 : propsL a = some l) (h2 : agreeB l = true) : Full c a := by
  obtain ⟨g1, g2, g3⟩ := propsG_of h1
  have hrd := agree_mine h.inv h1 h2
  obtain ⟨_, _, rd, ss, _, hp3, _⟩ := agreeB_iff.1 h2
  obtain ⟨o, ho1, ho2⟩ := ho
  have hss : ss = c.SL := by
    obtain ⟨q, hq, hf⟩ := g3 a.sv h.inv.se
    have e : q = o := got_uniq h.inv.ri (g2 q hq) ho1 (congrArg Prod.fst ((find_mem hf).2.trans (h.sv.trans ho2.sv.symm)))
    rw [← (hp3 q hq).2.2, e]
    exact ho2.ss
  intro s hs
  obtain ⟨q, hq, hf⟩ := g3 (c.life s) (by rw [h.ss]; exact Cfg.mem_SL.2 ⟨s, hs, rfl⟩)
  exact ⟨q, g2 q hq, (find_mem hf).2, hrd q hq, by rw [(hp3 q hq).2.2, hss]⟩
/-- nothing comes of it -/
theorem agree_still {c : Cfg} {k : Nat} {a : Ag} (h : Sd c k a) (hk : k ∈ c.O) (ho : ∃ g ∈ a.gt, Fr c k g) (t : Tu) (hn : a.dn = true ∨ ¬ Full c a) : agree1 a t = ((a, t), false) := by
  have hg := agree1_gone a t
  generalize agree1 a t = r at hg
  have no : ∀ l, a.dn = false → propsL a = some l → agreeB l = true → False := fun l h0 h1 h2 => by
    rcases hn with e | e
    · rw [e] at h0; cases h0
    · exact e (Full.of h hk ho h1 h2)
  cases hg with
  | still => rfl
  | more l h0 h1 h2 h3 h4 => exact (no l h0 h2 h3).elim
  | none l h0 h1 h2 h3 h4 h5 => exact (no l h0 h2 h3).elim
  | made l x h0 h1 h2 h3 h4 h5 => exact (no l h0 h2 h3).elim
/-- what is left where it is done -/
structure Dn (c : Cfg) (k : Nat) (a : Ag) (t : Tu) (r : Ag × Tu) : Prop where
  sd : Sd c k r.1
  rd : r.1.rd = a.rd
  gt : r.1.gt = a.gt
  td : r.1.td = a.td
  dn : DoneB c r.1
  snd : r.2.sd = t.sd
  pp : r.2.pp = t.pp
/-- each of whom these proposals are has been told of -/
def Told (c : Cfg) (a : Ag) : Prop := ∀ s ∈ c.O, ∀ g ∈ a.gt, g.sv = c.life s → g.rd = a.rd → ∀ q ∈ g.cs, q ∈ a.td
theorem agree_done {c : Cfg} {k : Nat} {a : Ag} (h : Sd c k a) (t : Tu) (h0 : a.dn = false) (hf : Full c a) (ht : Told c a) : (agree1 a t).2 = false ∧ Dn c k a t (agree1 a t).1 := by
  obtain ⟨l, e1, e2, e3, e4⟩ := Full.props h hf
  have hg := agree1_gone a t
  generalize agree1 a t = r at hg
  have hl : ∀ l', propsL a = some l' → l' = l := fun l' e => by rw [e1] at e; injection e with e; exact e.symm
  cases hg with
  | still hh =>
    exfalso
    rcases hh with e | e | e | ⟨l', e5, e6⟩
    · rw [h0] at e; cases e
    · rw [h.sp] at e; cases e
    · rw [e1] at e; cases e
    · rw [hl l' e5, e2] at e6; cases e6
  | more l' q0 q1 q2 q3 q4 =>
    exfalso
    obtain rfl := hl l' q2
    unfold strange at q4
    obtain ⟨p, hp, q5⟩ := List.any_eq_true.1 q4
    obtain ⟨x, hx, q6⟩ := List.any_eq_true.1 q5
    have hm : p.sv ∈ c.SL := by rw [← e3]; exact List.mem_map.2 ⟨p, hp, rfl⟩
    obtain ⟨s, hs, e⟩ := Cfg.mem_SL.1 hm
    have := ht s hs p (e4 p hp).1 e.symm (e4 p hp).2 x hx
    simp [this] at q6
  | none l' q0 q1 q2 q3 q4 q5 =>
    obtain rfl := hl l' q2
    exact ⟨rfl, ⟨h.inv.done, h.sp, h.sv, h.ss, h.lv, h.gn, h.tg, h.gc⟩, rfl, rfl, rfl, ⟨rfl, l', e3, e4, fun x hx => by rw [q5] at hx; cases hx⟩, rfl, rfl⟩
  | made l' x q0 q1 q2 q3 q4 q5 =>
    obtain rfl := hl l' q2
    exact ⟨rfl, ⟨h.inv.seen _, h.sp, h.sv, h.ss, h.lv, h.gn, h.tg, h.gc⟩, rfl, rfl, rfl, ⟨rfl, l', e3, e4, fun y hy => by rw [q5] at hy; injection hy with hy; rw [hy]⟩, rfl, rfl⟩
theorem agree_more {c : Cfg} {k : Nat} {a : Ag} (h : Sd c k a) (t : Tu) (h0 : a.dn = false) (hf : Full c a) (ht : ¬ Told c a) : agree1 a t = (proposeP a t (upU a.rd), true) := by
  obtain ⟨l, e1, e2, e3, e4⟩ := Full.props h hf
  have hg := agree1_gone a t
  generalize agree1 a t = r at hg
  have hl : ∀ l', propsL a = some l' → l' = l := fun l' e => by rw [e1] at e; injection e with e; exact e.symm
  have hst : strange l a.td = true := by
    apply Classical.byContradiction
    intro hn
    refine ht (fun s hs g hg' e5 e6 q hq => ?_)
    have hin : g ∈ l := by
      have hm : c.life s ∈ l.map Pp.sv := by rw [e3]; exact Cfg.mem_SL.2 ⟨s, hs, rfl⟩
      obtain ⟨p, hp, e⟩ := List.mem_map.1 hm
      have : p = g := got_uniq h.inv.ri (e4 p hp).1 hg' (congrArg Prod.fst (e.trans e5.symm))
      rw [← this]; exact hp
    apply Classical.byContradiction
    intro hq'
    exact hn (List.any_eq_true.2 ⟨g, hin, List.any_eq_true.2 ⟨q, hq, by simpa using hq'⟩⟩)
  cases hg with
  | still hh =>
    exfalso
    rcases hh with e | e | e | ⟨l', e5, e6⟩
    · rw [h0] at e; cases e
    · rw [h.sp] at e; cases e
    · rw [e1] at e; cases e
    · rw [hl l' e5, e2] at e6; cases e6
  | more => rfl
  | none l' q0 q1 q2 q3 q4 q5 => rw [hl l' q2, hst] at q4; cases q4
  | made l' x q0 q1 q2 q3 q4 q5 => rw [hl l' q2, hst] at q4; cases q4
end Go.Proofs.YtkglclekieckoaaGreat

namespace Go.Proofs.YtkglclekieckoaaGreat
set_option linter.unusedSimpArgs false
set_option linter.unusedVariables false
set_option linter.unusedSectionVars false
open Go.RowKit

theorem together_SL {c : Cfg} (hc : c.Ok) {k : Nat} (hk : k ∈ c.O) : togetherB c.SL = true := by
  have hp : c.SL.Pairwise fun x y => x.1 < y.1 := by
    unfold Cfg.SL
    rw [List.pairwise_map]
    exact hc.o.imp fun {a b} h => by simp only [Cfg.life]; omega
  have hb : ∀ p ∈ c.SL, 1 ≤ p.1 ∧ p.1 ≤ 4 ∧ 1 ≤ p.2 := fun p hp => by
    obtain ⟨s, hs, rfl⟩ := Cfg.mem_SL.1 hp
    have h1 := hc.lt s hs
    have h2 := hc.i1 s hs
    simp only [Cfg.life]
    omega
  have hl : c.SL.length ≤ 4 := by
    have := rise_le (c.SL.map Prod.fst) 1 4 (by rw [List.pairwise_map]; exact hp) (fun x hx => by
      obtain ⟨p, hp, rfl⟩ := List.mem_map.1 hx
      have := hb p hp
      omega)
    rwa [List.length_map] at this
  refine (together_iff _).2 ⟨fun p hp => (hb p hp).2.1, ?_, hl, setB_of (ss_of hp) (fun p hp => ?_), livesB_of hp⟩
  · unfold Cfg.SL
    rw [List.length_map]
    exact List.length_pos_of_mem hk
  · have := hb p hp
    unfold mayB
    exact decide_eq_true (by omega)
theorem agreeP_of {a : Ag} {t : Tu} (h : (agree1 a t).2 = false) : agreeP a t = (agree1 a t).1 := by unfold agreeP; rw [h]; rfl
/-- a round has just begun: whoever these proposals are of has been told of -/
theorem Beg.told {c : Cfg} {k : Nat} {a : Ag} {n : Int} {r : Ag × Tu} (h : Beg c k a n r) : Told c r.1 := by
  intro s hs g hg e _ q hq
  rw [h.gt] at hg
  rcases gotL_mem.1 hg with rfl | ⟨hg, hne⟩
  · rw [h.fr.cs] at hq
    exact h.own q hq
  · by_cases he : g.sv = c.life k
    · exact absurd ((congrArg Prod.fst he).trans (congrArg Prod.fst h.fr.sv).symm) hne
    · exact h.oth g hg he (by rw [e]; exact Cfg.mem_SL.2 ⟨s, hs, rfl⟩) q hq
theorem Beg.own_got {c : Cfg} {k : Nat} {a : Ag} {n : Int} {r : Ag × Tu} (h : Beg c k a n r) : r.2.pp ∈ r.1.gt := by rw [h.gt]; exact gotL_mem.2 (.inl rfl)
/-- a round has just begun, and a view is tried -/
inductive Gon (c : Cfg) (k : Nat) (b : Ag) (n : Int) (r : Ag × Tu) : Prop
  | still (h : Beg c k b n r) (hf : ¬ Full c r.1) : Gon c k b n r
  | done (r0 : Ag × Tu) (h : Beg c k b n r0) (hf : Full c r0.1) (hd : Dn c k r0.1 r0.2 r) : Gon c k b n r
theorem Beg.go {c : Cfg} {k : Nat} {a : Ag} {n : Int} {r : Ag × Tu} (hk : k ∈ c.O) (h : Beg c k a n r) : Gon c k a n (agreeP r.1 r.2) := by
  by_cases hf : Full c r.1
  · obtain ⟨e, hd⟩ := agree_done h.sd r.2 h.dn hf h.told
    rw [agreeP_of e]
    exact .done r h hf hd
  · have e := agree_still h.sd hk ⟨_, h.own_got, h.fr⟩ r.2 (.inr hf)
    rw [agreeP_of (by rw [e]), e]
    exact .still h hf
theorem mostL_got {a : Ag} : ∀ g ∈ a.gt, g.sv ∈ a.ss → g.rd ≤ mostL a := by
  have mono : ∀ (L : List Pp) (m : Int), m ≤ L.foldl (fun n p => if p.sv ∈ a.ss then max n p.rd else n) m := by
    intro L
    induction L with
    | nil => intro m; exact Int.le_refl _
    | cons x L ih =>
      intro m
      refine Int.le_trans ?_ (ih _)
      show m ≤ (if x.sv ∈ a.ss then max m x.rd else m)
      split <;> omega
  have key : ∀ (L : List Pp) (m : Int), ∀ g ∈ L, g.sv ∈ a.ss → g.rd ≤ L.foldl (fun n p => if p.sv ∈ a.ss then max n p.rd else n) m := by
    intro L
    induction L with
    | nil => intro m g hg; cases hg
    | cons x L ih =>
      intro m g hg hs
      rcases List.mem_cons.1 hg with rfl | hg
      · refine Int.le_trans ?_ (mono L _)
        show g.rd ≤ (if g.sv ∈ a.ss then max m g.rd else m)
        rw [if_pos hs]
        omega
      · exact ih _ g hg hs
  exact fun g hg hs => key a.gt _ g hg hs
/-- a renewal, of all that are on -/
theorem renew_out {c : Cfg} {k : Nat} {a : Ag} (hc : c.Ok) (hk : k ∈ c.O) (hi : a.Inv) (hsp : a.sp = false) (hsv : a.sv = c.life k) (hg : ∀ g ∈ a.gt, Cli g.cs) {cl : List Cl} (hlv : livesL cl = c.CL k) (hgn : ∀ x ∈ cl, x.gone = false) (hmr : mayR cl = true) (hok : clOk cl) (hs : ∀ x ∈ cl, x.cid < um) (hm : mostL { a with ss := c.SL, cl := cl } + 1 < um) :
    ∃ R, a.rd < R ∧ (∀ g ∈ a.gt, g.sv ∈ c.SL → g.rd < R) ∧ R = mostL { a with ss := c.SL, cl := cl } + 1 ∧ Gon c k { a with ss := c.SL, cl := cl } R (renewP a c.SL cl) := by
  have ht := together_SL hc hk
  have hin : a.sv ∈ c.SL := by rw [hsv]; exact Cfg.mem_SL.2 ⟨k, hk, rfl⟩
  have hib := hi.with ht hin hmr hok
  have hb : Sd c k { a with ss := c.SL, cl := cl } := ⟨hib, hsp, hsv, rfl, hlv, hgn, ht, hg⟩
  obtain ⟨m1, m2⟩ := mostL_ge { a with ss := c.SL, cl := cl }
  obtain ⟨m3, m4⟩ := m2 hi.r0 hib
  have m5 : a.rd ≤ mostL { a with ss := c.SL, cl := cl } := m1
  have hr0 := hi.r0
  have e : upU (mostL { a with ss := c.SL, cl := cl }) = mostL { a with ss := c.SL, cl := cl } + 1 := by unfold upU; rw [if_neg (by unfold um at hm; omega)]
  refine ⟨_, Int.lt_of_le_of_lt m5 (Int.lt_succ _), fun g hg hs => Int.lt_of_le_of_lt (mostL_got (a := { a with ss := c.SL, cl := cl }) g hg hs) (Int.lt_succ _), rfl, ?_⟩
  have hbg := Sd.begin hc hk hb tu0 (n := mostL { a with ss := c.SL, cl := cl } + 1) (by omega) hm hs
  unfold renewP
  rw [if_neg (by rw [hsp, ht, hmr]; simp [hin])]
  simp only
  rw [e]
  exact hbg.go hk
/-- how a proposal of another one that is on is taken -/
inductive TakeO (c : Cfg) (k : Nat) (a b : Ag) (p : Pp) (r : Ag × Tu) : Prop
  | still (h : p.rd ≤ a.rd) (hn : a.dn = true ∨ ¬ Full c b) (e : r = (b, tu0)) : TakeO c k a b p r
  | done (h : p.rd ≤ a.rd) (hf : Full c b) (hd : Dn c k b tu0 r) : TakeO c k a b p r
  | more (h : p.rd ≤ a.rd) (hd : a.dn = false) (hf : Full c b) (ht : ¬ Told c b) (hb : Beg c k b (a.rd + 1) r) (hn : ¬ Full c r.1) : TakeO c k a b p r
  | up (h : a.rd < p.rd) (hg : Gon c k b p.rd r) : TakeO c k a b p r
theorem take_out {c : Cfg} {k s : Nat} {a : Ag} {p : Pp} (hc : c.Ok) (hk : k ∈ c.O) (hs : s ∈ c.O) (hne : s ≠ k) (h : Sd c k a) (ho : ∃ g ∈ a.gt, Fr c k g) (hp : Fr c s p) (hpm : p.mayB = true) (hpo : ppOk p) (hpb : p.br = p)
    (hl1 : ∀ g ∈ a.gt, g.n = p.n → g.i ≤ p.i) (hl2 : ∀ g ∈ a.gt, g.sv = p.sv → g.rd < p.rd) (hsm : ∀ x ∈ a.cl, x.cid < um) (hr : a.rd + 1 < um) (hpr : p.rd < um) :
    Sd c k { a with gt := gotL a.gt p } ∧ TakeO c k a { a with gt := gotL a.gt p } p (takeP a p) := by
  have hpn : p.n = (s : Int) + 1 := congrArg Prod.fst hp.sv
  have han : a.n = (k : Int) + 1 := congrArg Prod.fst h.sv
  have hpa : p.n ≠ a.n := by omega
  have hin : p.sv ∈ a.ss := by rw [h.ss, hp.sv]; exact Cfg.mem_SL.2 ⟨s, hs, rfl⟩
  have hib := h.inv.put hpo hpm hpa
  rw [hpb] at hib
  have hb : Sd c k { a with gt := gotL a.gt p } := ⟨hib, h.sp, h.sv, h.ss, h.lv, h.gn, h.tg, fun g hg => by
    rcases gotL_mem.1 hg with rfl | ⟨hg, _⟩
    · rw [hp.cs]; exact hc.cc s hs
    · exact h.gc g hg⟩
  have hob : ∃ g ∈ gotL a.gt p, Fr c k g := by
    obtain ⟨g, hg, hf⟩ := ho
    have hgn : g.n = (k : Int) + 1 := congrArg Prod.fst hf.sv
    exact ⟨g, gotL_mem.2 (.inr ⟨hg, by omega⟩), hf⟩
  have hlate : lateB a.gt p = false := by
    unfold lateB
    rw [List.any_eq_false]
    intro g hg
    simp only [Bool.or_eq_true, Bool.and_eq_true, decide_eq_true_eq, not_or, not_and]
    exact ⟨fun e => by have := hl1 g hg e; omega, fun e => by have := hl2 g hg e; omega⟩
  have e0 : takeP a p = (if a.rd < p.rd then agreeP (proposeP { a with gt := gotL a.gt p } tu0 p.rd).1 (proposeP { a with gt := gotL a.gt p } tu0 p.rd).2 else agreeP { a with gt := gotL a.gt p } tu0) := by
    unfold takeP
    rw [if_neg (by rw [h.sp, hpm]; simp [hpa]), if_neg (by rw [hlate]; simp)]
    simp only
    rw [if_pos hin, hpb]
  refine ⟨hb, ?_⟩
  rw [e0]
  have h0 := h.inv.r0
  by_cases hlt : a.rd < p.rd
  · rw [if_pos hlt]
    exact .up hlt ((Sd.begin hc hk hb tu0 (n := p.rd) (by omega) hpr hsm).go hk)
  · rw [if_neg hlt]
    have hle : p.rd ≤ a.rd := by omega
    by_cases hn : a.dn = true ∨ ¬ Full c { a with gt := gotL a.gt p }
    · have e := agree_still hb hk hob tu0 hn
      rw [agreeP_of (by rw [e]), e]
      exact .still hle hn rfl
    · simp only [not_or, Bool.not_eq_true, Classical.not_not] at hn
      obtain ⟨hd, hf⟩ := hn
      by_cases ht : Told c { a with gt := gotL a.gt p }
      · obtain ⟨e, hdn⟩ := agree_done hb tu0 hd hf ht
        rw [agreeP_of e]
        exact .done hle hf hdn
      · have e := agree_more hb tu0 hd hf ht
        have eu : upU a.rd = a.rd + 1 := by unfold upU; rw [if_neg (by unfold um at hr; omega)]
        have hbg := Sd.begin hc hk hb tu0 (n := a.rd + 1) (by omega) hr hsm
        have hnf : ¬ Full c (proposeP { a with gt := gotL a.gt p } tu0 (a.rd + 1)).1 := by
          intro hf2
          obtain ⟨g, hg, e1, e2, _⟩ := hf s hs
          obtain ⟨g', hg', e3, e4, _⟩ := hf2 s hs
          have hmy : (proposeP { a with gt := gotL a.gt p } tu0 (a.rd + 1)).2.pp.n = (k : Int) + 1 := congrArg Prod.fst hbg.fr.sv
          have hgn : g.n = (s : Int) + 1 := congrArg Prod.fst e1
          have hg2 : g ∈ (proposeP { a with gt := gotL a.gt p } tu0 (a.rd + 1)).1.gt := by
            rw [hbg.gt]
            exact gotL_mem.2 (.inr ⟨hg, by omega⟩)
          have := got_uniq hbg.sd.inv.ri hg2 hg' (congrArg Prod.fst (e1.trans e3.symm))
          rw [← this, hbg.rd] at e4
          have e2 : g.rd = a.rd := e2
          omega
        have e2 := agree_still hbg.sd hk ⟨_, hbg.own_got, hbg.fr⟩ (proposeP { a with gt := gotL a.gt p } tu0 (a.rd + 1)).2 (.inr hnf)
        have e3 : agreeP { a with gt := gotL a.gt p } tu0 = proposeP { a with gt := gotL a.gt p } tu0 (a.rd + 1) := by
          unfold agreeP
          rw [e]
          simp only [if_true]
          show (agree1 (proposeP { a with gt := gotL a.gt p } tu0 (upU a.rd)).1 (proposeP { a with gt := gotL a.gt p } tu0 (upU a.rd)).2).1 = _
          rw [eu, e2]
        rw [e3]
        exact .more hle hd hf ht hbg hnf
end Go.Proofs.YtkglclekieckoaaGreat

namespace Go.Proofs.YtkglclekieckoaaGreat
set_option linter.unusedSimpArgs false
set_option linter.unusedVariables false
set_option linter.unusedSectionVars false
open Go.RowKit

/-- the rounds that anybody may come to -/
def RSet (c : Cfg) (R : Nat → Int) (M : Int) : List Int := c.O.map R ++ [M + 1]
structure Stl (c : Cfg) (R : Nat → Int) (M : Int) (A : Nat → Ag) (own : Nat → Pp) (Q : Nat → List Pp) : Prop where
  sd : ∀ k ∈ c.O, Sd c k (A k)
  og : ∀ k ∈ c.O, own k ∈ (A k).gt
  fr : ∀ k ∈ c.O, Fr c k (own k)
  rk : ∀ k ∈ c.O, R k ≤ (A k).rd
  ru : ∀ k ∈ c.O, (A k).rd ≤ M + 1
  rs : ∀ k ∈ c.O, (A k).rd ∈ RSet c R M
  rm : ∀ k ∈ c.O, R k ≤ M
  mx : ∃ m ∈ c.O, R m = M
  gt : ∀ k ∈ c.O, ∀ g ∈ (A k).gt, ∀ s ∈ c.O, s ≠ k → g.sv = c.life s → (Fr c s g ∧ R s ≤ g.rd ∧ g.rd ≤ (A k).rd) ∨ g.rd < R k
  gr : ∀ k ∈ c.O, ∀ g ∈ (A k).gt, ∀ s ∈ c.O, s ≠ k → g.sv = c.life s → g.rd ≤ (A s).rd
  gi : ∀ k ∈ c.O, ∀ g ∈ (A k).gt, ∀ s ∈ c.O, g.n = (s : Int) + 1 → g.i ≤ c.inc s
  qs : ∀ k ∈ c.O, ∀ e ∈ Q k, ∃ s ∈ c.O, s ≠ k ∧ Fr c s e ∧ e.mayB = true ∧ ppOk e ∧ e.br = e ∧ R s ≤ e.rd ∧ e.rd ≤ (A s).rd ∧ e.rd ∈ RSet c R M
  qg : ∀ k ∈ c.O, ∀ g ∈ (A k).gt, ∀ e ∈ Q k, g.sv = e.sv → g.rd < e.rd
  qq : ∀ k ∈ c.O, (Q k).Pairwise fun x y => x.sv = y.sv → x.rd < y.rd
  la : ∀ k ∈ c.O, ∀ s ∈ c.O, s ≠ k → own s ∈ (A k).gt ∨ own s ∈ Q k
  up : ∀ s ∈ c.O, (A s).rd = M + 1 → ∀ k ∈ c.O, M ≤ (A k).rd
  bh : ∀ k ∈ c.O, ∀ q1 p q2, Q k = q1 ++ p :: q2 → p.rd = M + 1 → ∀ s ∈ c.O, s ≠ k → (∃ g ∈ (A k).gt, g.sv = c.life s ∧ M ≤ g.rd) ∨ ∃ e ∈ q1, e.sv = c.life s ∧ M ≤ e.rd
  td : ∀ k ∈ c.O, (A k).rd = M + 1 → ∀ s ∈ c.O, ∀ q ∈ c.CL s, q ∈ (A k).td
  dn : ∀ k ∈ c.O, Full c (A k) → DoneB c (A k)
  df : ∀ k ∈ c.O, (A k).dn = true → Full c (A k)
theorem Stl.own_rd {c : Cfg} {R : Nat → Int} {M : Int} {A : Nat → Ag} {own : Nat → Pp} {Q : Nat → List Pp} (h : Stl c R M A own Q) {k : Nat} (hk : k ∈ c.O) : (own k).rd = (A k).rd := (h.sd k hk).inv.ow _ (h.og k hk) ((h.fr k hk).sv.trans (h.sd k hk).sv.symm)
/-- nothing was sent -/
structure TkN (c : Cfg) (k : Nat) (a : Ag) (p : Pp) (r : Ag × Tu) : Prop where
  le : p.rd ≤ a.rd
  sd : Sd c k r.1
  rd : r.1.rd = a.rd
  gt : r.1.gt = gotL a.gt p
  td : r.1.td = a.td
  snd : r.2.sd = false
  dn : Full c r.1 → DoneB c r.1
  df : r.1.dn = true → Full c r.1
/-- a proposal was sent -/
structure TkS (c : Cfg) (k : Nat) (a : Ag) (p : Pp) (r : Ag × Tu) : Prop where
  sd : Sd c k r.1
  lt : a.rd < r.1.rd
  gt : r.1.gt = gotL (gotL a.gt p) r.2.pp
  snd : r.2.sd = true
  fr : Fr c k r.2.pp
  prd : r.2.pp.rd = r.1.rd
  may : r.2.pp.mayB = true
  ok : ppOk r.2.pp
  br : r.2.pp.br = r.2.pp
  own : ∀ q ∈ c.CL k, q ∈ r.1.td
  oth : ∀ g ∈ gotL a.gt p, g.sv ≠ c.life k → g.sv ∈ c.SL → ∀ q ∈ g.cs, q ∈ r.1.td
  why : (a.rd < p.rd ∧ r.1.rd = p.rd) ∨ (p.rd ≤ a.rd ∧ r.1.rd = a.rd + 1 ∧ Full c { a with gt := gotL a.gt p } ∧ ¬ Told c { a with gt := gotL a.gt p })
  dn : Full c r.1 → DoneB c r.1
  df : r.1.dn = true → Full c r.1
theorem Full.same {c : Cfg} {a b : Ag} (h : Full c a) (hg : b.gt = a.gt) (hr : b.rd = a.rd) : Full c b := fun s hs => by
  obtain ⟨g, h1, h2, h3, h4⟩ := h s hs
  exact ⟨g, by rw [hg]; exact h1, h2, by rw [hr]; exact h3, h4⟩
theorem Stl.take {c : Cfg} {R : Nat → Int} {M : Int} {A : Nat → Ag} {own : Nat → Pp} {Q : Nat → List Pp} (hc : c.Ok) (h : Stl c R M A own Q) {k : Nat} (hk : k ∈ c.O) {p : Pp} {rest : List Pp} (hq : Q k = p :: rest) (hsm : ∀ x ∈ (A k).cl, x.cid < um) (hM : M + 2 < um) :
    TkN c k (A k) p (takeP (A k) p) ∨ TkS c k (A k) p (takeP (A k) p) := by
  obtain ⟨s, hs, hsk, hf, h1, h2, h3, h4, h5, h6⟩ := h.qs k hk p (by rw [hq]; exact List.mem_cons_self)
  have hru := h.ru k hk
  have hrs := h.ru s hs
  obtain ⟨hb, ho⟩ := take_out hc hk hs hsk (h.sd k hk) ⟨_, h.og k hk, h.fr k hk⟩ hf h1 h2 h3 (fun g hg e => by
      have := h.gi k hk g hg s hs (e.trans (congrArg Prod.fst hf.sv))
      have e2 : p.i = c.inc s := congrArg Prod.snd hf.sv
      omega) (fun g hg e => h.qg k hk g hg p (by rw [hq]; exact List.mem_cons_self) e) hsm (by omega) (by omega)
  cases ho with
  | still q1 q2 q3 =>
    left
    rw [q3]
    have hnd : (A k).dn = true → False := fun e => by
      obtain ⟨g, g1, g2, g3, _⟩ := h.df k hk e s hs
      have := h.qg k hk g g1 p (by rw [hq]; exact List.mem_cons_self) (g2.trans hf.sv.symm)
      omega
    refine ⟨q1, hb, rfl, rfl, rfl, rfl, fun hfu => ?_, fun e => (hnd e).elim⟩
    rcases q2 with e | e
    · exact (hnd e).elim
    · exact (e hfu).elim
  | done q1 q2 q3 => exact .inl ⟨q1, q3.sd, q3.rd, q3.gt, q3.td, q3.snd, fun _ => q3.dn, fun _ => q2.same q3.gt q3.rd⟩
  | more q1 q2 q3 q4 q5 q6 => exact .inr ⟨q5.sd, by rw [q5.rd]; omega, q5.gt, q5.snd, q5.fr, by rw [q5.prd, q5.rd], q5.may, q5.ok, q5.br, q5.own, q5.oth, .inr ⟨q1, q5.rd, q3, q4⟩, fun e => (q6 e).elim, fun e => by rw [q5.dn] at e; cases e⟩
  | up q1 q2 =>
    right
    cases q2 with
    | still q5 q6 => exact ⟨q5.sd, by rw [q5.rd]; exact q1, q5.gt, q5.snd, q5.fr, by rw [q5.prd, q5.rd], q5.may, q5.ok, q5.br, q5.own, q5.oth, .inl ⟨q1, q5.rd⟩, fun e => (q6 e).elim, fun e => by rw [q5.dn] at e; cases e⟩
    | done r0 q5 q6 q7 =>
      refine ⟨q7.sd, by rw [q7.rd, q5.rd]; exact q1, ?_, q7.snd.trans q5.snd, ?_, ?_, ?_, ?_, ?_, ?_, ?_, .inl ⟨q1, by rw [q7.rd, q5.rd]⟩, fun _ => q7.dn, fun _ => q6.same q7.gt q7.rd⟩
      · rw [q7.gt, q7.pp]; exact q5.gt
      · rw [q7.pp]; exact q5.fr
      · rw [q7.pp, q7.rd, q5.prd, q5.rd]
      · rw [q7.pp]; exact q5.may
      · rw [q7.pp]; exact q5.ok
      · rw [q7.pp]; exact q5.br
      · rw [q7.td]; exact q5.own
      · rw [q7.td]; exact q5.oth
section
variable {c : Cfg} {R : Nat → Int} {M : Int} {A A' : Nat → Ag} {own own' : Nat → Pp} {Q Q' : Nat → List Pp} {k : Nat} {p : Pp} {rest : List Pp} {r : Ag × Tu}
theorem Stl.takeN (h : Stl c R M A own Q) (hk : k ∈ c.O) (hq : Q k = p :: rest) (ht : TkN c k (A k) p r) (a1 : A' k = r.1) (a2 : ∀ j, j ≠ k → A' j = A j) (q1 : Q' k = rest) (q2 : ∀ j ∈ c.O, j ≠ k → Q' j = Q j) : Stl c R M A' own Q' := by
  obtain ⟨s, hs, hsk, hf, f1, f2, f3, f4, f5, f6⟩ := h.qs k hk p (by rw [hq]; exact List.mem_cons_self)
  have hpn : p.n = (s : Int) + 1 := congrArg Prod.fst hf.sv
  have hrd : ∀ j, (A' j).rd = (A j).rd := fun j => by
    by_cases e : j = k
    · subst e; rw [a1, ht.rd]
    · rw [a2 j e]
  have hsn : ∀ (j : Nat) (g : Pp), g.sv = c.life j → g.n = (j : Int) + 1 := fun j g e => congrArg Prod.fst e
  -- what was got stays, or p stands for it
  have hold : ∀ (j : Nat) (g : Pp), g ∈ (A k).gt → g.sv = c.life j → j ≠ s → g ∈ r.1.gt := fun j g hg e hj => by
    rw [ht.gt]
    refine gotL_mem.2 (.inr ⟨hg, ?_⟩)
    rw [hsn j g e, hpn]
    omega
  have hp : p ∈ r.1.gt := by rw [ht.gt]; exact gotL_mem.2 (.inl rfl)
  have hgot : ∀ g ∈ r.1.gt, g = p ∨ g ∈ (A k).gt := fun g hg => by
    rw [ht.gt] at hg
    rcases gotL_mem.1 hg with e | e
    · exact .inl e
    · exact .inr e.1
  have hqm : ∀ e ∈ rest, e ∈ Q k := fun e he => by rw [hq]; exact List.mem_cons_of_mem _ he
  have hpq : p ∈ Q k := by rw [hq]; exact List.mem_cons_self
  have hqq := h.qq k hk
  rw [hq, List.pairwise_cons] at hqq
  constructor
  case sd =>
    exact fun j hj => by
      by_cases e : j = k
      · subst e; rw [a1]; exact ht.sd
      · rw [a2 j e]; exact h.sd j hj
  case og =>
    exact fun j hj => by
      by_cases e : j = k
      · subst e; rw [a1]; exact hold j _ (h.og j hj) (h.fr j hj).sv (Ne.symm hsk)
      · rw [a2 j e]; exact h.og j hj
  case fr => exact h.fr
  case rk =>
    exact fun j hj => by rw [hrd]; exact h.rk j hj
  case ru =>
    exact fun j hj => by rw [hrd]; exact h.ru j hj
  case rs =>
    exact fun j hj => by rw [hrd]; exact h.rs j hj
  case rm => exact h.rm
  case mx => exact h.mx
  case gt =>
    exact fun j hj g hg t ht' hne e => by
      by_cases ej : j = k
      · subst ej
        rw [a1] at hg
        rw [hrd]
        rcases hgot g hg with rfl | hg
        · obtain rfl := Cfg.life_inj (hf.sv.symm.trans e)
          exact .inl ⟨hf, f4, ht.le⟩
        · exact h.gt j hj g hg t ht' hne e
      · rw [a2 j ej] at hg
        rw [hrd]
        exact h.gt j hj g hg t ht' hne e
  case gr =>
    exact fun j hj g hg t ht' hne e => by
      rw [hrd]
      by_cases ej : j = k
      · subst ej
        rw [a1] at hg
        rcases hgot g hg with rfl | hg
        · obtain rfl := Cfg.life_inj (hf.sv.symm.trans e)
          exact f5
        · exact h.gr j hj g hg t ht' hne e
      · rw [a2 j ej] at hg
        exact h.gr j hj g hg t ht' hne e
  case gi =>
    exact fun j hj g hg t ht' e => by
      by_cases ej : j = k
      · subst ej
        rw [a1] at hg
        rcases hgot g hg with rfl | hg
        · have : t = s := by omega
          subst this
          exact Int.le_of_eq (congrArg Prod.snd hf.sv)
        · exact h.gi j hj g hg t ht' e
      · rw [a2 j ej] at hg
        exact h.gi j hj g hg t ht' e
  case qs =>
    exact fun j hj e he => by
      have he' : e ∈ Q j := by
        by_cases ej : j = k
        · subst ej; rw [q1] at he; exact hqm e he
        · rw [q2 j hj ej] at he; exact he
      obtain ⟨t, g1, g2, g3, g4, g5, g6, g7, g8, g9⟩ := h.qs j hj e he'
      exact ⟨t, g1, g2, g3, g4, g5, g6, g7, by rw [hrd]; exact g8, g9⟩
  case qg =>
    exact fun j hj g hg e he ee => by
      by_cases ej : j = k
      · subst ej
        rw [a1] at hg
        rw [q1] at he
        rcases hgot g hg with rfl | hg
        · exact hqq.1 e he ee
        · exact h.qg j hj g hg e (hqm e he) ee
      · rw [a2 j ej] at hg
        rw [q2 j hj ej] at he
        exact h.qg j hj g hg e he ee
  case qq =>
    exact fun j hj => by
      by_cases ej : j = k
      · subst ej; rw [q1]; exact hqq.2
      · rw [q2 j hj ej]; exact h.qq j hj
  case la =>
    exact fun j hj t ht' hne => by
      by_cases ej : j = k
      · subst ej
        rw [a1, q1]
        rcases h.la j hj t ht' hne with e | e
        · left
          by_cases ets : t = s
          · subst ets
            have := h.qg j hj _ e p hpq ((h.fr t ht').sv.trans hf.sv.symm)
            rw [h.own_rd ht'] at this
            omega
          · exact hold t _ e (h.fr t ht').sv ets
        · rw [hq] at e
          rcases List.mem_cons.1 e with e | e
          · left; rw [e]; exact hp
          · exact .inr e
      · rw [a2 j ej, q2 j hj ej]
        exact h.la j hj t ht' hne
  case up =>
    exact fun t ht' e j hj => by
      rw [hrd] at e ⊢
      exact h.up t ht' e j hj
  case bh =>
    exact fun j hj l1 x l2 e ex t ht' hne => by
      by_cases ej : j = k
      · subst ej
        rw [a1]
        rw [q1] at e
        rcases h.bh j hj (p :: l1) x l2 (by rw [hq, e]; rfl) ex t ht' hne with ⟨g, g1, g2, g3⟩ | ⟨y, y1, y2, y3⟩
        · left
          by_cases ets : t = s
          · subst ets
            have := h.qg j hj g g1 p hpq (g2.trans hf.sv.symm)
            exact ⟨p, hp, hf.sv, by omega⟩
          · exact ⟨g, hold t g g1 g2 ets, g2, g3⟩
        · rcases List.mem_cons.1 y1 with rfl | y1
          · exact .inl ⟨y, hp, y2, y3⟩
          · exact .inr ⟨y, y1, y2, y3⟩
      · rw [a2 j ej]
        rw [q2 j hj ej] at e
        exact h.bh j hj l1 x l2 e ex t ht' hne
  case td =>
    exact fun j hj e t ht' q hq' => by
      rw [hrd] at e
      by_cases ej : j = k
      · subst ej
        rw [a1, ht.td]
        exact h.td j hj e t ht' q hq'
      · rw [a2 j ej]
        exact h.td j hj e t ht' q hq'
  case dn =>
    exact fun j hj hfu => by
      by_cases ej : j = k
      · subst ej; rw [a1] at hfu ⊢; exact ht.dn hfu
      · rw [a2 j ej] at hfu ⊢; exact h.dn j hj hfu
  case df =>
    exact fun j hj e => by
      by_cases ej : j = k
      · subst ej; rw [a1] at e ⊢; exact ht.df e
      · rw [a2 j ej] at e ⊢; exact h.df j hj e
/-- whoever may go on has the greatest round of the renewals -/
theorem Stl.most (h : Stl c R M A own Q) (hk : k ∈ c.O) (hpq : p ∈ Q k) (hfu : Full c { A k with gt := gotL (A k).gt p }) : M ≤ (A k).rd ∧ ∀ s ∈ c.O, s ≠ k → ∃ g ∈ gotL (A k).gt p, Fr c s g ∧ g.rd = (A k).rd ∧ g.rd ≤ (A s).rd := by
  obtain ⟨s0, hs0, hsk0, hf0, f1, f2, f3, f4, f5, f6⟩ := h.qs k hk p hpq
  have key : ∀ s ∈ c.O, s ≠ k → ∃ g ∈ gotL (A k).gt p, Fr c s g ∧ g.rd = (A k).rd ∧ g.rd ≤ (A s).rd ∧ R s ≤ g.rd := fun s hs hne => by
    obtain ⟨g, g1, g2, g3, g4⟩ := hfu s hs
    refine ⟨g, g1, ?_⟩
    rcases gotL_mem.1 g1 with rfl | ⟨g1, _⟩
    · obtain rfl := Cfg.life_inj (hf0.sv.symm.trans g2)
      exact ⟨hf0, g3, f5, f4⟩
    · rcases h.gt k hk g g1 s hs hne g2 with ⟨e1, e2, e3⟩ | e
      · exact ⟨e1, g3, h.gr k hk g g1 s hs hne g2, e2⟩
      · have := h.rk k hk
        have g3 : g.rd = (A k).rd := g3
        omega
  refine ⟨?_, fun s hs hne => by obtain ⟨g, g1, g2, g3, g4, _⟩ := key s hs hne; exact ⟨g, g1, g2, g3, g4⟩⟩
  obtain ⟨m, hm, e⟩ := h.mx
  by_cases em : m = k
  · subst em; rw [← e]; exact h.rk m hm
  · obtain ⟨g, g1, g2, g3, g4, g5⟩ := key m hm em
    omega
theorem Stl.takeS (hc : c.Ok) (h : Stl c R M A own Q) (hk : k ∈ c.O) (hq : Q k = p :: rest) (ht : TkS c k (A k) p r) (a1 : A' k = r.1) (a2 : ∀ j, j ≠ k → A' j = A j) (o1 : own' k = r.2.pp) (o2 : ∀ j, j ≠ k → own' j = own j) (q1 : Q' k = rest) (q2 : ∀ j ∈ c.O, j ≠ k → Q' j = Q j ++ [r.2.pp]) : Stl c R M A' own' Q' := by
  obtain ⟨s, hs, hsk, hf, f1, f2, f3, f4, f5, f6⟩ := h.qs k hk p (by rw [hq]; exact List.mem_cons_self)
  have hpn : p.n = (s : Int) + 1 := congrArg Prod.fst hf.sv
  have hmn : r.2.pp.n = (k : Int) + 1 := congrArg Prod.fst ht.fr.sv
  have hsn : ∀ (j : Nat) (g : Pp), g.sv = c.life j → g.n = (j : Int) + 1 := fun j g e => congrArg Prod.fst e
  have hge : ∀ j, (A j).rd ≤ (A' j).rd := fun j => by
    by_cases e : j = k
    · subst e; rw [a1]; exact Int.le_of_lt ht.lt
    · rw [a2 j e]; exact Int.le_refl _
  have hpq : p ∈ Q k := by rw [hq]; exact List.mem_cons_self
  have hold : ∀ (j : Nat) (g : Pp), g ∈ (A k).gt → g.sv = c.life j → j ≠ s → j ≠ k → g ∈ r.1.gt := fun j g hg e hj hjk => by
    rw [ht.gt]
    have := hsn j g e
    exact gotL_mem.2 (.inr ⟨gotL_mem.2 (.inr ⟨hg, by omega⟩), by omega⟩)
  have hp : p ∈ r.1.gt := by rw [ht.gt]; exact gotL_mem.2 (.inr ⟨gotL_mem.2 (.inl rfl), by omega⟩)
  have hmy : r.2.pp ∈ r.1.gt := by rw [ht.gt]; exact gotL_mem.2 (.inl rfl)
  have hgot : ∀ g ∈ r.1.gt, g = r.2.pp ∨ g = p ∨ g ∈ (A k).gt := fun g hg => by
    rw [ht.gt] at hg
    rcases gotL_mem.1 hg with e | ⟨e, _⟩
    · exact .inl e
    · rcases gotL_mem.1 e with e | e
      · exact .inr (.inl e)
      · exact .inr (.inr e.1)
  have hqm : ∀ e ∈ rest, e ∈ Q k := fun e he => by rw [hq]; exact List.mem_cons_of_mem _ he
  have hqq := h.qq k hk
  rw [hq, List.pairwise_cons] at hqq
  have hru := h.ru k hk
  have hrus := h.ru s hs
  -- who sends the last round has all of the one before
  have hwhy : (r.1.rd = p.rd) ∨ (r.1.rd = M + 1 ∧ (A k).rd = M ∧ ∀ t ∈ c.O, t ≠ k → ∃ g ∈ gotL (A k).gt p, Fr c t g ∧ g.rd = (A k).rd ∧ g.rd ≤ (A t).rd) := by
    rcases ht.why with ⟨_, e⟩ | ⟨e1, e2, e3, e4⟩
    · exact .inl e
    · right
      obtain ⟨m1, m2⟩ := h.most hk hpq e3
      have m3 : (A k).rd = M := by
        by_cases em : (A k).rd = M + 1
        · exfalso
          apply e4
          intro t ht' g hg eg1 eg2 q hq'
          have hcs : g.cs = c.CL t := by
            by_cases et : t = k
            · subst et
              have hg' : g ∈ (A t).gt := by
                rcases gotL_mem.1 hg with rfl | ⟨hg, _⟩
                · have := hsn t g eg1; omega
                · exact hg
              have := got_uniq (h.sd t hk).inv.ri hg' (h.og t hk) (congrArg Prod.fst (eg1.trans (h.fr t hk).sv.symm))
              rw [this]; exact (h.fr t hk).cs
            · obtain ⟨g', g1, g2, _, _⟩ := m2 t ht' et
              have hri := gotL_ri (h.sd k hk).inv.ri p
              have := got_uniq hri hg g1 (congrArg Prod.fst (eg1.trans g2.sv.symm))
              rw [this]; exact g2.cs
          rw [hcs] at hq'
          exact h.td k hk em t ht' q hq'
        · omega
      exact ⟨by omega, m3, m2⟩
  have hn : r.1.rd ≤ M + 1 ∧ r.1.rd ∈ RSet c R M := by
    rcases hwhy with e | ⟨e, _, _⟩
    · rw [e]; exact ⟨by omega, f6⟩
    · rw [e]; exact ⟨Int.le_refl _, List.mem_append_right _ (List.mem_singleton.2 rfl)⟩
  -- where the last round is sent all have come to the one before
  have hall : r.1.rd = M + 1 → ∀ j ∈ c.O, M ≤ (A j).rd := fun e j hj => by
    rcases hwhy with e2 | ⟨_, e3, e4⟩
    · exact h.up s hs (by omega) j hj
    · by_cases ej : j = k
      · subst ej; omega
      · obtain ⟨g, g1, g2, g3, g4⟩ := e4 j hj ej
        omega
  constructor
  case sd =>
    exact fun j hj => by
      by_cases e : j = k
      · subst e; rw [a1]; exact ht.sd
      · rw [a2 j e]; exact h.sd j hj
  case og =>
    exact fun j hj => by
      by_cases e : j = k
      · subst e; rw [a1, o1]; exact hmy
      · rw [a2 j e, o2 j e]; exact h.og j hj
  case fr =>
    exact fun j hj => by
      by_cases e : j = k
      · subst e; rw [o1]; exact ht.fr
      · rw [o2 j e]; exact h.fr j hj
  case rk =>
    exact fun j hj => Int.le_trans (h.rk j hj) (hge j)
  case ru =>
    exact fun j hj => by
      by_cases e : j = k
      · subst e; rw [a1]; exact hn.1
      · rw [a2 j e]; exact h.ru j hj
  case rs =>
    exact fun j hj => by
      by_cases e : j = k
      · subst e; rw [a1]; exact hn.2
      · rw [a2 j e]; exact h.rs j hj
  case rm => exact h.rm
  case mx => exact h.mx
  case gt =>
    exact fun j hj g hg t ht' hne e => by
      by_cases ej : j = k
      · subst ej
        rw [a1] at hg ⊢
        rcases hgot g hg with rfl | rfl | hg
        · exact absurd (Cfg.life_inj (e.symm.trans ht.fr.sv)) hne
        · obtain rfl := Cfg.life_inj (hf.sv.symm.trans e)
          refine .inl ⟨hf, f4, ?_⟩
          rcases ht.why with ⟨_, e⟩ | ⟨e1, e2, _⟩
          · omega
          · omega
        · rcases h.gt j hj g hg t ht' hne e with ⟨e1, e2, e3⟩ | e1
          · exact .inl ⟨e1, e2, by have := ht.lt; omega⟩
          · exact .inr e1
      · rw [a2 j ej] at hg ⊢
        exact h.gt j hj g hg t ht' hne e
  case gr =>
    exact fun j hj g hg t ht' hne e => by
      by_cases ej : j = k
      · subst ej
        rw [a1] at hg
        rcases hgot g hg with rfl | rfl | hg
        · exact absurd (Cfg.life_inj (e.symm.trans ht.fr.sv)) hne
        · obtain rfl := Cfg.life_inj (hf.sv.symm.trans e)
          exact Int.le_trans f5 (hge _)
        · exact Int.le_trans (h.gr j hj g hg t ht' hne e) (hge t)
      · rw [a2 j ej] at hg
        exact Int.le_trans (h.gr j hj g hg t ht' hne e) (hge t)
  case gi =>
    exact fun j hj g hg t ht' e => by
      by_cases ej : j = k
      · subst ej
        rw [a1] at hg
        rcases hgot g hg with rfl | rfl | hg
        · have : t = j := by omega
          subst this
          exact Int.le_of_eq (congrArg Prod.snd ht.fr.sv)
        · have : t = s := by omega
          subst this
          exact Int.le_of_eq (congrArg Prod.snd hf.sv)
        · exact h.gi j hj g hg t ht' e
      · rw [a2 j ej] at hg
        exact h.gi j hj g hg t ht' e
  case qs =>
    exact fun j hj e he => by
      have old : e ∈ Q j → ∃ s ∈ c.O, s ≠ j ∧ Fr c s e ∧ e.mayB = true ∧ ppOk e ∧ e.br = e ∧ R s ≤ e.rd ∧ e.rd ≤ (A' s).rd ∧ e.rd ∈ RSet c R M := fun he => by
        obtain ⟨t, g1, g2, g3, g4, g5, g6, g7, g8, g9⟩ := h.qs j hj e he
        exact (⟨t, g1, g2, g3, g4, g5, g6, g7, Int.le_trans g8 (hge t), g9⟩ : ∃ s ∈ c.O, s ≠ j ∧ Fr c s e ∧ e.mayB = true ∧ ppOk e ∧ e.br = e ∧ R s ≤ e.rd ∧ e.rd ≤ (A' s).rd ∧ e.rd ∈ RSet c R M)
      by_cases ej : j = k
      · subst ej; rw [q1] at he; exact old (hqm e he)
      · rw [q2 j hj ej] at he
        rcases List.mem_append.1 he with he | he
        · exact old he
        · rw [List.mem_singleton.1 he]
          exact ⟨k, hk, Ne.symm ej, ht.fr, ht.may, ht.ok, ht.br, by rw [ht.prd]; have := h.rk k hk; have := ht.lt; omega, by rw [ht.prd, a1]; exact Int.le_refl _, by rw [ht.prd]; exact hn.2⟩
  case qg =>
    exact fun j hj g hg e he ee => by
      by_cases ej : j = k
      · subst ej
        rw [a1] at hg
        rw [q1] at he
        rcases hgot g hg with rfl | rfl | hg
        · obtain ⟨t, g1, g2, g3, _⟩ := h.qs j hj e (hqm e he)
          exact absurd (Cfg.life_inj (g3.sv.symm.trans (ee.symm.trans ht.fr.sv))) g2
        · exact hqq.1 e he ee
        · exact h.qg j hj g hg e (hqm e he) ee
      · rw [a2 j ej] at hg
        rw [q2 j hj ej] at he
        rcases List.mem_append.1 he with he | he
        · exact h.qg j hj g hg e he ee
        · rw [List.mem_singleton.1 he] at ee ⊢
          have := h.gr j hj g hg k hk (Ne.symm ej) (ee.trans ht.fr.sv)
          have := ht.lt
          rw [ht.prd]
          omega
  case qq =>
    exact fun j hj => by
      by_cases ej : j = k
      · subst ej; rw [q1]; exact hqq.2
      · rw [q2 j hj ej, List.pairwise_append]
        refine ⟨h.qq j hj, List.pairwise_singleton _ _, fun x hx y hy e => ?_⟩
        rw [List.mem_singleton.1 hy] at e ⊢
        obtain ⟨t, g1, g2, g3, g4, g5, g6, g7, g8, g9⟩ := h.qs j hj x hx
        obtain rfl := Cfg.life_inj (g3.sv.symm.trans (e.trans ht.fr.sv))
        have := ht.lt
        rw [ht.prd]
        omega
  case la =>
    exact fun j hj t ht' hne => by
      by_cases ej : j = k
      · subst ej
        rw [a1, q1, o2 t hne]
        rcases h.la j hj t ht' hne with e | e
        · left
          by_cases ets : t = s
          · subst ets
            have := h.qg j hj _ e p hpq ((h.fr t ht').sv.trans hf.sv.symm)
            rw [h.own_rd ht'] at this
            omega
          · exact hold t _ e (h.fr t ht').sv ets hne
        · rw [hq] at e
          rcases List.mem_cons.1 e with e | e
          · left; rw [e]; exact hp
          · exact .inr e
      · rw [a2 j ej, q2 j hj ej]
        by_cases et : t = k
        · subst et; rw [o1]; exact .inr (List.mem_append_right _ (List.mem_singleton.2 rfl))
        · rw [o2 t et]
          rcases h.la j hj t ht' hne with e | e
          · exact .inl e
          · exact .inr (List.mem_append_left _ e)
  case up =>
    exact fun t ht' e j hj => by
      by_cases et : t = k
      · subst et
        rw [a1] at e
        exact Int.le_trans (hall e j hj) (hge j)
      · rw [a2 t et] at e
        exact Int.le_trans (h.up t ht' e j hj) (hge j)
  case bh =>
    exact fun j hj l1 x l2 e ex t ht' hne => by
      by_cases ej : j = k
      · subst ej
        rw [a1]
        rw [q1] at e
        rcases h.bh j hj (p :: l1) x l2 (by rw [hq, e]; rfl) ex t ht' hne with ⟨g, g1, g2, g3⟩ | ⟨y, y1, y2, y3⟩
        · left
          by_cases ets : t = s
          · subst ets
            have := h.qg j hj g g1 p hpq (g2.trans hf.sv.symm)
            exact ⟨p, hp, hf.sv, by omega⟩
          · exact ⟨g, hold t g g1 g2 ets hne, g2, g3⟩
        · rcases List.mem_cons.1 y1 with rfl | y1
          · exact .inl ⟨y, hp, y2, y3⟩
          · exact .inr ⟨y, y1, y2, y3⟩
      · rw [a2 j ej]
        rw [q2 j hj ej] at e
        rcases List.append_eq_append_iff.1 e with ⟨z, e1, e2⟩ | ⟨z, e1, e2⟩
        · -- x is the new one
          cases z with
          | nil =>
            simp only [List.nil_append, List.cons.injEq] at e2
            rw [List.append_nil] at e1
            have hx : r.1.rd = M + 1 := by rw [← ht.prd, e2.1]; exact ex
            have h2 := hall hx t ht'
            rw [← h.own_rd ht'] at h2
            rcases h.la j hj t ht' hne with e3 | e3
            · exact .inl ⟨own t, e3, (h.fr t ht').sv, h2⟩
            · exact .inr ⟨own t, by rw [e1]; exact e3, (h.fr t ht').sv, h2⟩
          | cons y z =>
            simp only [List.cons_append, List.cons.injEq] at e2
            exact absurd e2.2.symm (by simp)
        · cases z with
          | nil =>
            simp only [List.nil_append, List.cons.injEq] at e2
            rw [List.append_nil] at e1
            have hx : r.1.rd = M + 1 := by rw [← ht.prd, ← e2.1]; exact ex
            have h2 := hall hx t ht'
            rw [← h.own_rd ht'] at h2
            rcases h.la j hj t ht' hne with e3 | e3
            · exact .inl ⟨own t, e3, (h.fr t ht').sv, h2⟩
            · exact .inr ⟨own t, by rw [← e1]; exact e3, (h.fr t ht').sv, h2⟩
          | cons y z =>
            simp only [List.cons_append, List.cons.injEq] at e2
            obtain ⟨e3, e4⟩ := e2
            subst e3
            exact h.bh j hj l1 x z e1 ex t ht' hne
  case td =>
    exact fun j hj e t ht' q hq' => by
      by_cases ej : j = k
      · subst ej
        rw [a1] at e ⊢
        by_cases et : t = j
        · subst et; exact ht.own q hq'
        · have hin : c.life t ∈ c.SL := Cfg.mem_SL.2 ⟨t, ht', rfl⟩
          have hlk : c.life t ≠ c.life j := fun e => et (Cfg.life_inj e)
          have fin : ∀ g ∈ gotL (A j).gt p, Fr c t g → q ∈ r.1.td := fun g hg hfg => ht.oth g hg (by rw [hfg.sv]; exact hlk) (by rw [hfg.sv]; exact hin) q (by rw [hfg.cs]; exact hq')
          rcases hwhy with e2 | ⟨_, _, e4⟩
          · by_cases ets : t = s
            · subst ets
              exact fin p (gotL_mem.2 (.inl rfl)) hf
            · rcases h.bh j hj [] p rest hq (by omega) t ht' et with ⟨g, g1, g2, g3⟩ | ⟨y, y1, _⟩
              · have := hsn t g g2
                refine fin g (gotL_mem.2 (.inr ⟨g1, by omega⟩)) ?_
                rcases h.gt j hj g g1 t ht' et g2 with ⟨e5, _⟩ | e5
                · exact e5
                · have := h.rm j hj; omega
              · cases y1
          · obtain ⟨g, g1, g2, _⟩ := e4 t ht' et
            exact fin g g1 g2
      · rw [a2 j ej] at e ⊢
        exact h.td j hj e t ht' q hq'
  case dn =>
    exact fun j hj hfu => by
      by_cases ej : j = k
      · subst ej; rw [a1] at hfu ⊢; exact ht.dn hfu
      · rw [a2 j ej] at hfu ⊢; exact h.dn j hj hfu
  case df =>
    exact fun j hj e => by
      by_cases ej : j = k
      · subst ej; rw [a1] at e ⊢; exact ht.df e
      · rw [a2 j ej] at e ⊢; exact h.df j hj e
end
end Go.Proofs.YtkglclekieckoaaGreat

namespace Go.Proofs.YtkglclekieckoaaGreat
set_option linter.unusedSimpArgs false
set_option linter.unusedVariables false
set_option linter.unusedSectionVars false
open Go.RowKit

/-! ### it ends -/
/-- how many greater rounds there are -/
def phiR (RS : List Int) (a : Ag) : Nat := (RS.filter fun r => decide (a.rd < r)).length
def potR (c : Cfg) (RS : List Int) (A : Nat → Ag) (Q : Nat → List Pp) : Nat := (c.O.map fun k => (Q k).length + 4 * phiR RS (A k)).sum
theorem phi_same (RS : List Int) {a b : Ag} (h : b.rd = a.rd) : phiR RS b = phiR RS a := by unfold phiR; rw [h]
theorem filter_lt {RS : List Int} {x y : Int} (h : x < y) (hm : y ∈ RS) : (RS.filter fun r => decide (y < r)).length < (RS.filter fun r => decide (x < r)).length := by
  induction RS with
  | nil => cases hm
  | cons z RS ih =>
    have hle : (RS.filter fun r => decide (y < r)).length ≤ (RS.filter fun r => decide (x < r)).length := by
      clear ih hm
      induction RS with
      | nil => exact Nat.le_refl _
      | cons w RS ih2 =>
        rw [List.filter_cons, List.filter_cons]
        by_cases h1 : y < w
        · rw [if_pos (by simpa using h1), if_pos (decide_eq_true (show x < w by omega))]
          simp only [List.length_cons]; omega
        · rw [if_neg (by simpa using h1)]
          split
          · simp only [List.length_cons]; omega
          · exact ih2
    rw [List.filter_cons, List.filter_cons]
    rcases List.mem_cons.1 hm with rfl | hm
    · rw [if_neg (by simp), if_pos (by simpa using h)]
      simp only [List.length_cons]; omega
    · have := ih hm
      by_cases h1 : y < z
      · rw [if_pos (by simpa using h1), if_pos (decide_eq_true (show x < z by omega))]
        simp only [List.length_cons]; omega
      · rw [if_neg (by simpa using h1)]
        split
        · simp only [List.length_cons]; omega
        · exact this
theorem sum_grow {f g : Nat → Nat} : ∀ (l : List Nat), (∀ j ∈ l, g j ≤ f j + 1) → (l.map g).sum ≤ (l.map f).sum + l.length
  | [], _ => by simp
  | x :: l, h => by
    have h1 := h x List.mem_cons_self
    have h2 := sum_grow l (fun j hj => h j (List.mem_cons_of_mem _ hj))
    simp only [List.map_cons, List.sum_cons, List.length_cons]
    omega
theorem sum_drop {f g : Nat → Nat} {k d : Nat} : ∀ (l : List Nat), l.Nodup → k ∈ l → (∀ j ∈ l, j ≠ k → g j ≤ f j + 1) → g k + d ≤ f k → (l.map g).sum + d + 1 ≤ (l.map f).sum + l.length
  | [], _, hk, _, _ => by cases hk
  | x :: l, hn, hk, h, hd => by
    rw [List.nodup_cons] at hn
    simp only [List.map_cons, List.sum_cons, List.length_cons]
    rcases List.mem_cons.1 hk with rfl | hk
    · have := sum_grow (f := f) (g := g) l (fun j hj => h j (List.mem_cons_of_mem _ hj) (fun e => hn.1 (by rw [← e]; exact hj)))
      omega
    · have h1 := h x List.mem_cons_self (fun e => hn.1 (by rw [e]; exact hk))
      have h2 := sum_drop l hn.2 hk (fun j hj => h j (List.mem_cons_of_mem _ hj)) hd
      omega
theorem sum_same {f g : Nat → Nat} {k d : Nat} : ∀ (l : List Nat), l.Nodup → k ∈ l → (∀ j ∈ l, j ≠ k → g j = f j) → g k + d ≤ f k → (l.map g).sum + d ≤ (l.map f).sum
  | [], _, hk, _, _ => by cases hk
  | x :: l, hn, hk, h, hd => by
    rw [List.nodup_cons] at hn
    simp only [List.map_cons, List.sum_cons]
    rcases List.mem_cons.1 hk with rfl | hk
    · have : l.map g = l.map f := List.map_congr_left (fun j hj => h j (List.mem_cons_of_mem _ hj) (fun e => hn.1 (by rw [← e]; exact hj)))
      rw [this]
      omega
    · have h1 := h x List.mem_cons_self (fun e => hn.1 (by rw [e]; exact hk))
      have h2 := sum_same l hn.2 hk (fun j hj => h j (List.mem_cons_of_mem _ hj)) hd
      omega
theorem Cfg.Ok.nd {c : Cfg} (hc : c.Ok) : c.O.Nodup := hc.o.imp fun {a b} h => by omega
theorem Cfg.Ok.len {c : Cfg} (hc : c.Ok) : c.O.length ≤ 4 := by
  have := rise_le (c.O.map Int.ofNat) 0 4 (by rw [List.pairwise_map]; exact hc.o.imp fun {a b} h => by show (a : Int) < b; omega) (fun x hx => by
    obtain ⟨k, hk, rfl⟩ := List.mem_map.1 hx
    have := hc.lt k hk
    show (0 : Int) ≤ (k : Int) ∧ (k : Int) < 0 + (4 : Nat)
    omega)
  rwa [List.length_map] at this
section
variable {c : Cfg} {R : Nat → Int} {M : Int} {A A' : Nat → Ag} {own own' : Nat → Pp} {Q Q' : Nat → List Pp} {k : Nat} {p : Pp} {rest : List Pp} {r : Ag × Tu}
theorem potN (hc : c.Ok) (hk : k ∈ c.O) (hq : Q k = p :: rest) (ht : TkN c k (A k) p r) (a1 : A' k = r.1) (a2 : ∀ j, j ≠ k → A' j = A j) (q1 : Q' k = rest) (q2 : ∀ j ∈ c.O, j ≠ k → Q' j = Q j) (RS : List Int) : potR c RS A' Q' + 1 ≤ potR c RS A Q := by
  unfold potR
  refine sum_same c.O hc.nd hk (fun j hj e => ?_) ?_
  · show (Q' j).length + 4 * phiR RS (A' j) = (Q j).length + 4 * phiR RS (A j)
    rw [q2 j hj e, a2 j e]
  · show (Q' k).length + 4 * phiR RS (A' k) + 1 ≤ (Q k).length + 4 * phiR RS (A k)
    rw [q1, hq, a1, phi_same RS ht.rd, List.length_cons]
    omega
theorem potS (hc : c.Ok) (hk : k ∈ c.O) (hq : Q k = p :: rest) (ht : TkS c k (A k) p r) (a1 : A' k = r.1) (a2 : ∀ j, j ≠ k → A' j = A j) (q1 : Q' k = rest) (q2 : ∀ j ∈ c.O, j ≠ k → Q' j = Q j ++ [r.2.pp]) {RS : List Int} (hm : r.1.rd ∈ RS) : potR c RS A' Q' + 1 ≤ potR c RS A Q := by
  have hl := hc.len
  have := sum_drop (f := fun j => (Q j).length + 4 * phiR RS (A j)) (g := fun j => (Q' j).length + 4 * phiR RS (A' j)) (d := 5) c.O hc.nd hk (fun j hj e => by
    show (Q' j).length + 4 * phiR RS (A' j) ≤ (Q j).length + 4 * phiR RS (A j) + 1
    rw [q2 j hj e, a2 j e, List.length_append]
    simp only [List.length_singleton]
    omega) (by
    show (Q' k).length + 4 * phiR RS (A' k) + 5 ≤ (Q k).length + 4 * phiR RS (A k)
    have h1 : phiR RS (A' k) < phiR RS (A k) := by
      unfold phiR
      rw [a1]
      exact filter_lt ht.lt hm
    rw [q1, hq, List.length_cons]
    omega)
  unfold potR
  omega
theorem sum_le_mul {f : Nat → Nat} {b : Nat} : ∀ (l : List Nat), (∀ j ∈ l, f j ≤ b) → (l.map f).sum ≤ b * l.length
  | [], _ => by simp
  | x :: l, h => by
    have h1 := h x List.mem_cons_self
    have h2 := sum_le_mul l (fun j hj => h j (List.mem_cons_of_mem _ hj))
    simp only [List.map_cons, List.sum_cons, List.length_cons, Nat.mul_succ]
    omega
theorem pot_start (hc : c.Ok) (h : ∀ k ∈ c.O, (Q k).length ≤ 4) : potR c (RSet c R M) A Q ≤ 96 := by
  have hl := hc.len
  have h1 : (RSet c R M).length ≤ 5 := by
    unfold RSet
    rw [List.length_append, List.length_map]
    simp only [List.length_singleton]
    omega
  have := sum_le_mul (f := fun k => (Q k).length + 4 * phiR (RSet c R M) (A k)) (b := 24) c.O (fun j hj => by
    have h2 := h j hj
    have h3 : phiR (RSet c R M) (A j) ≤ 5 := Nat.le_trans (List.length_filter_le _ _) h1
    show (Q j).length + 4 * phiR (RSet c R M) (A j) ≤ 24
    omega)
  unfold potR
  omega
end
/-! ### the end -/
/-- where each list's lives are of other nodes than the others' -/
theorem flat_rise {c : Cfg} (hc : c.Ok) (hm : ∀ k ∈ c.O, ∀ p ∈ c.CL k, (p.1 - 5) % 4 = k) : ((c.O.flatMap c.CL).map Prod.fst).Nodup ∧ Cli (c.O.flatMap c.CL) := by
  refine ⟨?_, fun p hp => by
    obtain ⟨k, hk, hp⟩ := List.mem_flatMap.1 hp
    exact hc.cc k hk p hp⟩
  have key : ∀ l : List Nat, (∀ k ∈ l, k ∈ c.O) → l.Nodup → ((l.flatMap c.CL).map Prod.fst).Nodup := by
    intro l
    induction l with
    | nil => intro _ _; exact List.nodup_nil
    | cons x l ih =>
      intro hl hn
      rw [List.nodup_cons] at hn
      rw [List.flatMap_cons, List.map_append]
      have hx := hl x List.mem_cons_self
      refine List.nodup_append.2 ⟨?_, ih (fun k hk => hl k (List.mem_cons_of_mem _ hk)) hn.2, ?_⟩
      · exact (List.pairwise_map.2 ((hc.cl x hx).imp fun {a b} h => by omega) : ((c.CL x).map Prod.fst).Pairwise (· ≠ ·))
      · intro a ha b hb e
        obtain ⟨p, hp, rfl⟩ := List.mem_map.1 ha
        obtain ⟨q, hq, rfl⟩ := List.mem_map.1 hb
        obtain ⟨y, hy, hq⟩ := List.mem_flatMap.1 hq
        have h1 := hm x hx p hp
        have h2 := hm y (hl y (List.mem_cons_of_mem _ hy)) q hq
        have : x = y := by omega
        subst this
        exact hn.1 hy
  exact key c.O (fun _ h => h) hc.nd
theorem Stl.end {c : Cfg} {R : Nat → Int} {M : Int} {A : Nat → Ag} {own : Nat → Pp} {Q : Nat → List Pp} (hc : c.Ok) (hm : ∀ k ∈ c.O, ∀ p ∈ c.CL k, (p.1 - 5) % 4 = k) (h : Stl c R M A own Q) (hq : ∀ k ∈ c.O, Q k = []) :
    ∃ (rd : Int) (v : Vw), ∀ k ∈ c.O, (A k).dn = true ∧ (A k).rd = rd ∧ (c.O.flatMap c.CL ≠ [] → (A k).vw = v ∧ v.r = rd ∧ v.ms = sortedL (c.O.flatMap c.CL)) := by
  obtain ⟨m, hmo, em⟩ := h.mx
  have hgot : ∀ k ∈ c.O, ∀ s ∈ c.O, own s ∈ (A k).gt := fun k hk s hs => by
    by_cases e : s = k
    · subst e; exact h.og s hs
    · rcases h.la k hk s hs e with h1 | h1
      · exact h1
      · rw [hq k hk] at h1; cases h1
  -- all have come to one round
  have hle : ∀ k ∈ c.O, ∀ s ∈ c.O, (A s).rd ≤ (A k).rd := fun k hk s hs => by
    by_cases e : s = k
    · subst e; exact Int.le_refl _
    · rcases h.gt k hk _ (hgot k hk s hs) s hs e (h.fr s hs).sv with ⟨_, _, h3⟩ | h3
      · rw [h.own_rd hs] at h3; exact h3
      · have := h.rk k hk
        rw [h.own_rd hs] at h3
        omega
  have heq : ∀ k ∈ c.O, (A k).rd = (A m).rd := fun k hk => Int.le_antisymm (hle m hmo k hk) (hle k hk m hmo)
  have hfull : ∀ k ∈ c.O, Full c (A k) := fun k hk s hs => ⟨own s, hgot k hk s hs, (h.fr s hs).sv, by rw [h.own_rd hs, heq s hs, heq k hk], (h.fr s hs).ss⟩
  -- what they have is one list
  have hone : ∀ k ∈ c.O, ∀ l, l.map Pp.sv = c.SL → (∀ p ∈ l, p ∈ (A k).gt ∧ p.rd = (A k).rd) → l = c.O.map own := fun k hk l e1 e2 => by
    have hlen : l.length = c.O.length := by
      have := congrArg List.length e1
      unfold Cfg.SL at this
      rwa [List.length_map, List.length_map] at this
    apply List.ext_getElem
    · rw [List.length_map]; exact hlen
    · intro i h1 h2
      rw [List.getElem_map]
      have hi : i < c.O.length := by omega
      have e3 : l[i].sv = c.life c.O[i] := by
        have := congrArg (fun x => x[i]?) e1
        unfold Cfg.SL at this
        simp only [List.getElem?_map, List.getElem?_eq_getElem h1, List.getElem?_eq_getElem hi, Option.map_some, Option.some.injEq] at this
        exact this
      have hs : c.O[i] ∈ c.O := List.getElem_mem hi
      exact got_uniq (h.sd k hk).inv.ri (e2 _ (List.getElem_mem h1)).1 (hgot k hk _ hs) (congrArg Prod.fst (e3.trans (h.fr _ hs).sv.symm))
  have hcls : clsP (c.O.map own) = c.O.flatMap c.CL := by
    unfold clsP
    rw [List.flatMap_map]
    have : ∀ l : List Nat, (∀ k ∈ l, k ∈ c.O) → l.flatMap (fun k => (own k).cs) = l.flatMap c.CL := by
      intro l
      induction l with
      | nil => intro _; rfl
      | cons x l ih =>
        intro hl
        rw [List.flatMap_cons, List.flatMap_cons, ih (fun k hk => hl k (List.mem_cons_of_mem _ hk)), (h.fr x (hl x List.mem_cons_self)).cs]
    exact this c.O (fun _ h => h)
  obtain ⟨n1, n2⟩ := flat_rise hc hm
  have hagree : agreeB (c.O.map own) = true := by
    obtain ⟨l, e1, e2, e3, e4⟩ := Full.props (h.sd m hmo) (hfull m hmo)
    rw [← hone m hmo l e3 e4]
    exact e2
  have hlv : livesB (c.O.flatMap c.CL) = true := by
    unfold livesB
    exact decide_eq_true n1
  have hl6 : (c.O.flatMap c.CL).length ≤ 6 := by
    have hp := sorted_perm (lives_nodup hlv)
    rw [← hp.length_eq]
    have hcs : Cli (sortedL (c.O.flatMap c.CL)) := fun p hp => n2 p (mem_sortedL.1 hp)
    exact cli_len (one_rise (sortedL_ss _) (fun p hp => (hcs p hp).2.2)) hcs
  by_cases hne : c.O.flatMap c.CL = []
  · exact ⟨(A m).rd, vw0, fun k hk => ⟨(h.dn k hk (hfull k hk)).1, heq k hk, fun e => absurd hne e⟩⟩
  · obtain ⟨x, hx⟩ : ∃ x, viewP (c.O.map own) = some x := by
      unfold viewP
      rw [if_neg (by rw [hagree]; simp), if_neg ?_]
      · exact ⟨_, rfl⟩
      · rw [hcls, hlv]
        have : 0 < (c.O.flatMap c.CL).length := List.length_pos_iff.2 hne
        simp only [Bool.true_eq_false, or_false]
        omega
    obtain ⟨⟨rd, vn, vi⟩, ms, us⟩ := x
    obtain ⟨_, _, _, _, v5, _, v7, _⟩ := viewP_some hx
    have hrd : rd = (A m).rd := by
      have := view_may_rd hx (own m) (List.mem_map.2 ⟨m, hmo, rfl⟩)
      rw [h.own_rd hmo] at this
      exact this
    refine ⟨(A m).rd, vwOf ((rd, vn, vi), ms, us), fun k hk => ⟨(h.dn k hk (hfull k hk)).1, heq k hk, fun _ => ⟨?_, hrd, ?_⟩⟩⟩
    · obtain ⟨_, l, e1, e2, e3⟩ := h.dn k hk (hfull k hk)
      exact e3 _ (by rw [hone k hk l e1 e2]; exact hx)
    · show ms = _
      rw [v7, hcls]
/-! ### the beginning -/
/-- a server that was renewed: S0 was sent ahead of it -/
structure Rnw (c : Cfg) (k : Nat) (a0 : Ag) (Rk : Int) (a : Ag) (my : Pp) : Prop where
  sd : Sd c k a
  rd : a.rd = Rk
  lt : a0.rd < Rk
  og : my ∈ a.gt
  fr : Fr c k my
  may : my.mayB = true
  ok : ppOk my
  br : my.br = my
  gt : ∀ g ∈ a.gt, g = my ∨ g ∈ a0.gt
  lo : ∀ g ∈ a0.gt, g.sv ∈ c.SL → g.rd < Rk
  dn : Full c a → DoneB c a
  df : a.dn = true → Full c a
theorem Gon.rnw {c : Cfg} {k : Nat} {a0 b : Ag} {n : Int} {r : Ag × Tu} (h : Gon c k b n r) (hb : b.gt = a0.gt) (hlt : a0.rd < n) (hlo : ∀ g ∈ a0.gt, g.sv ∈ c.SL → g.rd < n) : Rnw c k a0 n r.1 r.2.pp ∧ r.2.sd = true := by
  cases h with
  | still h hf =>
    refine ⟨⟨h.sd, h.rd, hlt, h.own_got, h.fr, h.may, h.ok, h.br, fun g hg => ?_, hlo, fun e => (hf e).elim, fun e => by rw [h.dn] at e; cases e⟩, h.snd⟩
    rw [h.gt, hb] at hg
    rcases gotL_mem.1 hg with e | e
    · exact .inl e
    · exact .inr e.1
  | done r0 h hf hd =>
    refine ⟨⟨hd.sd, hd.rd.trans h.rd, hlt, ?_, ?_, ?_, ?_, ?_, fun g hg => ?_, hlo, fun _ => hd.dn, fun _ => hf.same hd.gt hd.rd⟩, hd.snd.trans h.snd⟩
    · rw [hd.pp, hd.gt]; exact h.own_got
    · rw [hd.pp]; exact h.fr
    · rw [hd.pp]; exact h.may
    · rw [hd.pp]; exact h.ok
    · rw [hd.pp]; exact h.br
    · rw [hd.gt, h.gt, hb] at hg
      rw [hd.pp]
      rcases gotL_mem.1 hg with e | e
      · exact .inl e
      · exact .inr e.1
/-- all are renewed: nothing has come yet -/
theorem Stl.start {c : Cfg} {R : Nat → Int} {A0 A : Nat → Ag} {own : Nat → Pp} {Q : Nat → List Pp} {M : Int} (hr : ∀ k ∈ c.O, Rnw c k (A0 k) (R k) (A k) (own k)) (hM : ∀ k ∈ c.O, R k ≤ M) (hmx : ∃ m ∈ c.O, R m = M)
    (h1 : ∀ k ∈ c.O, ∀ g ∈ (A0 k).gt, ∀ s ∈ c.O, g.sv = c.life s → g.rd ≤ (A0 s).rd) (h2 : ∀ k ∈ c.O, ∀ g ∈ (A0 k).gt, ∀ s ∈ c.O, g.n = (s : Int) + 1 → g.i ≤ c.inc s)
    (hQ : ∀ k ∈ c.O, Q k = (c.O.filter fun s => decide (s ≠ k)).map own) (hn : c.O.Nodup) : Stl c R M A own Q := by
  have hqm : ∀ k ∈ c.O, ∀ e ∈ Q k, ∃ s ∈ c.O, s ≠ k ∧ own s = e := fun k hk e he => by
    rw [hQ k hk] at he
    obtain ⟨s, hs, rfl⟩ := List.mem_map.1 he
    obtain ⟨hs, e⟩ := List.mem_filter.1 hs
    exact ⟨s, hs, by simpa using e, rfl⟩
  have hord : ∀ k ∈ c.O, (own k).rd = R k := fun k hk => by
    have := (hr k hk).sd.inv.ow _ (hr k hk).og ((hr k hk).fr.sv.trans (hr k hk).sd.sv.symm)
    rw [this, (hr k hk).rd]
  constructor
  case sd =>
    exact fun k hk => (hr k hk).sd
  case og =>
    exact fun k hk => (hr k hk).og
  case fr =>
    exact fun k hk => (hr k hk).fr
  case rk =>
    exact fun k hk => Int.le_of_eq (hr k hk).rd.symm
  case ru =>
    exact fun k hk => by rw [(hr k hk).rd]; have := hM k hk; omega
  case rs =>
    exact fun k hk => List.mem_append_left _ (List.mem_map.2 ⟨k, hk, (hr k hk).rd.symm⟩)
  case rm => exact hM
  case mx => exact hmx
  case gt =>
    exact fun k hk g hg s hs hne e => by
      rcases (hr k hk).gt g hg with rfl | hg
      · exact absurd (Cfg.life_inj (e.symm.trans (hr k hk).fr.sv)) hne
      · exact .inr ((hr k hk).lo g hg (by rw [e]; exact Cfg.mem_SL.2 ⟨s, hs, rfl⟩))
  case gr =>
    exact fun k hk g hg s hs hne e => by
      rcases (hr k hk).gt g hg with rfl | hg
      · exact absurd (Cfg.life_inj (e.symm.trans (hr k hk).fr.sv)) hne
      · have := h1 k hk g hg s hs e
        have := (hr s hs).lt
        rw [(hr s hs).rd]
        omega
  case gi =>
    exact fun k hk g hg s hs e => by
      rcases (hr k hk).gt g hg with rfl | hg
      · have e2 : (own k).n = (k : Int) + 1 := congrArg Prod.fst (hr k hk).fr.sv
        have : s = k := by omega
        subst this
        exact Int.le_of_eq (congrArg Prod.snd (hr s hk).fr.sv)
      · exact h2 k hk g hg s hs e
  case qs =>
    exact fun k hk e he => by
      obtain ⟨s, hs, hne, rfl⟩ := hqm k hk e he
      have h3 := hr s hs
      exact ⟨s, hs, hne, h3.fr, h3.may, h3.ok, h3.br, Int.le_of_eq (hord s hs).symm, by rw [hord s hs, h3.rd]; exact Int.le_refl _, by rw [hord s hs]; exact List.mem_append_left _ (List.mem_map.2 ⟨s, hs, rfl⟩)⟩
  case qg =>
    exact fun k hk g hg e he ee => by
      obtain ⟨s, hs, hne, rfl⟩ := hqm k hk e he
      rcases (hr k hk).gt g hg with rfl | hg
      · exact absurd (Cfg.life_inj ((hr s hs).fr.sv.symm.trans (ee.symm.trans (hr k hk).fr.sv))) hne
      · have := h1 k hk g hg s hs (ee.trans (hr s hs).fr.sv)
        have := (hr s hs).lt
        rw [hord s hs]
        omega
  case qq =>
    exact fun k hk => by
      rw [hQ k hk, List.pairwise_map]
      refine List.Pairwise.imp_of_mem (R := fun a b => a ≠ b) (fun {a b} ha hb hab e => ?_) (hn.filter _)
      have ha := (List.mem_filter.1 ha).1
      have hb := (List.mem_filter.1 hb).1
      exact absurd (Cfg.life_inj ((hr a ha).fr.sv.symm.trans (e.trans (hr b hb).fr.sv))) hab
  case la =>
    exact fun k hk s hs hne => .inr (by rw [hQ k hk]; exact List.mem_map.2 ⟨s, List.mem_filter.2 ⟨hs, by simpa using hne⟩, rfl⟩)
  case up =>
    exact fun s hs e => by have := hM s hs; rw [(hr s hs).rd] at e; omega
  case bh =>
    exact fun k hk q1 p q2 e ep => by
      obtain ⟨s, hs, hne, rfl⟩ := hqm k hk p (by rw [e]; simp)
      rw [hord s hs] at ep
      have := hM s hs
      omega
  case td =>
    exact fun s hs e => by have := hM s hs; rw [(hr s hs).rd] at e; omega
  case dn =>
    exact fun k hk => (hr k hk).dn
  case df =>
    exact fun k hk => (hr k hk).df
end Go.Proofs.YtkglclekieckoaaGreat
