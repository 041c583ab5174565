/-
  Layer 6: plain laws: what was written is read; what is read was written.
-/
import Derived.Test.YtniogmefbjfoaaaGreatPkD3
import Derived.Test.YtniogmefbjfoaaaGreatBack
import Derived.Test.YtniogmefbjfoaaaGreatInv
namespace Go.Proofs.YtniogmefbjfoaaaGreat
set_option linter.unusedSimpArgs false
set_option linter.unusedVariables false
set_option linter.unusedSectionVars false
open Go.RowKit

structure PkF (x : Pk) : Prop where
  i : wfU64 x.i
  ai : wfU64 x.ai
  sq : wfU64 x.sq
  hs : ∀ h ∈ x.hs, wfU64 h.c ∧ wfU64 h.s ∧ wfU64 h.i
  bs : bOK x.bs
  ps : ∀ p ∈ x.ps, wfU64 p.2
/-- a packet's bytes -/
def Pk.enc (x : Pk) : List Int := if x.k = 1 then 1 :: advE x.an x.ai x.sq x.ps else if x.k = 2 then 2 :: datE x.n x.i x.hp x.hs x.bs else 3 :: ackE x.n x.i x.hp x.hs

/-! ### written, then read -/
theorem kU8_cons (d : Int) (l : List Int) : rU8 (d :: l, false) = (d, (l, false)) := rfl
theorem rText_back (t rest : List Int) (most : Nat) (h : t.length ≤ most) (hm : most ≤ 1000) : rText most (txtB t ++ rest, false) = (t, (rest, false)) := by
  have e : numV (txtB t ++ rest) false = ((t.length : Int), (uintB (t.length : Int)).length) := by
    unfold numV txtB
    rw [if_neg (by simp), List.append_assoc]
    exact numGo_uintB _ _ (by omega) (by omega)
  have hp := uintB_pos (t.length : Int)
  have hl : (txtB t ++ rest).length = (uintB (t.length : Int)).length + t.length + rest.length := by simp [txtB]; omega
  unfold rText
  simp only [e]
  rw [if_neg (by rw [hl]; push_cast; omega)]
  have hd : (txtB t ++ rest).drop (uintB (t.length : Int)).length = t ++ rest := by
    unfold txtB
    rw [List.append_assoc, List.drop_left]
  rw [hd, Int.toNat_natCast, List.take_left, List.drop_left]
theorem rLvs_back : ∀ (l acc : List Pr) (rest : List Int), (∀ p ∈ l, mayB p.1 p.2 = true ∧ p.2 ≤ 18446744073709551615) → rLvs l.length (l.flatMap procB ++ rest, false) acc = (acc ++ l, (rest, false))
  | [], acc, rest, _ => by simp [rLvs]
  | p :: l, acc, rest, h => by
    have hp := h p (by simp)
    rw [List.length_cons, rLvs, List.flatMap_cons, List.append_assoc, rGet_back p _ hp.1 hp.2]
    simp only
    rw [rLvs_back l (acc ++ [p]) rest (fun q hq => h q (by simp [hq]))]
    simp
theorem rLives_back (l : List Pr) (rest : List Int) (h : ∀ p ∈ l, mayB p.1 p.2 = true ∧ p.2 ≤ 18446744073709551615) : rLives (lsB procB l ++ rest, false) = (l, (rest, false)) := by
  unfold rLives lsB
  rw [List.cons_append, kU8_cons]
  simp only [Int.toNat_natCast]
  have := rLvs_back l [] rest h
  simpa using this
theorem rHds_back (ack : Bool) (f : Hd → List Int) (P : Hd → Prop) (hf : ∀ h rest, P h → rHd ack (f h ++ rest, false) = (h, (rest, false))) :
    ∀ (l acc : List Hd) (rest : List Int), (∀ h ∈ l, P h) → rHds ack l.length (l.flatMap f ++ rest, false) acc = (acc ++ l, (rest, false))
  | [], acc, rest, _ => by simp [rHds]
  | p :: l, acc, rest, h => by
    rw [List.length_cons, rHds, List.flatMap_cons, List.append_assoc, hf p _ (h p (by simp))]
    simp only
    rw [rHds_back ack f P hf l (acc ++ [p]) rest (fun q hq => h q (by simp [hq]))]
    simp
theorem rHeads_back (ack : Bool) (f : Hd → List Int) (P : Hd → Prop) (hf : ∀ h rest, P h → rHd ack (f h ++ rest, false) = (h, (rest, false))) (l : List Hd) (rest : List Int) (h : ∀ h ∈ l, P h) : rHeads ack (lsB f l ++ rest, false) = (l, (rest, false)) := by
  unfold rHeads lsB
  rw [List.cons_append, kU8_cons]
  simp only [Int.toNat_natCast]
  have := rHds_back ack f P hf l [] rest h
  simpa using this
theorem hdB_back (h : Hd) (rest : List Int) (hp : h.i = 0 ∧ wfU64 h.c ∧ wfU64 h.s) : rHd false (hdB h ++ rest, false) = (h, (rest, false)) := by
  obtain ⟨d, c, s, i⟩ := h
  obtain ⟨rfl, hc, hs⟩ := hp
  unfold rHd hdB
  simp only [List.cons_append, kU8_cons, List.append_assoc, rUint_back c _ hc.1 hc.2, rUint_back s _ hs.1 hs.2]
  simp
theorem haB_back (h : Hd) (rest : List Int) (hp : wfU64 h.c ∧ wfU64 h.s ∧ wfU64 h.i) : rHd true (haB h ++ rest, false) = (h, (rest, false)) := by
  obtain ⟨d, c, s, i⟩ := h
  obtain ⟨hc, hs, hi⟩ := hp
  unfold rHd haB
  simp only [List.cons_append, kU8_cons, List.append_assoc, rUint_back c _ hc.1 hc.2, rUint_back s _ hs.1 hs.2, rUint_back i _ hi.1 hi.2]
  simp

/-! ### what a packet that may be is -/
theorem may1 {x : Pk} (h : x.mayB = true) (hk : x.k = 1) : x.n = 0 ∧ x.i = 0 ∧ x.hp = 0 ∧ x.hs = [] ∧ x.bs = [] ∧ advB x.an x.ai x.sq x.ps = true := by
  unfold Pk.mayB mayKB at h
  rw [if_pos hk] at h
  simp only [Bool.and_eq_true, eqP, decide_eq_true_eq, beq_iff_eq] at h
  obtain ⟨⟨h1, h2⟩, h3, h4, h5, h6⟩ := h
  exact ⟨h1, h2, h3, List.eq_nil_of_length_eq_zero (by omega), List.eq_nil_of_length_eq_zero (by omega), h6⟩
theorem sent_facts {n i hp : Int} {hs : List Hd} {an ai sq : Int} {ps : List Pr} (h : sentB n i hp hs an ai sq ps = true) :
    lifeB n i = true ∧ 0 ≤ hp ∧ hp ≤ 8 ∧ 1 ≤ hs.length ∧ an = 0 ∧ ai = 0 ∧ sq = 0 ∧ ps = [] ∧ headsB n hs = true := by
  unfold sentB at h
  simp only [Bool.and_eq_true, Bool.not_eq_true', decide_eq_false_iff_not, eqP, decide_eq_true_eq, bne_eq_false_iff_eq, beq_eq_false_iff_ne] at h
  obtain ⟨h1, h2, h3, h4, ⟨h5, h6⟩, h7, h8, h9⟩ := h
  exact ⟨h1, by omega, by omega, by omega, h5, h6, h7, List.eq_nil_of_length_eq_zero (by omega), h9⟩
theorem may2 {x : Pk} (h : x.mayB = true) (hk : x.k = 2) : sentB x.n x.i x.hp x.hs x.an x.ai x.sq x.ps = true ∧ 1 ≤ x.bs.length ∧ x.bs.length ≤ 320 ∧ x.hs.all dataH = true := by
  unfold Pk.mayB mayKB at h
  rw [if_neg (by omega), if_pos hk] at h
  unfold dataB at h
  simp only [Bool.and_eq_true, Bool.not_eq_true', decide_eq_false_iff_not] at h
  obtain ⟨h1, h2, h3, h4⟩ := h
  exact ⟨h1, by omega, by omega, h4⟩
theorem may3 {x : Pk} (h : x.mayB = true) (hk : x.k = 3) : sentB x.n x.i x.hp x.hs x.an x.ai x.sq x.ps = true ∧ x.hs.length = 1 ∧ x.bs = [] := by
  unfold Pk.mayB mayKB at h
  rw [if_neg (by omega), if_neg (by omega), if_pos hk] at h
  unfold ackB at h
  simp only [Bool.and_eq_true, Bool.not_eq_true', bne_eq_false_iff_eq] at h
  obtain ⟨h1, h2, h3, h4⟩ := h
  exact ⟨h1, by omega, List.eq_nil_of_length_eq_zero (by omega)⟩
theorem may_kind {x : Pk} (h : x.mayB = true) : x.k = 1 ∨ x.k = 2 ∨ x.k = 3 := by
  unfold Pk.mayB mayKB at h
  by_cases h1 : x.k = 1
  · exact .inl h1
  · by_cases h2 : x.k = 2
    · exact .inr (.inl h2)
    · by_cases h3 : x.k = 3
      · exact .inr (.inr h3)
      · rw [if_neg h1, if_neg h2, if_neg h3] at h; cases h
theorem life_may {n i : Int} (h : lifeB n i = true) : mayB n i = true := by
  unfold lifeB at h; simp only [Bool.and_eq_true] at h; exact h.1
theorem serv_may {n i : Int} (h : servB n i = true) : mayB n i = true := by
  unfold servB at h; simp only [Bool.and_eq_true] at h; exact life_may h.1
theorem adv_facts {an ai sq : Int} {ps : List Pr} (h : advB an ai sq ps = true) : servB an ai = true ∧ countB sq 1 = true ∧ ps.length ≤ 4 ∧ ∀ p ∈ ps, servB p.1 p.2 = true := by
  unfold advB at h
  simp only [Bool.and_eq_true, Bool.not_eq_true', decide_eq_false_iff_not] at h
  obtain ⟨h1, h2, h3, h4, h5, h6⟩ := h
  refine ⟨h1, h2, by omega, fun p hp => ?_⟩
  have := List.all_eq_true.1 h5 p hp
  unfold advP at this
  simp only [Bool.and_eq_true] at this
  exact this.1
theorem decK_app (x : Pk) (rest : List Int) (hm : x.mayB = true) (hf : PkF x) : decK (x.enc ++ rest) = finK x (rest, false) := by
  obtain ⟨k, n, i, hp, hs, bs, an, ai, sq, ps⟩ := x
  obtain ⟨f1, f2, f3, f4, f5, f6⟩ := hf
  simp only at f1 f2 f3 f4 f5 f6
  rcases may_kind hm with hk | hk | hk <;> simp only at hk <;> subst hk
  · obtain ⟨e1, e2, e3, e4, e5, ha⟩ := may1 hm rfl
    simp only at e1 e2 e3 e4 e5 ha
    subst e1 e2 e3 e4 e5
    obtain ⟨a1, a2, a3, a4⟩ := adv_facts ha
    rw [show Pk.enc ⟨1, 0, 0, 0, [], [], an, ai, sq, ps⟩ ++ rest = 1 :: (procB (an, ai) ++ (uintB sq ++ (lsB procB ps ++ rest))) by simp [Pk.enc, advE]]
    unfold decK
    simp only [kU8_cons]
    rw [if_pos trivial]
    rw [rGet_back (an, ai) _ (serv_may a1) f2.2]
    simp only
    rw [rUint_back sq _ f3.1 f3.2]
    simp only
    rw [rLives_back ps rest (fun p hp => ⟨serv_may (a4 p hp), (f6 p hp).2⟩)]
  · obtain ⟨hsn, hb1, hb2, hd⟩ := may2 hm rfl
    obtain ⟨s1, s2, s3, s4, s5, s6, s7, s8, s9⟩ := sent_facts hsn
    simp only at s1 s2 s3 s4 s5 s6 s7 s8 s9 hb1 hb2 hd
    subst s5 s6 s7 s8
    rw [show Pk.enc ⟨2, n, i, hp, hs, bs, 0, 0, 0, []⟩ ++ rest = 2 :: (procB (n, i) ++ (hp :: (lsB hdB hs ++ (txtB bs ++ rest)))) by simp [Pk.enc, datE, topB]]
    unfold decK
    simp only [kU8_cons]
    rw [if_neg (by omega), if_pos trivial]
    rw [rGet_back (n, i) _ (life_may s1) f1.2]
    simp only [kU8_cons]
    rw [rHeads_back false hdB (fun h => h.i = 0 ∧ wfU64 h.c ∧ wfU64 h.s) hdB_back hs _ (fun h hh => by
      have := List.all_eq_true.1 hd h hh
      unfold dataH at this
      simp only [Bool.and_eq_true, Bool.not_eq_true', bne_eq_false_iff_eq] at this
      exact ⟨this.2, (f4 h hh).1, (f4 h hh).2.1⟩)]
    simp only
    rw [rText_back bs rest 320 hb2 (by omega)]
  · obtain ⟨hsn, hl, hb⟩ := may3 hm rfl
    obtain ⟨s1, s2, s3, s4, s5, s6, s7, s8, s9⟩ := sent_facts hsn
    simp only at s1 s2 s3 s4 s5 s6 s7 s8 s9 hl hb
    subst s5 s6 s7 s8 hb
    rw [show Pk.enc ⟨3, n, i, hp, hs, [], 0, 0, 0, []⟩ ++ rest = 3 :: (procB (n, i) ++ (hp :: (lsB haB hs ++ rest))) by simp [Pk.enc, ackE, topB]]
    unfold decK
    simp only [kU8_cons]
    rw [if_neg (by omega), if_neg (by omega), if_pos trivial]
    rw [rGet_back (n, i) _ (life_may s1) f1.2]
    simp only [kU8_cons]
    rw [rHeads_back true haB (fun h => wfU64 h.c ∧ wfU64 h.s ∧ wfU64 h.i) haB_back hs _ (fun h hh => f4 h hh)]
end Go.Proofs.YtniogmefbjfoaaaGreat

namespace Go.Proofs.YtniogmefbjfoaaaGreat
set_option linter.unusedSimpArgs false
set_option linter.unusedVariables false
set_option linter.unusedSectionVars false
open Go.RowKit

theorem rU8_step {s : RS} (h : (rU8 s).2.2 = false) : s.2 = false ∧ s.1 = (rU8 s).1 :: (rU8 s).2.1 := by
  have h1 := rU8_ok h
  obtain ⟨bs, bad⟩ := s
  simp only at h1
  subst h1
  refine ⟨rfl, ?_⟩
  generalize hr : rU8 (bs, false) = r at h
  obtain ⟨x, rest, b⟩ := r
  simp only at h
  subst h
  exact rU8_inv hr
theorem rUint_step {s : RS} (hok : bOK s.1) (h : (rUint s).2.2 = false) : s.2 = false ∧ s.1 = uintB (rUint s).1 ++ (rUint s).2.1 ∧ wfU64 (rUint s).1 := by
  have h1 := rUint_ok h
  obtain ⟨bs, bad⟩ := s
  simp only at h1 hok
  subst h1
  refine ⟨rfl, ?_⟩
  generalize hr : rUint (bs, false) = r at h
  obtain ⟨x, rest, b⟩ := r
  simp only at h
  subst h
  exact rUint_inv hok hr
theorem rLvs_inv : ∀ (k : Nat) (s : RS) (acc : List Pr), bOK s.1 → (rLvs k s acc).2.2 = false → ∃ m, (rLvs k s acc).1 = acc ++ m ∧ m.length = k ∧ s.2 = false ∧ s.1 = m.flatMap procB ++ (rLvs k s acc).2.1 ∧ ∀ p ∈ m, wfU64 p.2
  | 0, s, acc, _, h => ⟨[], by simp [rLvs], rfl, h, by simp [rLvs], by simp⟩
  | k + 1, s, acc, hok, h => by
    rw [rLvs] at h ⊢
    obtain ⟨m, m1, m2, m3, m4, m5⟩ := rLvs_inv k (rGet s).2 (acc ++ [(rGet s).1]) (rGet_bk hok) h
    obtain ⟨g1, g2, g3⟩ := rGet_inv hok m3
    refine ⟨(rGet s).1 :: m, by rw [m1]; simp, by simp [m2], rGet_ok m3, ?_, ?_⟩
    · rw [List.flatMap_cons, List.append_assoc, ← m4]; exact g1
    · intro p hp
      rcases List.mem_cons.1 hp with rfl | hp
      · exact g3
      · exact m5 p hp
theorem rLives_inv {s : RS} (hok : bOK s.1) (h : (rLives s).2.2 = false) : s.2 = false ∧ s.1 = lsB procB (rLives s).1 ++ (rLives s).2.1 ∧ ∀ p ∈ (rLives s).1, wfU64 p.2 := by
  unfold rLives at h ⊢
  obtain ⟨m, m1, m2, m3, m4, m5⟩ := rLvs_inv _ _ _ (rU8_bk hok) h
  obtain ⟨u1, u2⟩ := rU8_step m3
  have hr := rU8_range hok
  rw [List.nil_append] at m1
  rw [m1]
  refine ⟨u1, ?_, m5⟩
  rw [u2, lsB, m2, List.cons_append, ← m4, Int.toNat_of_nonneg hr.1]
theorem rHds_inv (ack : Bool) (f : Hd → List Int) (P : Hd → Prop) (hf : ∀ s : RS, bOK s.1 → (rHd ack s).2.2 = false → s.2 = false ∧ s.1 = f (rHd ack s).1 ++ (rHd ack s).2.1 ∧ P (rHd ack s).1) :
    ∀ (k : Nat) (s : RS) (acc : List Hd), bOK s.1 → (rHds ack k s acc).2.2 = false → ∃ m, (rHds ack k s acc).1 = acc ++ m ∧ m.length = k ∧ s.2 = false ∧ s.1 = m.flatMap f ++ (rHds ack k s acc).2.1 ∧ ∀ p ∈ m, P p
  | 0, s, acc, _, h => ⟨[], by simp [rHds], rfl, h, by simp [rHds], by simp⟩
  | k + 1, s, acc, hok, h => by
    rw [rHds] at h ⊢
    obtain ⟨m, m1, m2, m3, m4, m5⟩ := rHds_inv ack f P hf k (rHd ack s).2 (acc ++ [(rHd ack s).1]) (rHd_bk ack hok) h
    obtain ⟨g1, g2, g3⟩ := hf s hok m3
    refine ⟨(rHd ack s).1 :: m, by rw [m1]; simp, by simp [m2], g1, ?_, ?_⟩
    · rw [List.flatMap_cons, List.append_assoc, ← m4]; exact g2
    · intro p hp
      rcases List.mem_cons.1 hp with rfl | hp
      · exact g3
      · exact m5 p hp
theorem rHeads_inv (ack : Bool) (f : Hd → List Int) (P : Hd → Prop) (hf : ∀ s : RS, bOK s.1 → (rHd ack s).2.2 = false → s.2 = false ∧ s.1 = f (rHd ack s).1 ++ (rHd ack s).2.1 ∧ P (rHd ack s).1) {s : RS} (hok : bOK s.1) (h : (rHeads ack s).2.2 = false) :
    s.2 = false ∧ s.1 = lsB f (rHeads ack s).1 ++ (rHeads ack s).2.1 ∧ ∀ p ∈ (rHeads ack s).1, P p := by
  unfold rHeads at h ⊢
  obtain ⟨m, m1, m2, m3, m4, m5⟩ := rHds_inv ack f P hf _ _ _ (rU8_bk hok) h
  obtain ⟨u1, u2⟩ := rU8_step m3
  have hr := rU8_range hok
  rw [List.nil_append] at m1
  rw [m1]
  refine ⟨u1, ?_, m5⟩
  rw [u2, lsB, m2, List.cons_append, ← m4, Int.toNat_of_nonneg hr.1]
def HdW (h : Hd) : Prop := wfU64 h.c ∧ wfU64 h.s ∧ wfU64 h.i
theorem rHd_invF (s : RS) (hok : bOK s.1) (h : (rHd false s).2.2 = false) : s.2 = false ∧ s.1 = hdB (rHd false s).1 ++ (rHd false s).2.1 ∧ HdW (rHd false s).1 := by
  have e : (rHd false s) = (⟨(rU8 s).1, (rUint (rU8 s).2).1, (rUint (rUint (rU8 s).2).2).1, 0⟩, (rUint (rUint (rU8 s).2).2).2) := by simp [rHd]
  rw [e] at h ⊢
  simp only at h ⊢
  obtain ⟨c1, c2, c3⟩ := rUint_step (rUint_bk (rU8_bk hok)) h
  obtain ⟨b1, b2, b3⟩ := rUint_step (rU8_bk hok) c1
  obtain ⟨a1, a2⟩ := rU8_step b1
  refine ⟨a1, ?_, b3, c3, ⟨by simp, by simp⟩⟩
  rw [a2, hdB]
  simp only [List.cons_append, List.append_assoc]
  rw [← c2, ← b2]
theorem rHd_invT (s : RS) (hok : bOK s.1) (h : (rHd true s).2.2 = false) : s.2 = false ∧ s.1 = haB (rHd true s).1 ++ (rHd true s).2.1 ∧ HdW (rHd true s).1 := by
  have e : (rHd true s) = (⟨(rU8 s).1, (rUint (rU8 s).2).1, (rUint (rUint (rU8 s).2).2).1, (rUint (rUint (rUint (rU8 s).2).2).2).1⟩, (rUint (rUint (rUint (rU8 s).2).2).2).2) := by simp [rHd]
  rw [e] at h ⊢
  simp only at h ⊢
  obtain ⟨d1, d2, d3⟩ := rUint_step (rUint_bk (rUint_bk (rU8_bk hok))) h
  obtain ⟨c1, c2, c3⟩ := rUint_step (rUint_bk (rU8_bk hok)) d1
  obtain ⟨b1, b2, b3⟩ := rUint_step (rU8_bk hok) c1
  obtain ⟨a1, a2⟩ := rU8_step b1
  refine ⟨a1, ?_, b3, c3, d3⟩
  rw [a2, haB]
  simp only [List.cons_append, List.append_assoc]
  rw [← d2, ← c2, ← b2]
theorem rText_inv {most : Nat} {s : RS} (hok : bOK s.1) (h : (rText most s).2.2 = false) : s.2 = false ∧ s.1 = txtB (rText most s).1 ++ (rText most s).2.1 := by
  obtain ⟨bs, bad⟩ := s
  simp only at hok ⊢
  unfold rText at h ⊢
  simp only at h ⊢
  by_cases hc : (numV bs bad).2 = 0 ∨ (most : Int) < (numV bs bad).1 ∨ ((bs.length : Int) - ((numV bs bad).2 : Int)) < (numV bs bad).1
  · rw [if_pos hc] at h; cases h
  · rw [if_neg hc] at h ⊢
    have hb : bad = false := by
      cases bad
      · rfl
      · exact absurd (Or.inl rfl) hc
    subst hb
    refine ⟨rfl, ?_⟩
    generalize hr : numV bs false = r at hc ⊢
    obtain ⟨x, n⟩ := r
    simp only at hc ⊢
    have hr' : numGo 0 0 bs = (x, n) := by unfold numV at hr; rw [if_neg (by simp)] at hr; exact hr
    obtain ⟨z, rest, z0, z1, _, z3, z4, z5⟩ := numGo_inv 9 0 0 bs x n (by omega) hok hr' (by omega)
    have hzx : z = x := by rw [z3]; simp
    subst hzx
    have hbs : bs = uintB z ++ rest := z4
    have hn : n = (uintB z).length := by rw [z5]; simp [uintB]
    subst hn
    have hl : bs.length = (uintB z).length + rest.length := by rw [hbs]; simp
    have hd : bs.drop (uintB z).length = rest := by rw [hbs, List.drop_left]
    rw [hd]
    have ht : ((rest.take z.toNat).length : Int) = z := by rw [List.length_take]; omega
    rw [txtB, ht, List.append_assoc, List.take_append_drop]
    exact hbs
theorem finK_some {x y : Pk} {s : RS} (h : finK x s = some y) : s.2 = false ∧ s.1 = [] ∧ x.mayB = true ∧ x = y := by
  unfold finK at h
  by_cases h1 : s.2 = true ∨ 0 < s.1.length
  · rw [if_pos h1] at h; cases h
  · rw [if_neg h1] at h
    by_cases h2 : x.mayB = false
    · rw [if_pos h2] at h; cases h
    · rw [if_neg h2] at h
      injection h with h
      refine ⟨by cases hs : s.2; rfl; exact absurd (Or.inl hs) h1, List.eq_nil_of_length_eq_zero (by omega), by simpa using h2, h⟩
theorem decK_inv {bs : List Int} {y : Pk} (hok : bOK bs) (h : decK bs = some y) : y.mayB = true ∧ y.enc = bs ∧ PkF y := by
  unfold decK at h
  simp only at h
  have hz : wfU64 0 := ⟨by omega, by omega⟩
  by_cases h1 : (rU8 (bs, false)).1 = 1
  · rw [if_pos h1] at h
    obtain ⟨f1, f2, f3, rfl⟩ := finK_some h
    obtain ⟨d1, d2, d3⟩ := rLives_inv (rUint_bk (rGet_bk (rU8_bk hok))) f1
    obtain ⟨c1, c2, c3⟩ := rUint_step (rGet_bk (rU8_bk hok)) d1
    obtain ⟨b2, b3, b4⟩ := rGet_inv (rU8_bk hok) c1
    obtain ⟨a1, a2⟩ := rU8_step (rGet_ok c1)
    refine ⟨f3, ?_, ⟨hz, b4, c3, by simp, bOK.nil, d3⟩⟩
    rw [f2, List.append_nil] at d2
    simp only [Pk.enc, if_true, advE]
    simp only at a2
    exact (a2.trans (by rw [h1, b2, c2, d2])).symm
  · rw [if_neg h1] at h
    by_cases h2 : (rU8 (bs, false)).1 = 2
    · rw [if_pos h2] at h
      obtain ⟨f1, f2, f3, rfl⟩ := finK_some h
      have ok3 := rU8_bk (rGet_bk (rU8_bk (s := (bs, false)) hok))
      obtain ⟨e1, e2⟩ := rText_inv (rHeads_bk false ok3) f1
      obtain ⟨d1, d2, d3⟩ := rHeads_inv false hdB HdW rHd_invF ok3 e1
      obtain ⟨c1, c2⟩ := rU8_step d1
      obtain ⟨b2, b3, b4⟩ := rGet_inv (rU8_bk (s := (bs, false)) hok) c1
      obtain ⟨a1, a2⟩ := rU8_step (rGet_ok c1)
      refine ⟨f3, ?_, ⟨b4, hz, hz, d3, (rText_bk 320 (rHeads_bk false ok3)).1, by simp⟩⟩
      rw [f2, List.append_nil] at e2
      have hne : (2 : Int) ≠ 1 := by decide
      simp only [Pk.enc, if_neg hne, if_true, datE, topB]
      simp only at a2
      exact (a2.trans (by rw [h2, b2, c2, d2, e2]; simp only [List.append_assoc, List.singleton_append])).symm
    · rw [if_neg h2] at h
      by_cases h3 : (rU8 (bs, false)).1 = 3
      · rw [if_pos h3] at h
        obtain ⟨f1, f2, f3, rfl⟩ := finK_some h
        have ok3 := rU8_bk (rGet_bk (rU8_bk (s := (bs, false)) hok))
        obtain ⟨d1, d2, d3⟩ := rHeads_inv true haB HdW rHd_invT ok3 f1
        obtain ⟨c1, c2⟩ := rU8_step d1
        obtain ⟨b2, b3, b4⟩ := rGet_inv (rU8_bk (s := (bs, false)) hok) c1
        obtain ⟨a1, a2⟩ := rU8_step (rGet_ok c1)
        refine ⟨f3, ?_, ⟨b4, hz, hz, d3, bOK.nil, by simp⟩⟩
        rw [f2, List.append_nil] at d2
        have hne : (3 : Int) ≠ 1 := by decide
        have hne2 : (3 : Int) ≠ 2 := by decide
        simp only [Pk.enc, if_neg hne, if_neg hne2, ackE, topB]
        simp only at a2
        exact (a2.trans (by rw [h3, b2, c2, d2]; simp only [List.append_assoc, List.singleton_append])).symm
      · rw [if_neg h3] at h; cases h
/-! ### one form -/
theorem finK_ok {x : Pk} (hm : x.mayB = true) : finK x ([], false) = some x := by
  unfold finK; rw [if_neg (by simp), if_neg (by rw [hm]; simp)]
theorem decK_back (x : Pk) (hm : x.mayB = true) (hf : PkF x) : decK x.enc = some x := by
  have := decK_app x [] hm hf
  rw [List.append_nil, finK_ok hm] at this; exact this
theorem decK_more (x : Pk) (more : List Int) (hm : x.mayB = true) (hf : PkF x) (h : more ≠ []) : decK (x.enc ++ more) = none := by
  rw [decK_app x more hm hf]
  exact if_pos (.inr (List.length_pos_iff.2 h))
theorem decK_cut (x : Pk) (k : Nat) (hk : k < x.enc.length) (hm : x.mayB = true) (hf : PkF x) (hok : bOK x.enc) : decK (x.enc.take k) = none := by
  cases hd : decK (x.enc.take k) with
  | none => rfl
  | some y =>
    obtain ⟨y1, y2, y3⟩ := decK_inv (fun b hb => hok b (List.mem_of_mem_take hb)) hd
    have e : x.enc = y.enc ++ x.enc.drop k := by rw [y2, List.take_append_drop]
    have h2 := decK_back x hm hf
    rw [e, decK_more y _ y1 y3 (by intro hn; have := congrArg List.length hn; simp at this; omega)] at h2
    cases h2
end Go.Proofs.YtniogmefbjfoaaaGreat

namespace Go.Proofs.YtniogmefbjfoaaaGreat
set_option linter.unusedSimpArgs false
set_option linter.unusedVariables false
set_option linter.unusedSectionVars false
open Go.RowKit

theorem uintF_small : ∀ (m f : Nat) (x : Int), x < 128 ^ (m + 1) → (uintF f x).length ≤ m + 1
  | _, 0, _, _ => by simp [uintF]
  | 0, f + 1, x, h => by rw [uintF, if_pos (by simpa using h)]; simp
  | m + 1, f + 1, x, h => by
    rw [uintF]
    split
    · simp
    · have : x / 128 < 128 ^ (m + 1) := by
        have e : (128 : Int) ^ (m + 1 + 1) = 128 ^ (m + 1) * 128 := by rw [Int.pow_succ]
        rw [e] at h
        exact Int.ediv_lt_of_lt_mul (by omega) h
      have := uintF_small m f (x / 128) this
      simp; omega
theorem uint5 {x m : Int} (h : countB x m = true) : (uintB x).length ≤ 5 := by
  unfold countB at h
  simp only [Bool.and_eq_true, decide_eq_true_eq] at h
  exact uintF_small 4 9 x (by have := h.2; omega)
theorem life_count {n i : Int} (h : lifeB n i = true) : countB i 1 = true := by
  unfold lifeB at h; simp only [Bool.and_eq_true] at h; exact h.2
theorem procB6 {n i : Int} (h : lifeB n i = true) : (procB (n, i)).length ≤ 6 := by
  have := uint5 (life_count h)
  simp [procB]; omega
theorem heads_ok {n : Int} {hs : List Hd} (h : headsB n hs = true) : ∀ k, k < hs.length → okH n hs k = true := by
  intro k hk
  unfold headsB at h
  exact List.all_eq_true.1 h k (List.mem_range.2 hk)
theorem head_facts {n : Int} {p : Hd} (h : headB n p = true) : 1 ≤ p.d ∧ p.d ≤ 10 ∧ p.d ≠ n ∧ countB p.c 1 = true := by
  unfold headB at h
  simp only [Bool.and_eq_true, Bool.not_eq_true', decide_eq_false_iff_not, beq_eq_false_iff_ne] at h
  exact ⟨by omega, by omega, h.2.2.1, h.2.2.2⟩
theorem heads_each {n : Int} {hs : List Hd} (h : headsB n hs = true) : ∀ p ∈ hs, headB n p = true := by
  intro p hp
  obtain ⟨k, hk, rfl⟩ := List.getElem_of_mem hp
  have := heads_ok h k hk
  unfold okH at this
  simp only [Bool.and_eq_true] at this
  have e : hs.getD k default = hs[k] := getH (List.getElem?_eq_getElem hk)
  rw [e] at this
  exact this.1
theorem heads_rise {n : Int} {hs : List Hd} (h : headsB n hs = true) : ∀ k, k < hs.length → (k : Int) + 1 ≤ (hs.getD k default).d
  | 0, hk => by
    have e : hs.getD 0 default = hs[0] := getH (List.getElem?_eq_getElem hk)
    rw [e]
    have := (head_facts (heads_each h hs[0] (List.getElem_mem hk))).1
    omega
  | k + 1, hk => by
    have ih := heads_rise h k (by omega)
    have := heads_ok h (k + 1) hk
    unfold okH at this
    simp only [Bool.and_eq_true, Bool.or_eq_true, Bool.not_eq_true', decide_eq_false_iff_not, decide_eq_true_eq] at this
    rcases this.2 with h0 | h0
    · omega
    · rw [show k + 1 - 1 = k by omega] at h0
      push_cast; omega
theorem heads_ten {n : Int} {hs : List Hd} (h : headsB n hs = true) : hs.length ≤ 10 := by
  rcases Nat.eq_zero_or_pos hs.length with h0 | h0
  · omega
  · have h1 := heads_rise h (hs.length - 1) (by omega)
    have e : hs.getD (hs.length - 1) default = hs[hs.length - 1] := getH (List.getElem?_eq_getElem (by omega))
    rw [e] at h1
    have := (head_facts (heads_each h hs[hs.length - 1] (List.getElem_mem (by omega)))).2.1
    omega
theorem flat_lenM {α : Type} {f : α → List Int} {B : Nat} : ∀ l : List α, (∀ x ∈ l, (f x).length ≤ B) → (l.flatMap f).length ≤ l.length * B
  | [], _ => by simp
  | x :: l, h => by
    rw [List.flatMap_cons, List.length_append, List.length_cons, Nat.succ_mul]
    have := h x (by simp); have := flat_lenM l (fun y hy => h y (by simp [hy])); omega
/-- at most 448 bytes -/
theorem kenc_len (x : Pk) (hm : x.mayB = true) : 0 < x.enc.length ∧ x.enc.length ≤ 448 := by
  obtain ⟨k, n, i, hp, hs, bs, an, ai, sq, ps⟩ := x
  rcases may_kind hm with hk | hk | hk <;> simp only at hk <;> subst hk
  · obtain ⟨_, _, _, _, _, ha⟩ := may1 hm rfl
    simp only at ha
    obtain ⟨a1, a2, a3, a4⟩ := adv_facts ha
    have l1 : (procB (an, ai)).length ≤ 6 := procB6 (by unfold servB at a1; simp only [Bool.and_eq_true] at a1; exact a1.1)
    have l2 := uint5 a2
    have l3 := flat_lenM (f := procB) (B := 6) ps (fun p hp => procB6 (by have := a4 p hp; unfold servB at this; simp only [Bool.and_eq_true] at this; exact this.1))
    simp only [Pk.enc, if_true, advE, lsB, List.length_cons, List.length_append]
    omega
  · obtain ⟨hsn, hb1, hb2, hd⟩ := may2 hm rfl
    obtain ⟨s1, s2, s3, s4, s5, s6, s7, s8, s9⟩ := sent_facts hsn
    simp only at s1 s9 hb2 hd
    have l1 := procB6 s1
    have l0 := heads_ten s9
    have l3 := flat_lenM (f := hdB) (B := 11) hs (fun h hh => by
      have h1 := uint5 (head_facts (heads_each s9 h hh)).2.2.2
      have h2 := List.all_eq_true.1 hd h hh
      unfold dataH at h2
      simp only [Bool.and_eq_true] at h2
      have h3 := uint5 h2.1
      simp [hdB]; omega)
    have l4 : (uintB (bs.length : Int)).length ≤ 5 := uintF_small 4 9 _ (by omega)
    have hne : (2 : Int) ≠ 1 := by decide
    simp only [Pk.enc, if_neg hne, if_true, datE, topB, txtB, lsB, List.length_cons, List.length_append, List.length_nil]
    omega
  · obtain ⟨hsn, hl, hb⟩ := may3 hm rfl
    obtain ⟨s1, s2, s3, s4, s5, s6, s7, s8, s9⟩ := sent_facts hsn
    simp only at s1 s9 hl
    have l1 := procB6 s1
    have l3 := flat_len haB_len hs
    have hne : (3 : Int) ≠ 1 := by decide
    have hne2 : (3 : Int) ≠ 2 := by decide
    simp only [Pk.enc, if_neg hne, if_neg hne2, ackE, topB, lsB, List.length_cons, List.length_append, List.length_nil]
    omega
theorem kmayc_s (x : Pk) (HA : Option Addr) (hcp : Nat) (BA : Option Addr) (bcp : Nat) (PA : Option Addr) (pcp : Nat) (w : World) (h : PkIn w x HA BA PA) :
    Calls Tryz.prog 37 #[x.at HA hcp BA bcp PA pcp] w (RetB w x.mayB) := kmay_s x.k x.n x.i x.hp HA hcp x.hs BA bcp x.bs x.an x.ai x.sq PA pcp x.ps w h.h h.p h.hl h.bl h.pl
end Go.Proofs.YtniogmefbjfoaaaGreat
