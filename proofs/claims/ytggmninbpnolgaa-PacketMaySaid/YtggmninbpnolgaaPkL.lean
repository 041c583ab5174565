/-
  Layer 6: plain laws: what was written is read; what is read was written.
-/
import Derived.Test.YtggmninbpnolgaaPkD3
import Derived.Test.YtggmninbpnolgaaBack
import Derived.Test.YtggmninbpnolgaaInv
namespace Go.Proofs.Ytggmninbpnolgaa
set_option linter.unusedSimpArgs false
set_option linter.unusedVariables false
set_option linter.unusedSectionVars false
open Go.RowKit

structure PkF (x : Pk) : Prop where
  i : wfU64 x.i
  ai : wfU64 x.ai
  sq : wfU64 x.sq
  hs : ∀ h ∈ x.hs, wfU64 h.c ∧ wfU64 h.s ∧ wfU64 h.i
  bs : bOK x.bs
  ps : ∀ p ∈ x.ps, wfU64 p.2
/-- a packet's bytes -/
def Pk.enc (x : Pk) : List Int := if x.k = 1 then 1 :: advE x.an x.ai x.sq x.ps else if x.k = 2 then 2 :: datE x.n x.i x.hp x.hs x.bs else 3 :: ackE x.n x.i x.hp x.hs

/-! ### written, then read -/
theorem kU8_cons (d : Int) (l : List Int) : rU8 (d :: l, false) = (d, (l, false)) := rfl
theorem rText_back (t rest : List Int) (most : Nat) (h : t.length ≤ most) (hm : most ≤ 1000) : rText most (txtB t ++ rest, false) = (t, (rest, false)) := by
  have e : numV (txtB t ++ rest) false = ((t.length : Int), (uintB (t.length : Int)).length) := by
    unfold numV txtB
    rw [if_neg (by simp), List.append_assoc]
    exact numGo_uintB _ _ (by omega) (by omega)
  have hp := uintB_pos (t.length : Int)
  have hl : (txtB t ++ rest).length = (uintB (t.length : Int)).length + t.length + rest.length := by simp [txtB]; omega
  unfold rText
  simp only [e]
  rw [if_neg (by rw [hl]; push_cast; omega)]
  have hd : (txtB t ++ rest).drop (uintB (t.length : Int)).length = t ++ rest := by
    unfold txtB
    rw [List.append_assoc, List.drop_left]
  rw [hd, Int.toNat_natCast, List.take_left, List.drop_left]
theorem rLvs_back : ∀ (l acc : List Pr) (rest : List Int), (∀ p ∈ l, mayB p.1 p.2 = true ∧ p.2 ≤ 18446744073709551615) → rLvs l.length (l.flatMap procB ++ rest, false) acc = (acc ++ l, (rest, false))
  | [], acc, rest, _ => by simp [rLvs]
  | p :: l, acc, rest, h => by
    have hp := h p (by simp)
    rw [List.length_cons, rLvs, List.flatMap_cons, List.append_assoc, rGet_back p _ hp.1 hp.2]
    simp only
    rw [rLvs_back l (acc ++ [p]) rest (fun q hq => h q (by simp [hq]))]
    simp
theorem rLives_back (l : List Pr) (rest : List Int) (h : ∀ p ∈ l, mayB p.1 p.2 = true ∧ p.2 ≤ 18446744073709551615) : rLives (lsB procB l ++ rest, false) = (l, (rest, false)) := by
  unfold rLives lsB
  rw [List.cons_append, kU8_cons]
  simp only [Int.toNat_natCast]
  have := rLvs_back l [] rest h
  simpa using this
theorem rHds_back (ack : Bool) (f : Hd → List Int) (P : Hd → Prop) (hf : ∀ h rest, P h → rHd ack (f h ++ rest, false) = (h, (rest, false))) :
    ∀ (l acc : List Hd) (rest : List Int), (∀ h ∈ l, P h) → rHds ack l.length (l.flatMap f ++ rest, false) acc = (acc ++ l, (rest, false))
  | [], acc, rest, _ => by simp [rHds]
  | p :: l, acc, rest, h => by
    rw [List.length_cons, rHds, List.flatMap_cons, List.append_assoc, hf p _ (h p (by simp))]
    simp only
    rw [rHds_back ack f P hf l (acc ++ [p]) rest (fun q hq => h q (by simp [hq]))]
    simp
theorem rHeads_back (ack : Bool) (f : Hd → List Int) (P : Hd → Prop) (hf : ∀ h rest, P h → rHd ack (f h ++ rest, false) = (h, (rest, false))) (l : List Hd) (rest : List Int) (h : ∀ h ∈ l, P h) : rHeads ack (lsB f l ++ rest, false) = (l, (rest, false)) := by
  unfold rHeads lsB
  rw [List.cons_append, kU8_cons]
  simp only [Int.toNat_natCast]
  have := rHds_back ack f P hf l [] rest h
  simpa using this
theorem hdB_back (h : Hd) (rest : List Int) (hp : h.i = 0 ∧ wfU64 h.c ∧ wfU64 h.s) : rHd false (hdB h ++ rest, false) = (h, (rest, false)) := by
  obtain ⟨d, c, s, i⟩ := h
  obtain ⟨rfl, hc, hs⟩ := hp
  unfold rHd hdB
  simp only [List.cons_append, kU8_cons, List.append_assoc, rUint_back c _ hc.1 hc.2, rUint_back s _ hs.1 hs.2]
  simp
theorem haB_back (h : Hd) (rest : List Int) (hp : wfU64 h.c ∧ wfU64 h.s ∧ wfU64 h.i) : rHd true (haB h ++ rest, false) = (h, (rest, false)) := by
  obtain ⟨d, c, s, i⟩ := h
  obtain ⟨hc, hs, hi⟩ := hp
  unfold rHd haB
  simp only [List.cons_append, kU8_cons, List.append_assoc, rUint_back c _ hc.1 hc.2, rUint_back s _ hs.1 hs.2, rUint_back i _ hi.1 hi.2]
  simp

/-! ### what a packet that may be is -/
theorem may1 {x : Pk} (h : x.mayB = true) (hk : x.k = 1) : x.n = 0 ∧ x.i = 0 ∧ x.hp = 0 ∧ x.hs = [] ∧ x.bs = [] ∧ advB x.an x.ai x.sq x.ps = true := by
  unfold Pk.mayB mayKB at h
  rw [if_pos hk] at h
  simp only [Bool.and_eq_true, eqP, decide_eq_true_eq, beq_iff_eq] at h
  obtain ⟨⟨h1, h2⟩, h3, h4, h5, h6⟩ := h
  exact ⟨h1, h2, h3, List.eq_nil_of_length_eq_zero (by omega), List.eq_nil_of_length_eq_zero (by omega), h6⟩
theorem sent_facts {n i hp : Int} {hs : List Hd} {an ai sq : Int} {ps : List Pr} (h : sentB n i hp hs an ai sq ps = true) :
    lifeB n i = true ∧ 0 ≤ hp ∧ hp ≤ 8 ∧ 1 ≤ hs.length ∧ an = 0 ∧ ai = 0 ∧ sq = 0 ∧ ps = [] ∧ headsB n hs = true := by
  unfold sentB at h
  simp only [Bool.and_eq_true, Bool.not_eq_true', decide_eq_false_iff_not, eqP, decide_eq_true_eq, bne_eq_false_iff_eq, beq_eq_false_iff_ne] at h
  obtain ⟨h1, h2, h3, h4, ⟨h5, h6⟩, h7, h8, h9⟩ := h
  exact ⟨h1, by omega, by omega, by omega, h5, h6, h7, List.eq_nil_of_length_eq_zero (by omega), h9⟩
theorem may2 {x : Pk} (h : x.mayB = true) (hk : x.k = 2) : sentB x.n x.i x.hp x.hs x.an x.ai x.sq x.ps = true ∧ 1 ≤ x.bs.length ∧ x.bs.length ≤ 320 ∧ x.hs.all dataH = true := by
  unfold Pk.mayB mayKB at h
  rw [if_neg (by omega), if_pos hk] at h
  unfold dataB at h
  simp only [Bool.and_eq_true, Bool.not_eq_true', decide_eq_false_iff_not] at h
  obtain ⟨h1, h2, h3, h4⟩ := h
  exact ⟨h1, by omega, by omega, h4⟩
theorem may3 {x : Pk} (h : x.mayB = true) (hk : x.k = 3) : sentB x.n x.i x.hp x.hs x.an x.ai x.sq x.ps = true ∧ x.hs.length = 1 ∧ x.bs = [] := by
  unfold Pk.mayB mayKB at h
  rw [if_neg (by omega), if_neg (by omega), if_pos hk] at h
  unfold ackB at h
  simp only [Bool.and_eq_true, Bool.not_eq_true', bne_eq_false_iff_eq] at h
  obtain ⟨h1, h2, h3, h4⟩ := h
  exact ⟨h1, by omega, List.eq_nil_of_length_eq_zero (by omega)⟩
theorem may_kind {x : Pk} (h : x.mayB = true) : x.k = 1 ∨ x.k = 2 ∨ x.k = 3 := by
  unfold Pk.mayB mayKB at h
  by_cases h1 : x.k = 1
  · exact .inl h1
  · by_cases h2 : x.k = 2
    · exact .inr (.inl h2)
    · by_cases h3 : x.k = 3
      · exact .inr (.inr h3)
      · rw [if_neg h1, if_neg h2, if_neg h3] at h; cases h
theorem life_may {n i : Int} (h : lifeB n i = true) : mayB n i = true := by
  unfold lifeB at h; simp only [Bool.and_eq_true] at h; exact h.1
theorem serv_may {n i : Int} (h : servB n i = true) : mayB n i = true := by
  unfold servB at h; simp only [Bool.and_eq_true] at h; exact life_may h.1
theorem adv_facts {an ai sq : Int} {ps : List Pr} (h : advB an ai sq ps = true) : servB an ai = true ∧ countB sq 1 = true ∧ ps.length ≤ 4 ∧ ∀ p ∈ ps, servB p.1 p.2 = true := by
  unfold advB at h
  simp only [Bool.and_eq_true, Bool.not_eq_true', decide_eq_false_iff_not] at h
  obtain ⟨h1, h2, h3, h4, h5, h6⟩ := h
  refine ⟨h1, h2, by omega, fun p hp => ?_⟩
  have := List.all_eq_true.1 h5 p hp
  unfold advP at this
  simp only [Bool.and_eq_true] at this
  exact this.1
theorem decK_app (x : Pk) (rest : List Int) (hm : x.mayB = true) (hf : PkF x) : decK (x.enc ++ rest) = finK x (rest, false) := by
  obtain ⟨k, n, i, hp, hs, bs, an, ai, sq, ps⟩ := x
  obtain ⟨f1, f2, f3, f4, f5, f6⟩ := hf
  simp only at f1 f2 f3 f4 f5 f6
  rcases may_kind hm with hk | hk | hk <;> simp only at hk <;> subst hk
  · obtain ⟨e1, e2, e3, e4, e5, ha⟩ := may1 hm rfl
    simp only at e1 e2 e3 e4 e5 ha
    subst e1 e2 e3 e4 e5
    obtain ⟨a1, a2, a3, a4⟩ := adv_facts ha
    rw [show Pk.enc ⟨1, 0, 0, 0, [], [], an, ai, sq, ps⟩ ++ rest = 1 :: (procB (an, ai) ++ (uintB sq ++ (lsB procB ps ++ rest))) by simp [Pk.enc, advE]]
    unfold decK
    simp only [kU8_cons]
    rw [if_pos trivial]
    rw [rGet_back (an, ai) _ (serv_may a1) f2.2]
    simp only
    rw [rUint_back sq _ f3.1 f3.2]
    simp only
    rw [rLives_back ps rest (fun p hp => ⟨serv_may (a4 p hp), (f6 p hp).2⟩)]
  · obtain ⟨hsn, hb1, hb2, hd⟩ := may2 hm rfl
    obtain ⟨s1, s2, s3, s4, s5, s6, s7, s8, s9⟩ := sent_facts hsn
    simp only at s1 s2 s3 s4 s5 s6 s7 s8 s9 hb1 hb2 hd
    subst s5 s6 s7 s8
    rw [show Pk.enc ⟨2, n, i, hp, hs, bs, 0, 0, 0, []⟩ ++ rest = 2 :: (procB (n, i) ++ (hp :: (lsB hdB hs ++ (txtB bs ++ rest)))) by simp [Pk.enc, datE, topB]]
    unfold decK
    simp only [kU8_cons]
    rw [if_neg (by omega), if_pos trivial]
    rw [rGet_back (n, i) _ (life_may s1) f1.2]
    simp only [kU8_cons]
    rw [rHeads_back false hdB (fun h => h.i = 0 ∧ wfU64 h.c ∧ wfU64 h.s) hdB_back hs _ (fun h hh => by
      have := List.all_eq_true.1 hd h hh
      unfold dataH at this
      simp only [Bool.and_eq_true, Bool.not_eq_true', bne_eq_false_iff_eq] at this
      exact ⟨this.2, (f4 h hh).1, (f4 h hh).2.1⟩)]
    simp only
    rw [rText_back bs rest 320 hb2 (by omega)]
  · obtain ⟨hsn, hl, hb⟩ := may3 hm rfl
    obtain ⟨s1, s2, s3, s4, s5, s6, s7, s8, s9⟩ := sent_facts hsn
    simp only at s1 s2 s3 s4 s5 s6 s7 s8 s9 hl hb
    subst s5 s6 s7 s8 hb
    rw [show Pk.enc ⟨3, n, i, hp, hs, [], 0, 0, 0, []⟩ ++ rest = 3 :: (procB (n, i) ++ (hp :: (lsB haB hs ++ rest))) by simp [Pk.enc, ackE, topB]]
    unfold decK
    simp only [kU8_cons]
    rw [if_neg (by omega), if_neg (by omega), if_pos trivial]
    rw [rGet_back (n, i) _ (life_may s1) f1.2]
    simp only [kU8_cons]
    rw [rHeads_back true haB (fun h => wfU64 h.c ∧ wfU64 h.s ∧ wfU64 h.i) haB_back hs _ (fun h hh => f4 h hh)]
end Go.Proofs.Ytggmninbpnolgaa
