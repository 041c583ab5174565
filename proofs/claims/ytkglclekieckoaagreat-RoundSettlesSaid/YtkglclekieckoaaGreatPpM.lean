/-
  Layer 9: plain laws of the view that proposals make: their order plays no part; it may be; where each client stands.
-/
import Derived.Test.YtkglclekieckoaaGreatPv2
namespace Go.Proofs.YtkglclekieckoaaGreat
set_option linter.unusedSimpArgs false
set_option linter.unusedVariables false
set_option linter.unusedSectionVars false
open Go.RowKit

theorem Tryz.okPp : ElemOk Tryz.prog 31 41 6 96 := elemOk_of (.agg #[.int .i64 0, .int .u64 0, .int .u64 0, .slice none 0 0, .slice none 0 0, .slice none 0 0]) Tryz.underlying31 (by kernel_rfl) rfl (by omega)
theorem mem_look {L : List (Pr × Int)} (hn : (L.map (·.1)).Nodup) {p : Pr} {u : Int} (h : (p, u) ∈ L) : lookL L p = u := by
  obtain ⟨A, B, rfl⟩ := List.append_of_mem h
  have h2 : ∀ y ∈ B, y.1 ≠ p := fun y hy e => by
    rw [List.map_append, List.nodup_append, List.map_cons, List.nodup_cons] at hn
    exact hn.2.1.1 (List.mem_map.2 ⟨y, hy, e⟩)
  unfold lookL
  rw [List.reverse_append, List.reverse_cons, List.append_assoc, List.find?_append, List.find?_eq_none.2 (fun y hy => by simpa using h2 y (List.mem_reverse.1 hy))]
  simp
theorem look_none {L : List (Pr × Int)} {p : Pr} (h : ∀ x ∈ L, x.1 ≠ p) : lookL L p = 0 := by
  unfold lookL
  rw [List.find?_eq_none.2 (fun y hy => by simpa using h y (List.mem_reverse.1 hy))]
  rfl
theorem look_perm {L M : List (Pr × Int)} (hp : L.Perm M) (hn : (L.map (·.1)).Nodup) (p : Pr) : lookL L p = lookL M p := by
  have hm : (M.map (·.1)).Nodup := (hp.map (·.1)).nodup_iff.1 hn
  by_cases h : ∃ u, (p, u) ∈ L
  · obtain ⟨u, hu⟩ := h
    rw [mem_look hn hu, mem_look hm (hp.mem_iff.1 hu)]
  · rw [look_none (fun x hx e => h ⟨x.2, by rw [← e]; exact hx⟩), look_none (fun x hx e => h ⟨x.2, by rw [← e]; exact hp.mem_iff.2 hx⟩)]
theorem agreeB_iff {l : List Pp} : agreeB l = true ↔ l ≠ [] ∧ l.length ≤ 4 ∧ ∃ (rd : Int) (ss : List Pr), l.length = ss.length ∧ (∀ p ∈ l, p.mayB = true ∧ p.rd = rd ∧ p.ss = ss) ∧ sortedL (l.map Pp.sv) = ss := by
  cases l with
  | nil => simp [agreeB]
  | cons x l' =>
    unfold agreeB
    simp only [Bool.and_eq_true, decide_eq_true_eq, List.all_eq_true]
    constructor
    · rintro ⟨h1, h2, h3, h4⟩
      exact ⟨by simp, h1, x.rd, x.ss, h2, h3, h4⟩
    · rintro ⟨_, h1, rd, ss, h2, h3, h4⟩
      obtain ⟨_, rfl, rfl⟩ := h3 x (by simp)
      exact ⟨h1, h2, h3, h4⟩
theorem agreeB_perm {l m : List Pp} (h : l.Perm m) : agreeB l = agreeB m := by
  have key : ∀ {l m : List Pp}, l.Perm m → agreeB l = true → agreeB m = true := by
    intro l m h hl
    obtain ⟨h0, h1, rd, ss, h2, h3, h4⟩ := agreeB_iff.1 hl
    refine agreeB_iff.2 ⟨fun e => h0 (by subst e; exact h.eq_nil), by rw [← h.length_eq]; exact h1, rd, ss, by rw [← h.length_eq]; exact h2, fun p hp => h3 p (h.mem_iff.2 hp), ?_⟩
    rw [← h4]
    exact sortedL_congr (fun x => ((h.map Pp.sv).mem_iff).symm)
  cases hl : agreeB l
  · cases hm : agreeB m
    · rfl
    · rw [key h.symm hm] at hl; cases hl
  · rw [key h hl]
theorem lives_nodup {l : List Pr} (h : livesB l = true) : l.Nodup := by
  have h1 : (l.map (·.1)).Nodup := of_decide_eq_true h
  exact List.Pairwise.of_map (·.1) (fun _ _ h e => h (by rw [e])) h1
theorem sorted_perm {l : List Pr} (h : l.Nodup) : (sortedL l).Perm l := (List.perm_ext_iff_of_nodup (ss_nodup (sortedL_ss l)) h).2 (fun _ => mem_sortedL)
theorem agree_us {l : List Pp} (h : agreeB l = true) : ∀ x ∈ l, x.us.length = x.cs.length := fun x hx => (mayB_facts ((agreeB_few h).2.1 x hx)).2.2.2.2.2.2.2.2.2.1
theorem heads {l : List Pp} {rd : Int} {ss : List Pr} (h0 : l ≠ []) (h3 : ∀ p ∈ l, p.mayB = true ∧ p.rd = rd ∧ p.ss = ss) : (l.getD 0 default).rd = rd ∧ (l.getD 0 default).ss = ss ∧ (l.getD 0 default).mayB = true := by
  cases l with
  | nil => exact absurd rfl h0
  | cons x l' =>
    obtain ⟨a, b, c⟩ := h3 x (by simp)
    exact ⟨b, c, a⟩
theorem viewP_perm {l m : List Pp} (h : l.Perm m) : viewP l = viewP m := by
  have ha := agreeB_perm h
  have hc : (clsP l).Perm (clsP m) := h.flatMap_right _
  have hp : (prs l).Perm (prs m) := h.flatMap_right _
  have hlb : livesB (clsP l) = livesB (clsP m) := decide_eq_decide.2 (hc.map (·.1)).nodup_iff
  have hs : sortedL (clsP l) = sortedL (clsP m) := sortedL_congr (fun x => hc.mem_iff)
  unfold viewP
  rw [← ha, ← hlb, ← hs, ← hc.length_eq]
  cases hag : agreeB l
  · simp
  · simp only [Bool.true_eq_false, ↓reduceIte]
    split
    · rfl
    · rename_i hb
      have hli : livesB (clsP l) = true := by
        cases hq : livesB (clsP l)
        · exact absurd (.inr (.inr hq)) hb
        · rfl
      obtain ⟨h0, h1, rd, ss, h2, h3, h4⟩ := agreeB_iff.1 hag
      obtain ⟨a1, a2, _⟩ := heads h0 h3
      obtain ⟨b1, b2, _⟩ := heads (l := m) (fun e => h0 (by subst e; exact h.eq_nil)) (fun p hp => h3 p (h.mem_iff.2 hp))
      have hn : ((prs l).map (·.1)).Nodup := by rw [(prs_len (agree_us hag)).2]; exact lives_nodup hli
      rw [a1, a2, b1, b2, List.map_congr_left (fun p _ => look_perm hp hn p)]
theorem viewP_some {l : List Pp} {rd vn vi : Int} {ms : List Pr} {us : List Int} (h : viewP l = some ((rd, vn, vi), ms, us)) :
    agreeB l = true ∧ 1 ≤ (clsP l).length ∧ (clsP l).length ≤ 6 ∧ livesB (clsP l) = true ∧ rd = (l.getD 0 default).rd ∧ (vn, vi) = (l.getD 0 default).ss.getD 0 (0, 0) ∧ ms = sortedL (clsP l) ∧ us = ms.map (lookL (prs l)) := by
  unfold viewP at h
  split at h
  · cases h
  · rename_i ha
    split at h
    · cases h
    · rename_i hb
      simp only [Option.some.injEq, Prod.mk.injEq] at h
      obtain ⟨⟨h1, h2, h3⟩, h4, h5⟩ := h
      simp only [not_or] at hb
      refine ⟨by simpa using ha, by omega, by omega, by simpa using hb.2.2, h1.symm, ?_, h4.symm, ?_⟩
      · rw [← h2, ← h3]
      · rw [← h4]; exact h5.symm
theorem mayB_low {x : Pp} (h : x.mayB = true) : ∀ p ∈ x.ss, p.1 ≤ 4 := by
  unfold Pp.mayB at h
  simp only [Bool.and_eq_true, apartB_iff, decide_eq_true_eq, Bool.not_eq_true', decide_eq_false_iff_not, beq_iff_eq] at h
  exact h.2.1.2.2.2
theorem viewP_ms {l : List Pp} {rd vn vi : Int} {ms : List Pr} {us : List Int} (h : viewP l = some ((rd, vn, vi), ms, us)) : ms.Perm (clsP l) ∧ ms.length = (clsP l).length ∧ us.length = ms.length := by
  obtain ⟨_, _, _, h4, _, _, h7, h8⟩ := viewP_some h
  have hp := sorted_perm (lives_nodup h4)
  rw [← h7] at hp
  exact ⟨hp, hp.length_eq, by rw [h8, List.length_map]⟩
theorem viewP_at {l : List Pp} {rd vn vi : Int} {ms : List Pr} {us : List Int} (h : viewP l = some ((rd, vn, vi), ms, us)) {p : Pr} {u : Int} (hp : (p, u) ∈ prs l) : startV ms us p = .tuple #[.int .u64 u, .bool true] := by
  obtain ⟨h1, _, _, h4, _, _, _, h8⟩ := viewP_some h
  obtain ⟨g1, g2, g3⟩ := viewP_ms h
  have hm : p ∈ ms := g1.mem_iff.2 (by rw [← (prs_len (agree_us h1)).2]; exact List.mem_map.2 ⟨(p, u), hp, rfl⟩)
  have hi : ms.idxOf p < ms.length := List.idxOf_lt_length_of_mem hm
  have hn : ((prs l).map (·.1)).Nodup := by rw [(prs_len (agree_us h1)).2]; exact lives_nodup h4
  unfold startV
  rw [if_pos ⟨hm, by rw [g3]; exact hi⟩]
  have e : us.getD (ms.idxOf p) 0 = u := by
    rw [h8, List.getD_eq_getElem?_getD, List.getElem?_map, List.getElem?_eq_getElem hi]
    simp only [List.getElem_idxOf, Option.map_some, Option.getD_some]
    exact mem_look hn hp
  rw [e]
theorem getD0_mem (s : List Pr) (h : 1 ≤ s.length) : s.getD 0 (0, 0) ∈ s := by
  cases s with
  | nil => simp at h
  | cons x s => simp
theorem viewP_may {l : List Pp} {rd vn vi : Int} {ms : List Pr} {us : List Int} (h : viewP l = some ((rd, vn, vi), ms, us)) (MA UA : Option Addr) (mc uc : Nat) : Vw.mayB ⟨rd, vn, vi, MA, mc, ms, UA, uc, us⟩ = true := by
  obtain ⟨h1, h2, h3, h4, h5, h6, h7, h8⟩ := viewP_some h
  obtain ⟨g1, g2, g3⟩ := viewP_ms h
  obtain ⟨k0, k1, rd', ss, k2, k3, k4⟩ := agreeB_iff.1 h1
  obtain ⟨a1, a2, a3⟩ := heads k0 k3
  have f := mayB_facts a3
  have hin : (vn, vi) ∈ (l.getD 0 default).ss := by
    rw [h6]
    exact getD0_mem _ f.1
  have hv := setB_may f.2.2.1 _ hin
  have hv4 := mayB_low a3 _ hin
  have hrd : rd ≠ 0 := by rw [h5]; have := f.2.2.2.2.2.1; omega
  have hmm : ∀ p ∈ ms, mayB p.1 p.2 = true := fun p hp => by
    obtain ⟨x, hx, hxp⟩ := List.mem_flatMap.1 (g1.mem_iff.1 hp)
    exact setB_may (mayB_facts (k3 x hx).1).2.2.2.2.2.2.2.1 p hxp
  have hlm : livesB ms = true := by
    unfold livesB at h4 ⊢
    simp only [decide_eq_true_eq] at h4 ⊢
    exact (g1.map (·.1)).nodup_iff.2 h4
  have hn : ((prs l).map (·.1)).Nodup := by rw [(prs_len (agree_us h1)).2]; exact lives_nodup h4
  have hu0 : (0 : Int) ∉ us := by
    rw [h8]
    intro hc
    obtain ⟨p, hp, hpu⟩ := List.mem_map.1 hc
    have hp' := g1.mem_iff.1 hp
    rw [← (prs_len (agree_us h1)).2] at hp'
    obtain ⟨⟨q, u⟩, hq, rfl⟩ := List.mem_map.1 hp'
    rw [mem_look hn hq] at hpu
    obtain ⟨x, hx, hxq⟩ := List.mem_flatMap.1 hq
    have := (mayB_facts (k3 x hx).1).2.2.2.2.2.2.2.2.2.2
    exact this (by rw [← hpu]; exact (List.of_mem_zip hxq).2)
  unfold Vw.mayB mayIdB mayAB
  simp only
  rw [if_neg hrd, hv, lives_nodes, hlm, setB_of (by rw [h7]; exact sortedL_ss _) hmm, g3]
  simp [hu0, show vn ≤ 4 from hv4]
  omega
theorem turn_get (l : List Pp) (k j : Nat) (hk : k < l.length) (hj : j < l.length) : (l.drop k ++ l.take k)[j]? = l[(j + k) % l.length]? := by
  rw [List.getElem?_append, List.length_drop]
  split
  · rename_i h
    rw [List.getElem?_drop, Nat.mod_eq_of_lt (by omega), Nat.add_comm]
  · rename_i h
    have e : (j + k) % l.length = j - (l.length - k) := by
      have : j + k = l.length + (j - (l.length - k)) := by omega
      rw [this, Nat.add_mod_left, Nat.mod_eq_of_lt (by omega)]
    rw [e, List.getElem?_take, if_pos (by omega)]
theorem turn_perm (l : List Pp) (k : Nat) : l.Perm (l.drop k ++ l.take k) := by
  have h : (l.take k ++ l.drop k).Perm (l.drop k ++ l.take k) := List.perm_append_comm
  rwa [List.take_append_drop] at h
theorem prs_mem {l : List Pp} {x : Pp} {p : Pr} {u : Int} {c : Nat} (hx : x ∈ l) (hp : x.cs[c]? = some p) (hu : x.us[c]? = some u) : (p, u) ∈ prs l :=
  List.mem_flatMap.2 ⟨x, hx, List.mem_of_getElem? (i := c) (by rw [List.getElem?_zip_eq_some]; exact ⟨hp, hu⟩)⟩
end Go.Proofs.YtkglclekieckoaaGreat
