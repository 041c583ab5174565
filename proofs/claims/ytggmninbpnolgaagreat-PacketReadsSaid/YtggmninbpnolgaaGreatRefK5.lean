/-
  Layer 6: contracts of the reference: May; the plain law: it is packet.May.
-/
import Derived.Test.YtggmninbpnolgaaGreatRefK
import Derived.Test.YtggmninbpnolgaaGreatRefK4
import Derived.Test.YtggmninbpnolgaaGreatPkL
import Derived.Deep.DeepCutAuto
namespace Go.Proofs.YtggmninbpnolgaaGreat
set_option linter.unusedSimpArgs false
set_option linter.unusedVariables false
set_option linter.unusedSectionVars false
open Go.RowKit

/-! ### plain -/
theorem serv_node {n i : Int} (h : servB n i = true) : 1 ≤ n ∧ n ≤ 4 := by
  simp [servB, lifeB, mayB] at h
  omega
theorem radvB_eq (an ai sq : Int) (ps : List Pr) (h0 : 0 ≤ sq) : radvB an ai sq ps = advB an ai sq ps := by
  unfold radvB advB
  rw [lives_nodes, Bool.eq_iff_iff]
  simp only [Bool.and_eq_true, Bool.not_eq_true', decide_eq_false_iff_not, decide_eq_true_eq, beq_eq_false_iff_ne, ne_eq, countB, List.all_eq_true, livesB, List.map_cons, List.nodup_cons, advP]
  constructor
  · rintro ⟨h1, h2, h3, h4, h5, h6, h7⟩
    refine ⟨h1, ⟨by omega, by omega⟩, ?_, h4, fun p hp => ⟨h5 p hp, fun e => h6 (e ▸ List.mem_map_of_mem hp)⟩, h7⟩
    have := nodup_len (an :: ps.map (·.1)) [1, 2, 3, 4] (List.nodup_cons.2 ⟨h6, h7⟩) (by
      intro x hx
      have : 1 ≤ x ∧ x ≤ 4 := by
        rcases List.mem_cons.1 hx with rfl | hx
        · exact serv_node h1
        · obtain ⟨p, hp, rfl⟩ := List.mem_map.1 hx; exact serv_node (h5 p hp)
      simp; omega)
    simp at this; omega
  · rintro ⟨h1, ⟨h2, h3⟩, h4, h5, h6, h7⟩
    refine ⟨h1, by omega, by omega, h5, fun p hp => (h6 p hp).1, fun hm => ?_, h7⟩
    obtain ⟨p, hp, e⟩ := List.mem_map.1 hm
    exact (h6 p hp).2 e
def exH (k : Int) (h : Hd) : Bool := decide (h.s < 34359738368) && (decide (h.i < 34359738368) && !((k == 2) && ((h.s == 0) || (h.i != 0)) || ((k == 3) && (h.i == 0))))
theorem rheadB_eq (k n : Int) (p : Hd) (h0 : 0 ≤ p.c) : rheadB k n p = (headB n p && exH k p) := by
  have e1 : decide (1 ≤ p.d) = !decide (p.d < 1) := by rw [Bool.eq_iff_iff]; simp
  have e2 : decide (p.d ≤ 10) = !decide (10 < p.d) := by rw [Bool.eq_iff_iff]; simp
  have e3 : countB p.c 1 = (!(p.c == 0) && decide (p.c < 34359738368)) := by rw [Bool.eq_iff_iff]; simp [countB]; omega
  unfold rheadB headB exH
  rw [e1, e2, e3]
  simp only [Bool.and_assoc]
theorem rokH_eq (k n : Int) (hs : List Hd) (m : Nat) (h0 : 0 ≤ (hs.getD m default).c) : rokH k n hs m = (okH n hs m && exH k (hs.getD m default)) := by
  unfold rokH okH
  rw [rheadB_eq _ _ _ h0]
  cases headB n (hs.getD m default) <;> cases exH k (hs.getD m default) <;> simp
theorem rheads_eq (k n : Int) (hs : List Hd) (h0 : ∀ p ∈ hs, 0 ≤ p.c) : rheadsB k n hs = (headsB n hs && hs.all (exH k)) := by
  have h1 : ∀ m, m < hs.length → 0 ≤ (hs.getD m default).c := fun m hm => by rw [getH (List.getElem?_eq_getElem hm)]; exact h0 _ (List.getElem_mem hm)
  rw [Bool.eq_iff_iff, Bool.and_eq_true]
  unfold rheadsB headsB
  simp only [List.all_eq_true, List.mem_range]
  constructor
  · intro h
    have h' : ∀ m, m < hs.length → okH n hs m = true ∧ exH k (hs.getD m default) = true := fun m hm => by
      have := h m hm
      rwa [rokH_eq k n hs m (h1 m hm), Bool.and_eq_true] at this
    refine ⟨fun m hm => (h' m hm).1, fun p hp => ?_⟩
    obtain ⟨m, hm, rfl⟩ := List.getElem_of_mem hp
    have := (h' m hm).2
    rwa [getH (List.getElem?_eq_getElem hm)] at this
  · rintro ⟨h2, h3⟩ m hm
    rw [rokH_eq k n hs m (h1 m hm), h2 m hm, getH (List.getElem?_eq_getElem hm), h3 _ (List.getElem_mem hm)]
    rfl
theorem ex_data (h : Hd) (h0 : 0 ≤ h.s) : exH 2 h = dataH h := by
  rw [Bool.eq_iff_iff]; simp [exH, dataH, countB]; omega
theorem ex_ack (h : Hd) (h0 : 0 ≤ h.s) (h1 : 0 ≤ h.i) : exH 3 h = ackH h := by
  rw [Bool.eq_iff_iff]; simp [exH, ackH, countB]; omega
theorem all_congr' {α : Type} {f g : α → Bool} : ∀ {l : List α}, (∀ x ∈ l, f x = g x) → l.all f = l.all g
  | [], _ => rfl
  | a :: l, h => by rw [List.all_cons, List.all_cons, h a (by simp), all_congr' (fun x hx => h x (List.mem_cons_of_mem _ hx))]
def bareB (an ai sq : Int) (ps : List Pr) : Bool := (an == 0) && ((ai == 0) && ((sq == 0) && ((ps.length : Int) == 0)))
def aloneB (n i hp : Int) (hs : List Hd) (bs : List Int) : Bool := (n == 0) && ((i == 0) && ((hp == 0) && (((hs.length : Int) == 0) && ((bs.length : Int) == 0))))
def tailB (k : Int) (hs : List Hd) (bs : List Int) : Bool := if k = 2 then decide (1 ≤ (bs.length : Int)) && decide ((bs.length : Int) ≤ 320) else if k = 3 then ((bs.length : Int) == 0) && ((hs.length : Int) == 1) else false
def rmayB (k n i hp : Int) (hs : List Hd) (bs : List Int) (an ai sq : Int) (ps : List Pr) : Bool :=
  if k = 1 then aloneB n i hp hs bs && radvB an ai sq ps
  else bareB an ai sq ps && (lifeB n i && (!decide (hp < 0) && (!decide (8 < hp) && ((rheadsB k n hs && decide (1 ≤ (hs.length : Int))) && tailB k hs bs))))
theorem rmay_eq (k n i hp : Int) (hs : List Hd) (bs : List Int) (an ai sq : Int) (ps : List Pr) (h0 : 0 ≤ sq) (h1 : ∀ p ∈ hs, 0 ≤ p.c ∧ 0 ≤ p.s ∧ 0 ≤ p.i) : rmayB k n i hp hs bs an ai sq ps = mayKB k n i hp hs bs an ai sq ps := by
  unfold rmayB mayKB
  by_cases k1 : k = 1
  · rw [if_pos k1, if_pos k1, radvB_eq _ _ _ _ h0, Bool.eq_iff_iff]
    simp only [aloneB, eqP, Bool.and_eq_true, decide_eq_true_eq, beq_iff_eq, and_assoc]
  rw [if_neg k1, if_neg k1, rheads_eq k n hs (fun p hp => (h1 p hp).1)]
  by_cases k2 : k = 2
  · subst k2
    rw [if_pos rfl, all_congr' (fun x hx => ex_data x (h1 x hx).2.1), Bool.eq_iff_iff]
    simp only [tailB, if_true, dataB, sentB, bareB, eqP, Bool.and_eq_true, decide_eq_true_eq, beq_iff_eq, Bool.not_eq_true', decide_eq_false_iff_not, beq_eq_false_iff_ne, bne_eq_false_iff_eq, ne_eq]
    constructor
    · rintro ⟨⟨a1, a2, a3, a4⟩, a5, a6, a7, ⟨⟨a8, a9⟩, a10⟩, a11, a12⟩
      exact ⟨⟨a5, a6, a7, by omega, ⟨a1, a2⟩, a3, a4, a8⟩, by omega, by omega, a9⟩
    · rintro ⟨⟨a5, a6, a7, a10, ⟨a1, a2⟩, a3, a4, a8⟩, a11, a12, a9⟩
      exact ⟨⟨a1, a2, a3, a4⟩, a5, a6, a7, ⟨⟨a8, a9⟩, by omega⟩, by omega, by omega⟩
  rw [if_neg k2]
  by_cases k3 : k = 3
  · subst k3
    rw [if_pos rfl, all_congr' (fun x hx => ex_ack x (h1 x hx).2.1 (h1 x hx).2.2), Bool.eq_iff_iff]
    have hone : hs.length = 1 → (hs.all ackH = true ↔ ackH (hs.getD 0 default) = true) := fun h => by
      match hs, h with
      | [x], _ => simp
    simp only [tailB, ackB, sentB, bareB, eqP, Bool.and_eq_true, decide_eq_true_eq, beq_iff_eq, Bool.not_eq_true', decide_eq_false_iff_not, beq_eq_false_iff_ne, bne_eq_false_iff_eq, ne_eq, if_true, show (3 : Int) = 2 ↔ False from by simp, if_false]
    constructor
    · rintro ⟨⟨a1, a2, a3, a4⟩, a5, a6, a7, ⟨⟨a8, a9⟩, a10⟩, a11, a12⟩
      exact ⟨⟨a5, a6, a7, by omega, ⟨a1, a2⟩, a3, a4, a8⟩, a12, a11, (hone (by omega)).1 a9⟩
    · rintro ⟨⟨a5, a6, a7, a10, ⟨a1, a2⟩, a3, a4, a8⟩, a12, a11, a9⟩
      exact ⟨⟨a1, a2, a3, a4⟩, a5, a6, a7, ⟨⟨a8, (hone (by omega)).2 a9⟩, by omega⟩, a11, a12⟩
  · rw [if_neg k3]
    simp [tailB, k2, k3]
end Go.Proofs.YtggmninbpnolgaaGreat
