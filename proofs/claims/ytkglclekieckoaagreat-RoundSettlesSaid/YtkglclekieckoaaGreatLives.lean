/-
  Does no node stand twice? Contract: the reference's Lives.
-/
import Derived.Test.YtkglclekieckoaaGreatInts
import Derived.Test.YtkglclekieckoaaGreatMeet
namespace Go.Proofs.YtkglclekieckoaaGreat
set_option linter.unusedSimpArgs false
set_option linter.unusedVariables false
set_option linter.unusedSectionVars false
open Go.RowKit

/-! ### does no node stand twice? -/
def livesB (l : List Pr) : Bool := decide ((l.map (·.1)).Nodup)
theorem nodup_len : ∀ (N L : List Int), N.Nodup → (∀ x ∈ N, x ∈ L) → N.length ≤ L.length := by
  intro N
  induction N with
  | nil => intro L _ _; simp
  | cons a N ih =>
    intro L hn hs
    obtain ⟨h1, h2⟩ := List.nodup_cons.1 hn
    have ha : a ∈ L := hs a (by simp)
    have := ih (L.erase a) h2 (fun x hx => by
      have hne : x ≠ a := fun e => h1 (e ▸ hx)
      exact (List.mem_erase_of_ne hne).2 (hs x (by simp [hx])))
    rw [List.length_erase_of_mem ha] at this
    have hp : 0 < L.length := List.length_pos_of_mem ha
    simp; omega
theorem dup_less : ∀ (L : List Int), ¬ L.Nodup → ∃ L' : List Int, L'.length + 1 = L.length ∧ ∀ x ∈ L, x ∈ L' := by
  intro L
  induction L with
  | nil => intro h; simp at h
  | cons a L ih =>
    intro h
    by_cases ha : a ∈ L
    · exact ⟨L, by simp, fun x hx => by rcases List.mem_cons.1 hx with rfl | hx <;> assumption⟩
    · obtain ⟨L', h1, h2⟩ := ih (fun hn => h (List.nodup_cons.2 ⟨ha, hn⟩))
      exact ⟨a :: L', by simp; omega, fun x hx => by
        rcases List.mem_cons.1 hx with rfl | hx
        · simp
        · simp [h2 x hx]⟩
theorem lives_nodes (l : List Pr) : (((nodesL l).length : Int) == (l.length : Int)) = livesB l := by
  obtain ⟨h1, h2⟩ := nodesL_spec l
  have hN : (nodesL l).Nodup := h1.imp fun h => by omega
  have hs : ∀ x ∈ nodesL l, x ∈ l.map (·.1) := fun x hx => by
    obtain ⟨p, hp, e⟩ := (h2 x).1 hx
    exact List.mem_map.2 ⟨p, hp, e⟩
  have hs' : ∀ x ∈ l.map (·.1), x ∈ nodesL l := fun x hx => by
    obtain ⟨p, hp, e⟩ := List.mem_map.1 hx
    exact (h2 x).2 ⟨p, hp, e⟩
  unfold livesB
  by_cases hd : (l.map (·.1)).Nodup
  · rw [decide_eq_true hd]
    have a := nodup_len _ _ hN hs
    have b := nodup_len _ _ hd hs'
    simp at a b ⊢; omega
  · rw [decide_eq_false hd]
    obtain ⟨L', h3, h4⟩ := dup_less _ hd
    have := nodup_len _ L' hN (fun x hx => h4 x (hs x hx))
    simp at h3 ⊢; omega
theorem lives_step {l : List Pr} {k : Nat} {p : Pr} (h : l[k]? = some p) : ((l.take (k + 1)).map (·.1)) = (l.take k).map (·.1) ++ [p.1] := by
  rw [take_succ_of h]; simp
theorem lives_bad {l : List Pr} {k m : Nat} {p q : Pr} (h : l[k]? = some p) (hm : m < k) (h' : l[m]? = some q) (e : q.1 = p.1) : livesB l = false := by
  unfold livesB
  refine decide_eq_false fun hn => ?_
  have hk := (List.getElem?_eq_some_iff.1 h).1
  have := List.pairwise_iff_getElem.1 hn m k (by simp; omega) (by simpa using hk) hm
  obtain ⟨h1, h2⟩ := List.getElem?_eq_some_iff.1 h
  obtain ⟨h3, h4⟩ := List.getElem?_eq_some_iff.1 h'
  rw [List.getElem_map, List.getElem_map, h2, h4] at this
  exact this e
set_option maxHeartbeats 1000000 in
theorem lives_s (A : Option Addr) (c : Nat) (l : List Pr) (w : World) (h : Sl w A l) (hn : l.length ≤ 1000000) : Calls Tryz.prog 55 #[.slice A l.length c] w (RetB w (livesB l)) := by
  have HL := hide h
  clear h
  go_enter Tryz.func55, Tryz.ntmps55
  go_wp2
  go_loopw [3] (fun i wr => ∃ (k q : Nat), k ≤ l.length ∧ i = .int .i64 k ∧ wr = w.drewN q ∧ ((l.take k).map (·.1)).Nodup) (fun i _ => l.length - (intOf i).toNat)
  case atStart => exact ⟨0, 0, Nat.zero_le _, rfl, rfl, by simp⟩
  case round =>
    obtain ⟨k, q, hk, rfl, rfl, hnd⟩ := hrel
    have HN := hide hnd
    clear hnd
    by_cases hlt : k < l.length
    · obtain ⟨b, off, ⟨pn, pi⟩, rfl, hb, hp, g1, g2⟩ := HL.out.at2 hlt
      have HP := hide hp
      simp only at g1 g2
      clear hp
      have i1 : (k : Int) < (l.length : Int) := by omega
      go_wp2
      go_loopw [4] (fun j wr => ∃ (m q : Nat), m ≤ k ∧ j = .int .i64 m ∧ wr = w.drewN q ∧ pn ∉ (l.take m).map (·.1)) (fun j _ => k - (intOf j).toNat)
      case atStart => exact ⟨0, q, Nat.zero_le _, rfl, rfl, by simp⟩
      case round =>
        obtain ⟨m, q2, hm, rfl, rfl, hnot⟩ := hrel
        have HM := hide hnot
        clear hnot
        by_cases hlt2 : m < k
        · obtain ⟨b', off', ⟨qn, qi⟩, e1, hb', hp', g1', g2'⟩ := HL.out.at2 (show m < l.length by omega)
          injection e1 with e1
          injection e1 with e1 e2
          subst e1 e2
          have HP' := hide hp'
          simp only at g1' g2'
          clear hp'
          have i2 : (m : Int) < (l.length : Int) := by omega
          have i3 : (m : Int) < (k : Int) := by omega
          by_cases he : qn = pn
          · have H := hide (lives_bad HP.out hlt2 HP'.out he)
            have hxy : (qn == pn) = true := by simp [he]
            clear he
            go_wp2
            go_quiet (fail)
            go_wp2
            go_ret
            exact ⟨ret_b H.out.symm, below_drewN (below_drewN (Below.refl _ _) _) _⟩
          · have H := hide (show pn ∉ (l.take (m + 1)).map (·.1) by
              rw [lives_step HP'.out, List.mem_append, List.mem_singleton]
              rintro (h | h)
              · exact HM.out h
              · exact he h.symm)
            have hxy : (qn == pn) = false := by simp [he]
            clear he
            go_wp2
            go_quiet (fail)
            go_wp2
            go_roundw
            case rel => exact ⟨m + 1, _, by omega, by go_num, rfl, H.out⟩
            case measure => simp [intOf]; omega
        · obtain rfl : m = k := by omega
          have H := hide (show ((l.take (m + 1)).map (·.1)).Nodup by
            rw [lives_step HP.out]
            refine List.nodup_append.2 ⟨HN.out, by simp, fun a ha b hb => ?_⟩
            simp at hb
            subst hb
            intro e
            exact HM.out (e ▸ ha))
          go_wp2
          go_roundw
          case rel => exact ⟨m + 1, _, by omega, by go_num, rfl, H.out⟩
          case measure => simp [intOf]; omega
    · obtain rfl : k = l.length := by omega
      have H := hide (show livesB l = true by have := HN.out; rw [List.take_length] at this; exact decide_eq_true this)
      go_wp2
      go_ret
      exact ⟨ret_b H.out.symm, below_drewN (Below.refl _ _) _⟩

/-! ### the names, the first view -/
end Go.Proofs.YtkglclekieckoaaGreat
