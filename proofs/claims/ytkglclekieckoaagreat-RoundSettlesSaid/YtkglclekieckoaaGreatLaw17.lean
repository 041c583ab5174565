/-
  Plain laws on what hearing a client comes to.
-/
import Derived.Test.YtkglclekieckoaaGreatReg7
namespace Go.Proofs.YtkglclekieckoaaGreat
set_option linter.unusedSimpArgs false
set_option linter.unusedVariables false
set_option linter.unusedSectionVars false
open Go.RowKit Go.Sort Go.Lib

theorem mayR_iff (l : List Cl) : mayR l = true ↔ rising l ∧ (∀ x ∈ l, mayB x.n x.i = true) ∧ l.length ≤ 6 := by
  constructor
  · intro h
    refine ⟨mayR_rising h, ?_, ?_⟩
    · intro x hx
      obtain ⟨k, hk, rfl⟩ := List.getElem_of_mem hx
      unfold mayR at h
      rw [Bool.and_eq_true, List.all_eq_true] at h
      have := h.1 k (List.mem_range.2 hk)
      unfold okR at this
      rw [Bool.and_eq_true] at this
      simpa [List.getD, hk] using this.1
    · unfold mayR at h
      rw [Bool.and_eq_true] at h
      simpa using h.2
  · rintro ⟨hr, hm, hl⟩
    unfold mayR
    rw [Bool.and_eq_true, List.all_eq_true]
    refine ⟨fun k hk => ?_, by simpa using hl⟩
    have hk := List.mem_range.1 hk
    unfold okR
    rw [Bool.and_eq_true, Bool.or_eq_true]
    refine ⟨by simpa [List.getD, hk] using hm l[k] (List.getElem_mem hk), ?_⟩
    by_cases h0 : k = 0
    · left; simpa using h0
    · right
      have := List.pairwise_iff_getElem.1 hr (k - 1) k (by omega) hk (by omega)
      simpa [List.getD, hk, show k - 1 < l.length by omega] using this
theorem takenR_of {l : List Cl} (h : mayR l = true) : takenR l = l := by simp [takenR, h]

theorem part_rising {n : Int} {l : List Cl} (hr : rising l) (hn : ∀ x ∈ l, x.n ≠ n) : l.filter (fun x => decide (x.n < n)) ++ l.filter (fun x => decide (n < x.n)) = l := by
  induction l with
  | nil => rfl
  | cons x l ih =>
    have hr' := (List.pairwise_cons.1 hr).2
    have ih := ih hr' (fun y hy => hn y (List.mem_cons_of_mem _ hy))
    have hx := hn x List.mem_cons_self
    by_cases h : x.n < n
    · rw [List.filter_cons_of_pos (by simpa using h), List.filter_cons_of_neg (by simp; omega), List.cons_append, ih]
    · have hgt : ∀ y ∈ l, n < y.n := fun y hy => by have := (List.pairwise_cons.1 hr).1 y hy; omega
      have e1 : l.filter (fun x => decide (x.n < n)) = [] := by
        rw [List.filter_eq_nil_iff]; intro y hy; have := hgt y hy; simp; omega
      rw [List.filter_cons_of_neg (by simpa using h), List.filter_cons_of_pos (by simp; omega), e1] 
      rw [e1] at ih
      rw [List.nil_append] at ih ⊢
      rw [ih]
theorem less_less (m : List Cl) (n : Int) : lessR (lessR m n) n = lessR m n := by
  unfold lessR; rw [List.filter_filter]; congr 1; funext x; simp
theorem less_id {m : List Cl} {n : Int} (h : ∀ x ∈ m, x.n ≠ n) : lessR m n = m := by
  unfold lessR; rw [List.filter_eq_self]; intro x hx; simpa using h x hx
theorem less_ins {c : Cl} {l : List Cl} (hr : rising l) (hn : ∀ x ∈ l, x.n ≠ c.n) : lessR (insR c l) c.n = l := by
  unfold insR
  unfold lessR
  rw [List.filter_append, List.filter_cons_of_neg (by simp)]
  have e1 : (l.filter (fun x => decide (x.n < c.n))).filter (fun x => !(x.n == c.n)) = l.filter (fun x => decide (x.n < c.n)) := by
    rw [List.filter_eq_self]; intro x hx; have := (List.mem_filter.1 hx).2; simp at this ⊢; omega
  have e2 : (l.filter (fun x => decide (c.n < x.n))).filter (fun x => !(x.n == c.n)) = l.filter (fun x => decide (c.n < x.n)) := by
    rw [List.filter_eq_self]; intro x hx; have := (List.mem_filter.1 hx).2; simp at this ⊢; omega
  rw [e1, e2]
  exact part_rising hr hn
theorem less_map (m : List Cl) (n : Int) (z : Cl) (hz : z.n = n) : lessR (m.map fun y => if y.n = n then z else y) n = lessR m n := by
  unfold lessR
  induction m with
  | nil => rfl
  | cons y m ih =>
    rw [List.map_cons]
    by_cases h : y.n = n
    · rw [if_pos h, List.filter_cons_of_neg (by simp [hz]), List.filter_cons_of_neg (by simp [h]), ih]
    · rw [if_neg h, List.filter_cons_of_pos (by simp [h]), List.filter_cons_of_pos (by simp [h]), ih]
theorem less_len {m : List Cl} {n : Int} {x : Cl} (hx : x ∈ m) (hn : x.n = n) : (lessR m n).length + 1 ≤ m.length := by
  unfold lessR
  induction m with
  | nil => cases hx
  | cons y m ih =>
    rcases List.mem_cons.1 hx with rfl | h
    · rw [List.filter_cons_of_neg (by simp [hn])]
      have := List.length_filter_le (fun x => !(x.n == n)) m
      simp only [List.length_cons]; omega
    · have := ih h
      simp only [List.filter_cons]
      split <;> simp only [List.length_cons] <;> omega
theorem insR_len {c : Cl} {l : List Cl} (hn : ∀ x ∈ l, x.n ≠ c.n) : (insR c l).length = l.length + 1 := by
  have := (insR_perm hn).length_eq
  simpa using this
theorem insR_mem {c : Cl} {l : List Cl} {x : Cl} (h : x ∈ insR c l) : x = c ∨ x ∈ l := by
  unfold insR at h
  rw [List.mem_append, List.mem_cons] at h
  rcases h with h | h | h
  · exact .inr (List.mem_filter.1 h).1
  · exact .inl h
  · exact .inr (List.mem_filter.1 h).1
theorem may_ins {c : Cl} {m : List Cl} (hm : mayR m = true) (hc : mayB c.n c.i = true) (hl : (lessR m c.n).length + 1 ≤ 6) : mayR (insR c (lessR m c.n)) = true := by
  obtain ⟨h1, h2, h3⟩ := (mayR_iff m).1 hm
  refine (mayR_iff _).2 ⟨insR_rising (less_rising h1 _), ?_, ?_⟩
  · intro x hx
    rcases insR_mem hx with rfl | hx
    · exact hc
    · exact h2 x (List.mem_filter.1 hx).1
  · rw [insR_len (less_ne m c.n)]; exact hl
theorem find_ins {c : Cl} {l : List Cl} (hn : ∀ x ∈ l, x.n ≠ c.n) : (insR c l).find? (fun x => x.n == c.n) = some c := by
  unfold insR
  rw [List.find?_append]
  have : (l.filter (fun x => decide (x.n < c.n))).find? (fun x => x.n == c.n) = none := by
    rw [List.find?_eq_none]; intro x hx; have := (List.mem_filter.1 hx).2; simp at this ⊢; omega
  rw [this]
  simp
theorem map_ins {c : Cl} {l : List Cl} (hn : ∀ x ∈ l, x.n ≠ c.n) : ((insR c l).map fun y => if y.n = c.n then c else y) = insR c l := by
  conv => rhs; rw [← List.map_id (insR c l)]
  apply List.map_congr_left
  intro y hy
  rcases insR_mem hy with rfl | hy
  · simp
  · rw [if_neg (hn y hy)]; rfl
theorem map_rising {m : List Cl} (hr : rising m) (n : Int) (z : Cl) (hz : z.n = n) : rising (m.map fun y => if y.n = n then z else y) := by
  unfold rising
  rw [List.pairwise_map]
  refine hr.imp fun {x y} h => ?_
  have e : ∀ y : Cl, (if y.n = n then z else y).n = y.n := fun y => by split <;> simp_all
  rw [e, e]; exact h
theorem may_map {m : List Cl} (hm : mayR m = true) (n : Int) (z : Cl) (hz : z.n = n) (hc : mayB z.n z.i = true) : mayR (m.map fun y => if y.n = n then z else y) = true := by
  obtain ⟨h1, h2, h3⟩ := (mayR_iff m).1 hm
  refine (mayR_iff _).2 ⟨map_rising h1 n z hz, ?_, by rw [List.length_map]; exact h3⟩
  intro x hx
  obtain ⟨y, hy, rfl⟩ := List.mem_map.1 hx
  split
  · exact hc
  · exact h2 y hy
theorem find_map {m : List Cl} {n : Int} {x z : Cl} (hf : m.find? (fun x => x.n == n) = some x) (hz : z.n = n) : (m.map fun y => if y.n = n then z else y).find? (fun x => x.n == n) = some z := by
  induction m with
  | nil => simp at hf
  | cons y m ih =>
    rw [List.map_cons]
    by_cases h : y.n = n
    · rw [if_pos h, List.find?_cons_of_pos (by simp [hz])]
    · rw [if_neg h, List.find?_cons_of_neg (by simp [h])]
      rw [List.find?_cons_of_neg (by simp [h])] at hf
      exact ih hf
theorem map_map_same (m : List Cl) (n : Int) (z : Cl) (hz : z.n = n) : ((m.map fun y => if y.n = n then z else y).map fun y => if y.n = n then z else y) = m.map fun y => if y.n = n then z else y := by
  rw [List.map_map]
  apply List.map_congr_left
  intro y _
  simp only [Function.comp]
  by_cases h : y.n = n
  · simp [h, hz]
  · simp [h]

theorem not3 (c : Bool) : ¬ ((if (false : Bool) = true then (3 : Int) else if c = true then 2 else 1) = 3) := by cases c <;> simp
section
variable {m : List Cl} {now sn si kind n i rnd cid : Int} {set : List (Int × Int)}
/-- what is heard: the registry may be; others stay; heard once more it is nobody new, and changes nothing -/
theorem hear_once (hm : mayR m = true) :
    mayR (hearR m now sn si kind n i rnd cid set).1 = true ∧
    lessR (hearR m now sn si kind n i rnd cid set).1 n = lessR m n ∧
    (hearR (hearR m now sn si kind n i rnd cid set).1 now sn si kind n i rnd cid set).1 = (hearR m now sn si kind n i rnd cid set).1 ∧
    (hearR (hearR m now sn si kind n i rnd cid set).1 now sn si kind n i rnd cid set).2 ≠ 3 := by
  obtain ⟨h1, h2, h3⟩ := (mayR_iff m).1 hm
  by_cases hok : okN kind n i = true
  · have hmay : mayB n i = true := by unfold okN at hok; rw [Bool.and_eq_true] at hok; exact hok.2
    have ins : (lessR m n).length + 1 ≤ 6 → mayR (insR ⟨n, i, cid, rnd, now, false⟩ (lessR m n)) = true ∧
        lessR (insR ⟨n, i, cid, rnd, now, false⟩ (lessR m n)) n = lessR m n ∧
        (hearR (insR ⟨n, i, cid, rnd, now, false⟩ (lessR m n)) now sn si kind n i rnd cid set).1 = insR ⟨n, i, cid, rnd, now, false⟩ (lessR m n) ∧
        (hearR (insR ⟨n, i, cid, rnd, now, false⟩ (lessR m n)) now sn si kind n i rnd cid set).2 ≠ 3 := by
      intro hl
      refine ⟨may_ins (c := ⟨n, i, cid, rnd, now, false⟩) hm hmay hl, less_ins (c := ⟨n, i, cid, rnd, now, false⟩) (less_rising h1 n) (less_ne m n), ?_⟩
      have hf := find_ins (c := ⟨n, i, cid, rnd, now, false⟩) (less_ne m n)
      have hp := map_ins (c := ⟨n, i, cid, rnd, now, false⟩) (less_ne m n)
      simp only at hf hp
      unfold hearR
      rw [hok, hf]
      simp only [Bool.true_eq_false, if_false, Int.lt_irrefl, ne_eq, not_true_eq_false, Int.max_self, hp, true_and]
      exact not3 _
    cases hf : m.find? (fun x => x.n == n) with
    | some x =>
      have hxm := List.mem_of_find?_eq_some hf
      have hxn : x.n = n := by have := List.find?_some hf; simpa using this
      by_cases hlt : i < x.i
      · have e : hearR m now sn si kind n i rnd cid set = (m, 0) := by unfold hearR; rw [hok, hf]; simp [hlt]
        rw [e]
        show mayR m = true ∧ lessR m n = lessR m n ∧ (hearR m now sn si kind n i rnd cid set).1 = m ∧ (hearR m now sn si kind n i rnd cid set).2 ≠ 3
        rw [e]
        exact ⟨hm, rfl, rfl, by simp⟩
      · by_cases heq : x.i = i
        · have e : hearR m now sn si kind n i rnd cid set = (m.map fun y => if y.n = n then ⟨n, i, max x.cid cid, max x.rnd rnd, now, false⟩ else y, if x.gone then 3 else if decide (x.cid < cid) || (decide (cid = x.cid) && !nobB set sn si) then 2 else 1) := by
            unfold hearR; rw [hok, hf]; simp [hlt, heq]
          rw [e]
          simp only
          refine ⟨may_map hm n _ rfl hmay, less_map m n _ rfl, ?_⟩
          have hf2 := find_map (z := ⟨n, i, max x.cid cid, max x.rnd rnd, now, false⟩) hf rfl
          have hp := map_map_same m n ⟨n, i, max x.cid cid, max x.rnd rnd, now, false⟩ rfl
          unfold hearR
          rw [hok, hf2]
          have e1 : max (max x.cid cid) cid = max x.cid cid := by omega
          have e2 : max (max x.rnd rnd) rnd = max x.rnd rnd := by omega
          simp only [Bool.true_eq_false, if_false, Int.lt_irrefl, ne_eq, not_true_eq_false, e1, e2, hp, true_and]
          exact not3 _
        · have e : hearR m now sn si kind n i rnd cid set = (insR ⟨n, i, cid, rnd, now, false⟩ (lessR m n), 3) := by
            unfold hearR; rw [hok, hf]; simp [hlt, heq]
          rw [e]
          exact ins (by have := less_len hxm hxn; omega)
    | none =>
      by_cases h6 : 6 ≤ m.length
      · have e : hearR m now sn si kind n i rnd cid set = (m, 0) := by unfold hearR; rw [hok, hf]; simp [h6]
        rw [e]
        show mayR m = true ∧ lessR m n = lessR m n ∧ (hearR m now sn si kind n i rnd cid set).1 = m ∧ (hearR m now sn si kind n i rnd cid set).2 ≠ 3
        rw [e]
        exact ⟨hm, rfl, rfl, by simp⟩
      · have e : hearR m now sn si kind n i rnd cid set = (insR ⟨n, i, cid, rnd, now, false⟩ (lessR m n), 3) := by
          unfold hearR; rw [hok, hf]; simp [h6]
        rw [e]
        have := List.length_filter_le (fun x : Cl => !(x.n == n)) m
        exact ins (by unfold lessR; omega)
  · have hok' : okN kind n i = false := by simpa using hok
    have e : hearR m now sn si kind n i rnd cid set = (m, 0) := by unfold hearR; rw [hok']; rfl
    rw [e]
    show mayR m = true ∧ lessR m n = lessR m n ∧ (hearR m now sn si kind n i rnd cid set).1 = m ∧ (hearR m now sn si kind n i rnd cid set).2 ≠ 3
    rw [e]
    exact ⟨hm, rfl, rfl, by simp⟩
end
end Go.Proofs.YtkglclekieckoaaGreat

namespace Go.Proofs.YtkglclekieckoaaGreat
set_option linter.unusedSimpArgs false
set_option linter.unusedVariables false
set_option linter.unusedSectionVars false
open Go.RowKit Go.Sort Go.Lib

def c5 : Cl := ⟨5, 2, 9, 4, 3, false⟩
theorem Reads.lenC {w : World} {B : Nat} {A : Option Addr} {n : Nat} {l : List Cl} (h : Reads w B 6 A n (ccs l)) : n = l.length := by have := h.1; rw [ccs_len] at this; omega
theorem list_ext_take {l m : List Cl} (hl : l.length = m.length) (h : ∀ j, j < l.length → l[j]? = m[j]?) : l = m := by
  apply List.ext_getElem?
  intro j
  rcases Nat.lt_or_ge j l.length with hj | hj
  · exact h j hj
  · rw [List.getElem?_eq_none hj, List.getElem?_eq_none (by omega)]
set_option maxRecDepth 100000 in
set_option maxHeartbeats 2000000 in
theorem refSame_s (A A' : Option Addr) (c c' : Nat) (l m : List Cl) (w : World) (h : Cll w A l) (h' : Cll w A' m) (hn : l.length ≤ 1000000) (hm : m.length ≤ 1000000) :
    Calls Tryz.prog 50 #[.agg #[.slice A l.length c], .agg #[.slice A' m.length c']] w (RetB7 w (decide (l = m))) := by
  by_cases hl : l.length = m.length
  · have hlb : (((l.length : Int)) != (m.length : Int)) = false := by simp [hl]
    have HL := hide hl
    clear hl
    go_enter Tryz.func50, Tryz.ntmps50
    go_wp2
    go_loopw [5] (fun i wr => ∃ (k q : Nat), k ≤ l.length ∧ i = .int .i64 k ∧ (∀ j, j < k → l[j]? = m[j]?) ∧ wr = ((w.alloc (bxR A l.length c)).alloc (bxR A' m.length c')).drewN q) (fun i _ => l.length - (intOf i).toNat)
    case atStart => exact ⟨0, 0, Nat.zero_le _, rfl, fun _ h => absurd h (by omega), rfl⟩
    case round =>
      obtain ⟨k, q, hk, rfl, hall, rfl⟩ := hrel
      have HA := hide hall
      clear hall
      by_cases hlt : k < l.length
      · have hltm : k < m.length := by have := HL.out; omega
        obtain ⟨b, off, x, rfl, hb, hp, hx⟩ := Reads.atC h hlt
        obtain ⟨b', off', y, rfl, hb', hp', hy⟩ := Reads.atC h' hltm
        obtain ⟨g0, g1, g2, g3, g4, g5⟩ := hx
        obtain ⟨e0, e1, e2, e3, e4, e5⟩ := hy
        haveI : InW b w := ⟨hb⟩
        haveI : InW b' w := ⟨hb'⟩
        have i0 : (0 : Int) ≤ (k : Int) := by omega
        have i1 : (k : Int) < (l.length : Int) := by omega
        have i2 : (k : Int) < (m.length : Int) := by omega
        have HP := hide hp
        have HP' := hide hp'
        clear hp hp' h h'
        cases he : eqC x y
        · have H := hide (show decide (l = m) = false by
            rw [decide_eq_false_iff_not]
            intro e
            have h1 := HP.out
            rw [e, HP'.out] at h1
            injection h1 with h1
            rw [h1, eqC] at he; simp at he)
          go_wp2
          go_quiet (fail)
          go_wp2
          go_ret
          exact ⟨ret_b H.out.symm, (by repeat (first | exact Below.refl _ _ | assumption | refine bel_al ?_ _ | refine bel_gw ?_ _ _ | refine bel_drew ?_ | refine bel_drewN ?_ _))⟩
        · have H := hide (show ∀ j, j < k + 1 → l[j]? = m[j]? by
            intro j hj
            rcases Nat.lt_or_eq_of_le (Nat.lt_succ_iff.1 hj) with h1 | h1
            · exact HA.out j h1
            · subst h1; rw [HP.out, HP'.out]; unfold eqC at he; simpa using he)
          go_wp2
          go_quiet (fail)
          go_wp2
          go_roundw
          case rel => exact ⟨k + 1, _, by omega, by go_num, H.out, rfl⟩
          case measure => simp [intOf]; omega
      · have H := hide (show decide (l = m) = true by
          rw [decide_eq_true_eq]
          exact list_ext_take HL.out (fun j hj => HA.out j (by omega)))
        go_wp2
        go_ret
        exact ⟨ret_b H.out.symm, (by repeat (first | exact Below.refl _ _ | assumption | refine bel_al ?_ _ | refine bel_gw ?_ _ _ | refine bel_drew ?_ | refine bel_drewN ?_ _))⟩
  · have hlb : (((l.length : Int)) != (m.length : Int)) = true := by rw [bne_iff_ne]; omega
    have H := hide (show decide (l = m) = false by rw [decide_eq_false_iff_not]; intro e; exact hl (by rw [e]))
    clear hl
    go_enter Tryz.func50, Tryz.ntmps50
    go_wp2
    go_ret
    exact ⟨ret_b H.out.symm, (by repeat (first | exact Below.refl _ _ | assumption | refine bel_al ?_ _ | refine bel_gw ?_ _ _ | refine bel_drew ?_ | refine bel_drewN ?_ _))⟩
end Go.Proofs.YtkglclekieckoaaGreat
