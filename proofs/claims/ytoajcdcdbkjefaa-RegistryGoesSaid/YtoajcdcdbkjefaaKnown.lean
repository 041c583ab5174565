/-
  Contract: layer 17's known.
-/
import Derived.Test.YtoajcdcdbkjefaaLTells
import Derived.Test.YtoajcdcdbkjefaaPlain17
namespace Go.Proofs.Ytoajcdcdbkjefaa
set_option linter.unusedSimpArgs false
set_option linter.unusedVariables false
set_option linter.unusedSectionVars false
open Go.RowKit Go.Sort Go.Lib

/-- an array of eleven numbers, of eleven bools -/
def ArU (a : Array Value) (f : Nat → Int) : Prop := a.size = 11 ∧ ∀ i, i < 11 → a[i]? = some (.int .u64 (f i))
def ArB (a : Array Value) (f : Nat → Bool) : Prop := a.size = 11 ∧ ∀ i, i < 11 → a[i]? = some (.bool (f i))
def upd {α : Type} (f : Nat → α) (k : Nat) (v : α) : Nat → α := fun i => if i = k then v else f i
theorem ArU.set {a : Array Value} {f : Nat → Int} (h : ArU a f) (k : Nat) (v : Int) : ArU (a.setIfInBounds k (.int .u64 v)) (upd f k v) := by
  refine ⟨by simpa using h.1, fun i hi => ?_⟩
  rw [Array.getElem?_setIfInBounds]
  unfold upd
  by_cases hk : k = i
  · subst hk; simp [h.1, hi]
  · rw [if_neg hk, if_neg (fun e => hk e.symm)]; exact h.2 i hi
theorem ArB.set {a : Array Value} {f : Nat → Bool} (h : ArB a f) (k : Nat) (v : Bool) : ArB (a.setIfInBounds k (.bool v)) (upd f k v) := by
  refine ⟨by simpa using h.1, fun i hi => ?_⟩
  rw [Array.getElem?_setIfInBounds]
  unfold upd
  by_cases hk : k = i
  · subst hk; simp [h.1, hi]
  · rw [if_neg hk, if_neg (fun e => hk e.symm)]; exact h.2 i hi
/-- what is known of each node is what must be -/
structure Kn (m : List Cl) (nw cd : Nat → Int) (th : Nat → Bool) : Prop where
  may : mayR m = true
  each : ∀ x ∈ m, x.i = nw x.n.toNat ∧ cd x.n.toNat ≤ x.cid ∧ x.gone = !(th x.n.toNat)
  others : ∀ n : Nat, 1 ≤ n → n ≤ 10 → (∀ x ∈ m, x.n ≠ (n : Int)) → th n = false
theorem Kn.node {m : List Cl} {nw cd : Nat → Int} {th : Nat → Bool} (h : Kn m nw cd th) {x : Cl} (hx : x ∈ m) : 1 ≤ x.n ∧ x.n ≤ 10 := by
  have := ((mayR_iff m).1 h.may).2.1 x hx
  unfold mayB at this; simp at this; omega
/-- the client of a node that is there is told -/
theorem Kn.find {m : List Cl} {nw cd : Nat → Int} {th : Nat → Bool} (h : Kn m nw cd th) (n : Nat) (h1 : 1 ≤ n) (h2 : n ≤ 10) :
    (findR m (n : Int)).isSome = th n ∧ ∀ x, findR m (n : Int) = some x → x.i = nw n := by
  by_cases hex : ∃ x ∈ m, x.n = (n : Int)
  · obtain ⟨x, hx, hn⟩ := hex
    obtain ⟨e1, e2, e3⟩ := h.each x hx
    have hnn : x.n.toNat = n := by omega
    rw [hnn] at e1 e2 e3
    obtain ⟨k, hk, hkx⟩ := List.getElem_of_mem hx
    have hk' : m[k]? = some x := by rw [List.getElem?_eq_getElem hk, hkx]
    have ho := mayR_each h.may
    cases hg : x.gone
    · have hf : findR m (n : Int) = some x := find_yes hk' hn hg (by
        intro y hy
        rw [List.mem_take_iff_getElem] at hy
        obtain ⟨j, hj, rfl⟩ := hy
        have := List.pairwise_iff_getElem.1 ho j k (by omega) hk (by omega)
        rw [hkx, hn] at this; exact this)
      rw [hf]
      refine ⟨?_, fun y hy => by injection hy with hy; rw [← hy]; exact e1⟩
      rw [hg] at e3
      simp at e3 ⊢; exact e3
    · have hf : findR m (n : Int) = none := find_gone ho hk' hn hg
      rw [hf]
      refine ⟨?_, fun y hy => by cases hy⟩
      rw [hg] at e3
      simp at e3 ⊢; exact e3
  · have hno : ∀ x ∈ m, x.n ≠ (n : Int) := fun x hx hn => hex ⟨x, hx, hn⟩
    have hf : findR m (n : Int) = none := find_no hno
    rw [hf]
    refine ⟨?_, fun y hy => by cases hy⟩
    rw [h.others n h1 h2 hno]; rfl

set_option maxRecDepth 100000 in
set_option maxHeartbeats 8000000 in
theorem known_t (A : Option Addr) (c : Nat) (m : List Cl) (NA CA TA : Array Value) (nw cd : Nat → Int) (th : Nat → Bool) (w : World) (h : Cll w A m) (hN : ArU NA nw) (hC : ArU CA cd) (hT : ArB TA th) (hK : Kn m nw cd th) :
    Calls Try.prog 18 #[.agg #[.slice A m.length c], .agg NA, .agg CA, .agg TA] w (RetB w true) := by
  have hl6 := ((mayR_iff m).1 hK.may).2.2
  have HN := hide hN
  have HC := hide hC
  have HT := hide hT
  have HK := hide hK
  have F := hide (fun (n : Int) W (hW : Cll W A m) => show Calls Try.prog 24 #[.agg #[.slice A m.length c], .int .i64 n] W (RetF W (findR m n)) from by
    have := find_s A c m n W hW (by omega); rw [takenR_of hK.may] at this; exact this)
  clear hN hC hT hK
  go_enter Try.func18, Try.ntmps18
  go_wp2
  go_loopw [9] (fun i wr => ∃ (k : Nat), k ≤ m.length ∧ i = .int .i64 k ∧ Below ((((w.alloc (bxR A m.length c)).alloc (.cells NA 53)).alloc (.cells CA 53)).alloc (.cells TA 54)).heap.size ((((w.alloc (bxR A m.length c)).alloc (.cells NA 53)).alloc (.cells CA 53)).alloc (.cells TA 54)) wr) (fun i _ => m.length - (intOf i).toNat)
  case atStart => exact ⟨0, Nat.zero_le _, rfl, Below.refl _ _⟩
  case round =>
    obtain ⟨k, hk, rfl, hbw⟩ := hrel
    obtain ⟨⟨d, os⟩, rfl⟩ := gw_of_below hbw
    clear hbw
    by_cases hlt : k < m.length
    · obtain ⟨b, off, x, rfl, hb, hp, hx⟩ := Reads.atC h hlt
      have hxm := List.mem_of_getElem? hp
      obtain ⟨e1, e2, e3⟩ := HK.out.each x hxm
      obtain ⟨n1, n2⟩ := HK.out.node hxm
      have a1 := HN.out.2 x.n.toNat (by omega)
      have a2 := HC.out.2 x.n.toNat (by omega)
      have a3 := HT.out.2 x.n.toNat (by omega)
      generalize nw x.n.toNat = p1 at e1 a1
      generalize cd x.n.toNat = p2 at e2 a2
      generalize th x.n.toNat = p3 at e3 a3
      obtain ⟨xn, xi, xc, xr, xh, xg⟩ := x
      obtain ⟨g0, g1, g2, g3, g4, g5⟩ := hx
      simp only at g0 g1 g2 g3 g4 g5 e1 e2 e3 n1 n2 a1 a2 a3
      subst e1
      haveI : InW b w := ⟨hb⟩
      have t1 : (xi != xi) = false := by simp
      have t2 : decide (xc < p2) = false := by simp; omega
      have t3 : (xg == p3) = false := by rw [e3]; cases p3 <;> rfl
      have i0 : (0 : Int) ≤ (k : Int) := by omega
      have i1 : (k : Int) < (m.length : Int) := by omega
      have n3 : (0 : Int) ≤ xn := by omega
      have n4 : xn < 11 := by omega
      clear hp hxm e3
      go_wp2
      go_quiet (fail)
      go_wp2
      go_roundw
      case rel => exact ⟨k + 1, by omega, by go_num, (by repeat (first | exact Below.refl _ _ | assumption | refine bel_al ?_ _ | refine bel_gw ?_ _ _ | refine bel_drew ?_ | refine bel_drewN ?_ _))⟩
      case measure => simp [intOf]; omega
    · go_wp2
      clear hk hlt
      go_loopw [11] (fun i wr => ∃ (k : Nat), 1 ≤ k ∧ k ≤ 11 ∧ i = .int .i64 k ∧ Below ((((w.alloc (bxR A m.length c)).alloc (.cells NA 53)).alloc (.cells CA 53)).alloc (.cells TA 54)).heap.size ((((w.alloc (bxR A m.length c)).alloc (.cells NA 53)).alloc (.cells CA 53)).alloc (.cells TA 54)) wr) (fun i _ => 11 - (intOf i).toNat)
      case atStart => exact ⟨1, by omega, by omega, rfl, below_gw _ _ _⟩
      case round =>
        obtain ⟨k, hk1, hk2, rfl, hbw⟩ := hrel
        obtain ⟨⟨d2, os2⟩, rfl⟩ := gw_of_below hbw
        clear hbw
        by_cases hlt : k ≤ 10
        · obtain ⟨f1, f2⟩ := HK.out.find k hk1 hlt
          have a1 := HN.out.2 k (by omega)
          have a3 := HT.out.2 k (by omega)
          go_wp2_with fail
          with_reducible refine (F.out (k : Int) _ (h.step (by repeat (first | exact Below.refl _ _ | assumption | refine bel_al ?_ _ | refine bel_gw ?_ _ _ | refine bel_drew ?_ | refine bel_drewN ?_ _)))).mono ?_
          rintro e w2 ⟨rfl, hb⟩
          obtain ⟨⟨d3, os3⟩, rfl⟩ := gw_more hb
          clear hb
          have i0 : (0 : Int) ≤ (k : Int) := by omega
          have i1 : (k : Int) < 11 := by omega
          cases hf : findR m (k : Int) with
          | none =>
            rw [hf] at f1
            have ht : th k = false := by simpa using f1.symm
            rw [ht] at a3
            simp only [fV]
            clear f1 f2 hf ht
            go_wp2
            go_quiet (fail)
            go_wp2
            go_roundw
            case rel => exact ⟨k + 1, by omega, by omega, by go_num, (by repeat (first | exact Below.refl _ _ | assumption | refine bel_al ?_ _ | refine bel_gw ?_ _ _ | refine bel_drew ?_ | refine bel_drewN ?_ _))⟩
            case measure => simp [intOf]; omega
          | some x =>
            rw [hf] at f1
            have ht : th k = true := by simpa using f1.symm
            rw [ht] at a3
            have hx := f2 x hf
            rw [← hx] at a1
            have t1 : (x.i != x.i) = false := by simp
            simp only [fV]
            clear f1 f2 hf ht hx
            go_wp2
            go_quiet (fail)
            go_wp2
            go_roundw
            case rel => exact ⟨k + 1, by omega, by omega, by go_num, (by repeat (first | exact Below.refl _ _ | assumption | refine bel_al ?_ _ | refine bel_gw ?_ _ _ | refine bel_drew ?_ | refine bel_drewN ?_ _))⟩
            case measure => simp [intOf]; omega
        · have hn10 : ¬ (k : Int) ≤ 10 := by omega
          go_wp2
          go_ret
          exact ⟨rfl, (by repeat (first | exact Below.refl _ _ | assumption | refine bel_al ?_ _ | refine bel_gw ?_ _ _ | refine bel_drew ?_ | refine bel_drewN ?_ _))⟩
end Go.Proofs.Ytoajcdcdbkjefaa
