/-
  Contracts: registry.May, the reference's May; taken, look, lives.
-/
import Derived.Test.YtfddiklhjkjipaaGreatCli
namespace Go.Proofs.YtfddiklhjkjipaaGreat
set_option linter.unusedSimpArgs false
set_option linter.unusedVariables false
set_option linter.unusedSectionVars false
open Go.RowKit Go.Sort Go.Lib

abbrev bxC (x : Cl) : Obj := .cells #[.int .i64 x.n, .int .u64 x.i, .int .u64 x.cid, .int .u64 x.rnd, .int .u64 x.heard, .bool x.gone] 48
abbrev bxR (A : Option Addr) (n c : Nat) : Obj := .cells #[.slice A n c] 30
def okR (l : List Cl) (k : Nat) : Bool := mayB (l.getD k default).n (l.getD k default).i && (decide (k = 0) || decide ((l.getD (k - 1) default).n < (l.getD k default).n))
/-- may a registry be? -/
def mayR (l : List Cl) : Bool := (List.range l.length).all (okR l) && decide (l.length ≤ 6)
theorem getDc_of {l : List Cl} {k : Nat} {p : Cl} (h : l[k]? = some p) : l.getD k default = p := by simp [List.getD, h]
theorem okR_may {l : List Cl} {k : Nat} {p : Cl} (h : l[k]? = some p) (hm : mayB p.n p.i = false) : okR l k = false := by unfold okR; rw [getDc_of h, hm]; rfl
theorem okR_zero {l : List Cl} {p : Cl} (h : l[0]? = some p) (hm : mayB p.n p.i = true) : okR l 0 = true := by unfold okR; rw [getDc_of h, hm]; rfl
theorem okR_succ {l : List Cl} {k : Nat} {p q : Cl} (h : l[k]? = some p) (h' : l[k - 1]? = some q) (hk : k ≠ 0) (hm : mayB p.n p.i = true) : okR l k = decide (q.n < p.n) := by
  unfold okR; rw [getDc_of h, getDc_of h', hm]; simp [hk]
theorem mayR_false {l : List Cl} {k : Nat} (hk : k < l.length) (h : okR l k = false) : mayR l = false := by
  unfold mayR; rw [List.all_eq_false.2 ⟨k, List.mem_range.2 hk, by simp [h]⟩]; rfl
def RetB7 (w : World) (b : Bool) (e : Ending) (w' : World) : Prop := e = .returned (.bool b) ∧ Below w.heap.size w w'

set_option maxHeartbeats 2000000 in
theorem regMay_b (A : Option Addr) (c : Nat) (l : List Cl) (w : World) (h : Cll w A l) (hn : l.length ≤ 1000000) :
    Calls Tryz.prog 47 #[.agg #[.slice A l.length c]] w (RetB7 w (mayR l)) := by
  replace h := h.step (below_alloc w (bxR A l.length c))
  have hb0 := below_alloc w (bxR A l.length c)
  have r0 : (w.alloc (bxR A l.length c)).cell? ⟨w.heap.size, 0, none⟩ = some (.slice A l.length c) := by simp
  have HR0 := hide r0
  clear r0
  go_enter Tryz.func47, Tryz.ntmps47
  go_wp2
  go_loopw [8] (fun i wr => ∃ k : Nat, k ≤ l.length ∧ i = .int .i64 k ∧ Below (w.heap.size + 1) (w.alloc (bxR A l.length c)) wr ∧ (List.range k).all (okR l) = true) (fun i _ => l.length - (intOf i).toNat)
  case atStart => exact ⟨0, Nat.zero_le _, rfl, Below.refl _ _, by simp⟩
  case round =>
    obtain ⟨k, hk, rfl, hbw, hall⟩ := hrel
    have HN := hide hall
    clear hall
    have hsz := hbw.size
    simp at hsz
    have hbW : Below w.heap.size w wr := hb0.trans (hbw.mono (by omega))
    have r0 : wr.cell? ⟨w.heap.size, 0, none⟩ = some (.slice A l.length c) := (hbw.cell (p := ⟨w.heap.size, 0, none⟩) (by simp)).trans HR0.out
    by_cases hlt : k < l.length
    · have hRw : Reads wr (w.heap.size + 1) 6 A l.length (ccs l) := Reads.below (by simpa [Cll] using h) hbw
      obtain ⟨b, off, x, rfl, hb, hp, hx⟩ := hRw.atC hlt
      obtain ⟨g0, g1, g2, g3, g4, g5⟩ := hx
      have HP := hide hp
      have HRW := hide hRw
      clear hp hRw h
      have i0 : (0 : Int) ≤ (k : Int) := by omega
      have i1 : (k : Int) < (l.length : Int) := by omega
      have q0 : ∀ d os, (gw (wr.alloc (bxC x)) d os).cell? ⟨wr.heap.size, 0, none⟩ = some (.int .i64 x.n) := fun d os => cell_gw (by simp) (by simp) d os
      have q1 : ∀ d os, (gw (wr.alloc (bxC x)) d os).cell? ⟨wr.heap.size, 1, none⟩ = some (.int .u64 x.i) := fun d os => cell_gw (by simp) (by simp) d os
      have q2 : ∀ d os, (gw (wr.alloc (bxC x)) d os).cell? ⟨w.heap.size, 0, none⟩ = some (.slice (some ⟨b, off, none⟩) l.length c) := fun d os => cell_gw (by simp; omega) (cell_old (by show w.heap.size < _; omega) r0) d os
      have hbz : ∀ d os, Below w.heap.size w (gw (wr.alloc (bxC x)) d os) := fun d os => below_step (below_step hbW (below_alloc _ _)) (below_gw _ _ _)
      have hbz' : ∀ d os, Below (w.heap.size + 1) (w.alloc (bxR (some ⟨b, off, none⟩) l.length c)) (gw (wr.alloc (bxC x)) d os) := fun d os => (hbw.alloc hsz _).trans ((below_gw _ _ _).mono (by simp; omega))
      have HZ := hide hbz
      have HZ' := hide hbz'
      clear hbz hbz'
      cases hm : mayB x.n x.i
      · have H := hide (mayR_false hlt (okR_may HP.out hm))
        go_wp2
        (refine wp_region_gw (by kernel_rfl) (by kernel_rfl) ?_; (repeat (go_big_quiet_step ((go_at_call 112; exact calls_gw (may_b _ _ _))))); refine wpQuiet_nil ?_; intro _ hw'; obtain ⟨⟨dq, osq⟩, hw''⟩ := hw'; subst hw'')
        go_wp2
        go_ret
        exact ⟨ret_b H.out.symm, HZ.out _ _⟩
      · by_cases hk0 : k = 0
        · have H := hide (show (List.range (k + 1)).all (okR l) = true by rw [all_succ, HN.out]; subst hk0; rw [okR_zero HP.out hm]; rfl)
          have hk1 : decide (0 < k) = false := by simp; omega
          clear hk0
          go_wp2
          (refine wp_region_gw (by kernel_rfl) (by kernel_rfl) ?_; (repeat (go_big_quiet_step ((go_at_call 112; exact calls_gw (may_b _ _ _))))); refine wpQuiet_nil ?_; intro _ hw'; obtain ⟨⟨dq, osq⟩, hw''⟩ := hw'; subst hw'')
          go_wp2
          go_roundw
          case rel => exact ⟨k + 1, by omega, by go_num, HZ'.out _ _, H.out⟩
          case measure => simp [intOf]; omega
        · obtain ⟨b', off', y, he, hb', hp', hy⟩ := HRW.out.atC (k := k - 1) (by omega)
          injection he with he
          injection he with he1 he2
          subst he1 he2
          have HP' := hide hp'
          have q3 : ∀ d os, (gw (wr.alloc (bxC x)) d os).cell? ⟨b, off + (k - 1) * 6, none⟩ = some (.int .i64 y.n) := fun d os => cell_gw (by simp; omega) (cell_old (by show b < _; omega) hy.h0) d os
          have j0 : (0 : Int) < (k : Int) := by omega
          have hk1 : decide (0 < k) = true := by simp; omega
          have j1 : (0 : Int) ≤ (k : Int) - 1 := by omega
          have j2 : (k : Int) - 1 < (l.length : Int) := by omega
          have j3 : ((k : Int) - 1).toNat = k - 1 := by omega
          clear hp' hy
          by_cases hc : y.n < x.n
          · have H := hide (show (List.range (k + 1)).all (okR l) = true by rw [all_succ, HN.out, okR_succ HP.out HP'.out hk0 hm]; simp [hc])
            have hcb : decide (x.n ≤ y.n) = false := by simp; omega
            go_wp2
            (refine wp_region_gw (by kernel_rfl) (by kernel_rfl) ?_; (repeat (go_big_quiet_step ((go_at_call 112; exact calls_gw (may_b _ _ _))))); refine wpQuiet_nil ?_; intro _ hw'; obtain ⟨⟨dq, osq⟩, hw''⟩ := hw'; subst hw'')
            go_wp2
            go_roundw
            case rel => exact ⟨k + 1, by omega, by go_num, HZ'.out _ _, H.out⟩
            case measure => simp [intOf]; omega
          · have H := hide (mayR_false hlt (show okR l k = false by rw [okR_succ HP.out HP'.out hk0 hm]; simp; omega))
            have hcb : decide (x.n ≤ y.n) = true := by simp; omega
            go_wp2
            (refine wp_region_gw (by kernel_rfl) (by kernel_rfl) ?_; (repeat (go_big_quiet_step ((go_at_call 112; exact calls_gw (may_b _ _ _))))); refine wpQuiet_nil ?_; intro _ hw'; obtain ⟨⟨dq, osq⟩, hw''⟩ := hw'; subst hw'')
            go_wp2
            go_ret
            exact ⟨ret_b H.out.symm, HZ.out _ _⟩
    · have H := hide (show mayR l = decide ((l.length : Int) ≤ 6) by
        have hk' : k = l.length := by omega
        subst hk'
        unfold mayR
        rw [HN.out, Bool.true_and, decide_eq_decide]; omega)
      go_wp2
      go_ret
      exact ⟨ret_b (by rw [H.out]), hbW⟩

end Go.Proofs.YtfddiklhjkjipaaGreat
