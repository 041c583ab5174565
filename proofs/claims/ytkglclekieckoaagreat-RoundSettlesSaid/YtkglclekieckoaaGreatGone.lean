/-
  Clients of a registry in memory: words, loads, stores, equality.
-/
import Derived.Test.YtkglclekieckoaaGreatCmp
import Derived.Test.YtkglclekieckoaaGreatLView2
namespace Go.Proofs.YtkglclekieckoaaGreat
set_option linter.unusedSimpArgs false
set_option linter.unusedVariables false
set_option linter.unusedSectionVars false
open Go.RowKit Go.Sort Go.Lib

/-- a client: its life, its numbers, whether it is gone -/
structure Cl where
  n : Int
  i : Int
  cid : Int
  rnd : Int
  heard : Int
  gone : Bool
  deriving Inhabited, DecidableEq
def cc (c : Cl) : List Value := [.int .i64 c.n, .int .u64 c.i, .int .u64 c.cid, .int .u64 c.rnd, .int .u64 c.heard, .bool c.gone]
def ccs (l : List Cl) : List Value := l.flatMap cc
theorem cc_len (c : Cl) : (cc c).length = 6 := rfl
theorem cc_one (l : List Cl) : ∀ u ∈ ccs l, u.oneCell' = true := by
  intro u hu
  obtain ⟨p, _, hp⟩ := List.mem_flatMap.1 hu
  simp [cc] at hp
  rcases hp with rfl | rfl | rfl | rfl | rfl | rfl <;> rfl
theorem ccs_app (l m : List Cl) : ccs (l ++ m) = ccs l ++ ccs m := List.flatMap_append
theorem ccs_len (l : List Cl) : (ccs l).length = l.length * 6 := flat_length cc_len l
theorem ccs_get {l : List Cl} {i : Nat} {x : Cl} (h : l[i]? = some x) (j : Nat) (hj : j < 6) : (ccs l)[i * 6 + j]? = (cc x)[j]? := flat_get cc_len l i j x h hj
/-- the six cells of a client at an address -/
structure AtC (w : World) (b o : Nat) (x : Cl) : Prop where
  h0 : w.cell? ⟨b, o, none⟩ = some (.int .i64 x.n)
  h1 : w.cell? ⟨b, o + 1, none⟩ = some (.int .u64 x.i)
  h2 : w.cell? ⟨b, o + 2, none⟩ = some (.int .u64 x.cid)
  h3 : w.cell? ⟨b, o + 3, none⟩ = some (.int .u64 x.rnd)
  h4 : w.cell? ⟨b, o + 4, none⟩ = some (.int .u64 x.heard)
  h5 : w.cell? ⟨b, o + 5, none⟩ = some (.bool x.gone)
theorem Reads.atC {w : World} {B : Nat} {A : Option Addr} {n k : Nat} {l : List Cl} (h : Reads w B 6 A n (ccs l)) (hk : k < n) :
    ∃ b off x, A = some ⟨b, off, none⟩ ∧ b < B ∧ l[k]? = some x ∧ AtC w b (off + k * 6) x := by
  obtain ⟨b, off, rfl, hb, hc⟩ := h.2 (by omega)
  have hl : k < l.length := by have := h.1; rw [ccs_len] at this; omega
  have hp : l[k]? = some l[k] := List.getElem?_eq_getElem hl
  have key : ∀ j (hj : j < 6), w.cell? ⟨b, off + k * 6 + j, none⟩ = (cc l[k])[j]? := by
    intro j hj
    have hx : (cc l[k])[j]? = some ((cc l[k])[j]'(by rw [cc_len]; exact hj)) := List.getElem?_eq_getElem _
    rw [Nat.add_assoc, hx]
    exact hc (k * 6 + j) _ (by rw [ccs_get hp j hj, hx])
  exact ⟨b, off, l[k], rfl, hb, hp, key 0 (by omega), key 1 (by omega), key 2 (by omega), key 3 (by omega), key 4 (by omega), key 5 (by omega)⟩
def Cll (w : World) (A : Option Addr) (l : List Cl) : Prop := Reads w w.heap.size 6 A l.length (ccs l)
theorem Cll.step {w w' : World} {A : Option Addr} {l : List Cl} (h : Cll w A l) (hb : Below w.heap.size w w') : Cll w' A l := (Reads.below h hb).more hb.size
abbrev OwnC (w : World) (base : Nat) (v : Value) (l : List Cl) : Prop := w.ownsRow base 48 6 v l.length (ccs l)
theorem Tryz.okC : ElemOk Tryz.prog 28 48 6 48 := elemOk_of (.agg #[.int .i64 0, .int .u64 0, .int .u64 0, .int .u64 0, .int .u64 0, .bool false]) Tryz.underlying28 (by kernel_rfl) rfl (by omega)

/-! ### '==' on clients -/
theorem Tryz.stoodC : Tryz.prog.stoodInHeld 48 = false := by kernel_rfl
theorem Tryz.guardC : Tryz.prog.eqGuardType Tryz.prog.depth 48 = false := by kernel_rfl
theorem Tryz.stoodC0 : Tryz.prog.stoodInHeld 25 = false := by kernel_rfl
def eqC (x y : Cl) : Bool := decide (x = y)
set_option maxHeartbeats 2000000 in
theorem equalInC (a b c d e a' b' c' d' e' : Int) (f f' : Bool) (w : World) : (Op.equalIn 10000 48 (.agg #[.int .i64 a, .int .u64 b, .int .u64 c, .int .u64 d, .int .u64 e, .bool f]) (.agg #[.int .i64 a', .int .u64 b', .int .u64 c', .int .u64 d', .int .u64 e', .bool f'])).run Tryz.prog w = .ok (eqC ⟨a, b, c, d, e, f⟩ ⟨a', b', c', d', e', f'⟩) w := by
  have hu := Tryz.underlying48
  have hs := Tryz.stoodC
  have hs0 := Tryz.stoodC0
  unfold eqC
  by_cases h1 : a = a'
  · by_cases h2 : b = b'
    · by_cases h3 : c = c'
      · by_cases h4 : d = d'
        · by_cases h5 : e = e'
          · by_cases h6 : f = f'
            · simp [go_sem, hs, hs0, h1, h2, h3, h4, h5, h6]
            · simp [go_sem, hs, hs0, h1, h2, h3, h4, h5, h6]
          · simp [go_sem, hs, hs0, h1, h2, h3, h4, h5]
        · simp [go_sem, hs, hs0, h1, h2, h3, h4]
      · simp [go_sem, hs, hs0, h1, h2, h3]
    · simp [go_sem, hs, hs0, h1, h2]
  · simp [go_sem, hs, hs0, h1]
@[go_sem ↓] theorem eqlC (a b c d e a' b' c' d' e' : Int) (f f' : Bool) (w : World) : (binOp .eql 48 (.agg #[.int .i64 a, .int .u64 b, .int .u64 c, .int .u64 d, .int .u64 e, .bool f]) (.agg #[.int .i64 a', .int .u64 b', .int .u64 c', .int .u64 d', .int .u64 e', .bool f'])).run Tryz.prog w = .ok (.bool (eqC ⟨a, b, c, d, e, f⟩ ⟨a', b', c', d', e', f'⟩)) w := by
  rw [run_eql_struct, equalInC]; rfl
@[go_sem ↓] theorem neqC (a b c d e a' b' c' d' e' : Int) (f f' : Bool) (w : World) : (binOp .neq 48 (.agg #[.int .i64 a, .int .u64 b, .int .u64 c, .int .u64 d, .int .u64 e, .bool f]) (.agg #[.int .i64 a', .int .u64 b', .int .u64 c', .int .u64 d', .int .u64 e', .bool f'])).run Tryz.prog w = .ok (.bool (!eqC ⟨a, b, c, d, e, f⟩ ⟨a', b', c', d', e', f'⟩)) w := by
  rw [run_neq_struct, equalInC]; rfl
@[go_sem ↓] theorem eqGuardC (op : BinOp) (x y : Operand) (xs ys : Array Value) (w : World) : (eqGuard op 48 x y (.agg xs) (.agg ys)).run Tryz.prog w = .ok () w := run_eqGuard_agg w op _ x y xs ys Tryz.guardC

end Go.Proofs.YtkglclekieckoaaGreat

namespace Go.Proofs.YtkglclekieckoaaGreat
set_option linter.unusedSimpArgs false
set_option linter.unusedVariables false
set_option linter.unusedSectionVars false
open Go.RowKit Go.Sort Go.Lib

abbrev bxC (x : Cl) : Obj := .cells #[.int .i64 x.n, .int .u64 x.i, .int .u64 x.cid, .int .u64 x.rnd, .int .u64 x.heard, .bool x.gone] 48
abbrev bxR (A : Option Addr) (n c : Nat) : Obj := .cells #[.slice A n c] 30
def okR (l : List Cl) (k : Nat) : Bool := mayB (l.getD k default).n (l.getD k default).i && (decide (k = 0) || decide ((l.getD (k - 1) default).n < (l.getD k default).n))
/-- may a registry be? -/
def mayR (l : List Cl) : Bool := (List.range l.length).all (okR l) && decide (l.length ≤ 6)
theorem getDc_of {l : List Cl} {k : Nat} {p : Cl} (h : l[k]? = some p) : l.getD k default = p := by simp [List.getD, h]
theorem okR_may {l : List Cl} {k : Nat} {p : Cl} (h : l[k]? = some p) (hm : mayB p.n p.i = false) : okR l k = false := by unfold okR; rw [getDc_of h, hm]; rfl
theorem okR_zero {l : List Cl} {p : Cl} (h : l[0]? = some p) (hm : mayB p.n p.i = true) : okR l 0 = true := by unfold okR; rw [getDc_of h, hm]; rfl
theorem okR_succ {l : List Cl} {k : Nat} {p q : Cl} (h : l[k]? = some p) (h' : l[k - 1]? = some q) (hk : k ≠ 0) (hm : mayB p.n p.i = true) : okR l k = decide (q.n < p.n) := by
  unfold okR; rw [getDc_of h, getDc_of h', hm]; simp [hk]
theorem mayR_false {l : List Cl} {k : Nat} (hk : k < l.length) (h : okR l k = false) : mayR l = false := by
  unfold mayR; rw [List.all_eq_false.2 ⟨k, List.mem_range.2 hk, by simp [h]⟩]; rfl
def RetB7 (w : World) (b : Bool) (e : Ending) (w' : World) : Prop := e = .returned (.bool b) ∧ Below w.heap.size w w'

set_option maxHeartbeats 2000000 in
theorem regMay_b (A : Option Addr) (c : Nat) (l : List Cl) (w : World) (h : Cll w A l) (hn : l.length ≤ 1000000) :
    Calls Tryz.prog 31 #[.agg #[.slice A l.length c]] w (RetB7 w (mayR l)) := by
  replace h := h.step (below_alloc w (bxR A l.length c))
  have hb0 := below_alloc w (bxR A l.length c)
  have r0 : (w.alloc (bxR A l.length c)).cell? ⟨w.heap.size, 0, none⟩ = some (.slice A l.length c) := by simp
  have HR0 := hide r0
  clear r0
  go_enter Tryz.func31, Tryz.ntmps31
  go_wp2
  go_loopw [8] (fun i wr => ∃ k : Nat, k ≤ l.length ∧ i = .int .i64 k ∧ Below (w.heap.size + 1) (w.alloc (bxR A l.length c)) wr ∧ (List.range k).all (okR l) = true) (fun i _ => l.length - (intOf i).toNat)
  case atStart => exact ⟨0, Nat.zero_le _, rfl, Below.refl _ _, by simp⟩
  case round =>
    obtain ⟨k, hk, rfl, hbw, hall⟩ := hrel
    have HN := hide hall
    clear hall
    have hsz := hbw.size
    simp at hsz
    have hbW : Below w.heap.size w wr := hb0.trans (hbw.mono (by omega))
    have r0 : wr.cell? ⟨w.heap.size, 0, none⟩ = some (.slice A l.length c) := (hbw.cell (p := ⟨w.heap.size, 0, none⟩) (by simp)).trans HR0.out
    by_cases hlt : k < l.length
    · have hRw : Reads wr (w.heap.size + 1) 6 A l.length (ccs l) := Reads.below (by simpa [Cll] using h) hbw
      obtain ⟨b, off, x, rfl, hb, hp, hx⟩ := hRw.atC hlt
      obtain ⟨g0, g1, g2, g3, g4, g5⟩ := hx
      have HP := hide hp
      have HRW := hide hRw
      clear hp hRw h
      have i0 : (0 : Int) ≤ (k : Int) := by omega
      have i1 : (k : Int) < (l.length : Int) := by omega
      have q0 : ∀ d os, (gw (wr.alloc (bxC x)) d os).cell? ⟨wr.heap.size, 0, none⟩ = some (.int .i64 x.n) := fun d os => cell_gw (by simp) (by simp) d os
      have q1 : ∀ d os, (gw (wr.alloc (bxC x)) d os).cell? ⟨wr.heap.size, 1, none⟩ = some (.int .u64 x.i) := fun d os => cell_gw (by simp) (by simp) d os
      have q2 : ∀ d os, (gw (wr.alloc (bxC x)) d os).cell? ⟨w.heap.size, 0, none⟩ = some (.slice (some ⟨b, off, none⟩) l.length c) := fun d os => cell_gw (by simp; omega) (cell_old (by show w.heap.size < _; omega) r0) d os
      have hbz : ∀ d os, Below w.heap.size w (gw (wr.alloc (bxC x)) d os) := fun d os => below_step (below_step hbW (below_alloc _ _)) (below_gw _ _ _)
      have hbz' : ∀ d os, Below (w.heap.size + 1) (w.alloc (bxR (some ⟨b, off, none⟩) l.length c)) (gw (wr.alloc (bxC x)) d os) := fun d os => (hbw.alloc hsz _).trans ((below_gw _ _ _).mono (by simp; omega))
      have HZ := hide hbz
      have HZ' := hide hbz'
      clear hbz hbz'
      cases hm : mayB x.n x.i
      · have H := hide (mayR_false hlt (okR_may HP.out hm))
        go_wp2
        (refine wp_region_gw (by kernel_rfl) (by kernel_rfl) ?_; (repeat (go_big_quiet_step ((go_at_call 65; exact calls_gw (may_b _ _ _))))); refine wpQuiet_nil ?_; intro _ hw'; obtain ⟨⟨dq, osq⟩, hw''⟩ := hw'; subst hw'')
        go_wp2
        go_ret
        exact ⟨ret_b H.out.symm, HZ.out _ _⟩
      · by_cases hk0 : k = 0
        · have H := hide (show (List.range (k + 1)).all (okR l) = true by rw [all_succ, HN.out]; subst hk0; rw [okR_zero HP.out hm]; rfl)
          have hk1 : decide (0 < k) = false := by simp; omega
          clear hk0
          go_wp2
          (refine wp_region_gw (by kernel_rfl) (by kernel_rfl) ?_; (repeat (go_big_quiet_step ((go_at_call 65; exact calls_gw (may_b _ _ _))))); refine wpQuiet_nil ?_; intro _ hw'; obtain ⟨⟨dq, osq⟩, hw''⟩ := hw'; subst hw'')
          go_wp2
          go_roundw
          case rel => exact ⟨k + 1, by omega, by go_num, HZ'.out _ _, H.out⟩
          case measure => simp [intOf]; omega
        · obtain ⟨b', off', y, he, hb', hp', hy⟩ := HRW.out.atC (k := k - 1) (by omega)
          injection he with he
          injection he with he1 he2
          subst he1 he2
          have HP' := hide hp'
          have q3 : ∀ d os, (gw (wr.alloc (bxC x)) d os).cell? ⟨b, off + (k - 1) * 6, none⟩ = some (.int .i64 y.n) := fun d os => cell_gw (by simp; omega) (cell_old (by show b < _; omega) hy.h0) d os
          have j0 : (0 : Int) < (k : Int) := by omega
          have hk1 : decide (0 < k) = true := by simp; omega
          have j1 : (0 : Int) ≤ (k : Int) - 1 := by omega
          have j2 : (k : Int) - 1 < (l.length : Int) := by omega
          have j3 : ((k : Int) - 1).toNat = k - 1 := by omega
          clear hp' hy
          by_cases hc : y.n < x.n
          · have H := hide (show (List.range (k + 1)).all (okR l) = true by rw [all_succ, HN.out, okR_succ HP.out HP'.out hk0 hm]; simp [hc])
            have hcb : decide (x.n ≤ y.n) = false := by simp; omega
            go_wp2
            (refine wp_region_gw (by kernel_rfl) (by kernel_rfl) ?_; (repeat (go_big_quiet_step ((go_at_call 65; exact calls_gw (may_b _ _ _))))); refine wpQuiet_nil ?_; intro _ hw'; obtain ⟨⟨dq, osq⟩, hw''⟩ := hw'; subst hw'')
            go_wp2
            go_roundw
            case rel => exact ⟨k + 1, by omega, by go_num, HZ'.out _ _, H.out⟩
            case measure => simp [intOf]; omega
          · have H := hide (mayR_false hlt (show okR l k = false by rw [okR_succ HP.out HP'.out hk0 hm]; simp; omega))
            have hcb : decide (x.n ≤ y.n) = true := by simp; omega
            go_wp2
            (refine wp_region_gw (by kernel_rfl) (by kernel_rfl) ?_; (repeat (go_big_quiet_step ((go_at_call 65; exact calls_gw (may_b _ _ _))))); refine wpQuiet_nil ?_; intro _ hw'; obtain ⟨⟨dq, osq⟩, hw''⟩ := hw'; subst hw'')
            go_wp2
            go_ret
            exact ⟨ret_b H.out.symm, HZ.out _ _⟩
    · have H := hide (show mayR l = decide ((l.length : Int) ≤ 6) by
        have hk' : k = l.length := by omega
        subst hk'
        unfold mayR
        rw [HN.out, Bool.true_and, decide_eq_decide]; omega)
      go_wp2
      go_ret
      exact ⟨ret_b (by rw [H.out]), hbW⟩

end Go.Proofs.YtkglclekieckoaaGreat

namespace Go.Proofs.YtkglclekieckoaaGreat
set_option linter.unusedSimpArgs false
set_option linter.unusedVariables false
set_option linter.unusedSectionVars false
open Go.RowKit Go.Sort Go.Lib

def RetC (w : World) (l : List Cl) (e : Ending) (w' : World) : Prop := ∃ v, e = .returned v ∧ OwnC w' w.heap.size v l ∧ Below w.heap.size w w'
theorem own_emptyC (w : World) : (w.alloc (.cells #[] 48)).ownsRow w.heap.size 48 6 (.slice (some ⟨w.heap.size, 0, none⟩) 0 0) 0 [] := World.ownsRow_lit w #[] 0 (Nat.le_refl _) (by unfold maxLen; omega) rfl
theorem reads_oneC (w : World) (x : Cl) (n : Nat) (h : w.heap.size = n) : Reads (w.alloc (bxC x)) (n + 1) 6 (some ⟨n, 0, none⟩) 1 (ccs [x]) := by
  subst h
  have := Reads.of_own (World.ownsRow_lit (base := 0) (e := 48) (size := 6) w #[.int .i64 x.n, .int .u64 x.i, .int .u64 x.cid, .int .u64 x.rnd, .int .u64 x.heard, .bool x.gone] 1 (Nat.zero_le _) (by unfold maxLen; omega) rfl)
  simpa [ccs, cc] using this
theorem reads_oneP (w : World) (a b : Int) (n : Nat) (h : w.heap.size = n) : Reads (w.alloc (bx a b)) (n + 1) 2 (some ⟨n, 0, none⟩) 1 (pcs [(a, b)]) := by
  subst h
  have := Reads.of_own (World.ownsRow_lit (base := 0) (e := 25) (size := 2) w #[.int .i64 a, .int .u64 b] 1 (Nat.zero_le _) (by unfold maxLen; omega) rfl)
  simpa [pcs, pc] using this

set_option maxHeartbeats 400000 in
theorem cloneC_s (A : Option Addr) (c : Nat) (l : List Cl) (w : World) (hR : Cll w A l) (hn : l.length ≤ 1000000) :
    Calls Tryz.prog 66 #[.slice A l.length c] w (RetC w l) := by
  cases A with
  | none =>
    have h0 : l.length = 0 := by
      rcases Nat.eq_zero_or_pos l.length with h | h
      · exact h
      · obtain ⟨_, _, h', _⟩ := hR.2 h; cases h'
    have hl : l = [] := List.eq_nil_of_length_eq_zero h0
    subst hl
    clear hR h0
    have hnil : ∀ W c, (binOp .eql 28 (.slice none 0 c) (.slice none 0 0)).run Tryz.prog W = .ok (.bool true) W := fun W c => Lib.run_eql_slice_nil W 28 48 none 0 c 0 0 Tryz.underlying28
    rw [show ([] : List Cl).length = 0 from rfl]
    go_enter Tryz.func66, Tryz.ntmps66
    go_wp2
    go_ret
    exact ⟨_, rfl, World.ownsRow_nil _ _ _ _, Below.refl _ _⟩
  | some ad =>
    have hnil : ∀ W, (binOp .eql 28 (.slice (some ad) l.length c) (.slice none 0 0)).run Tryz.prog W = .ok (.bool false) W := fun W => Lib.run_eql_slice_nil W 28 48 (some ad) l.length c 0 0 Tryz.underlying28
    go_enter Tryz.func66, Tryz.ntmps66
    go_wp2_with (at_builtin; go_must (refine wpList_append_any _ Tryz.okC (by rfl) (.tmp 5) (.tmp 6) (by rfl) w.heap.size (.slice (some ⟨w.heap.size, 0, none⟩) 0 0) 0 [] (by rfl) (own_emptyC w) w.heap.size (some ad) l.length c (ccs l) (by rfl) (Reads.alloc hR (Nat.le_refl _) _) (cc_one l) (by unfold maxLen; omega) (by omega) (by simp) ?_); intro v1 w1 hown1 hg1 hnil1 hat1)
    go_ret
    rw [Nat.zero_add, List.nil_append] at hown1
    exact ⟨_, rfl, hown1, (below_alloc w _).grown hg1 (by simp) (by simp [Value.ownBlock])⟩

/-- one that may be, or one without clients -/
def takenR (l : List Cl) : List Cl := if mayR l = true then l else []
theorem takenR_len (l : List Cl) : (takenR l).length ≤ 6 := by
  unfold takenR
  split
  · rename_i h; unfold mayR at h; simp at h; exact h.2
  · simp
/-- a registry is handed back, in new memory -/
def RetR7 (w : World) (l : List Cl) (e : Ending) (w' : World) : Prop := ∃ v, e = .returned (.agg #[v]) ∧ OwnC w' w.heap.size v l ∧ Below w.heap.size w w'
set_option maxHeartbeats 400000 in
theorem taken_s (A : Option Addr) (c : Nat) (l : List Cl) (w : World) (h : Cll w A l) (hn : l.length ≤ 1000000) :
    Calls Tryz.prog 68 #[.agg #[.slice A l.length c]] w (RetR7 w (takenR l)) := by
  have h1 : Cll ((w.alloc (bxR A l.length c)).alloc (bxR none 0 0)) A l := (h.step (below_alloc _ _)).step (below_alloc _ _)
  have b1 : Below w.heap.size w ((w.alloc (bxR A l.length c)).alloc (bxR none 0 0)) := below_step (below_alloc _ _) (below_alloc _ _)
  clear h
  go_enter Tryz.func68, Tryz.ntmps68
  go_wp2_with fail
  with_reducible refine (regMay_b A c l _ h1 hn).mono ?_
  rintro e w1 ⟨rfl, hb⟩
  have c0 : w1.cell? ⟨w.heap.size, 0, none⟩ = some (.slice A l.length c) := (hb.cell (p := ⟨w.heap.size, 0, none⟩) (by simp; omega)).trans (by simp)
  have c1 : w1.cell? ⟨w.heap.size + 1, 0, none⟩ = some (.slice none 0 0) := (hb.cell (p := ⟨w.heap.size + 1, 0, none⟩) (by simp)).trans (by simp)
  have f1 : w1.frozen? ⟨w.heap.size + 1, 0, none⟩ = false := (hb.frozen (p := ⟨w.heap.size + 1, 0, none⟩) (by simp)).trans (by simp)
  have hsz := hb.size
  simp at hsz
  replace h1 := h1.step hb
  replace b1 := below_step b1 hb
  clear hb
  cases hm : mayR l
  · have HT := hide (show takenR l = [] by simp [takenR, hm])
    go_wp2
    refine bodyPost_ret (v := .agg #[.slice none 0 0]) (by simp [results, Tryz.results68, go_sem, c1]) rfl ?_
    rw [HT.out]
    exact ⟨_, rfl, World.ownsRow_nil _ _ _ _, b1.setCell (by simp) _⟩
  · have HT := hide (show takenR l = l by simp [takenR, hm])
    go_wp2_with fail
    with_reducible refine (cloneC_s A c l w1 h1 hn).mono ?_
    rintro e w2 ⟨v, rfl, hown, hb⟩
    obtain ⟨A2, c2, rfl, _, _⟩ := own_slice hown
    have d1 : w2.cell? ⟨w.heap.size + 1, 0, none⟩ = some (.slice none 0 0) := (hb.cell (p := ⟨w.heap.size + 1, 0, none⟩) (by simp; omega)).trans c1
    have g1 : w2.frozen? ⟨w.heap.size + 1, 0, none⟩ = false := (hb.frozen (p := ⟨w.heap.size + 1, 0, none⟩) (by simp; omega)).trans f1
    have hs2 := hb.size
    have HO := hide hown
    have b2 := below_step b1 hb
    clear hown hb c0 c1 f1 h1
    go_wp2
    refine bodyPost_ret (v := .agg #[.slice A2 l.length c2]) (by simp [results, Tryz.results68, go_sem, d1]) rfl ?_
    rw [HT.out]
    refine ⟨_, rfl, ?_, b2.setCell (by simp) _⟩
    exact own_base (ownsRow_setCell_below HO.out (a := ⟨w.heap.size + 1, 0, none⟩) (by simp; omega) _) (by omega)

set_option maxHeartbeats 400000 in
theorem there_b (x : Cl) (w : World) : Calls Tryz.prog 69 #[.agg #[.int .i64 x.n, .int .u64 x.i, .int .u64 x.cid, .int .u64 x.rnd, .int .u64 x.heard, .bool x.gone]] w (RetB7 w (!x.gone)) := by
  go_enter Tryz.func69, Tryz.ntmps69
  go_wp2
  go_ret
  exact ⟨rfl, below_alloc _ _⟩

def livesL (l : List Cl) : List (Int × Int) := l.map fun c => (c.n, c.i)
def RetP (w : World) (l : List (Int × Int)) (e : Ending) (w' : World) : Prop := ∃ A c, e = .returned (.slice A l.length c) ∧ w'.ownsRow w.heap.size 25 2 (.slice A l.length c) l.length (pcs l) ∧ Below w.heap.size w w'
set_option maxHeartbeats 1000000 in
theorem lives7_s (A : Option Addr) (c : Nat) (l : List Cl) (w : World) (h : Cll w A l) (hn : l.length ≤ 1000000) :
    Calls Tryz.prog 104 #[.slice A l.length c] w (RetP w (livesL l)) := by
  have HS := hide h
  clear h
  go_enter Tryz.func104, Tryz.ntmps104
  go_wp2
  go_loopw [3, 8] (fun v i wr => ∃ (k : Nat) (L : List (Int × Int)), k ≤ l.length ∧ i = .int .i64 k ∧ L = livesL (l.take k) ∧ wr.ownsRow w.heap.size 25 2 v L.length (pcs L) ∧ Below w.heap.size w wr) (fun _ i _ => l.length - (intOf i).toNat)
  case atStart => exact ⟨0, [], Nat.zero_le _, rfl, rfl, World.ownsRow_nil _ _ _ _, Below.refl _ _⟩
  case round =>
    obtain ⟨k, L, hk, rfl, hL, hown, hbw⟩ := hrel
    have hLl : L.length ≤ k := by rw [hL, livesL, List.length_map, List.length_take]; omega
    have HL := hide hL
    have HO := hide hown
    have hsz := hbw.size
    clear hL hown
    by_cases hlt : k < l.length
    · obtain ⟨b1, off, x, rfl, hb, hp, hx⟩ := (Reads.below HS.out hbw).atC hlt
      obtain ⟨g0, g1, g2, g3, g4, g5⟩ := hx
      have HST := hide (show livesL (l.take (k + 1)) = L ++ [(x.n, x.i)] by rw [take_succ_of hp, livesL, List.map_append, HL.out]; rfl)
      clear hp
      go_wp2_with (at_builtin; go_must (refine wpList_append_any _ Tryz.okP (by rfl) (.tmp 12) (.tmp 15) (by rfl) w.heap.size _ _ (pcs L) (by rfl) ((HO.out.alloc _).alloc _) (wr.heap.size + 1 + 1) (some ⟨wr.heap.size + 1, 0, none⟩) 1 1 (pcs [(x.n, x.i)]) (by rfl) (reads_oneP _ x.n x.i (wr.heap.size + 1) (by simp)) (pc_one _) (by unfold maxLen; omega) (by omega) (by simp; omega) ?_); intro v1 w4 hown1 hg1 hnil1 hat1)
      go_roundw
      case rel =>
        refine ⟨k + 1, L ++ [(x.n, x.i)], by omega, by go_num, HST.out.symm, ?_, ?_⟩
        · rw [List.length_append, pcs_app]; exact hown1
        · exact ((hbw.alloc hsz _).alloc (by simp; omega) _).grown hg1 (by simp; omega) (fun g hg => (HO.out.lt g hg).1)
      case measure => simp [intOf]; omega
    · have H := hide (show livesL l = L by rw [HL.out, List.take_of_length_le (by omega)])
      have hown := HO.out
      obtain ⟨A2, c2, rfl, _, _⟩ := own_slice hown
      go_wp2
      go_ret
      rw [H.out]
      exact ⟨A2, c2, rfl, hown, hbw⟩

end Go.Proofs.YtkglclekieckoaaGreat

namespace Go.Proofs.YtkglclekieckoaaGreat
set_option linter.unusedSimpArgs false
set_option linter.unusedVariables false
set_option linter.unusedSectionVars false
open Go.RowKit Go.Sort Go.Lib

theorem flat_set {α : Type} {enc : α → List Value} {k : Nat} (hk : ∀ x, (enc x).length = k) : ∀ (l : List α) (i j : Nat) (x y : α) (v : Value), l[i]? = some x → j < k → enc y = (enc x).set j v → (l.flatMap enc).set (i * k + j) v = (l.set i y).flatMap enc := by
  intro l
  induction l with
  | nil => intro i j x y v h; simp at h
  | cons z l ih =>
    intro i j x y v h hj he
    cases i with
    | zero =>
      simp at h; subst h
      rw [List.set_cons_zero, List.flatMap_cons, List.flatMap_cons, he, Nat.zero_mul, Nat.zero_add, List.set_append_left _ _ (by rw [hk]; exact hj)]
    | succ i =>
      simp at h
      rw [List.set_cons_succ, List.flatMap_cons, List.flatMap_cons, ← ih i j x y v h hj he, List.set_append_right _ _ (by rw [hk, Nat.succ_mul]; omega), hk]
      congr 2
      rw [Nat.succ_mul]; omega
theorem own_setC {w : World} {base g n cap : Nat} {l : List Cl} (h : w.ownsRow base 48 6 (.slice (some ⟨g, 0, none⟩) n cap) n (ccs l)) {i : Nat} (j : Nat) {x y : Cl} {v : Value} (hx : l[i]? = some x) (hj : j < 6) (he : cc y = (cc x).set j v) :
    (w.setCell ⟨g, i * 6 + j, none⟩ v).ownsRow base 48 6 (.slice (some ⟨g, 0, none⟩) n cap) n (ccs (l.set i y)) ∧ w.grownBy (w.setCell ⟨g, i * 6 + j, none⟩ v) (some g) := by
  obtain ⟨h1, g1⟩ := h.stored (i * 6 + j) v
  rw [ccs, flat_set cc_len l i j x y v hx hj he] at h1
  exact ⟨h1, g1⟩
theorem own_lenC {w : World} {base n : Nat} {l : List Cl} {v : Value} (h : w.ownsRow base 48 6 v n (ccs l)) : n = l.length := by have := h.1; rw [ccs_len] at this; omega
theorem own_atC {w : World} {base g n cap : Nat} {l : List Cl} (h : w.ownsRow base 48 6 (.slice (some ⟨g, 0, none⟩) n cap) n (ccs l)) {i : Nat} {x : Cl} (hp : l[i]? = some x) : AtC w g (i * 6) x := by
  have hl : i < l.length := (List.getElem?_eq_some_iff.1 hp).1
  have hn := own_lenC h
  have key : ∀ j (hj : j < 6), w.cell? ⟨g, i * 6 + j, none⟩ = (cc x)[j]? := fun j hj => by rw [h.cellAt _ (by omega), ccs_get hp j hj]
  exact ⟨key 0 (by omega), key 1 (by omega), key 2 (by omega), key 3 (by omega), key 4 (by omega), key 5 (by omega)⟩

/-! ### the closures -/
def silB (now : Int) (x : Cl) : Bool := decide (12 < now) && decide (x.heard < now - 12)
/-! ### who goes -/
def goes (st : Cl → Bool) (x : Cl) : Bool := !x.gone && st x
def goneR (st : Cl → Bool) (l : List Cl) : List Cl := l.map fun x => if goes st x = true then { x with gone := true } else x
def RetG (w : World) (l : List Cl) (p : List (Int × Int)) (e : Ending) (w' : World) : Prop :=
  ∃ v A c, e = .returned (.tuple #[.agg #[v], .slice A p.length c]) ∧ OwnC w' w.heap.size v l ∧ w'.ownsRow w.heap.size 25 2 (.slice A p.length c) p.length (pcs p) ∧ Below w.heap.size w w'
/-- the row behind k rounds -/
def mixR (st : Cl → Bool) (m : List Cl) (k : Nat) : List Cl := goneR st (m.take k) ++ m.drop k
theorem mixR_len (st : Cl → Bool) (m : List Cl) (k : Nat) : (mixR st m k).length = m.length := by
  simp [mixR, goneR]; omega
theorem mixR_get {st : Cl → Bool} {m : List Cl} {k : Nat} {x : Cl} (h : m[k]? = some x) : (mixR st m k)[k]? = some x := by
  have hl := (List.getElem?_eq_some_iff.1 h).1
  have h1 : (goneR st (m.take k)).length = k := by simp [goneR]; omega
  rw [mixR, List.getElem?_append_right (by omega), h1, List.getElem?_drop, Nat.sub_self, Nat.add_zero, h]
theorem mixR_step {st : Cl → Bool} {m : List Cl} {k : Nat} {x : Cl} (h : m[k]? = some x) : mixR st m (k + 1) = (mixR st m k).set k (if goes st x = true then { x with gone := true } else x) := by
  have hl := (List.getElem?_eq_some_iff.1 h).1
  have h1 : (goneR st (m.take k)).length = k := by simp [goneR]; omega
  have h2 : m.drop k = x :: m.drop (k + 1) := by
    rw [List.drop_eq_getElem_cons hl]
    obtain ⟨_, h3⟩ := List.getElem?_eq_some_iff.1 h
    rw [h3]
  unfold mixR
  rw [List.set_append_right _ _ (by omega), h1, Nat.sub_self, h2, List.set_cons_zero, take_succ_of h]
  simp [goneR]
theorem set_self {m : List Cl} {k : Nat} {x : Cl} (h : m[k]? = some x) : m.set k x = m := by
  obtain ⟨h1, h2⟩ := List.getElem?_eq_some_iff.1 h
  rw [← h2]; exact List.set_getElem_self h1

end Go.Proofs.YtkglclekieckoaaGreat
