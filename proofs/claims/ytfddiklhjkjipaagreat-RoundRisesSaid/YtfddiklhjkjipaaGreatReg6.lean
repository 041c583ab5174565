/-
  Contracts: slices.Grow of nil, slices.Concat at clients; the sort of clients by their lives; registry.joined.
-/
import Derived.Test.YtfddiklhjkjipaaGreatReg5
import Derived.Test.YtfddiklhjkjipaaGreatSortK
import Derived.Lib.AppendZeros
namespace Go.Proofs.YtfddiklhjkjipaaGreat
set_option linter.unusedSimpArgs false
set_option linter.unusedVariables false
set_option linter.unusedSectionVars false
open Go.RowKit Go.Sort Go.Lib

/-- a list of clients where it lies -/
structure Svc where
  A : Option Addr
  c : Nat
  l : List Cl
  deriving Inhabited
def Svc.v (x : Svc) : Value := .slice x.A x.l.length x.c
def svcs (xs : List Svc) : List Value := xs.map Svc.v
theorem svcs_len (xs : List Svc) : (svcs xs).length = xs.length * 1 := by simp [svcs]
theorem Reads.atSc {w : World} {B : Nat} {A : Option Addr} {n k : Nat} {xs : List Svc} (h : Reads w B 1 A n (svcs xs)) (hk : k < n) :
    ∃ b off x, A = some ⟨b, off, none⟩ ∧ b < B ∧ xs[k]? = some x ∧ w.cell? ⟨b, off + k, none⟩ = some (.slice x.A x.l.length x.c) := by
  obtain ⟨b, off, rfl, hb, hc⟩ := h.2 (by omega)
  have hl : k < xs.length := by have := h.1; rw [svcs_len] at this; omega
  exact ⟨b, off, xs[k], rfl, hb, List.getElem?_eq_getElem hl, hc k _ (by simp [svcs, hl, Svc.v])⟩

set_option maxHeartbeats 400000 in
theorem growC_nil (n : Nat) (w : World) (hn : n ≤ 1000000) : Calls Tryz.prog 287 #[.slice none 0 0, .int .i64 n] w fun e w' => ∃ v, e = .returned v ∧ OwnC w' w.heap.size v [] ∧ Below w.heap.size w w' := by
  by_cases h0 : n = 0
  · subst h0
    go_enter Tryz.func287, Tryz.ntmps287
    go_wp2
    go_ret
    exact ⟨_, rfl, World.ownsRow_nil _ _ _ _, Below.refl _ _⟩
  · obtain ⟨i, hi, hz, hsize, hby⟩ := info_parts (show (Tryz.prog.info? 48).map (fun i => (i.zero, i.size, i.bytes)) = some (some (.agg #[.int .i64 0, .int .u64 0, .int .u64 0, .int .u64 0, .int .u64 0, .bool false]), 6, 48) by kernel_rfl)
    have hrun := fun ty => Lib.run_append_nil_zeros w 28 3 ty 48 i (.agg #[.int .i64 0, .int .u64 0, .int .u64 0, .int .u64 0, .int .u64 0, .bool false]) .i64 .i64 Tryz.underlying28 Tryz.underlying3 hi hz n (by omega) (by omega) (by omega) (by rw [hby]; omega)
    have hG1 := grownCap_ge w n 0 48
    have hG2 := grownCap_le_maxLen w n 0 48 (by unfold maxLen; omega)
    have hG3 : n + (grownCap w n 0 48 - n) = grownCap w n 0 48 := by omega
    generalize grownCap w n 0 48 = G at *
    have hG4 : G ≤ 9223372036854775807 := by unfold maxLen at hG2; exact hG2
    have HG2 := hide hG2
    have HI := hide hG3
    have HR := hide hrun
    clear hrun hi hz hsize hby hG2 hG3
    have j0 : (0 : Int) < (n : Int) := by omega
    have j1 : ¬ (n : Int) < 0 := by omega
    go_enter Tryz.func287, Tryz.ntmps287
    go_wp2_with (at_builtin; refine Lib.wpList_append_run _ rfl _ _ _ _ rfl _ _ rfl rfl _ _ (HR.out _) ?_)
    go_ret
    refine ⟨_, rfl, ⟨rfl, .inr ⟨w.heap.size, G, _, rfl, Nat.le_refl _, heap_alloc_new _ _, Nat.zero_le _, HG2.out, ?_, rfl⟩⟩, Below.alloc (Below.refl _ _).drew (by simp) _⟩
    rw [Array.size_append, size_zeroCells, size_zeroCells, ← Nat.add_mul, HI.out]
    rfl

def flatC (xs : List Svc) : List Cl := xs.flatMap Svc.l
theorem flatC_take {xs : List Svc} {k : Nat} {x : Svc} (h : xs[k]? = some x) : flatC (xs.take (k + 1)) = flatC (xs.take k) ++ x.l := by
  rw [take_succ_of h]; simp [flatC]
theorem flatC_le (xs : List Svc) (k : Nat) : (flatC (xs.take k)).length ≤ (flatC xs).length := by
  have : flatC xs = flatC (xs.take k) ++ flatC (xs.drop k) := by
    unfold flatC; rw [← List.flatMap_append, List.take_append_drop]
  rw [this, List.length_append]; omega

set_option maxHeartbeats 1000000 in
theorem concatC_any (A : Option Addr) (c : Nat) (xs : List Svc) (w : World) (hR : Reads w w.heap.size 1 A xs.length (svcs xs)) (hok : ∀ x ∈ xs, Cll w x.A x.l) (hn : xs.length ≤ 1000000) (hm : (flatC xs).length ≤ 1000000) :
    Calls Tryz.prog 280 #[.slice A xs.length c] w fun e w' => ∃ v, e = .returned v ∧ OwnC w' w.heap.size v (flatC xs) ∧ Below w.heap.size w w' := by
  go_enter Tryz.func280, Tryz.ntmps280
  go_wp2
  go_loop [3, 11] (fun t i => ∃ k : Nat, k ≤ xs.length ∧ i = .int .i64 k ∧ t = .int .i64 (flatC (xs.take k)).length) (fun _ i => xs.length - (intOf i).toNat)
  case atStart => exact ⟨0, Nat.zero_le _, rfl, rfl⟩
  case round =>
    obtain ⟨k, hk, rfl, rfl⟩ := hrel
    have hle := flatC_le xs k
    have hle' := flatC_le xs (k + 1)
    by_cases hlt : k < xs.length
    · obtain ⟨b, off, x, rfl, hb, hx, g1⟩ := hR.atSc hlt
      have hl := congrArg List.length (flatC_take hx)
      rw [List.length_append] at hl
      have HL := hide hl
      have hsum : (flatC (xs.take k)).length + x.l.length ≤ 1000000 := by omega
      clear hx hR hl
      go_wp2
      go_round
      case rel => exact ⟨k + 1, by omega, by go_num, by rw [HL.out]; go_num⟩
      case measure => simp [intOf]; omega
    · have hk' : k = xs.length := by omega
      subst hk'
      rw [List.take_length]
      clear hle hle' hlt hk
      go_wp2_with fail
      refine (growC_nil _ _ hm).mono ?_
      rintro e w1 ⟨v0, rfl, hown0, hb0⟩
      go_wp2
      go_loopw [6, 27] (fun v i wr => ∃ k : Nat, k ≤ xs.length ∧ i = .int .i64 k ∧ OwnC wr w.heap.size v (flatC (xs.take k)) ∧ Below w.heap.size w wr) (fun _ i _ => xs.length - (intOf i).toNat)
      case atStart => exact ⟨0, Nat.zero_le _, rfl, hown0, hb0⟩
      case round =>
        obtain ⟨k, hk, rfl, hown, hbw⟩ := hrel
        have HO := hide hown
        clear hown0
        by_cases hlt : k < xs.length
        · obtain ⟨b, off, x, rfl, hb, hx, g1⟩ := (hR.below hbw).atSc hlt
          have hxo : Reads wr w.heap.size 6 x.A x.l.length (ccs x.l) := Reads.below (hok x (List.mem_of_getElem? hx)) hbw
          have HX := hide (flatC_take hx)
          have hle := flatC_le xs (k + 1)
          have hl := congrArg List.length HX.out
          rw [List.length_append] at hl
          have hsum : (flatC (xs.take k)).length + x.l.length ≤ 1000000 := by omega
          have HXO := hide hxo
          clear hx hxo hl hle hown
          go_wp2_with (at_builtin; refine wpList_append_any _ Tryz.okC (by rfl) (.tmp 31) (.tmp 32) (by rfl) w.heap.size _ _ (ccs (flatC (xs.take k))) (by rfl) HO.out w.heap.size x.A x.l.length x.c (ccs x.l) (by rfl) HXO.out (cc_one x.l) (by unfold maxLen; omega) (by omega) hbw.size ?_; intro v1 w1' hown1 hg1 hnil1 hat1)
          go_roundw
          case rel =>
            refine ⟨k + 1, by omega, by go_num, ?_, hbw.grown hg1 hbw.size (fun g hg => (HO.out.lt g hg).1)⟩
            rw [OwnC, HX.out, List.length_append, ccs_app]; exact hown1
          case measure => simp [intOf]; omega
        · have hk' : k = xs.length := by omega
          subst hk'
          go_wp2
          go_ret
          rw [List.take_length] at hown
          exact ⟨_, rfl, hown, hbw⟩

/-! ### the sort -/
def cmpC (x y : Cl) : Int := cmpP (x.n, x.i) (y.n, y.i)
theorem cmpC_lt (x y : Cl) : ltOf cmpC x y = decide (x.n < y.n ∨ x.n = y.n ∧ x.i < y.i) := by
  have := befB_cmp x.n x.i y.n y.i
  unfold befB at this
  exact this.symm
theorem cmpC_swo : SWO (ltOf cmpC) where
  irrefl x := by rw [cmpC_lt]; simp
  trans x y z h1 h2 := by rw [cmpC_lt] at *; simp at *; omega
  ntrans x y z h1 h2 := by rw [cmpC_lt] at *; simp at *; omega
set_option maxHeartbeats 400000 in
theorem joined1_any (x y : Cl) (w : World) : Calls Tryz.prog 282 #[.agg #[.int .i64 x.n, .int .u64 x.i, .int .u64 x.cid, .int .u64 x.rnd, .int .u64 x.heard, .bool x.gone], .agg #[.int .i64 y.n, .int .u64 y.i, .int .u64 y.cid, .int .u64 y.rnd, .int .u64 y.heard, .bool y.gone]] w fun e w' => e = .returned (.int .i64 (cmpC x y)) ∧ (((w.alloc (bxC x)).alloc (bxC y)).alloc (bx x.n x.i)).alloc (bx y.n y.i) = w' := by
  go_enter Tryz.func282, Tryz.ntmps282
  go_wp2_with (go_at_call 128; refine (compare_any _ _ _ _ _).mono ?_; rintro e w' ⟨rfl, rfl⟩)
  go_ret
  exact ⟨rfl, rfl⟩
theorem cmpLaysC (blk off size : Nat) (w : World) : CmpLays Tryz.prog 282 #[] cc 6 cmpC blk off size w :=
  fun _ _ _ _ x y => (joined1_any x y _).mono fun e w' ⟨he, hw⟩ => ⟨he, 0, #[bxC x] ++ #[bxC y] ++ #[bx x.n x.i] ++ #[bx y.n y.i], by rw [← hw, alloc_eq_grow, alloc_eq_grow, alloc_eq_grow, alloc_eq_grow, grow_grow, grow_grow, grow_grow]; rfl⟩

theorem sortFuncC_own (base g cap : Nat) (l : List Cl) (w : World) (h : OwnC w base (.slice (some ⟨g, 0, none⟩) l.length cap) l) (hb : g < w.heap.size) (hn : l.length ≤ 1000000) :
    Calls Tryz.prog 281 #[.slice (some ⟨g, 0, none⟩) l.length cap, .func (.func 282) #[] #[]] w fun e w' => e = .returned (.tuple #[]) ∧ ∃ l', l'.Perm l ∧ (l'.Pairwise fun x y => ltOf cmpC y x = false) ∧ OwnC w' base (.slice (some ⟨g, 0, none⟩) l'.length cap) l' ∧ w.grownBy w' (some g) := by
  have eg : ∀ args w, (callFunc 282 args).run Tryz.prog w = .ok (.enter 282 args) w := enters_of Tryz.func282 (by kernel_rfl) rfl
  have hcon := AnyQ.slices_SortFunc Tryz.sortC 6 Tryz.isAgg48 Tryz.sizeOf48 cc cc_len (fun x v hv => cc_one [x] v (by simpa [ccs] using hv)) cmpC cmpC_swo 282 #[] g 0 cap l.toArray w eg (cmpLaysC g 0 _ w) (holds_of_ownK cc_len (by omega) h) hb (by simp; omega)
  have hcon' : Calls Tryz.prog 281 #[.slice (some ⟨g, 0, none⟩) l.length cap, .func (.func 282) #[] #[]] w _ := hcon
  refine hcon'.mono ?_
  rintro e w' ⟨he, d', m, os, hp, hs, hw⟩
  obtain ⟨p1, p2⟩ := sorted_of hp hs
  obtain ⟨h1, h2⟩ := own_of_sortK cc_len (by omega) h (l' := d'.toList) p1.length_eq m os
  have hw' : w' = sortWorldK cc 6 w g 0 m d'.toList.toArray os := hw
  rw [hw']
  exact ⟨he, d'.toList, p1, p2, by rw [OwnC, p1.length_eq]; exact h1, h2⟩
theorem sortFuncC_none (p : Option Addr) (cap : Nat) (fv : Value) (w : World) : Calls Tryz.prog 281 #[.slice p 0 cap, fv] w fun e w' => e = .returned (.tuple #[]) ∧ w = w' :=
  (AnyF.slices_SortFunc_none { Tryz.sortC with } p cap fv w).mono fun _ _ ⟨h, h'⟩ => ⟨h, h'.symm⟩

/-- the clients of lists, in their order -/
def RetJ (w : World) (l : List Cl) (e : Ending) (w' : World) : Prop := ∃ l' v, l'.Perm l ∧ (l'.Pairwise fun x y => ltOf cmpC y x = false) ∧ e = .returned v ∧ OwnC w' w.heap.size v l' ∧ Below w.heap.size w w'
set_option maxHeartbeats 400000 in
theorem joined_s (A : Option Addr) (c : Nat) (xs : List Svc) (w : World) (hR : Reads w w.heap.size 1 A xs.length (svcs xs)) (hok : ∀ x ∈ xs, Cll w x.A x.l) (hn : xs.length ≤ 1000000) (hm : (flatC xs).length ≤ 1000000) :
    Calls Tryz.prog 262 #[.slice A xs.length c] w (RetJ w (flatC xs)) := by
  have T := hide (concatC_any A c xs w hR hok hn hm)
  generalize flatC xs = l at T hm ⊢
  clear hR hok
  go_enter Tryz.func262, Tryz.ntmps262
  go_wp2_with fail
  with_reducible refine T.out.mono ?_
  rintro e w1 ⟨v, rfl, hown, hb⟩
  rcases Nat.eq_zero_or_pos l.length with h0 | h0
  · have hl : l = [] := List.eq_nil_of_length_eq_zero h0
    subst hl
    obtain ⟨A1, c1, rfl, _, _⟩ := own_slice hown
    rw [show ([] : List Cl).length = 0 from rfl] at *
    go_wp2_with fail
    with_reducible refine (sortFuncC_none A1 c1 _ w1).mono ?_
    rintro e w2 ⟨rfl, rfl⟩
    go_wp2
    go_ret
    exact ⟨[], _, List.Perm.nil, List.Pairwise.nil, rfl, hown, hb⟩
  · obtain ⟨g, c1, rfl, hgb, hg⟩ := hown.form h0
    have HO := hide hown
    clear hown
    go_wp2_with fail
    with_reducible refine (sortFuncC_own w.heap.size g c1 l w1 HO.out hg hm).mono ?_
    rintro e w2 ⟨rfl, l', hp, hs, hown2, hgr⟩
    have hlen := hp.length_eq
    rw [hlen] at hown2
    have HP := hide hp
    have HS := hide hs
    have HO2 := hide hown2
    clear hp hs hown2 hlen
    go_wp2
    go_ret
    exact ⟨l', .slice (some ⟨g, 0, none⟩) l.length c1, HP.out, HS.out, rfl, HO2.out, hb.grown hgr hb.size (fun q hq => by injection hq with hq; subst hq; exact hgb)⟩
end Go.Proofs.YtfddiklhjkjipaaGreat
