/-
  Contracts: slices.Index, Contains, Equal of uint64; view.Place, Start, Compare, First, MayId.
-/
import Derived.Test.YtmleeohaaipdcaaInts
import Derived.Test.YtmleeohaaipdcaaBase
import Derived.Test.YtmleeohaaipdcaaWt
import Derived.Laws.EntriesVeiled
namespace Go.Proofs.Ytmleeohaaipdcaa
set_option linter.unusedSimpArgs false
set_option linter.unusedVariables false
set_option linter.unusedSectionVars false
open Go.RowKit

def Ul (w : World) (A : Option Addr) (l : List Int) : Prop := Reads w w.heap.size 1 A l.length (ucs l)
theorem Ul.step {w w' : World} {A : Option Addr} {l : List Int} (h : Ul w A l) (hb : Below w.heap.size w w') : Ul w' A l := (Reads.below h hb).more hb.size
theorem Reads.atU {w : World} {B : Nat} {A : Option Addr} {n k : Nat} {l : List Int} (h : Reads w B 1 A n (ucs l)) (hk : k < n) :
    ∃ b off x, A = some ⟨b, off, none⟩ ∧ b < B ∧ l[k]? = some x ∧ w.cell? ⟨b, off + k, none⟩ = some (.int .u64 x) := by
  obtain ⟨b, off, rfl, hb, hc⟩ := h.2 (by omega)
  have hl : k < l.length := by have := h.1; rw [ucs_len] at this; omega
  exact ⟨b, off, l[k], rfl, hb, List.getElem?_eq_getElem hl, hc k _ (by simp [ucs, hl])⟩
/-- a view where it lies -/
structure Vw where
  r : Int
  n : Int
  i : Int
  MA : Option Addr
  mc : Nat
  ms : List Pr
  UA : Option Addr
  uc : Nat
  us : List Int
  deriving Inhabited
def Vw.v (x : Vw) : Value := .agg #[.int .u64 x.r, .int .i64 x.n, .int .u64 x.i, .slice x.MA x.ms.length x.mc, .slice x.UA x.us.length x.uc]
structure Vw.Ok (w : World) (x : Vw) : Prop where
  m : Sl w x.MA x.ms
  u : Ul w x.UA x.us
  ml : x.ms.length ≤ 1000000
  ul : x.us.length ≤ 1000000
theorem Vw.Ok.step {w w' : World} {x : Vw} (h : x.Ok w) (hb : Below w.heap.size w w') : x.Ok w' := ⟨h.m.step hb, h.u.step hb, h.ml, h.ul⟩
/-- two views are the same -/
def Vw.eqB (x y : Vw) : Bool := decide (x.r = y.r ∧ x.n = y.n ∧ x.i = y.i ∧ x.ms = y.ms ∧ x.us = y.us)

/-! ### numbers -/
def idxU (l : List Int) (p : Int) : Int := if p ∈ l then (l.idxOf p : Int) else -1
theorem idxU_take {l : List Int} {p : Int} {k : Nat} (h : p ∉ l.take k) (hk : l[k]? = some p) : l.idxOf p = k := by
  have hl := (List.getElem?_eq_some_iff.1 hk).1
  have e : l = l.take k ++ (p :: l.drop (k + 1)) := by
    have h2 : l.drop k = p :: l.drop (k + 1) := by
      rw [List.drop_eq_getElem_cons hl]
      obtain ⟨_, h3⟩ := List.getElem?_eq_some_iff.1 hk
      rw [h3]
    rw [← h2, List.take_append_drop]
  rw [e, List.idxOf_append, if_neg h]
  rw [List.idxOf_cons_self, List.length_take]; omega
theorem idxU_neg (l : List Int) (p : Int) : decide (0 ≤ idxU l p) = decide (p ∈ l) := by
  rw [decide_eq_decide]; unfold idxU
  split
  · rename_i h; simp [h]
  · rename_i h; simp [h]
/-! ### the place of a member, its start -/
def placeV (l : List Pr) (p : Pr) : Value := if p ∈ l then .tuple #[.int .i64 (l.idxOf p : Int), .bool true] else .tuple #[.int .i64 0, .bool false]
def startV (l : List Pr) (u : List Int) (p : Pr) : Value := if p ∈ l ∧ l.idxOf p < u.length then .tuple #[.int .u64 (u.getD (l.idxOf p) 0), .bool true] else .tuple #[.int .u64 0, .bool false]
set_option maxHeartbeats 400000 in
theorem place_s (x : Vw) (a b : Int) (w : World) (h : x.Ok w) :
    Calls Try.prog 141 #[x.v, .agg #[.int .i64 a, .int .u64 b]] w fun e w' => e = .returned (placeV x.ms (a, b)) ∧ Below w.heap.size w w' := by
  obtain ⟨r, n, i, MA, mc, ms, UA, uc, us⟩ := x
  obtain ⟨h1, h2, h3, h4⟩ := h
  simp only at h1 h2 h3 h4
  unfold Vw.v placeV
  simp only
  by_cases hin : (a, b) ∈ ms
  · rw [if_pos hin]
    have hi : idxL ms (a, b) = (ms.idxOf (a, b) : Int) := by unfold idxL; rw [if_pos hin]
    have T := hide (fun W (hW : Sl W MA ms) => index_any MA mc ms a b W hW h3)
    rw [hi] at T
    have hlt : ¬ ((ms.idxOf (a, b) : Int) < 0) := by omega
    clear hi
    go_enter Try.func141, Try.ntmps141
    go_wp2_with fail
    with_reducible refine (T.out _ (h1.step (by repeat (first | exact Below.refl _ _ | assumption | refine bel_al ?_ _ | refine bel_gw ?_ _ _ | refine bel_drew ?_ | refine bel_drewN ?_ _)))).mono ?_
    rintro e w1 ⟨rfl, hb⟩
    obtain ⟨⟨d, os⟩, rfl⟩ := gw_of_below hb
    clear hb
    go_wp2
    refine bodyPost_ret (v := .tuple #[.int .i64 (ms.idxOf (a, b) : Int), .bool true]) (by simp [results, Try.results141, go_sem]) rfl ⟨rfl, (by repeat (first | exact Below.refl _ _ | assumption | refine bel_al ?_ _ | refine bel_gw ?_ _ _ | refine bel_drew ?_ | refine bel_drewN ?_ _))⟩
  · rw [if_neg hin]
    have hi : idxL ms (a, b) = -1 := by unfold idxL; rw [if_neg hin]
    have T := hide (fun W (hW : Sl W MA ms) => index_any MA mc ms a b W hW h3)
    rw [hi] at T
    clear hi
    go_enter Try.func141, Try.ntmps141
    go_wp2_with fail
    with_reducible refine (T.out _ (h1.step (by repeat (first | exact Below.refl _ _ | assumption | refine bel_al ?_ _ | refine bel_gw ?_ _ _ | refine bel_drew ?_ | refine bel_drewN ?_ _)))).mono ?_
    rintro e w1 ⟨rfl, hb⟩
    obtain ⟨⟨d, os⟩, rfl⟩ := gw_of_below hb
    clear hb
    go_wp2
    refine bodyPost_ret (v := .tuple #[.int .i64 0, .bool false]) (by simp [results, Try.results141, go_sem]) rfl ⟨rfl, (by repeat (first | exact Below.refl _ _ | assumption | refine bel_al ?_ _ | refine bel_gw ?_ _ _ | refine bel_drew ?_ | refine bel_drewN ?_ _))⟩
set_option maxHeartbeats 400000 in
theorem start_s (x : Vw) (a b : Int) (w : World) (h : x.Ok w) :
    Calls Try.prog 103 #[x.v, .agg #[.int .i64 a, .int .u64 b]] w fun e w' => e = .returned (startV x.ms x.us (a, b)) ∧ Below w.heap.size w w' := by
  have T := hide (fun W (hW : x.Ok W) => place_s x a b W hW)
  obtain ⟨r, n, i, MA, mc, ms, UA, uc, us⟩ := x
  have HOK := hide h
  obtain ⟨h1, h2, h3, h4⟩ := h
  unfold Vw.v placeV at T
  simp only at h1 h2 h3 h4 T
  unfold Vw.v startV
  simp only
  by_cases hin : (a, b) ∈ ms
  · rw [if_pos hin] at T
    have hix : ms.idxOf (a, b) < ms.length := List.idxOf_lt_length_iff.2 hin
    obtain ⟨k, hk⟩ : ∃ k, k = ms.idxOf (a, b) := ⟨_, rfl⟩
    rw [← hk] at T hix ⊢
    by_cases hu : k < us.length
    · rw [if_pos ⟨hin, hu⟩]
      obtain ⟨bu, off, y, rfl, hbu, hy, g1⟩ := h2.atU hu
      have e : us.getD k 0 = y := by simp [List.getD, hy]
      rw [e]
      haveI : InW bu w := ⟨hbu⟩
      have hge : ¬ ((us.length : Int) ≤ (k : Int)) := by omega
      have hd : (decide ((us.length : Int) ≤ (k : Int))) = false := by simp; omega
      clear e hy hin hk
      go_enter Try.func103, Try.ntmps103
      go_wp2_with fail
      with_reducible refine (T.out _ (HOK.out.step (by repeat (first | exact Below.refl _ _ | assumption | refine bel_al ?_ _ | refine bel_gw ?_ _ _ | refine bel_drew ?_ | refine bel_drewN ?_ _)))).mono ?_
      rintro e w1 ⟨rfl, hb⟩
      obtain ⟨⟨d, os⟩, rfl⟩ := gw_of_below hb
      clear hb
      go_wp2
      refine bodyPost_ret (v := .tuple #[.int .u64 y, .bool true]) (by simp [results, Try.results103, go_sem]) rfl ⟨rfl, (by repeat (first | exact Below.refl _ _ | assumption | refine bel_al ?_ _ | refine bel_gw ?_ _ _ | refine bel_drew ?_ | refine bel_drewN ?_ _))⟩
    · rw [if_neg (by omega)]
      have hd : (decide ((us.length : Int) ≤ (k : Int))) = true := by simp; omega
      clear hin hk
      go_enter Try.func103, Try.ntmps103
      go_wp2_with fail
      with_reducible refine (T.out _ (HOK.out.step (by repeat (first | exact Below.refl _ _ | assumption | refine bel_al ?_ _ | refine bel_gw ?_ _ _ | refine bel_drew ?_ | refine bel_drewN ?_ _)))).mono ?_
      rintro e w1 ⟨rfl, hb⟩
      obtain ⟨⟨d, os⟩, rfl⟩ := gw_of_below hb
      clear hb
      go_wp2
      refine bodyPost_ret (v := .tuple #[.int .u64 0, .bool false]) (by simp [results, Try.results103, go_sem]) rfl ⟨rfl, (by repeat (first | exact Below.refl _ _ | assumption | refine bel_al ?_ _ | refine bel_gw ?_ _ _ | refine bel_drew ?_ | refine bel_drewN ?_ _))⟩
  · rw [if_neg hin] at T
    rw [if_neg (fun h => hin h.1)]
    clear hin
    go_enter Try.func103, Try.ntmps103
    go_wp2_with fail
    with_reducible refine (T.out _ (HOK.out.step (by repeat (first | exact Below.refl _ _ | assumption | refine bel_al ?_ _ | refine bel_gw ?_ _ _ | refine bel_drew ?_ | refine bel_drewN ?_ _)))).mono ?_
    rintro e w1 ⟨rfl, hb⟩
    obtain ⟨⟨d, os⟩, rfl⟩ := gw_of_below hb
    clear hb
    go_wp2
    refine bodyPost_ret (v := .tuple #[.int .u64 0, .bool false]) (by simp [results, Try.results103, go_sem]) rfl ⟨rfl, (by repeat (first | exact Below.refl _ _ | assumption | refine bel_al ?_ _ | refine bel_gw ?_ _ _ | refine bel_drew ?_ | refine bel_drewN ?_ _))⟩

/-! ### names -/
def cmpV (a b c d e f : Int) : Int := if cmpI a d = 0 then cmpP (b, c) (e, f) else cmpI a d
/-- may a name be? -/
def mayIdB (r n i : Int) : Bool := mayB n i && (decide (r = 0) || decide (n ≤ 4))
set_option maxHeartbeats 400000 in
theorem mayId_s (r n i : Int) (w : World) : Calls Try.prog 75 #[.agg #[.int .u64 r, .int .i64 n, .int .u64 i]] w fun e w' => e = .returned (.bool (mayIdB r n i)) ∧ Below w.heap.size w w' := by
  have key : (mayB n i = false ∧ mayIdB r n i = false) ∨ (mayB n i = true ∧ (r == 0) = true ∧ mayIdB r n i = true) ∨ (mayB n i = true ∧ (r == 0) = false ∧ decide (n ≤ 4) = mayIdB r n i) := by
    unfold mayIdB
    by_cases hr : r = 0 <;> cases mayB n i <;> simp [hr]
  rcases key with ⟨h1, h2⟩ | ⟨h1, h2, h3⟩ | ⟨h1, h2, h3⟩
  · have H := hide h2
    clear h2
    go_enter Try.func75, Try.ntmps75
    go_wp2_with (go_at_call 71; refine (may_any _ _ _).mono ?_; rintro e w' ⟨rfl, rfl⟩)
    go_ret
    exact ⟨ret_b H.out.symm, (by repeat (first | exact Below.refl _ _ | assumption | refine bel_al ?_ _ | refine bel_gw ?_ _ _ | refine bel_drew ?_ | refine bel_drewN ?_ _))⟩
  · have H := hide h3
    clear h3
    go_enter Try.func75, Try.ntmps75
    go_wp2_with (go_at_call 71; refine (may_any _ _ _).mono ?_; rintro e w' ⟨rfl, rfl⟩)
    go_ret
    exact ⟨ret_b H.out.symm, (by repeat (first | exact Below.refl _ _ | assumption | refine bel_al ?_ _ | refine bel_gw ?_ _ _ | refine bel_drew ?_ | refine bel_drewN ?_ _))⟩
  · have H := hide h3
    clear h3
    go_enter Try.func75, Try.ntmps75
    go_wp2_with (go_at_call 71; refine (may_any _ _ _).mono ?_; rintro e w' ⟨rfl, rfl⟩)
    go_ret
    exact ⟨ret_b H.out, (by repeat (first | exact Below.refl _ _ | assumption | refine bel_al ?_ _ | refine bel_gw ?_ _ _ | refine bel_drew ?_ | refine bel_drewN ?_ _))⟩
end Go.Proofs.Ytmleeohaaipdcaa

namespace Go.Proofs.Ytmleeohaaipdcaa
set_option linter.unusedSimpArgs false
set_option linter.unusedVariables false
set_option linter.unusedSectionVars false
open Go.RowKit

/-! ### '==' on names of views -/
theorem Try.stoodI : Try.prog.stoodInHeld 27 = false := by kernel_rfl
theorem Try.guardI : Try.prog.eqGuardType Try.prog.depth 27 = false := by kernel_rfl
def eqI (a b c d e f : Int) : Bool := decide (a = d ∧ b = e ∧ c = f)
theorem equalInI (a b c d e f : Int) (w : World) : (Op.equalIn 10000 27 (.agg #[.int .u64 a, .int .i64 b, .int .u64 c]) (.agg #[.int .u64 d, .int .i64 e, .int .u64 f])).run Try.prog w = .ok (eqI a b c d e f) w := by
  have hu := Try.underlying27
  have hs := Try.stoodI
  have hs2 := Try.stoodP
  by_cases h1 : a = d <;> by_cases h2 : b = e <;> by_cases h3 : c = f <;> simp [go_sem, hs, hs2, h1, h2, h3, eqI]
@[go_sem ↓] theorem eqlI (a b c d e f : Int) (w : World) : (binOp .eql 27 (.agg #[.int .u64 a, .int .i64 b, .int .u64 c]) (.agg #[.int .u64 d, .int .i64 e, .int .u64 f])).run Try.prog w = .ok (.bool (eqI a b c d e f)) w := by
  rw [run_eql_struct, equalInI]; rfl
@[go_sem ↓] theorem neqI (a b c d e f : Int) (w : World) : (binOp .neq 27 (.agg #[.int .u64 a, .int .i64 b, .int .u64 c]) (.agg #[.int .u64 d, .int .i64 e, .int .u64 f])).run Try.prog w = .ok (.bool (!eqI a b c d e f)) w := by
  rw [run_neq_struct, equalInI]; rfl
@[go_sem ↓] theorem eqGuardI (op : BinOp) (x y : Operand) (xs ys : Array Value) (w : World) : (eqGuard op 27 x y (.agg xs) (.agg ys)).run Try.prog w = .ok () w := run_eqGuard_agg w op _ x y xs ys Try.guardI

/-- a view is told, in new memory -/
def RetV (w : World) (r n i : Int) (ms : List Pr) (us : List Int) (e : Ending) (w' : World) : Prop :=
  ∃ MA mc UA uc, e = .returned (Vw.v ⟨r, n, i, MA, mc, ms, UA, uc, us⟩) ∧ Vw.Ok w' ⟨r, n, i, MA, mc, ms, UA, uc, us⟩ ∧ Below w.heap.size w w'
theorem reads_oneU (w : World) (a : Int) : Reads (w.alloc (.cells #[.int .u64 a] 23)) (w.heap.size + 1) 1 (some ⟨w.heap.size, 0, none⟩) 1 (ucs [a]) := by
  have := Reads.of_own (World.ownsRow_lit (base := 0) (e := 23) (size := 1) w #[.int .u64 a] 1 (Nat.zero_le _) (by unfold maxLen; omega) rfl)
  simpa [ucs] using this
theorem reads_one_at (w : World) (a b : Int) (k : Nat) (h : w.heap.size = k) : Reads (w.alloc (bx a b)) (k + 1) 2 (some ⟨k, 0, none⟩) 1 (pcs [(a, b)]) := by subst h; exact reads_one w a b
theorem reads_oneU_at (w : World) (a : Int) (k : Nat) (h : w.heap.size = k) : Reads (w.alloc (.cells #[.int .u64 a] 23)) (k + 1) 1 (some ⟨k, 0, none⟩) 1 (ucs [a]) := by subst h; exact reads_oneU w a
end Go.Proofs.Ytmleeohaaipdcaa

namespace Go.Proofs.Ytmleeohaaipdcaa
set_option linter.unusedSimpArgs false
set_option linter.unusedVariables false
set_option linter.unusedSectionVars false
open Go.RowKit

theorem BoxAt.step {w w' : World} {n : Nat} {cs : Array Value} {t : TypeId} (h : BoxAt w n cs t) (hb : Below w.heap.size w w') : BoxAt w' n cs t := ⟨by rw [hb.block n h.lt]; exact h.eq⟩
theorem box5 {w : World} {n : Nat} {a b c d e : Value} {t : TypeId} (h : BoxAt w n #[a, b, c, d, e] t) : w.cell? ⟨n, 0, none⟩ = some a ∧ w.cell? ⟨n, 1, none⟩ = some b ∧ w.cell? ⟨n, 2, none⟩ = some c ∧ w.cell? ⟨n, 3, none⟩ = some d ∧ w.cell? ⟨n, 4, none⟩ = some e := by
  refine ⟨?_, ?_, ?_, ?_, ?_⟩ <;> (rw [cell?_box]; rfl)
/-- may a view be that was agreed on? -/
def mayAB (x : Vw) : Bool := decide (1 ≤ (x.ms.length : Int)) && (decide ((x.ms.length : Int) ≤ 6) && (setB x.ms && ((((nodesL x.ms).length : Int) == (x.ms.length : Int)) && (((x.us.length : Int) == (x.ms.length : Int)) && !decide ((0 : Int) ∈ x.us)))))
/-- may a view be? -/
def Vw.mayB (x : Vw) : Bool := mayIdB x.r x.n x.i && (if x.r = 0 then Vw.eqB x ⟨0, x.n, x.i, none, 0, [(x.n, x.i)], none, 0, [0]⟩ else mayAB x)
end Go.Proofs.Ytmleeohaaipdcaa
