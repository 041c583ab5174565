/-
  Contracts: slices.Index, Contains, Equal of uint64; view.Place, Start, Compare, First, MayId.
-/
import Derived.Test.YtkglclekieckoaaGreatInts
import Derived.Test.YtkglclekieckoaaGreatBase
import Derived.Test.YtkglclekieckoaaGreatWt
import Derived.Laws.EntriesVeiled
namespace Go.Proofs.YtkglclekieckoaaGreat
set_option linter.unusedSimpArgs false
set_option linter.unusedVariables false
set_option linter.unusedSectionVars false
open Go.RowKit

def Ul (w : World) (A : Option Addr) (l : List Int) : Prop := Reads w w.heap.size 1 A l.length (ucs l)
theorem Ul.step {w w' : World} {A : Option Addr} {l : List Int} (h : Ul w A l) (hb : Below w.heap.size w w') : Ul w' A l := (Reads.below h hb).more hb.size
theorem Reads.atU {w : World} {B : Nat} {A : Option Addr} {n k : Nat} {l : List Int} (h : Reads w B 1 A n (ucs l)) (hk : k < n) :
    ∃ b off x, A = some ⟨b, off, none⟩ ∧ b < B ∧ l[k]? = some x ∧ w.cell? ⟨b, off + k, none⟩ = some (.int .u64 x) := by
  obtain ⟨b, off, rfl, hb, hc⟩ := h.2 (by omega)
  have hl : k < l.length := by have := h.1; rw [ucs_len] at this; omega
  exact ⟨b, off, l[k], rfl, hb, List.getElem?_eq_getElem hl, hc k _ (by simp [ucs, hl])⟩
/-- a view where it lies -/
structure Vw where
  r : Int
  n : Int
  i : Int
  MA : Option Addr
  mc : Nat
  ms : List Pr
  UA : Option Addr
  uc : Nat
  us : List Int
  deriving Inhabited
def Vw.v (x : Vw) : Value := .agg #[.int .u64 x.r, .int .i64 x.n, .int .u64 x.i, .slice x.MA x.ms.length x.mc, .slice x.UA x.us.length x.uc]
structure Vw.Ok (w : World) (x : Vw) : Prop where
  m : Sl w x.MA x.ms
  u : Ul w x.UA x.us
  ml : x.ms.length ≤ 1000000
  ul : x.us.length ≤ 1000000
theorem Vw.Ok.step {w w' : World} {x : Vw} (h : x.Ok w) (hb : Below w.heap.size w w') : x.Ok w' := ⟨h.m.step hb, h.u.step hb, h.ml, h.ul⟩
/-- two views are the same -/
def Vw.eqB (x y : Vw) : Bool := decide (x.r = y.r ∧ x.n = y.n ∧ x.i = y.i ∧ x.ms = y.ms ∧ x.us = y.us)

/-! ### numbers -/
def idxU (l : List Int) (p : Int) : Int := if p ∈ l then (l.idxOf p : Int) else -1
theorem idxU_take {l : List Int} {p : Int} {k : Nat} (h : p ∉ l.take k) (hk : l[k]? = some p) : l.idxOf p = k := by
  have hl := (List.getElem?_eq_some_iff.1 hk).1
  have e : l = l.take k ++ (p :: l.drop (k + 1)) := by
    have h2 : l.drop k = p :: l.drop (k + 1) := by
      rw [List.drop_eq_getElem_cons hl]
      obtain ⟨_, h3⟩ := List.getElem?_eq_some_iff.1 hk
      rw [h3]
    rw [← h2, List.take_append_drop]
  rw [e, List.idxOf_append, if_neg h]
  rw [List.idxOf_cons_self, List.length_take]; omega
theorem idxU_neg (l : List Int) (p : Int) : decide (0 ≤ idxU l p) = decide (p ∈ l) := by
  rw [decide_eq_decide]; unfold idxU
  split
  · rename_i h; simp [h]
  · rename_i h; simp [h]
set_option maxHeartbeats 400000 in
theorem indexU_s (A : Option Addr) (c : Nat) (l : List Int) (x : Int) (w : World) (h : Ul w A l) (hn : l.length ≤ 1000000) :
    Calls Tryz.prog 112 #[.slice A l.length c, .int .u64 x] w fun e w' => e = .returned (.int .i64 (idxU l x)) ∧ w = w' := by
  go_enter Tryz.func112, Tryz.ntmps112
  go_wp2
  go_loop [8] (fun i => ∃ k : Nat, k ≤ l.length ∧ i = .int .i64 k ∧ x ∉ l.take k) (fun i => l.length - (intOf i).toNat)
  case atStart => exact ⟨0, Nat.zero_le _, rfl, by simp⟩
  case round =>
    obtain ⟨k, hk, rfl, hnot⟩ := hrel
    have HN := hide hnot
    clear hnot
    by_cases hlt : k < l.length
    · obtain ⟨b, off, y, rfl, hb, hy, g1⟩ := h.atU hlt
      by_cases hxy : x = y
      · subst hxy
        have H := hide (show idxU l x = k by unfold idxU; rw [if_pos (List.mem_of_getElem? hy), idxU_take HN.out hy])
        clear hy h
        go_wp2
        go_ret
        exact ⟨ret_i H.out.symm, rfl⟩
      · have H := hide (show x ∉ l.take (k + 1) by rw [take_succ_of hy]; simp [HN.out, hxy])
        have hb : (x == y) = false := by simp [hxy]
        clear hy hxy
        go_wp2
        go_round
        case rel => exact ⟨k + 1, by omega, by go_num, H.out⟩
        case measure => simp [intOf]; omega
    · have hk' : k = l.length := by omega
      subst hk'
      have H := hide (show idxU l x = -1 by unfold idxU; rw [if_neg]; have := HN.out; rwa [List.take_length] at this)
      go_wp2
      go_ret
      exact ⟨ret_i H.out.symm, rfl⟩
set_option maxHeartbeats 400000 in
theorem containsU_s (A : Option Addr) (c : Nat) (l : List Int) (x : Int) (w : World) (h : Ul w A l) (hn : l.length ≤ 1000000) :
    Calls Tryz.prog 86 #[.slice A l.length c, .int .u64 x] w fun e w' => e = .returned (.bool (decide (x ∈ l))) ∧ w = w' := by
  have H := hide (idxU_neg l x)
  have T := hide (indexU_s A c l x w h hn)
  clear h
  go_enter Tryz.func86, Tryz.ntmps86
  go_wp2_with fail
  with_reducible refine T.out.mono ?_
  rintro e w2 ⟨rfl, rfl⟩
  go_wp2
  go_ret
  exact ⟨ret_b H.out, rfl⟩

/-! ### the place of a member, its start -/
def placeV (l : List Pr) (p : Pr) : Value := if p ∈ l then .tuple #[.int .i64 (l.idxOf p : Int), .bool true] else .tuple #[.int .i64 0, .bool false]
def startV (l : List Pr) (u : List Int) (p : Pr) : Value := if p ∈ l ∧ l.idxOf p < u.length then .tuple #[.int .u64 (u.getD (l.idxOf p) 0), .bool true] else .tuple #[.int .u64 0, .bool false]
set_option maxHeartbeats 400000 in
theorem place_s (x : Vw) (a b : Int) (w : World) (h : x.Ok w) :
    Calls Tryz.prog 95 #[x.v, .agg #[.int .i64 a, .int .u64 b]] w fun e w' => e = .returned (placeV x.ms (a, b)) ∧ Below w.heap.size w w' := by
  obtain ⟨r, n, i, MA, mc, ms, UA, uc, us⟩ := x
  obtain ⟨h1, h2, h3, h4⟩ := h
  simp only at h1 h2 h3 h4
  unfold Vw.v placeV
  simp only
  by_cases hin : (a, b) ∈ ms
  · rw [if_pos hin]
    have hi : idxL ms (a, b) = (ms.idxOf (a, b) : Int) := by unfold idxL; rw [if_pos hin]
    have T := hide (fun W (hW : Sl W MA ms) => index_any MA mc ms a b W hW h3)
    rw [hi] at T
    have hlt : ¬ ((ms.idxOf (a, b) : Int) < 0) := by omega
    clear hi
    go_enter Tryz.func95, Tryz.ntmps95
    go_wp2_with fail
    with_reducible refine (T.out _ (h1.step (by repeat (first | exact Below.refl _ _ | assumption | refine bel_al ?_ _ | refine bel_gw ?_ _ _ | refine bel_drew ?_ | refine bel_drewN ?_ _)))).mono ?_
    rintro e w1 ⟨rfl, hb⟩
    obtain ⟨⟨d, os⟩, rfl⟩ := gw_of_below hb
    clear hb
    go_wp2
    refine bodyPost_ret (v := .tuple #[.int .i64 (ms.idxOf (a, b) : Int), .bool true]) (by simp [results, Tryz.results95, go_sem]) rfl ⟨rfl, (by repeat (first | exact Below.refl _ _ | assumption | refine bel_al ?_ _ | refine bel_gw ?_ _ _ | refine bel_drew ?_ | refine bel_drewN ?_ _))⟩
  · rw [if_neg hin]
    have hi : idxL ms (a, b) = -1 := by unfold idxL; rw [if_neg hin]
    have T := hide (fun W (hW : Sl W MA ms) => index_any MA mc ms a b W hW h3)
    rw [hi] at T
    clear hi
    go_enter Tryz.func95, Tryz.ntmps95
    go_wp2_with fail
    with_reducible refine (T.out _ (h1.step (by repeat (first | exact Below.refl _ _ | assumption | refine bel_al ?_ _ | refine bel_gw ?_ _ _ | refine bel_drew ?_ | refine bel_drewN ?_ _)))).mono ?_
    rintro e w1 ⟨rfl, hb⟩
    obtain ⟨⟨d, os⟩, rfl⟩ := gw_of_below hb
    clear hb
    go_wp2
    refine bodyPost_ret (v := .tuple #[.int .i64 0, .bool false]) (by simp [results, Tryz.results95, go_sem]) rfl ⟨rfl, (by repeat (first | exact Below.refl _ _ | assumption | refine bel_al ?_ _ | refine bel_gw ?_ _ _ | refine bel_drew ?_ | refine bel_drewN ?_ _))⟩
set_option maxHeartbeats 400000 in
theorem start_s (x : Vw) (a b : Int) (w : World) (h : x.Ok w) :
    Calls Tryz.prog 57 #[x.v, .agg #[.int .i64 a, .int .u64 b]] w fun e w' => e = .returned (startV x.ms x.us (a, b)) ∧ Below w.heap.size w w' := by
  have T := hide (fun W (hW : x.Ok W) => place_s x a b W hW)
  obtain ⟨r, n, i, MA, mc, ms, UA, uc, us⟩ := x
  have HOK := hide h
  obtain ⟨h1, h2, h3, h4⟩ := h
  unfold Vw.v placeV at T
  simp only at h1 h2 h3 h4 T
  unfold Vw.v startV
  simp only
  by_cases hin : (a, b) ∈ ms
  · rw [if_pos hin] at T
    have hix : ms.idxOf (a, b) < ms.length := List.idxOf_lt_length_iff.2 hin
    obtain ⟨k, hk⟩ : ∃ k, k = ms.idxOf (a, b) := ⟨_, rfl⟩
    rw [← hk] at T hix ⊢
    by_cases hu : k < us.length
    · rw [if_pos ⟨hin, hu⟩]
      obtain ⟨bu, off, y, rfl, hbu, hy, g1⟩ := h2.atU hu
      have e : us.getD k 0 = y := by simp [List.getD, hy]
      rw [e]
      haveI : InW bu w := ⟨hbu⟩
      have hge : ¬ ((us.length : Int) ≤ (k : Int)) := by omega
      have hd : (decide ((us.length : Int) ≤ (k : Int))) = false := by simp; omega
      clear e hy hin hk
      go_enter Tryz.func57, Tryz.ntmps57
      go_wp2_with fail
      with_reducible refine (T.out _ (HOK.out.step (by repeat (first | exact Below.refl _ _ | assumption | refine bel_al ?_ _ | refine bel_gw ?_ _ _ | refine bel_drew ?_ | refine bel_drewN ?_ _)))).mono ?_
      rintro e w1 ⟨rfl, hb⟩
      obtain ⟨⟨d, os⟩, rfl⟩ := gw_of_below hb
      clear hb
      go_wp2
      refine bodyPost_ret (v := .tuple #[.int .u64 y, .bool true]) (by simp [results, Tryz.results57, go_sem]) rfl ⟨rfl, (by repeat (first | exact Below.refl _ _ | assumption | refine bel_al ?_ _ | refine bel_gw ?_ _ _ | refine bel_drew ?_ | refine bel_drewN ?_ _))⟩
    · rw [if_neg (by omega)]
      have hd : (decide ((us.length : Int) ≤ (k : Int))) = true := by simp; omega
      clear hin hk
      go_enter Tryz.func57, Tryz.ntmps57
      go_wp2_with fail
      with_reducible refine (T.out _ (HOK.out.step (by repeat (first | exact Below.refl _ _ | assumption | refine bel_al ?_ _ | refine bel_gw ?_ _ _ | refine bel_drew ?_ | refine bel_drewN ?_ _)))).mono ?_
      rintro e w1 ⟨rfl, hb⟩
      obtain ⟨⟨d, os⟩, rfl⟩ := gw_of_below hb
      clear hb
      go_wp2
      refine bodyPost_ret (v := .tuple #[.int .u64 0, .bool false]) (by simp [results, Tryz.results57, go_sem]) rfl ⟨rfl, (by repeat (first | exact Below.refl _ _ | assumption | refine bel_al ?_ _ | refine bel_gw ?_ _ _ | refine bel_drew ?_ | refine bel_drewN ?_ _))⟩
  · rw [if_neg hin] at T
    rw [if_neg (fun h => hin h.1)]
    clear hin
    go_enter Tryz.func57, Tryz.ntmps57
    go_wp2_with fail
    with_reducible refine (T.out _ (HOK.out.step (by repeat (first | exact Below.refl _ _ | assumption | refine bel_al ?_ _ | refine bel_gw ?_ _ _ | refine bel_drew ?_ | refine bel_drewN ?_ _)))).mono ?_
    rintro e w1 ⟨rfl, hb⟩
    obtain ⟨⟨d, os⟩, rfl⟩ := gw_of_below hb
    clear hb
    go_wp2
    refine bodyPost_ret (v := .tuple #[.int .u64 0, .bool false]) (by simp [results, Tryz.results57, go_sem]) rfl ⟨rfl, (by repeat (first | exact Below.refl _ _ | assumption | refine bel_al ?_ _ | refine bel_gw ?_ _ _ | refine bel_drew ?_ | refine bel_drewN ?_ _))⟩

/-! ### names -/
def cmpV (a b c d e f : Int) : Int := if cmpI a d = 0 then cmpP (b, c) (e, f) else cmpI a d
/-- may a name be? -/
def mayIdB (r n i : Int) : Bool := mayB n i && (decide (r = 0) || decide (n ≤ 4))
set_option maxHeartbeats 400000 in
theorem mayId_s (r n i : Int) (w : World) : Calls Tryz.prog 96 #[.agg #[.int .u64 r, .int .i64 n, .int .u64 i]] w fun e w' => e = .returned (.bool (mayIdB r n i)) ∧ Below w.heap.size w w' := by
  have key : (mayB n i = false ∧ mayIdB r n i = false) ∨ (mayB n i = true ∧ (r == 0) = true ∧ mayIdB r n i = true) ∨ (mayB n i = true ∧ (r == 0) = false ∧ decide (n ≤ 4) = mayIdB r n i) := by
    unfold mayIdB
    by_cases hr : r = 0 <;> cases mayB n i <;> simp [hr]
  rcases key with ⟨h1, h2⟩ | ⟨h1, h2, h3⟩ | ⟨h1, h2, h3⟩
  · have H := hide h2
    clear h2
    go_enter Tryz.func96, Tryz.ntmps96
    go_wp2_with (go_at_call 65; refine (may_any _ _ _).mono ?_; rintro e w' ⟨rfl, rfl⟩)
    go_ret
    exact ⟨ret_b H.out.symm, (by repeat (first | exact Below.refl _ _ | assumption | refine bel_al ?_ _ | refine bel_gw ?_ _ _ | refine bel_drew ?_ | refine bel_drewN ?_ _))⟩
  · have H := hide h3
    clear h3
    go_enter Tryz.func96, Tryz.ntmps96
    go_wp2_with (go_at_call 65; refine (may_any _ _ _).mono ?_; rintro e w' ⟨rfl, rfl⟩)
    go_ret
    exact ⟨ret_b H.out.symm, (by repeat (first | exact Below.refl _ _ | assumption | refine bel_al ?_ _ | refine bel_gw ?_ _ _ | refine bel_drew ?_ | refine bel_drewN ?_ _))⟩
  · have H := hide h3
    clear h3
    go_enter Tryz.func96, Tryz.ntmps96
    go_wp2_with (go_at_call 65; refine (may_any _ _ _).mono ?_; rintro e w' ⟨rfl, rfl⟩)
    go_ret
    exact ⟨ret_b H.out, (by repeat (first | exact Below.refl _ _ | assumption | refine bel_al ?_ _ | refine bel_gw ?_ _ _ | refine bel_drew ?_ | refine bel_drewN ?_ _))⟩
end Go.Proofs.YtkglclekieckoaaGreat

namespace Go.Proofs.YtkglclekieckoaaGreat
set_option linter.unusedSimpArgs false
set_option linter.unusedVariables false
set_option linter.unusedSectionVars false
open Go.RowKit

set_option maxHeartbeats 400000 in
theorem equalU_s (A A' : Option Addr) (c c' : Nat) (l m : List Int) (w : World) (hR : Ul w A l) (hR' : Ul w A' m) (hn : l.length ≤ 1000000) (hm : m.length ≤ 1000000) :
    Calls Tryz.prog 46 #[.slice A l.length c, .slice A' m.length c'] w fun e w' => e = .returned (.bool (decide (l = m))) ∧ Below w.heap.size w w' := by
  by_cases hlen : l.length = m.length
  · have hb : (((l.length : Nat) : Int) != ((m.length : Nat) : Int)) = false := by simp [hlen]
    have HL := hide hlen
    clear hlen
    go_enter Tryz.func46, Tryz.ntmps46
    go_wp2
    go_loopw [13] (fun i wr => ∃ k q : Nat, k ≤ l.length ∧ i = .int .i64 k ∧ wr = w.drewN q ∧ l.take k = m.take k) (fun i _ => l.length - (intOf i).toNat)
    case atStart => exact ⟨0, 0, Nat.zero_le _, rfl, rfl, by simp⟩
    case round =>
      obtain ⟨k, q, hk, rfl, rfl, hnot⟩ := hrel
      have HN := hide hnot
      clear hnot
      by_cases hlt : k < l.length
      · obtain ⟨b, off, x, rfl, hb1, hp, g1⟩ := hR.atU hlt
        have hlt' : k < m.length := by rw [← HL.out]; exact hlt
        obtain ⟨b', off', y, rfl, hb2, hp', g1'⟩ := hR'.atU hlt'
        have HP := hide hp
        have HP' := hide hp'
        clear hp hR hp' hR'
        have i0 : (0 : Int) ≤ (k : Int) := by omega
        have i1 : (k : Int) < (l.length : Int) := by omega
        have i2 : (k : Int) < (m.length : Int) := by omega
        by_cases he : x = y
        · have H := hide (show l.take (k + 1) = m.take (k + 1) by
            rw [take_succ_of HP.out, take_succ_of HP'.out, HN.out, he])
          have hxy : (x != y) = false := by simp [he]
          clear he
          go_wp2
          go_quiet (fail)
          go_wp2
          go_roundw
          case rel => exact ⟨k + 1, _, by omega, by go_num, rfl, H.out⟩
          case measure => simp [intOf]; omega
        · have H := hide (show ¬ l = m by
            intro h; subst h
            have := HP.out.symm.trans HP'.out
            injection this with this
            exact he this)
          have hxy : (x != y) = true := by simp [he]
          clear he
          go_wp2
          go_quiet (fail)
          go_wp2
          go_ret
          exact ⟨ret_b (by simp [H.out]), (by repeat (first | exact Below.refl _ _ | assumption | refine below_drewN ?_ _ | refine Below.drew ?_ | refine Below.alloc ?_ (by simp <;> omega) _))⟩
      · have H := hide (show l = m by
          have := HN.out; have h2 := HL.out
          rwa [List.take_of_length_le (by omega), List.take_of_length_le (by omega)] at this)
        go_wp2
        go_ret
        exact ⟨ret_b (by simp [H.out]), (by repeat (first | exact Below.refl _ _ | assumption | refine below_drewN ?_ _ | refine Below.drew ?_ | refine Below.alloc ?_ (by simp <;> omega) _))⟩
  · have hb : (((l.length : Nat) : Int) != ((m.length : Nat) : Int)) = true := by simp; omega
    have H := hide (show ¬ l = m by intro h; exact hlen (by rw [h]))
    clear hlen
    go_enter Tryz.func46, Tryz.ntmps46
    go_wp2
    go_ret
    exact ⟨ret_b (by simp [H.out]), (by repeat (first | exact Below.refl _ _ | assumption | refine below_drewN ?_ _ | refine Below.drew ?_ | refine Below.alloc ?_ (by simp <;> omega) _))⟩

/-! ### '==' on names of views -/
theorem Tryz.stoodI : Tryz.prog.stoodInHeld 33 = false := by kernel_rfl
theorem Tryz.guardI : Tryz.prog.eqGuardType Tryz.prog.depth 33 = false := by kernel_rfl
def eqI (a b c d e f : Int) : Bool := decide (a = d ∧ b = e ∧ c = f)
theorem equalInI (a b c d e f : Int) (w : World) : (Op.equalIn 10000 33 (.agg #[.int .u64 a, .int .i64 b, .int .u64 c]) (.agg #[.int .u64 d, .int .i64 e, .int .u64 f])).run Tryz.prog w = .ok (eqI a b c d e f) w := by
  have hu := Tryz.underlying33
  have hs := Tryz.stoodI
  have hs2 := Tryz.stoodP
  by_cases h1 : a = d <;> by_cases h2 : b = e <;> by_cases h3 : c = f <;> simp [go_sem, hs, hs2, h1, h2, h3, eqI]
@[go_sem ↓] theorem eqlI (a b c d e f : Int) (w : World) : (binOp .eql 33 (.agg #[.int .u64 a, .int .i64 b, .int .u64 c]) (.agg #[.int .u64 d, .int .i64 e, .int .u64 f])).run Tryz.prog w = .ok (.bool (eqI a b c d e f)) w := by
  rw [run_eql_struct, equalInI]; rfl
@[go_sem ↓] theorem neqI (a b c d e f : Int) (w : World) : (binOp .neq 33 (.agg #[.int .u64 a, .int .i64 b, .int .u64 c]) (.agg #[.int .u64 d, .int .i64 e, .int .u64 f])).run Tryz.prog w = .ok (.bool (!eqI a b c d e f)) w := by
  rw [run_neq_struct, equalInI]; rfl
@[go_sem ↓] theorem eqGuardI (op : BinOp) (x y : Operand) (xs ys : Array Value) (w : World) : (eqGuard op 33 x y (.agg xs) (.agg ys)).run Tryz.prog w = .ok () w := run_eqGuard_agg w op _ x y xs ys Tryz.guardI

@[go_sem] theorem idxF0 (a b c : Value) (w : World) : (Instr.index 110 (.agg #[a, b, c]) (.int .i64 0)).run Tryz.prog w = .ok a w := by
  simp [Instr.index, run_underlying Tryz.underlying110, asIntOf, go_sem, part]
@[go_sem] theorem idxF1 (a b c : Value) (w : World) : (Instr.index 110 (.agg #[a, b, c]) (.int .i64 1)).run Tryz.prog w = .ok b w := by
  simp [Instr.index, run_underlying Tryz.underlying110, asIntOf, go_sem, part]
@[go_sem] theorem idxF2 (a b c : Value) (w : World) : (Instr.index 110 (.agg #[a, b, c]) (.int .i64 2)).run Tryz.prog w = .ok c w := by
  simp [Instr.index, run_underlying Tryz.underlying110, asIntOf, go_sem, part]
set_option maxRecDepth 100000 in
set_option maxHeartbeats 1000000 in
theorem vsame_s (x y : Vw) (w : World) (h : x.Ok w) (h' : y.Ok w) :
    Calls Tryz.prog 12 #[x.v, y.v] w fun e w' => e = .returned (.bool (Vw.eqB x y)) ∧ Below w.heap.size w w' := by
  obtain ⟨r, n, i, MA, mc, ms, UA, uc, us⟩ := x
  obtain ⟨r', n', i', MA', mc', ms', UA', uc', us'⟩ := y
  obtain ⟨h1, h2, h3, h4⟩ := h
  obtain ⟨k1, k2, k3, k4⟩ := h'
  simp only at h1 h2 h3 h4 k1 k2 k3 k4
  have TM := hide (fun W (hW : Sl W MA ms) (hW' : Sl W MA' ms') => equal_any MA MA' mc mc' ms ms' W hW hW' h3 k3)
  have TU := hide (fun W (hW : Ul W UA us) (hW' : Ul W UA' us') => equalU_s UA UA' uc uc' us us' W hW hW' h4 k4)
  have H1 := hide h1
  have H2 := hide h2
  have K1 := hide k1
  have K2 := hide k2
  clear h1 h2 k1 k2 h3 h4 k3 k4
  unfold Vw.v Vw.eqB
  simp only
  cases e1 : eqI r n i r' n' i'
  · have E := hide (show decide (r = r' ∧ n = n' ∧ i = i' ∧ ms = ms' ∧ us = us') = false by
      unfold eqI at e1; simp at e1 ⊢; intro a b c; exact absurd c (e1 a b))
    go_enter Tryz.func12, Tryz.ntmps12
    go_wp2
    refine wp_loop_rounds 4 ?_
    rw [rounds_succ]
    go_wp2_with go_in
    go_ret
    exact ⟨ret_b E.out.symm, (by repeat (first | exact Below.refl _ _ | assumption | refine bel_al ?_ _ | refine bel_gw ?_ _ _ | refine bel_drew ?_ | refine bel_drewN ?_ _))⟩
  · have e1' : r = r' ∧ n = n' ∧ i = i' := by unfold eqI at e1; simpa using e1
    have E0 := hide (show decide (r = r' ∧ n = n' ∧ i = i' ∧ ms = ms' ∧ us = us') = (decide (ms = ms') && decide (us = us')) by
      simp [e1'])
    clear e1'
    rw [E0.out]
    generalize decide (ms = ms') = bm at TM ⊢
    generalize decide (us = us') = bu at TU ⊢
    clear E0
    cases bm
    · go_enter Tryz.func12, Tryz.ntmps12
      go_wp2
      refine wp_loop_rounds 4 ?_
      rw [rounds_succ]
      go_wp2_with go_in
      rw [rounds_succ]
      go_wp2_with (first | (go_at_call 44; (with_reducible refine (TM.out _ (H1.out.step (by repeat (first | exact Below.refl _ _ | assumption | refine bel_al ?_ _ | refine bel_gw ?_ _ _ | refine bel_drew ?_ | refine bel_drewN ?_ _))) (K1.out.step (by repeat (first | exact Below.refl _ _ | assumption | refine bel_al ?_ _ | refine bel_gw ?_ _ _ | refine bel_drew ?_ | refine bel_drewN ?_ _)))).mono ?_); rintro e w1 ⟨rfl, hb⟩; obtain ⟨⟨d1, os1⟩, rfl⟩ := gw_of_below hb; clear hb) | go_in)
      go_ret
      exact ⟨rfl, (by repeat (first | exact Below.refl _ _ | assumption | refine bel_al ?_ _ | refine bel_gw ?_ _ _ | refine bel_drew ?_ | refine bel_drewN ?_ _))⟩
    · go_enter Tryz.func12, Tryz.ntmps12
      go_wp2
      refine wp_loop_rounds 4 ?_
      rw [rounds_succ]
      go_wp2_with go_in
      rw [rounds_succ]
      go_wp2_with (first | (go_at_call 44; (with_reducible refine (TM.out _ (H1.out.step (by repeat (first | exact Below.refl _ _ | assumption | refine bel_al ?_ _ | refine bel_gw ?_ _ _ | refine bel_drew ?_ | refine bel_drewN ?_ _))) (K1.out.step (by repeat (first | exact Below.refl _ _ | assumption | refine bel_al ?_ _ | refine bel_gw ?_ _ _ | refine bel_drew ?_ | refine bel_drewN ?_ _)))).mono ?_); rintro e w1 ⟨rfl, hb⟩; obtain ⟨⟨d1, os1⟩, rfl⟩ := gw_of_below hb; clear hb) | go_in)
      rw [rounds_succ]
      cases bu
      · go_wp2_with (first | (go_at_call 46; (with_reducible refine (TU.out _ (H2.out.step (by repeat (first | exact Below.refl _ _ | assumption | refine bel_al ?_ _ | refine bel_gw ?_ _ _ | refine bel_drew ?_ | refine bel_drewN ?_ _))) (K2.out.step (by repeat (first | exact Below.refl _ _ | assumption | refine bel_al ?_ _ | refine bel_gw ?_ _ _ | refine bel_drew ?_ | refine bel_drewN ?_ _)))).mono ?_); rintro e w2 ⟨rfl, hb⟩; obtain ⟨⟨d2, os2⟩, rfl⟩ := gw_more hb; clear hb) | go_in)
        go_ret
        exact ⟨rfl, (by repeat (first | exact Below.refl _ _ | assumption | refine bel_al ?_ _ | refine bel_gw ?_ _ _ | refine bel_drew ?_ | refine bel_drewN ?_ _))⟩
      · go_wp2_with (first | (go_at_call 46; (with_reducible refine (TU.out _ (H2.out.step (by repeat (first | exact Below.refl _ _ | assumption | refine bel_al ?_ _ | refine bel_gw ?_ _ _ | refine bel_drew ?_ | refine bel_drewN ?_ _))) (K2.out.step (by repeat (first | exact Below.refl _ _ | assumption | refine bel_al ?_ _ | refine bel_gw ?_ _ _ | refine bel_drew ?_ | refine bel_drewN ?_ _)))).mono ?_); rintro e w2 ⟨rfl, hb⟩; obtain ⟨⟨d2, os2⟩, rfl⟩ := gw_more hb; clear hb) | go_in)
        rw [rounds_succ]
        go_wp2
        go_ret
        exact ⟨rfl, (by repeat (first | exact Below.refl _ _ | assumption | refine bel_al ?_ _ | refine bel_gw ?_ _ _ | refine bel_drew ?_ | refine bel_drewN ?_ _))⟩

/-- a view is told, in new memory -/
def RetV (w : World) (r n i : Int) (ms : List Pr) (us : List Int) (e : Ending) (w' : World) : Prop :=
  ∃ MA mc UA uc, e = .returned (Vw.v ⟨r, n, i, MA, mc, ms, UA, uc, us⟩) ∧ Vw.Ok w' ⟨r, n, i, MA, mc, ms, UA, uc, us⟩ ∧ Below w.heap.size w w'
theorem reads_oneU (w : World) (a : Int) : Reads (w.alloc (.cells #[.int .u64 a] 22)) (w.heap.size + 1) 1 (some ⟨w.heap.size, 0, none⟩) 1 (ucs [a]) := by
  have := Reads.of_own (World.ownsRow_lit (base := 0) (e := 22) (size := 1) w #[.int .u64 a] 1 (Nat.zero_le _) (by unfold maxLen; omega) rfl)
  simpa [ucs] using this
theorem reads_one_at (w : World) (a b : Int) (k : Nat) (h : w.heap.size = k) : Reads (w.alloc (bx a b)) (k + 1) 2 (some ⟨k, 0, none⟩) 1 (pcs [(a, b)]) := by subst h; exact reads_one w a b
theorem reads_oneU_at (w : World) (a : Int) (k : Nat) (h : w.heap.size = k) : Reads (w.alloc (.cells #[.int .u64 a] 22)) (k + 1) 1 (some ⟨k, 0, none⟩) 1 (ucs [a]) := by subst h; exact reads_oneU w a
set_option maxHeartbeats 400000 in
theorem first_s (n i : Int) (w : World) : Calls Tryz.prog 97 #[.agg #[.int .i64 n, .int .u64 i]] w (RetV w 0 n i [(n, i)] [0]) := by
  go_enter Tryz.func97, Tryz.ntmps97
  go_wp2
  refine bodyPost_ret (v := Vw.v ⟨0, n, i, some ⟨w.heap.size + 1 + 1, 0, none⟩, 1, [(n, i)], some ⟨w.heap.size + 1 + 1 + 1, 0, none⟩, 1, [0]⟩) (by simp [results, Tryz.results97, go_sem, Vw.v]) rfl ?_
  refine ⟨_, _, _, _, rfl, ⟨?_, ?_, by simp, by simp⟩, (by repeat (first | exact Below.refl _ _ | assumption | refine bel_al ?_ _ | refine bel_gw ?_ _ _ | refine bel_drew ?_ | refine bel_drewN ?_ _))⟩
  · exact ((reads_one_at _ n i _ (by simp)).alloc (by simp) _).more (by simp)
  · exact (reads_oneU_at _ 0 _ (by simp)).more (by simp)
end Go.Proofs.YtkglclekieckoaaGreat

namespace Go.Proofs.YtkglclekieckoaaGreat
set_option linter.unusedSimpArgs false
set_option linter.unusedVariables false
set_option linter.unusedSectionVars false
open Go.RowKit

theorem BoxAt.step {w w' : World} {n : Nat} {cs : Array Value} {t : TypeId} (h : BoxAt w n cs t) (hb : Below w.heap.size w w') : BoxAt w' n cs t := ⟨by rw [hb.block n h.lt]; exact h.eq⟩
theorem box5 {w : World} {n : Nat} {a b c d e : Value} {t : TypeId} (h : BoxAt w n #[a, b, c, d, e] t) : w.cell? ⟨n, 0, none⟩ = some a ∧ w.cell? ⟨n, 1, none⟩ = some b ∧ w.cell? ⟨n, 2, none⟩ = some c ∧ w.cell? ⟨n, 3, none⟩ = some d ∧ w.cell? ⟨n, 4, none⟩ = some e := by
  refine ⟨?_, ?_, ?_, ?_, ?_⟩ <;> (rw [cell?_box]; rfl)
/-- may a view be that was agreed on? -/
def mayAB (x : Vw) : Bool := decide (1 ≤ (x.ms.length : Int)) && (decide ((x.ms.length : Int) ≤ 6) && (setB x.ms && ((((nodesL x.ms).length : Int) == (x.ms.length : Int)) && (((x.us.length : Int) == (x.ms.length : Int)) && !decide ((0 : Int) ∈ x.us)))))
/-- may a view be? -/
def Vw.mayB (x : Vw) : Bool := mayIdB x.r x.n x.i && (if x.r = 0 then Vw.eqB x ⟨0, x.n, x.i, none, 0, [(x.n, x.i)], none, 0, [0]⟩ else mayAB x)
set_option maxRecDepth 100000 in
set_option maxHeartbeats 2000000 in
theorem vmay_s (x : Vw) (w : World) (h : x.Ok w) : Calls Tryz.prog 59 #[x.v] w fun e w' => e = .returned (.bool x.mayB) ∧ Below w.heap.size w w' := by
  have HOK := hide h
  obtain ⟨r, n, i, MA, mc, ms, UA, uc, us⟩ := x
  obtain ⟨h1, h2, h3, h4⟩ := h
  simp only at h1 h2 h3 h4
  have T1 := hide (fun W => mayId_s r n i W)
  unfold Vw.mayB
  simp only
  cases hid : mayIdB r n i
  · rw [hid] at T1
    unfold Vw.v
    simp only [Bool.false_and]
    clear hid h1 h2
    go_enter Tryz.func59, Tryz.ntmps59
    go_wp2_with fail
    with_reducible refine (T1.out _).mono ?_
    rintro e w1 ⟨rfl, hb⟩
    obtain ⟨⟨d1, os1⟩, rfl⟩ := gw_of_below hb
    clear hb
    go_wp2
    go_ret
    exact ⟨rfl, (by repeat (first | exact Below.refl _ _ | assumption | refine bel_al ?_ _ | refine bel_gw ?_ _ _ | refine bel_drew ?_ | refine bel_drewN ?_ _))⟩
  · rw [hid] at T1
    rw [Bool.true_and]
    clear hid
    by_cases hr : r = 0
    · subst hr
      rw [if_pos rfl]
      unfold Vw.v
      simp only
      have HS : Hid (∀ (W : World) (y : Vw), Vw.Ok W ⟨0, n, i, MA, mc, ms, UA, uc, us⟩ → y.Ok W → Calls Tryz.prog 12 #[.agg #[.int .u64 0, .int .i64 n, .int .u64 i, .slice MA ms.length mc, .slice UA us.length uc], y.v] W fun e w' => e = .returned (.bool (Vw.eqB ⟨0, n, i, MA, mc, ms, UA, uc, us⟩ y)) ∧ Below W.heap.size W w') := fun W y hW hW' => vsame_s ⟨0, n, i, MA, mc, ms, UA, uc, us⟩ y W hW hW'
      have HE := hide (fun MA1 mc1 UA1 uc1 => show Vw.eqB ⟨0, n, i, MA, mc, ms, UA, uc, us⟩ ⟨0, n, i, MA1, mc1, [(n, i)], UA1, uc1, [0]⟩ = Vw.eqB ⟨0, n, i, MA, mc, ms, UA, uc, us⟩ ⟨0, n, i, none, 0, [(n, i)], none, 0, [0]⟩ from rfl)
      have h00 : ((0 : Int) == 0) = true := rfl
      go_enter Tryz.func59, Tryz.ntmps59
      go_wp2_with fail
      with_reducible refine (T1.out _).mono ?_
      rintro e w1 ⟨rfl, hb⟩
      have p0 : BoxAt w1 w.heap.size _ _ := (boxTop w _ _).step hb
      have sv := HOK.out.step (below_step (below_alloc _ _) hb)
      have hB := below_step (below_alloc w _) hb
      clear hb h1 h2 HOK
      haveI := p0
      go_wp2_with fail
      replace p0 : BoxAt w1.drew w.heap.size _ _ := ⟨p0.eq⟩
      replace hB := hB.drew
      have sv2 : Vw.Ok w1.drew ⟨0, n, i, MA, mc, ms, UA, uc, us⟩ := sv.step (Below.refl _ _).drew
      clear sv
      go_region_held3 (fun w' => w'.cell? ⟨w.heap.size, 0, none⟩ = some (.int .u64 0) ∧ w'.cell? ⟨w.heap.size, 1, none⟩ = some (.int .i64 n) ∧ w'.cell? ⟨w.heap.size, 2, none⟩ = some (.int .u64 i) ∧ w'.cell? ⟨w.heap.size, 3, none⟩ = some (.slice MA ms.length mc) ∧ w'.cell? ⟨w.heap.size, 4, none⟩ = some (.slice UA us.length uc)) (exact box5 p0)
        (first
          | (go_at_call 97; (with_reducible refine (first_s n i _).mono ?_); rintro e w2 ⟨MA1, mc1, UA1, uc1, rfl, ok1, hb⟩; replace p0 := p0.step hb; replace sv2 := sv2.step hb; replace hB := below_step hB hb; clear hb)
          | (go_at_call 12; (with_reducible refine (HS.out _ _ sv2 ok1).mono ?_); rintro e w3 ⟨rfl, hb⟩; replace p0 := p0.step hb; replace sv2 := sv2.step hb; replace ok1 := ok1.step hb; replace hB := below_step hB hb; clear hb)
          )
      go_wp2
      go_ret
      exact ⟨ret_b (by rw [HE.out]), hB⟩
    · rw [if_neg hr]
      have hr0 : (r == 0) = false := by simp [hr]
      unfold Vw.v mayAB
      simp only
      have T3 := hide (fun W (hW : Sl W MA ms) => set_any MA mc ms W hW h3)
      have T4 := hide (fun W (hW : Sl W MA ms) => nodes_s MA mc ms W hW h3)
      have T6 := hide (fun W (hW : Ul W UA us) => containsU_s UA uc us 0 W hW h4)
      have H1 := hide h1
      have H2 := hide h2
      clear h1 h2 HOK hr
      generalize nodesL ms = N at T4 ⊢
      generalize setB ms = b3 at T3 ⊢
      generalize decide ((0 : Int) ∈ us) = b6 at T6 ⊢
      generalize f1 : decide (1 ≤ (ms.length : Int)) = b1
      generalize f2 : decide ((ms.length : Int) ≤ 6) = b2
      generalize f4 : ((N.length : Int) == (ms.length : Int)) = b4
      generalize f5 : ((us.length : Int) == (ms.length : Int)) = b5
      have key : b1 = false ∨ (b1 = true ∧ b2 = false) ∨ (b1 = true ∧ b2 = true ∧ b3 = false) ∨ (b1 = true ∧ b2 = true ∧ b3 = true ∧ b4 = false) ∨ (b1 = true ∧ b2 = true ∧ b3 = true ∧ b4 = true ∧ b5 = false) ∨ (b1 = true ∧ b2 = true ∧ b3 = true ∧ b4 = true ∧ b5 = true) := by
        cases b1 <;> cases b2 <;> cases b3 <;> cases b4 <;> cases b5 <;> simp
      rcases key with rfl | ⟨rfl, rfl⟩ | ⟨rfl, rfl, rfl⟩ | ⟨rfl, rfl, rfl, rfl⟩ | ⟨rfl, rfl, rfl, rfl, rfl⟩ | ⟨rfl, rfl, rfl, rfl, rfl⟩
      all_goals
        go_enter Tryz.func59, Tryz.ntmps59
        go_wp2_with fail
        with_reducible refine (T1.out _).mono ?_
        rintro e w1 ⟨rfl, hb⟩
        obtain ⟨⟨d1, os1⟩, rfl⟩ := gw_of_below hb
        clear hb
        go_wp2_with (first
          | (go_at_call 63; (with_reducible refine (T3.out _ (H1.out.step (by repeat (first | exact Below.refl _ _ | assumption | refine bel_al ?_ _ | refine bel_gw ?_ _ _ | refine bel_drew ?_ | refine bel_drewN ?_ _)))).mono ?_); rintro e w2 ⟨rfl, hb⟩; obtain ⟨⟨d2, os2⟩, rfl⟩ := gw_of_below hb; clear hb)
          | (go_at_call 40; (with_reducible refine (T4.out _ (H1.out.step (by repeat (first | exact Below.refl _ _ | assumption | refine bel_al ?_ _ | refine bel_gw ?_ _ _ | refine bel_drew ?_ | refine bel_drewN ?_ _)))).mono ?_); rintro e w3 ⟨NA, NC, rfl, hN, hb⟩; obtain ⟨⟨d3, os3⟩, rfl⟩ := gw_of_below hb; clear hb hN)
          | (go_at_call 86; (with_reducible refine (T6.out _ (H2.out.step (by repeat (first | exact Below.refl _ _ | assumption | refine bel_al ?_ _ | refine bel_gw ?_ _ _ | refine bel_drew ?_ | refine bel_drewN ?_ _)))).mono ?_); rintro e w4 ⟨rfl, rfl⟩))
        go_ret
        exact ⟨ret_b (by simp), (by repeat (first | exact Below.refl _ _ | assumption | refine bel_al ?_ _ | refine bel_gw ?_ _ _ | refine bel_drew ?_ | refine bel_drewN ?_ _))⟩
end Go.Proofs.YtkglclekieckoaaGreat
