/-
  Contracts: slices.Index, Contains, Equal of uint64; view.Place, Start, Compare, First, MayId.
-/
import Derived.Test.YtgpmcpinnaggmaaHas
import Derived.Test.YtgpmcpinnaggmaaGw
import Derived.Test.YtgpmcpinnaggmaaVput
namespace Go.Proofs.Ytgpmcpinnaggmaa
set_option linter.unusedSimpArgs false
set_option linter.unusedVariables false
set_option linter.unusedSectionVars false
open Go.RowKit

def Ul (w : World) (A : Option Addr) (l : List Int) : Prop := Reads w w.heap.size 1 A l.length (ucs l)
theorem Ul.step {w w' : World} {A : Option Addr} {l : List Int} (h : Ul w A l) (hb : Below w.heap.size w w') : Ul w' A l := (Reads.below h hb).more hb.size
theorem Reads.atU {w : World} {B : Nat} {A : Option Addr} {n k : Nat} {l : List Int} (h : Reads w B 1 A n (ucs l)) (hk : k < n) :
    ∃ b off x, A = some ⟨b, off, none⟩ ∧ b < B ∧ l[k]? = some x ∧ w.cell? ⟨b, off + k, none⟩ = some (.int .u64 x) := by
  obtain ⟨b, off, rfl, hb, hc⟩ := h.2 (by omega)
  have hl : k < l.length := by have := h.1; rw [ucs_len] at this; omega
  exact ⟨b, off, l[k], rfl, hb, List.getElem?_eq_getElem hl, hc k _ (by simp [ucs, hl])⟩
/-- a view where it lies -/
structure Vw where
  r : Int
  n : Int
  i : Int
  MA : Option Addr
  mc : Nat
  ms : List Pr
  UA : Option Addr
  uc : Nat
  us : List Int
  deriving Inhabited
def Vw.v (x : Vw) : Value := .agg #[.int .u64 x.r, .int .i64 x.n, .int .u64 x.i, .slice x.MA x.ms.length x.mc, .slice x.UA x.us.length x.uc]
structure Vw.Ok (w : World) (x : Vw) : Prop where
  m : Sl w x.MA x.ms
  u : Ul w x.UA x.us
  ml : x.ms.length ≤ 1000000
  ul : x.us.length ≤ 1000000
theorem Vw.Ok.step {w w' : World} {x : Vw} (h : x.Ok w) (hb : Below w.heap.size w w') : x.Ok w' := ⟨h.m.step hb, h.u.step hb, h.ml, h.ul⟩
/-- two views are the same -/
def Vw.eqB (x y : Vw) : Bool := decide (x.r = y.r ∧ x.n = y.n ∧ x.i = y.i ∧ x.ms = y.ms ∧ x.us = y.us)

/-! ### numbers -/
def idxU (l : List Int) (p : Int) : Int := if p ∈ l then (l.idxOf p : Int) else -1
theorem idxU_take {l : List Int} {p : Int} {k : Nat} (h : p ∉ l.take k) (hk : l[k]? = some p) : l.idxOf p = k := by
  have hl := (List.getElem?_eq_some_iff.1 hk).1
  have e : l = l.take k ++ (p :: l.drop (k + 1)) := by
    have h2 : l.drop k = p :: l.drop (k + 1) := by
      rw [List.drop_eq_getElem_cons hl]
      obtain ⟨_, h3⟩ := List.getElem?_eq_some_iff.1 hk
      rw [h3]
    rw [← h2, List.take_append_drop]
  rw [e, List.idxOf_append, if_neg h]
  rw [List.idxOf_cons_self, List.length_take]; omega
theorem idxU_neg (l : List Int) (p : Int) : decide (0 ≤ idxU l p) = decide (p ∈ l) := by
  rw [decide_eq_decide]; unfold idxU
  split
  · rename_i h; simp [h]
  · rename_i h; simp [h]
set_option maxHeartbeats 400000 in
theorem indexU_s (A : Option Addr) (c : Nat) (l : List Int) (x : Int) (w : World) (h : Ul w A l) (hn : l.length ≤ 1000000) :
    Calls Try.prog 112 #[.slice A l.length c, .int .u64 x] w fun e w' => e = .returned (.int .i64 (idxU l x)) ∧ w = w' := by
  go_enter Try.func112, Try.ntmps112
  go_wp2
  go_loop [8] (fun i => ∃ k : Nat, k ≤ l.length ∧ i = .int .i64 k ∧ x ∉ l.take k) (fun i => l.length - (intOf i).toNat)
  case atStart => exact ⟨0, Nat.zero_le _, rfl, by simp⟩
  case round =>
    obtain ⟨k, hk, rfl, hnot⟩ := hrel
    have HN := hide hnot
    clear hnot
    by_cases hlt : k < l.length
    · obtain ⟨b, off, y, rfl, hb, hy, g1⟩ := h.atU hlt
      by_cases hxy : x = y
      · subst hxy
        have H := hide (show idxU l x = k by unfold idxU; rw [if_pos (List.mem_of_getElem? hy), idxU_take HN.out hy])
        clear hy h
        go_wp2
        go_ret
        exact ⟨ret_i H.out.symm, rfl⟩
      · have H := hide (show x ∉ l.take (k + 1) by rw [take_succ_of hy]; simp [HN.out, hxy])
        have hb : (x == y) = false := by simp [hxy]
        clear hy hxy
        go_wp2
        go_round
        case rel => exact ⟨k + 1, by omega, by go_num, H.out⟩
        case measure => simp [intOf]; omega
    · have hk' : k = l.length := by omega
      subst hk'
      have H := hide (show idxU l x = -1 by unfold idxU; rw [if_neg]; have := HN.out; rwa [List.take_length] at this)
      go_wp2
      go_ret
      exact ⟨ret_i H.out.symm, rfl⟩
set_option maxHeartbeats 400000 in
theorem containsU_s (A : Option Addr) (c : Nat) (l : List Int) (x : Int) (w : World) (h : Ul w A l) (hn : l.length ≤ 1000000) :
    Calls Try.prog 73 #[.slice A l.length c, .int .u64 x] w fun e w' => e = .returned (.bool (decide (x ∈ l))) ∧ w = w' := by
  have H := hide (idxU_neg l x)
  have T := hide (indexU_s A c l x w h hn)
  clear h
  go_enter Try.func73, Try.ntmps73
  go_wp2_with fail
  with_reducible refine T.out.mono ?_
  rintro e w2 ⟨rfl, rfl⟩
  go_wp2
  go_ret
  exact ⟨ret_b H.out, rfl⟩

/-! ### the place of a member, its start -/
def placeV (l : List Pr) (p : Pr) : Value := if p ∈ l then .tuple #[.int .i64 (l.idxOf p : Int), .bool true] else .tuple #[.int .i64 0, .bool false]
def startV (l : List Pr) (u : List Int) (p : Pr) : Value := if p ∈ l ∧ l.idxOf p < u.length then .tuple #[.int .u64 (u.getD (l.idxOf p) 0), .bool true] else .tuple #[.int .u64 0, .bool false]
set_option maxHeartbeats 400000 in
theorem place_s (x : Vw) (a b : Int) (w : World) (h : x.Ok w) :
    Calls Try.prog 85 #[x.v, .agg #[.int .i64 a, .int .u64 b]] w fun e w' => e = .returned (placeV x.ms (a, b)) ∧ Below w.heap.size w w' := by
  obtain ⟨r, n, i, MA, mc, ms, UA, uc, us⟩ := x
  obtain ⟨h1, h2, h3, h4⟩ := h
  simp only at h1 h2 h3 h4
  unfold Vw.v placeV
  simp only
  by_cases hin : (a, b) ∈ ms
  · rw [if_pos hin]
    have hi : idxL ms (a, b) = (ms.idxOf (a, b) : Int) := by unfold idxL; rw [if_pos hin]
    have T := hide (fun W (hW : Sl W MA ms) => index_any MA mc ms a b W hW h3)
    rw [hi] at T
    have hlt : ¬ ((ms.idxOf (a, b) : Int) < 0) := by omega
    clear hi
    go_enter Try.func85, Try.ntmps85
    go_wp2_with fail
    with_reducible refine (T.out _ (h1.step (by repeat (first | exact Below.refl _ _ | assumption | refine bel_al ?_ _ | refine bel_gw ?_ _ _ | refine bel_drew ?_ | refine bel_drewN ?_ _)))).mono ?_
    rintro e w1 ⟨rfl, hb⟩
    obtain ⟨⟨d, os⟩, rfl⟩ := gw_of_below hb
    clear hb
    go_wp2
    refine bodyPost_ret (v := .tuple #[.int .i64 (ms.idxOf (a, b) : Int), .bool true]) (by simp [results, Try.results85, go_sem]) rfl ⟨rfl, (by repeat (first | exact Below.refl _ _ | assumption | refine bel_al ?_ _ | refine bel_gw ?_ _ _ | refine bel_drew ?_ | refine bel_drewN ?_ _))⟩
  · rw [if_neg hin]
    have hi : idxL ms (a, b) = -1 := by unfold idxL; rw [if_neg hin]
    have T := hide (fun W (hW : Sl W MA ms) => index_any MA mc ms a b W hW h3)
    rw [hi] at T
    clear hi
    go_enter Try.func85, Try.ntmps85
    go_wp2_with fail
    with_reducible refine (T.out _ (h1.step (by repeat (first | exact Below.refl _ _ | assumption | refine bel_al ?_ _ | refine bel_gw ?_ _ _ | refine bel_drew ?_ | refine bel_drewN ?_ _)))).mono ?_
    rintro e w1 ⟨rfl, hb⟩
    obtain ⟨⟨d, os⟩, rfl⟩ := gw_of_below hb
    clear hb
    go_wp2
    refine bodyPost_ret (v := .tuple #[.int .i64 0, .bool false]) (by simp [results, Try.results85, go_sem]) rfl ⟨rfl, (by repeat (first | exact Below.refl _ _ | assumption | refine bel_al ?_ _ | refine bel_gw ?_ _ _ | refine bel_drew ?_ | refine bel_drewN ?_ _))⟩
set_option maxHeartbeats 400000 in
theorem start_s (x : Vw) (a b : Int) (w : World) (h : x.Ok w) :
    Calls Try.prog 33 #[x.v, .agg #[.int .i64 a, .int .u64 b]] w fun e w' => e = .returned (startV x.ms x.us (a, b)) ∧ Below w.heap.size w w' := by
  have T := hide (fun W (hW : x.Ok W) => place_s x a b W hW)
  obtain ⟨r, n, i, MA, mc, ms, UA, uc, us⟩ := x
  have HOK := hide h
  obtain ⟨h1, h2, h3, h4⟩ := h
  unfold Vw.v placeV at T
  simp only at h1 h2 h3 h4 T
  unfold Vw.v startV
  simp only
  by_cases hin : (a, b) ∈ ms
  · rw [if_pos hin] at T
    have hix : ms.idxOf (a, b) < ms.length := List.idxOf_lt_length_iff.2 hin
    obtain ⟨k, hk⟩ : ∃ k, k = ms.idxOf (a, b) := ⟨_, rfl⟩
    rw [← hk] at T hix ⊢
    by_cases hu : k < us.length
    · rw [if_pos ⟨hin, hu⟩]
      obtain ⟨bu, off, y, rfl, hbu, hy, g1⟩ := h2.atU hu
      have e : us.getD k 0 = y := by simp [List.getD, hy]
      rw [e]
      haveI : InW bu w := ⟨hbu⟩
      have hge : ¬ ((us.length : Int) ≤ (k : Int)) := by omega
      have hd : (decide ((us.length : Int) ≤ (k : Int))) = false := by simp; omega
      clear e hy hin hk
      go_enter Try.func33, Try.ntmps33
      go_wp2_with fail
      with_reducible refine (T.out _ (HOK.out.step (by repeat (first | exact Below.refl _ _ | assumption | refine bel_al ?_ _ | refine bel_gw ?_ _ _ | refine bel_drew ?_ | refine bel_drewN ?_ _)))).mono ?_
      rintro e w1 ⟨rfl, hb⟩
      obtain ⟨⟨d, os⟩, rfl⟩ := gw_of_below hb
      clear hb
      go_wp2
      refine bodyPost_ret (v := .tuple #[.int .u64 y, .bool true]) (by simp [results, Try.results33, go_sem]) rfl ⟨rfl, (by repeat (first | exact Below.refl _ _ | assumption | refine bel_al ?_ _ | refine bel_gw ?_ _ _ | refine bel_drew ?_ | refine bel_drewN ?_ _))⟩
    · rw [if_neg (by omega)]
      have hd : (decide ((us.length : Int) ≤ (k : Int))) = true := by simp; omega
      clear hin hk
      go_enter Try.func33, Try.ntmps33
      go_wp2_with fail
      with_reducible refine (T.out _ (HOK.out.step (by repeat (first | exact Below.refl _ _ | assumption | refine bel_al ?_ _ | refine bel_gw ?_ _ _ | refine bel_drew ?_ | refine bel_drewN ?_ _)))).mono ?_
      rintro e w1 ⟨rfl, hb⟩
      obtain ⟨⟨d, os⟩, rfl⟩ := gw_of_below hb
      clear hb
      go_wp2
      refine bodyPost_ret (v := .tuple #[.int .u64 0, .bool false]) (by simp [results, Try.results33, go_sem]) rfl ⟨rfl, (by repeat (first | exact Below.refl _ _ | assumption | refine bel_al ?_ _ | refine bel_gw ?_ _ _ | refine bel_drew ?_ | refine bel_drewN ?_ _))⟩
  · rw [if_neg hin] at T
    rw [if_neg (fun h => hin h.1)]
    clear hin
    go_enter Try.func33, Try.ntmps33
    go_wp2_with fail
    with_reducible refine (T.out _ (HOK.out.step (by repeat (first | exact Below.refl _ _ | assumption | refine bel_al ?_ _ | refine bel_gw ?_ _ _ | refine bel_drew ?_ | refine bel_drewN ?_ _)))).mono ?_
    rintro e w1 ⟨rfl, hb⟩
    obtain ⟨⟨d, os⟩, rfl⟩ := gw_of_below hb
    clear hb
    go_wp2
    refine bodyPost_ret (v := .tuple #[.int .u64 0, .bool false]) (by simp [results, Try.results33, go_sem]) rfl ⟨rfl, (by repeat (first | exact Below.refl _ _ | assumption | refine bel_al ?_ _ | refine bel_gw ?_ _ _ | refine bel_drew ?_ | refine bel_drewN ?_ _))⟩

/-! ### names -/
def cmpV (a b c d e f : Int) : Int := if cmpI a d = 0 then cmpP (b, c) (e, f) else cmpI a d
/-- may a name be? -/
def mayIdB (r n i : Int) : Bool := mayB n i && (decide (r = 0) || decide (n ≤ 4))
set_option maxHeartbeats 400000 in
theorem mayId_s (r n i : Int) (w : World) : Calls Try.prog 82 #[.agg #[.int .u64 r, .int .i64 n, .int .u64 i]] w fun e w' => e = .returned (.bool (mayIdB r n i)) ∧ Below w.heap.size w w' := by
  have key : (mayB n i = false ∧ mayIdB r n i = false) ∨ (mayB n i = true ∧ (r == 0) = true ∧ mayIdB r n i = true) ∨ (mayB n i = true ∧ (r == 0) = false ∧ decide (n ≤ 4) = mayIdB r n i) := by
    unfold mayIdB
    by_cases hr : r = 0 <;> cases mayB n i <;> simp [hr]
  rcases key with ⟨h1, h2⟩ | ⟨h1, h2, h3⟩ | ⟨h1, h2, h3⟩
  · have H := hide h2
    clear h2
    go_enter Try.func82, Try.ntmps82
    go_wp2_with (go_at_call 86; refine (may_any _ _ _).mono ?_; rintro e w' ⟨rfl, rfl⟩)
    go_ret
    exact ⟨ret_b H.out.symm, (by repeat (first | exact Below.refl _ _ | assumption | refine bel_al ?_ _ | refine bel_gw ?_ _ _ | refine bel_drew ?_ | refine bel_drewN ?_ _))⟩
  · have H := hide h3
    clear h3
    go_enter Try.func82, Try.ntmps82
    go_wp2_with (go_at_call 86; refine (may_any _ _ _).mono ?_; rintro e w' ⟨rfl, rfl⟩)
    go_ret
    exact ⟨ret_b H.out.symm, (by repeat (first | exact Below.refl _ _ | assumption | refine bel_al ?_ _ | refine bel_gw ?_ _ _ | refine bel_drew ?_ | refine bel_drewN ?_ _))⟩
  · have H := hide h3
    clear h3
    go_enter Try.func82, Try.ntmps82
    go_wp2_with (go_at_call 86; refine (may_any _ _ _).mono ?_; rintro e w' ⟨rfl, rfl⟩)
    go_ret
    exact ⟨ret_b H.out, (by repeat (first | exact Below.refl _ _ | assumption | refine bel_al ?_ _ | refine bel_gw ?_ _ _ | refine bel_drew ?_ | refine bel_drewN ?_ _))⟩
end Go.Proofs.Ytgpmcpinnaggmaa
