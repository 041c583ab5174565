/-
  Layer 21: contracts: the law's heavy at letters alone; Find of both.
-/
import Derived.Test.YtmleeohaaipdcaaLet3
namespace Go.Proofs.Ytmleeohaaipdcaa
set_option linter.unusedSimpArgs false
set_option linter.unusedVariables false
set_option linter.unusedSectionVars false
open Go.RowKit

theorem lcs_at {W : World} {B : Nat} {A : Option Addr} {n k : Nat} {l : List Lr} (h : Reads W B 11 A n (lcs l)) (hk : k < n) :
    ∃ b off y, A = some ⟨b, off, none⟩ ∧ b < B ∧ l[k]? = some y ∧ W.cell? ⟨b, off + k * 11 + 7, none⟩ = some (.slice y.BA y.x.b.length y.bc) ∧ W.cell? ⟨b, off + k * 11 + 9, none⟩ = some (.slice y.CA y.x.c.length y.cc) := by
  obtain ⟨b, off, rfl, hb, hc⟩ := h.2 (by omega)
  have hl : k < l.length := by have := h.1; rw [lcs_len] at this; omega
  have hp : l[k]? = some l[k] := List.getElem?_eq_getElem hl
  have g : ∀ i v, i < 11 → (Lr.cl l[k])[i]? = some v → W.cell? ⟨b, off + (k * 11 + i), none⟩ = some v := fun i v hi hv => hc (k * 11 + i) v (by rw [lcs, flat_get lc_len l k i _ hp hi]; exact hv)
  refine ⟨b, off, l[k], rfl, hb, hp, ?_, ?_⟩
  · rw [Nat.add_assoc]; exact g 7 _ (by omega) rfl
  · rw [Nat.add_assoc]; exact g 9 _ (by omega) rfl
def hvy (y : Lr) : Bool := decide (100 < y.x.c.length) || decide (500 < y.x.b.length)
def hvL (l : List Lr) : Bool := decide (60 < l.length) || l.any hvy
set_option maxRecDepth 100000 in
set_option maxHeartbeats 2000000 in
theorem heavyL_s (A : Option Addr) (c : Nat) (l : List Lr) (w : World) (h : Reads w w.heap.size 11 A l.length (lcs l)) (hl : l.length ≤ 9223372036854775807) :
    Calls Try.prog 8 #[.slice A l.length c, .slice none 0 0] w (RetB w (hvL l)) := by
  haveI : Src w A l.length 11 (lcs l) := ⟨h⟩
  clear h
  by_cases h60 : 60 < l.length
  · have H := hide (show hvL l = true by unfold hvL; rw [decide_eq_true h60]; rfl)
    have d1 : decide ((60 : Int) < (l.length : Int)) = true := decide_eq_true (by omega)
    have d2 : decide (60 < l.length) = true := decide_eq_true h60
    clear h60
    go_enter Try.func8, Try.ntmps8
    go_wp2
    go_ret
    exact ⟨ret_b H.out.symm, blw⟩
  · have HH := hide (show hvL l = l.any hvy by unfold hvL; rw [decide_eq_false h60]; rfl)
    have d1 : decide ((60 : Int) < (l.length : Int)) = false := decide_eq_false (by omega)
    have d2 : decide (60 < l.length) = false := decide_eq_false h60
    clear h60
    go_enter Try.func8, Try.ntmps8
    go_wp2_with fail
    clear d1 d2
    go_loopw [5] (fun j wr => ∃ k : Nat, k ≤ l.length ∧ j = .int .i64 k ∧ (l.take k).any hvy = false ∧ Below w.heap.size w wr) (fun j _ => l.length - (intOf j).toNat)
    case atStart => exact ⟨0, Nat.zero_le _, rfl, by simp, blw⟩
    case round =>
      obtain ⟨k, hk, rfl, hno, hB⟩ := hrel
      haveI : Stp w wr := ⟨hB⟩
      have HN := hide hno
      clear hno hB
      by_cases hlt : k < l.length
      · obtain ⟨b, off, y, rfl, hb, hy, g7, g9⟩ := lcs_at (show Reads wr wr.heap.size 11 A l.length (lcs l) from src) hlt
        haveI : InW b wr := ⟨hb⟩
        have HY := hide hy
        have i0 : (0 : Int) ≤ (k : Int) := by omega
        have i1 : (k : Int) < (l.length : Int) := by omega
        clear hy
        by_cases q1 : 100 < y.x.c.length
        · have H := hide (show hvL l = true by rw [HH.out, List.any_eq_true]; exact ⟨y, List.mem_of_getElem? HY.out, by unfold hvy; rw [decide_eq_true q1]; rfl⟩)
          have d1 : decide ((100 : Int) < (y.x.c.length : Int)) = true := decide_eq_true (by omega)
          have d2 : decide (100 < y.x.c.length) = true := decide_eq_true q1
          clear q1
          go_wp2
          go_ret
          exact ⟨ret_b H.out.symm, blw⟩
        · have d1 : decide ((100 : Int) < (y.x.c.length : Int)) = false := decide_eq_false (by omega)
          have d2 : decide (100 < y.x.c.length) = false := decide_eq_false q1
          by_cases q2 : 500 < y.x.b.length
          · have H := hide (show hvL l = true by rw [HH.out, List.any_eq_true]; exact ⟨y, List.mem_of_getElem? HY.out, by unfold hvy; rw [decide_eq_true q2, Bool.or_true]⟩)
            have d3 : decide ((500 : Int) < (y.x.b.length : Int)) = true := decide_eq_true (by omega)
            have d4 : decide (500 < y.x.b.length) = true := decide_eq_true q2
            clear q1 q2
            go_wp2
            go_ret
            exact ⟨ret_b H.out.symm, blw⟩
          · have d3 : decide ((500 : Int) < (y.x.b.length : Int)) = false := decide_eq_false (by omega)
            have d4 : decide (500 < y.x.b.length) = false := decide_eq_false q2
            have H := hide (show (l.take (k + 1)).any hvy = false by rw [take_succ_of HY.out, List.any_append, HN.out]; simp [hvy]; omega)
            clear q1 q2
            go_wp2
            go_roundw
            case rel => exact ⟨k + 1, by omega, by go_num, H.out, blw⟩
            case measure => simp [intOf]; omega
      · have H := hide (show hvL l = false by have := HN.out; rw [List.take_of_length_le (by omega)] at this; rw [HH.out]; exact this)
        go_wp2_with fail
        refine wp_loop_rounds 1 ?_
        rw [rounds_succ]
        go_wp2
        go_ret
        exact ⟨ret_b H.out.symm, blw⟩
/-- no letter -/
def lc0 : Lc := ⟨0, (0, 0), 0, (0, 0), 0, [], 0, [], false⟩
/-- a letter that may be none comes back -/
def RetF (w : World) (r : Option Lc) (e : Ending) (w' : World) : Prop := ∃ BA bc CA cc, e = .returned (.tuple #[Lc.v (r.getD lc0) BA bc CA cc, .bool r.isSome]) ∧ (r.getD lc0).Ok w' BA CA ∧ Below w.heap.size w w'
/-- a copy of a letter comes back, or of none, in memory of its own -/
def RetFo (w : World) (r : Option Lc) (e : Ending) (w' : World) : Prop := ∃ z : Lr, z.x = r.getD lc0 ∧ e = .returned (.tuple #[z.v, .bool r.isSome]) ∧ OwnB w' w.heap.size (.slice z.BA z.x.b.length z.bc) z.x.b ∧ OwnU w' w.heap.size (.slice z.CA z.x.c.length z.cc) z.x.c ∧ z.x.Wf ∧ Below w.heap.size w w'
theorem RetFo.ret {w w' : World} {r : Option Lc} {e : Ending} (h : RetFo w r e w') : RetF w r e w' := by
  obtain ⟨⟨x, BA, bc, CA, cc⟩, hx, rfl, h1, h2, ⟨f1, f2, f3, f4, f5⟩, hb⟩ := h
  simp only at hx
  subst hx
  exact ⟨BA, bc, CA, cc, rfl, ⟨Reads.of_own h1, Reads.of_own h2, f1, f2, f3, f4, f5⟩, hb⟩
theorem ok_zero (W : World) : lc0.Ok W none none := ⟨⟨rfl, fun h => absurd h (by decide)⟩, ⟨rfl, fun h => absurd h (by decide)⟩, by decide, by decide, (fun b hb => by cases hb), by decide, by decide⟩
def isSync (p : Pr) (cid : Int) (x : Lc) : Bool := (x.k == 8) && (eqP x.p.1 x.p.2 p.1 p.2 && (x.cid == cid))
def findL (L : List Lc) (p : Pr) (cid : Int) : Option Lc := L.find? (isSync p cid)
theorem find_hit {l : List Lr} {p : Pr} {cid : Int} {k : Nat} {y : Lr} (h : findL ((l.take k).map Lr.x) p cid = none) (hy : l[k]? = some y) (hs : isSync p cid y.x = true) : findL (l.map Lr.x) p cid = some y.x := by
  have e : l = l.take k ++ (y :: l.drop (k + 1)) := by
    have hl := (List.getElem?_eq_some_iff.1 hy).1
    have h2 : l.drop k = y :: l.drop (k + 1) := by
      rw [List.drop_eq_getElem_cons hl]
      obtain ⟨_, h3⟩ := List.getElem?_eq_some_iff.1 hy
      rw [h3]
    rw [← h2, List.take_append_drop]
  unfold findL at h ⊢
  rw [e, List.map_append, List.find?_append, h, List.map_cons, List.find?_cons, hs]; rfl
theorem find_miss {l : List Lr} {p : Pr} {cid : Int} {k : Nat} {y : Lr} (h : findL ((l.take k).map Lr.x) p cid = none) (hy : l[k]? = some y) (hs : isSync p cid y.x = false) : findL ((l.take (k + 1)).map Lr.x) p cid = none := by
  unfold findL at h ⊢
  rw [take_succ_of hy, List.map_append, List.find?_append, h]
  simp [hs]
set_option maxRecDepth 100000 in
set_option maxHeartbeats 8000000 in
theorem findO_s (A : Option Addr) (c : Nat) (l : List Lr) (pn pi cid : Int) (w : World) (h : LsR w A l) (hl : l.length ≤ 100000) :
    Calls Try.prog 15 #[.slice A l.length c, .agg #[.int .i64 pn, .int .u64 pi], .int .u64 cid] w (RetFo w (findL (l.map Lr.x) (pn, pi) cid)) := by
  have HL := hide h
  clear h
  go_enter Try.func15, Try.ntmps15
  go_wp2_with fail
  go_loopw [12] (fun j wr => ∃ k : Nat, k ≤ l.length ∧ j = .int .i64 k ∧ findL ((l.take k).map Lr.x) (pn, pi) cid = none ∧ BoxAt wr w.heap.size #[.int .i64 pn, .int .u64 pi] 25 ∧ BoxAt wr (w.heap.size + 1) #[.int .i64 0, .int .i64 0, .int .u64 0, .int .u64 0, .int .i64 0, .int .u64 0, .int .u64 0, .slice none 0 0, .int .u64 0, .slice none 0 0, .bool false] 31 ∧ Below w.heap.size w wr) (fun j _ => l.length - (intOf j).toNat)
  case atStart => exact ⟨0, Nat.zero_le _, rfl, rfl, inferInstance, inferInstance, blw⟩
  case round =>
    obtain ⟨k, hk, rfl, hno, hb0, hb1, hB⟩ := hrel
    haveI : Stp w wr := ⟨hB⟩
    haveI := hb0
    haveI := hb1
    have z1 := hb1.lt
    haveI : LtN w.heap.size wr.heap.size := ⟨by omega⟩
    haveI : LtN (w.heap.size + 1) wr.heap.size := ⟨z1⟩
    haveI : LeN w.heap.size wr.heap.size := ⟨by omega⟩
    have HN := hide hno
    clear hno hB
    by_cases hlt : k < l.length
    · obtain ⟨b, off, y, rfl, hb, hy, hok, g0, g1, g2, g3, g4, g5, g6, g7, g8, g9, g10⟩ := (HL.out.tc (W := wr)).at hlt
      haveI : InW b wr := ⟨hb⟩
      have HY := hide hy
      have HOK := hide hok
      have T := hide (fun W (h : y.x.Ok W y.BA y.CA) => copyL_s y.x y.BA y.bc y.CA y.cc W h)
      have i0 : (0 : Int) ≤ (k : Int) := by omega
      have i1 : (k : Int) < (l.length : Int) := by omega
      clear hy hok
      cases f1 : (y.x.k == 8)
      · have H := hide (find_miss HN.out HY.out (show isSync (pn, pi) cid y.x = false by unfold isSync; simp [f1]))
        go_wp2
        go_roundw
        case rel => exact ⟨k + 1, by omega, by go_num, H.out, inferInstance, inferInstance, blw⟩
        case measure => simp [intOf]; omega
      · cases f2 : eqP y.x.p.1 y.x.p.2 pn pi
        · have H := hide (find_miss HN.out HY.out (show isSync (pn, pi) cid y.x = false by unfold isSync; simp [f1, f2]))
          go_wp2
          go_roundw
          case rel => exact ⟨k + 1, by omega, by go_num, H.out, inferInstance, inferInstance, blw⟩
          case measure => simp [intOf]; omega
        · cases f3 : (y.x.cid == cid)
          · have H := hide (find_miss HN.out HY.out (show isSync (pn, pi) cid y.x = false by unfold isSync; simp [f1, f2, f3]))
            go_wp2
            go_roundw
            case rel => exact ⟨k + 1, by omega, by go_num, H.out, inferInstance, inferInstance, blw⟩
            case measure => simp [intOf]; omega
          · have H := hide (find_hit HN.out HY.out (show isSync (pn, pi) cid y.x = true by unfold isSync; simp [f1, f2, f3]))
            go_wp2_with fail
            (with_reducible refine (T.out _ HOK.out.tc).mono ?_)
            rintro e w1 ⟨BA1, bc1, CA1, cc1, rfl, ho1, ho2, hb1⟩
            have hz := hb1.size
            haveI : Stp _ w1 := ⟨hb1⟩
            have O1 := hide (own_base ho1 (show wr.heap.size ≤ _ by simp))
            have O2 := hide (own_base ho2 (show wr.heap.size ≤ _ by simp))
            clear ho1 ho2 hb1
            go_wp2
            refine bodyPost_ret (v := .tuple #[y.x.v BA1 bc1 CA1 cc1, .bool true]) (by simp [results, Try.results15, go_sem]) rfl ?_
            rw [H.out]
            exact ⟨⟨y.x, BA1, bc1, CA1, cc1⟩, rfl, rfl, own_base (own_kp O1.out) (by omega), own_base (own_kp O2.out) (by omega), ⟨HOK.out.bl, HOK.out.cl, HOK.out.ok, HOK.out.pi, HOK.out.si⟩, blw⟩
    · have H := hide (show findL (l.map Lr.x) (pn, pi) cid = none by have := HN.out; rwa [List.take_of_length_le (by omega)] at this)
      go_wp2
      refine bodyPost_ret (v := .tuple #[.agg #[.int .i64 0, .int .i64 0, .int .u64 0, .int .u64 0, .int .i64 0, .int .u64 0, .int .u64 0, .slice none 0 0, .int .u64 0, .slice none 0 0, .bool false], .bool false]) (by simp [results, Try.results15, go_sem]) rfl ?_
      rw [H.out]
      exact ⟨⟨lc0, none, 0, none, 0⟩, rfl, rfl, World.ownsRow_nil _ _ _ _, World.ownsRow_nil _ _ _ _, ⟨by decide, by decide, (fun b hb => by cases hb), by decide, by decide⟩, blw⟩
theorem findL_s (A : Option Addr) (c : Nat) (l : List Lr) (pn pi cid : Int) (w : World) (h : LsR w A l) (hl : l.length ≤ 100000) :
    Calls Try.prog 15 #[.slice A l.length c, .agg #[.int .i64 pn, .int .u64 pi], .int .u64 cid] w (RetF w (findL (l.map Lr.x) (pn, pi) cid)) := (findO_s A c l pn pi cid w h hl).mono fun _ _ h => h.ret
set_option maxRecDepth 100000 in
set_option maxHeartbeats 8000000 in
theorem rfind_s (A : Option Addr) (c : Nat) (l : List Lr) (pn pi cid : Int) (w : World) (h : LsR w A l) (hl : l.length ≤ 100000) :
    Calls Try.prog 16 #[.slice A l.length c, .agg #[.int .i64 pn, .int .u64 pi], .int .u64 cid] w (RetF w (findL (l.map Lr.x) (pn, pi) cid)) := by
  have HL := hide h
  clear h
  go_enter Try.func16, Try.ntmps16
  go_wp2_with fail
  go_loopw [8] (fun j wr => ∃ k : Nat, k ≤ l.length ∧ j = .int .i64 k ∧ findL ((l.take k).map Lr.x) (pn, pi) cid = none ∧ BoxAt wr w.heap.size #[.int .i64 pn, .int .u64 pi] 25 ∧ BoxAt wr (w.heap.size + 1) #[.int .i64 0, .int .i64 0, .int .u64 0, .int .u64 0, .int .i64 0, .int .u64 0, .int .u64 0, .slice none 0 0, .int .u64 0, .slice none 0 0, .bool false] 31 ∧ Below w.heap.size w wr) (fun j _ => l.length - (intOf j).toNat)
  case atStart => exact ⟨0, Nat.zero_le _, rfl, rfl, inferInstance, inferInstance, blw⟩
  case round =>
    obtain ⟨k, hk, rfl, hno, hb0, hb1, hB⟩ := hrel
    haveI : Stp w wr := ⟨hB⟩
    haveI := hb0
    haveI := hb1
    have z1 := hb1.lt
    haveI : LtN w.heap.size wr.heap.size := ⟨by omega⟩
    haveI : LtN (w.heap.size + 1) wr.heap.size := ⟨z1⟩
    haveI : LeN w.heap.size wr.heap.size := ⟨by omega⟩
    have HN := hide hno
    clear hno hB
    by_cases hlt : k < l.length
    · obtain ⟨b, off, y, rfl, hb, hy, hok, g0, g1, g2, g3, g4, g5, g6, g7, g8, g9, g10⟩ := (HL.out.tc (W := wr)).at hlt
      haveI : InW b wr := ⟨hb⟩
      have HY := hide hy
      have HOK := hide hok
      have i0 : (0 : Int) ≤ (k : Int) := by omega
      have i1 : (k : Int) < (l.length : Int) := by omega
      clear hy hok
      cases f1 : (y.x.k == 8)
      · have H := hide (find_miss HN.out HY.out (show isSync (pn, pi) cid y.x = false by unfold isSync; simp [f1]))
        go_wp2_with fail
        go_quiet (fail)
        go_wp2
        go_roundw
        case rel => exact ⟨k + 1, by omega, by go_num, H.out, inferInstance, inferInstance, blw⟩
        case measure => simp [intOf]; omega
      · cases f2 : eqP y.x.p.1 y.x.p.2 pn pi
        · have H := hide (find_miss HN.out HY.out (show isSync (pn, pi) cid y.x = false by unfold isSync; simp [f1, f2]))
          go_wp2_with fail
          go_quiet (fail)
          go_wp2
          go_roundw
          case rel => exact ⟨k + 1, by omega, by go_num, H.out, inferInstance, inferInstance, blw⟩
          case measure => simp [intOf]; omega
        · cases f3 : (y.x.cid == cid)
          · have H := hide (find_miss HN.out HY.out (show isSync (pn, pi) cid y.x = false by unfold isSync; simp [f1, f2, f3]))
            go_wp2_with fail
            go_quiet (fail)
            go_wp2
            go_roundw
            case rel => exact ⟨k + 1, by omega, by go_num, H.out, inferInstance, inferInstance, blw⟩
            case measure => simp [intOf]; omega
          · have H := hide (find_hit HN.out HY.out (show isSync (pn, pi) cid y.x = true by unfold isSync; simp [f1, f2, f3]))
            go_wp2_with fail
            go_quiet (fail)
            go_wp2
            refine bodyPost_ret (v := .tuple #[y.x.v y.BA y.bc y.CA y.cc, .bool true]) (by simp [results, Try.results16, go_sem]) rfl ?_
            rw [H.out]
            exact ⟨_, _, _, _, rfl, (HL.out.o y (List.mem_of_getElem? HY.out)).tc, blw⟩
    · have H := hide (show findL (l.map Lr.x) (pn, pi) cid = none by have := HN.out; rwa [List.take_of_length_le (by omega)] at this)
      go_wp2
      refine bodyPost_ret (v := .tuple #[.agg #[.int .i64 0, .int .i64 0, .int .u64 0, .int .u64 0, .int .i64 0, .int .u64 0, .int .u64 0, .slice none 0 0, .int .u64 0, .slice none 0 0, .bool false], .bool false]) (by simp [results, Try.results16, go_sem]) rfl ?_
      rw [H.out]
      exact ⟨none, 0, none, 0, rfl, ok_zero _, blw⟩
end Go.Proofs.Ytmleeohaaipdcaa
