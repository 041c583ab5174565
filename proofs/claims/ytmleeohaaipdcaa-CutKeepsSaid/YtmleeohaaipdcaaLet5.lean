/-
  Layer 21: contract: the reference's newest.
-/
import Derived.Test.YtmleeohaaipdcaaLet4
import Derived.Test.YtmleeohaaipdcaaCutP
namespace Go.Proofs.Ytmleeohaaipdcaa
set_option linter.unusedSimpArgs false
set_option linter.unusedVariables false
set_option linter.unusedSectionVars false
open Go.RowKit

theorem set11_arr {α : Type} (a0 a1 a2 a3 a4 a5 a6 a7 a8 a9 a10 v0 v1 v2 v3 v4 v5 v6 v7 v8 v9 v10 : α) : (((((((((((#[a0, a1, a2, a3, a4, a5, a6, a7, a8, a9, a10].setIfInBounds 0 v0).setIfInBounds 1 v1).setIfInBounds 2 v2).setIfInBounds 3 v3).setIfInBounds 4 v4).setIfInBounds 5 v5).setIfInBounds 6 v6).setIfInBounds 7 v7).setIfInBounds 8 v8).setIfInBounds 9 v9).setIfInBounds 10 v10) = #[v0, v1, v2, v3, v4, v5, v6, v7, v8, v9, v10] := by simp
instance (priority := high) BoxAt.set11 (W : World) (m : Nat) (t : TypeId) (a0 a1 a2 a3 a4 a5 a6 a7 a8 a9 a10 v0 v1 v2 v3 v4 v5 v6 v7 v8 v9 v10 : Value) [k : BoxAt W m #[a0, a1, a2, a3, a4, a5, a6, a7, a8, a9, a10] t] : BoxAt (((((((((((W.setCell ⟨m, 0, none⟩ v0).setCell ⟨m, 1, none⟩ v1).setCell ⟨m, 2, none⟩ v2).setCell ⟨m, 3, none⟩ v3).setCell ⟨m, 4, none⟩ v4).setCell ⟨m, 5, none⟩ v5).setCell ⟨m, 6, none⟩ v6).setCell ⟨m, 7, none⟩ v7).setCell ⟨m, 8, none⟩ v8).setCell ⟨m, 9, none⟩ v9).setCell ⟨m, 10, none⟩ v10) m #[v0, v1, v2, v3, v4, v5, v6, v7, v8, v9, v10] t := ⟨by
  have h0 := @BoxAt.setAt W m 0 v0 _ t k
  have h1 := @BoxAt.setAt _ m 1 v1 _ t h0
  have h2 := @BoxAt.setAt _ m 2 v2 _ t h1
  have h3 := @BoxAt.setAt _ m 3 v3 _ t h2
  have h4 := @BoxAt.setAt _ m 4 v4 _ t h3
  have h5 := @BoxAt.setAt _ m 5 v5 _ t h4
  have h6 := @BoxAt.setAt _ m 6 v6 _ t h5
  have h7 := @BoxAt.setAt _ m 7 v7 _ t h6
  have h8 := @BoxAt.setAt _ m 8 v8 _ t h7
  have h9 := @BoxAt.setAt _ m 9 v9 _ t h8
  have h10 := @BoxAt.setAt _ m 10 v10 _ t h9
  have h := h10.eq
  rw [set11_arr] at h
  exact h⟩
def lr0 : Lr := ⟨lc0, none, 0, none, 0⟩
theorem lr0_ok (W : World) : lr0.x.Ok W lr0.BA lr0.CA := ok_zero W
/-- one of the letters comes back, or none -/
def RetM (l : List Lr) (w : World) (r : Option Lc) (e : Ending) (w' : World) : Prop := ∃ z : Lr, z.x = r.getD lc0 ∧ (r.isSome = true → z ∈ l) ∧ e = .returned (.tuple #[z.v, .bool r.isSome]) ∧ Below w.heap.size w w'
def okN (p : Pr) (below : Int) (any : Bool) (x : Lc) : Bool := (x.k == 8) && (eqP x.p.1 x.p.2 p.1 p.2 && (x.mayB && (any || decide (x.cid < below))))
theorem new_skip {ok : Lc → Bool} {l : List Lr} {k : Nat} {y : Lr} {r : Option Lr} (hy : l[k]? = some y) (h : newest Lc.cid ok (l.map Lr.x) none = newest Lc.cid ok ((l.drop k).map Lr.x) (r.map Lr.x)) (hs : ok y.x = false ∨ ∃ b, r = some b ∧ ¬ b.x.cid < y.x.cid) :
    newest Lc.cid ok (l.map Lr.x) none = newest Lc.cid ok ((l.drop (k + 1)).map Lr.x) (r.map Lr.x) := by
  obtain ⟨hl, rfl⟩ := List.getElem?_eq_some_iff.1 hy
  rw [h, List.drop_eq_getElem_cons hl, List.map_cons, newest]
  rcases hs with hs | ⟨b, rfl, hb⟩
  · rw [hs, Bool.false_and, if_neg (by simp)]
  · rw [if_neg]; simp [hb]
theorem new_take {ok : Lc → Bool} {l : List Lr} {k : Nat} {y : Lr} {r : Option Lr} (hy : l[k]? = some y) (h : newest Lc.cid ok (l.map Lr.x) none = newest Lc.cid ok ((l.drop k).map Lr.x) (r.map Lr.x)) (ho : ok y.x = true) (hs : r = none ∨ ∃ b, r = some b ∧ b.x.cid < y.x.cid) :
    newest Lc.cid ok (l.map Lr.x) none = newest Lc.cid ok ((l.drop (k + 1)).map Lr.x) ((some y).map Lr.x) := by
  obtain ⟨hl, rfl⟩ := List.getElem?_eq_some_iff.1 hy
  rw [h, List.drop_eq_getElem_cons hl, List.map_cons, newest, ho]
  rcases hs with rfl | ⟨b, rfl, hb⟩
  · rfl
  · rw [if_pos (by simp [hb])]; rfl
set_option maxRecDepth 100000 in
set_option maxHeartbeats 16000000 in
theorem newest_s (A : Option Addr) (c : Nat) (l : List Lr) (pn pi below : Int) (any : Bool) (w : World) (h : LsR w A l) (hl : l.length ≤ 100000) :
    Calls Try.prog 53 #[.slice A l.length c, .agg #[.int .i64 pn, .int .u64 pi], .int .u64 below, .bool any] w (RetM l w (newest Lc.cid (okN (pn, pi) below any) (l.map Lr.x) none)) := by
  have HL := hide h
  clear h
  go_enter Try.func53, Try.ntmps53
  go_wp2_with fail
  go_loopw [11, 12] (fun fv j wr => ∃ (k : Nat) (r : Option Lr), k ≤ l.length ∧ j = .int .i64 k ∧ fv = .bool r.isSome ∧ newest Lc.cid (okN (pn, pi) below any) (l.map Lr.x) none = newest Lc.cid (okN (pn, pi) below any) ((l.drop k).map Lr.x) (r.map Lr.x) ∧ (∀ z, r = some z → z ∈ l) ∧
    BoxAt wr w.heap.size #[.int .i64 pn, .int .u64 pi] 25 ∧ BoxAt wr (w.heap.size + 1) #[.int .i64 lr0.x.k, .int .i64 lr0.x.p.1, .int .u64 lr0.x.p.2, .int .u64 lr0.x.r, .int .i64 lr0.x.s.1, .int .u64 lr0.x.s.2, .int .u64 lr0.x.n, .slice lr0.BA lr0.x.b.length lr0.bc, .int .u64 lr0.x.cid, .slice lr0.CA lr0.x.c.length lr0.cc, .bool lr0.x.w] 31 ∧ BoxAt wr (w.heap.size + 1 + 1) #[.int .i64 (r.getD lr0).x.k, .int .i64 (r.getD lr0).x.p.1, .int .u64 (r.getD lr0).x.p.2, .int .u64 (r.getD lr0).x.r, .int .i64 (r.getD lr0).x.s.1, .int .u64 (r.getD lr0).x.s.2, .int .u64 (r.getD lr0).x.n, .slice (r.getD lr0).BA (r.getD lr0).x.b.length (r.getD lr0).bc, .int .u64 (r.getD lr0).x.cid, .slice (r.getD lr0).CA (r.getD lr0).x.c.length (r.getD lr0).cc, .bool (r.getD lr0).x.w] 31 ∧ Below w.heap.size w wr) (fun _ j _ => l.length - (intOf j).toNat)
  case atStart => exact ⟨0, none, Nat.zero_le _, rfl, rfl, rfl, (fun z hz => by cases hz), inferInstance, inferInstance, inferInstance, blw⟩
  case round =>
    obtain ⟨k, r, hk, rfl, rfl, hnw, hrl, hb0, hb1, hb2, hB⟩ := hrel
    haveI : Stp w wr := ⟨hB⟩
    haveI := hb0
    haveI := hb1
    haveI := hb2
    have z2 := hb2.lt
    haveI : LtN w.heap.size wr.heap.size := ⟨by omega⟩
    haveI : LtN (w.heap.size + 1) wr.heap.size := ⟨by omega⟩
    haveI : LtN (w.heap.size + 1 + 1) wr.heap.size := ⟨z2⟩
    haveI : LeN w.heap.size wr.heap.size := ⟨by omega⟩
    have HN := hide hnw
    clear hnw hB
    by_cases hlt : k < l.length
    · obtain ⟨b, off, y, rfl, hb, hy, hok, g0, g1, g2, g3, g4, g5, g6, g7, g8, g9, g10⟩ := (HL.out.tc (W := wr)).at hlt
      haveI : InW b wr := ⟨hb⟩
      have HY := hide hy
      have HMEM := hide (List.mem_of_getElem? hy)
      have HOK := hide hok
      have T := hide (fun W (h : y.x.Ok W y.BA y.CA) => refLetMay_s y.x y.BA y.bc y.CA y.cc W h)
      have i0 : (0 : Int) ≤ (k : Int) := by omega
      have i1 : (k : Int) < (l.length : Int) := by omega
      clear hy hok
      cases f1 : (y.x.k == 8)
      · have H := hide (new_skip HY.out HN.out (Or.inl (show okN (pn, pi) below any y.x = false by unfold okN; simp [f1])))
        go_wp2_with (go_at_call 88; (with_reducible refine (T.out _ HOK.out.tc).mono ?_); rintro e w1 ⟨rfl, hb⟩; haveI : Stp _ w1 := ⟨hb⟩; clear hb)
        go_roundw
        case rel => exact ⟨k + 1, r, by omega, by go_num, rfl, H.out, hrl, inferInstance, inferInstance, inferInstance, blw⟩
        case measure => simp [intOf]; omega
      · cases f2 : eqP y.x.p.1 y.x.p.2 pn pi
        · have H := hide (new_skip HY.out HN.out (Or.inl (show okN (pn, pi) below any y.x = false by unfold okN; simp [f1, f2])))
          go_wp2_with (go_at_call 88; (with_reducible refine (T.out _ HOK.out.tc).mono ?_); rintro e w1 ⟨rfl, hb⟩; haveI : Stp _ w1 := ⟨hb⟩; clear hb)
          go_roundw
          case rel => exact ⟨k + 1, r, by omega, by go_num, rfl, H.out, hrl, inferInstance, inferInstance, inferInstance, blw⟩
          case measure => simp [intOf]; omega
        · cases f3 : y.x.mayB
          · rw [f3] at T
            have H := hide (new_skip HY.out HN.out (Or.inl (show okN (pn, pi) below any y.x = false by unfold okN; simp [f1, f2, f3])))
            go_wp2_with (go_at_call 88; (with_reducible refine (T.out _ HOK.out.tc).mono ?_); rintro e w1 ⟨rfl, hb⟩; haveI : Stp _ w1 := ⟨hb⟩; clear hb)
            go_roundw
            case rel => exact ⟨k + 1, r, by omega, by go_num, rfl, H.out, hrl, inferInstance, inferInstance, inferInstance, blw⟩
            case measure => simp [intOf]; omega
          · rw [f3] at T
            cases any
            · cases f4 : decide (y.x.cid < below)
              · have H := hide (new_skip HY.out HN.out (Or.inl (show okN (pn, pi) below false y.x = false by unfold okN; simp [f1, f2, f3, f4])))
                go_wp2_with (go_at_call 88; (with_reducible refine (T.out _ HOK.out.tc).mono ?_); rintro e w1 ⟨rfl, hb⟩; haveI : Stp _ w1 := ⟨hb⟩; clear hb)
                go_roundw
                case rel => exact ⟨k + 1, r, by omega, by go_num, rfl, H.out, hrl, inferInstance, inferInstance, inferInstance, blw⟩
                case measure => simp [intOf]; omega
              · cases r with
                | none =>
                  have H := hide (new_take HY.out HN.out (show okN (pn, pi) below false y.x = true by unfold okN; simp [f1, f2, f3, f4]) (Or.inl rfl))
                  go_wp2_with (go_at_call 88; (with_reducible refine (T.out _ HOK.out.tc).mono ?_); rintro e w1 ⟨rfl, hb⟩; haveI : Stp _ w1 := ⟨hb⟩; clear hb)
                  go_roundw
                  case rel => exact ⟨k + 1, some y, by omega, by go_num, rfl, H.out, (fun z hz => by injection hz with hz; subst hz; exact HMEM.out), inferInstance, inferInstance, inferInstance, blw⟩
                  case measure => simp [intOf]; omega
                | some b0 =>
                  cases f5 : decide (b0.x.cid < y.x.cid)
                  · have H := hide (new_skip HY.out HN.out (Or.inr ⟨b0, rfl, of_decide_eq_false f5⟩))
                    go_wp2_with (go_at_call 88; (with_reducible refine (T.out _ HOK.out.tc).mono ?_); rintro e w1 ⟨rfl, hb⟩; haveI : Stp _ w1 := ⟨hb⟩; clear hb)
                    go_roundw
                    case rel => exact ⟨k + 1, some b0, by omega, by go_num, rfl, H.out, hrl, inferInstance, inferInstance, inferInstance, blw⟩
                    case measure => simp [intOf]; omega
                  · have H := hide (new_take HY.out HN.out (show okN (pn, pi) below false y.x = true by unfold okN; simp [f1, f2, f3, f4]) (Or.inr ⟨b0, rfl, of_decide_eq_true f5⟩))
                    go_wp2_with (go_at_call 88; (with_reducible refine (T.out _ HOK.out.tc).mono ?_); rintro e w1 ⟨rfl, hb⟩; haveI : Stp _ w1 := ⟨hb⟩; clear hb)
                    go_roundw
                    case rel => exact ⟨k + 1, some y, by omega, by go_num, rfl, H.out, (fun z hz => by injection hz with hz; subst hz; exact HMEM.out), inferInstance, inferInstance, inferInstance, blw⟩
                    case measure => simp [intOf]; omega
            · cases r with
              | none =>
                have H := hide (new_take HY.out HN.out (show okN (pn, pi) below true y.x = true by unfold okN; simp [f1, f2, f3]) (Or.inl rfl))
                go_wp2_with (go_at_call 88; (with_reducible refine (T.out _ HOK.out.tc).mono ?_); rintro e w1 ⟨rfl, hb⟩; haveI : Stp _ w1 := ⟨hb⟩; clear hb)
                go_roundw
                case rel => exact ⟨k + 1, some y, by omega, by go_num, rfl, H.out, (fun z hz => by injection hz with hz; subst hz; exact HMEM.out), inferInstance, inferInstance, inferInstance, blw⟩
                case measure => simp [intOf]; omega
              | some b0 =>
                cases f5 : decide (b0.x.cid < y.x.cid)
                · have H := hide (new_skip HY.out HN.out (Or.inr ⟨b0, rfl, of_decide_eq_false f5⟩))
                  go_wp2_with (go_at_call 88; (with_reducible refine (T.out _ HOK.out.tc).mono ?_); rintro e w1 ⟨rfl, hb⟩; haveI : Stp _ w1 := ⟨hb⟩; clear hb)
                  go_roundw
                  case rel => exact ⟨k + 1, some b0, by omega, by go_num, rfl, H.out, hrl, inferInstance, inferInstance, inferInstance, blw⟩
                  case measure => simp [intOf]; omega
                · have H := hide (new_take HY.out HN.out (show okN (pn, pi) below true y.x = true by unfold okN; simp [f1, f2, f3]) (Or.inr ⟨b0, rfl, of_decide_eq_true f5⟩))
                  go_wp2_with (go_at_call 88; (with_reducible refine (T.out _ HOK.out.tc).mono ?_); rintro e w1 ⟨rfl, hb⟩; haveI : Stp _ w1 := ⟨hb⟩; clear hb)
                  go_roundw
                  case rel => exact ⟨k + 1, some y, by omega, by go_num, rfl, H.out, (fun z hz => by injection hz with hz; subst hz; exact HMEM.out), inferInstance, inferInstance, inferInstance, blw⟩
                  case measure => simp [intOf]; omega
    · have H := hide (show newest Lc.cid (okN (pn, pi) below any) (l.map Lr.x) none = r.map Lr.x by
        have := HN.out
        rw [List.drop_of_length_le (by omega)] at this
        rw [this]; rfl)
      have HRL := hide hrl
      go_wp2
      refine bodyPost_ret (v := .tuple #[(r.getD lr0).v, .bool r.isSome]) (by simp [results, Try.results53, go_sem]) rfl ?_
      rw [H.out]
      cases r with
      | none => exact ⟨lr0, rfl, (fun h => by cases h), rfl, blw⟩
      | some z => exact ⟨z, rfl, (fun _ => HRL.out z rfl), rfl, blw⟩
end Go.Proofs.Ytmleeohaaipdcaa
