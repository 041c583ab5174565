/-
  Layer 21: contract: the reference's Keep.
-/
import Derived.Test.YtmleeohaaipdcaaCutQ
import Derived.Test.YtmleeohaaipdcaaMeet
namespace Go.Proofs.Ytmleeohaaipdcaa
set_option linter.unusedSimpArgs false
set_option linter.unusedVariables false
set_option linter.unusedSectionVars false
open Go.RowKit

theorem own_box0 {W : World} {m B : Nat} (h : BoxAt W m #[] 31) (hB : B ≤ m) : W.ownsRow B 31 11 (.slice (some ⟨m, 0, none⟩) 0 0) 0 [] :=
  ⟨rfl, .inr ⟨m, 0, #[], rfl, hB, h.eq, Nat.le_refl _, by unfold maxLen; omega, rfl, rfl⟩⟩
theorem LsR.snoc {W : World} {A : Option Addr} {B c : Nat} {l : List Lr} {y : Lr} (ho : W.ownsRow B 31 11 (.slice A (l.length + 1) c) (l.length + 1) (lcs l ++ lcs [y])) (h1 : ∀ z ∈ l, z.x.Ok W z.BA z.CA) (h2 : y.x.Ok W y.BA y.CA) : LsR W A (l ++ [y]) := by
  refine ⟨by rw [List.length_append, List.length_singleton, lcs_app]; exact Reads.of_own ho, fun z hz => ?_⟩
  rcases List.mem_append.1 hz with hz | hz
  · exact h1 z hz
  · simp at hz; subst hz; exact h2
theorem RetM.none' {l : List Lr} {w w' : World} {e : Ending} (h : RetM l w none e w') : ∃ z : Lr, z.x = lc0 ∧ e = .returned (.tuple #[z.v, .bool false]) ∧ Below w.heap.size w w' := by
  obtain ⟨z, hz, _, rfl, hb⟩ := h
  exact ⟨z, hz, rfl, hb⟩
theorem RetM.some' {l : List Lr} {w w' : World} {e : Ending} {s : Lc} (h : RetM l w (some s) e w') : ∃ z : Lr, z.x = s ∧ z ∈ l ∧ e = .returned (.tuple #[z.v, .bool true]) ∧ Below w.heap.size w w' := by
  obtain ⟨z, hz, hm, rfl, hb⟩ := h
  exact ⟨z, hz, hm rfl, rfl, hb⟩
theorem RetL.own' {w w' : World} {e : Ending} {x : Lc} (h : RetL w x e w') : ∃ z : Lr, z.x = x ∧ e = .returned z.v ∧ OwnB w' w.heap.size (.slice z.BA z.x.b.length z.bc) z.x.b ∧ OwnU w' w.heap.size (.slice z.CA z.x.c.length z.cc) z.x.c ∧ Below w.heap.size w w' := by
  obtain ⟨BA, bc, CA, cc, rfl, h1, h2, hb⟩ := h
  exact ⟨⟨x, BA, bc, CA, cc⟩, rfl, rfl, h1, h2, hb⟩
theorem LsO.base {W : World} {B B' : Nat} {v : Value} {l : List Lr} (h : LsO W B v l) (hB : B' ≤ B) : LsO W B' v l := ⟨own_base h.o hB, fun y hy => ⟨own_base (h.e y hy).1 hB, own_base (h.e y hy).2 hB⟩⟩
theorem box_grown {X W : World} {row : Option Nat} {n : Nat} {cs : Array Value} {t : TypeId} (hg : X.grownBy W row) [k : BoxAt X n cs t] (hne : some n ≠ row) : BoxAt W n cs t := ⟨by rw [hg.block n k.lt hne]; exact k.eq⟩
set_option maxRecDepth 100000 in
set_option maxHeartbeats 16000000 in
theorem rkeep_s (A : Option Addr) (c : Nat) (l : List Lr) (y : Lr) (OA : Option Addr) (oc : Nat) (of : List Pr) (w : World) (h : LsR w A l) (hy : y.x.Ok w y.BA y.CA) (ho : Sl w OA of) (hl : l.length ≤ 1000) (hol : of.length ≤ 1000) :
    Calls Try.prog 14 #[.slice A l.length c, y.v, .slice OA of.length oc] w (RetLs w (rkeepL (l.map Lr.x ++ [y.x]) of)) := by
  obtain ⟨L, hLd⟩ : ∃ L : List Lc, L = l.map Lr.x ++ [y.x] := ⟨_, rfl⟩
  rw [← hLd]
  have hLd := hide hLd
  have HL := hide h
  have HY := hide hy
  have HOF := hide ho
  haveI : Src w A l.length 11 (lcs l) := ⟨h.r⟩
  have TS := hide (fun W (h : Sl W OA of) => refSorted_s OA oc of W h (by omega))
  clear h hy ho
  go_enter Try.func14, Try.ntmps14
  go_upto_region 1 with fail
  go_cut [7] (fun v wx => ∃ A' c', v = .slice A' (l ++ [y]).length c' ∧ LsR wx A' (l ++ [y]) ∧ Below w.heap.size w wx)
  case first =>
    go_wp2_with fail
    go_region_law (first
      | (refine step_append_w Try.okLt rfl (.tmp 15) (.tmp 16) rfl w.heap.size (.slice (some ⟨w.heap.size + 1, 0, none⟩) 0 0) 0 [] l.length (lcs l) ?_ ?_ ?_ ?_ ?_ ?_ ?_ ?_; ((focus (first | rfl | (simp [Act.eval, Act.put]; done))); (focus (exact own_box0 inferInstance (by omega))); (focus (refine ⟨_, _, by first | rfl | (simp [Act.eval, Act.put]; done), ?_⟩; exact src)); (focus (exact lc_one _)); (focus (unfold maxLen; omega)); (focus omega); (focus (first | omega | (simp; done) | (simp; omega) | exact BoxAt.lt (n := w.heap.size) inferInstance)); intro v7 w7 ho7 hg7; rw [Nat.zero_add, List.nil_append] at ho7; haveI : StpG (w.heap.size + 1) _ w7 := ⟨hg7⟩; obtain ⟨A7, c7, rfl, _, _⟩ := own_slice ho7; have hs7 : w.heap.size + 1 ≤ w7.heap.size := (by have := hg7.size; simp at this; omega); have O7 := hide ho7; clear ho7 hg7))
      | (refine step_append_w Try.okLt rfl (.tmp 15) (.tmp 16) rfl w.heap.size (.slice (some ⟨w.heap.size + 1 + 1, 0, none⟩) 0 0) 0 [] l.length (lcs l) ?_ ?_ ?_ ?_ ?_ ?_ ?_ ?_; ((focus (first | rfl | (simp [Act.eval, Act.put]; done))); (focus (exact own_box0 inferInstance (by omega))); (focus (refine ⟨_, _, by first | rfl | (simp [Act.eval, Act.put]; done), ?_⟩; exact src)); (focus (exact lc_one _)); (focus (unfold maxLen; omega)); (focus omega); (focus (first | omega | (simp; done) | (simp; omega) | exact BoxAt.lt (n := w.heap.size) inferInstance)); intro v7 w7 ho7 hg7; rw [Nat.zero_add, List.nil_append] at ho7; haveI : StpG (w.heap.size + 1 + 1) _ w7 := ⟨hg7⟩; obtain ⟨A7, c7, rfl, _, _⟩ := own_slice ho7; have hs7 : w.heap.size + 1 ≤ w7.heap.size := (by have := hg7.size; simp at this; omega); have O7 := hide ho7; clear ho7 hg7))
      | (refine step_append_w Try.okLt rfl (.tmp 17) (.tmp 19) rfl w.heap.size (.slice A7 l.length c7) l.length (lcs l) 1 (lcs [y]) ?_ ?_ ?_ ?_ ?_ ?_ ?_ ?_; ((focus (first | rfl | (simp [Act.eval, Act.put]; done))); (focus (exact own_tc O7.out)); (focus (refine ⟨_, _, by first | rfl | (simp [Act.eval, Act.put]; done), ?_⟩; exact reads_lt1 _ _ y)); (focus (exact lc_one _)); (focus (unfold maxLen; omega)); (focus omega); (focus (first | omega | (simp; done) | (simp; omega) | exact BoxAt.lt (n := w.heap.size) inferInstance)); intro v9 w9 ho9 hg9; haveI : StpB w.heap.size _ w9 := ⟨grown_belowT hg9 (by (try simp) <;> omega) (fun q hq => (O7.out.lt q hq).1)⟩; obtain ⟨A9, c9, rfl, _, _⟩ := own_slice ho9; have HN : Hid (LsR w9 A9 (l ++ [y])) := hide (LsR.snoc ho9 (fun z hz => (HL.out.o z hz).tc) HY.out.tc); rw [show l.length + 1 = (l ++ [y]).length by simp]; clear ho9 hg9)))
    all_goals
      go_wp2
      go_meet
      case rel => exact ⟨A9, c9, by rw [List.length_append]; rfl, HN.out, blw⟩
  case rest =>
    obtain ⟨A', c', rfl, hall, hB⟩ := hcut
    haveI : Stp w wc := ⟨hB⟩
    have zx := hB.size
    haveI : LeN w.heap.size wc.heap.size := ⟨zx⟩
    obtain ⟨la, hlad⟩ : ∃ la : List Lr, la = l ++ [y] := ⟨_, rfl⟩
    have hL : la.map Lr.x = L := by rw [hLd.out, hlad, List.map_append]; rfl
    rw [← hlad] at hall ⊢
    have hlal : la.length ≤ 100000 := by rw [hlad, List.length_append, List.length_singleton]; omega
    have HALL := hide hall
    have HF := hide (fun p hp b W (h : LsR W A' la) => newest_s A' c' la p hp b true W h hlal)
    have HG := hide (fun p hp b W (h : LsR W A' la) => newest_s A' c' la p hp b false W h hlal)
    rw [hL] at HF HG
    have HSL := hide (show (sortedL of).length ≤ 1000 by have := sortedL_len of; omega)
    have HLL := hide hlal
    clear hall hB hLd hlad hL HL HY hlal
    generalize hSD : sortedL of = S at TS HSL
    go_wp2_with fail
    (with_reducible refine (TS.out _ (HOF.out.step blw)).mono ?_)
    rintro e w1 ⟨SA, sc, rfl, hs1, hb1⟩
    haveI : Stp _ w1 := ⟨hb1⟩
    have z1 := hb1.size
    have HS := hide hs1
    clear hs1 hb1 TS HOF
    go_wp2_with fail
    go_loopw [8, 10] (fun v j wr => ∃ (m : Nat) (q : List Lr), m ≤ S.length ∧ j = .int .i64 m ∧ q.map Lr.x = (S.take m).flatMap (fun p => refTwo Lc.cid (okS p) L) ∧ q.length ≤ 2 * m ∧ LsO wr w1.heap.size v q ∧ Below w1.heap.size w1 wr) (fun _ j _ => S.length - (intOf j).toNat)
    case atStart => exact ⟨0, [], Nat.zero_le _, rfl, rfl, Nat.zero_le _, LsO.nil _ _, blw⟩
    case round =>
      obtain ⟨m, q, hm, rfl, hq, hq2, ho, hB⟩ := hrel
      haveI : Stp w1 wr := ⟨hB⟩
      have zr := hB.size
      haveI : LeN w.heap.size wr.heap.size := ⟨by omega⟩
      have HQ := hide hq
      have HO := hide ho
      obtain ⟨A5, c5, rfl, _, _⟩ := own_slice ho.o
      clear hq ho hB
      have hsl := HSL.out
      by_cases hlt : m < S.length
      · obtain ⟨b, off, ⟨pn, pi⟩, rfl, hb, hp, g1, g2⟩ := (HS.out.step (w' := wr) blw).at2 hlt
        haveI : InW b wr := ⟨hb⟩
        haveI : CellAt wr b (off + m * 2) _ := ⟨hb, g1⟩
        haveI : CellAt wr b (off + m * 2 + 1) _ := ⟨hb, g2⟩
        clear g1 g2
        have HTK := hide (show (S.take (m + 1)).flatMap (fun p => refTwo Lc.cid (okS p) L) = (S.take m).flatMap (fun p => refTwo Lc.cid (okS p) L) ++ refTwo Lc.cid (okS (pn, pi)) L by rw [take_succ_of hp]; simp)
        have i0 : (0 : Int) ≤ (m : Int) := by omega
        have i1 : (m : Int) < (S.length : Int) := by omega
        clear hp
        have T1 := HF.out pn pi 0
        rw [okN_t] at T1
        cases hr1 : newest Lc.cid (okS (pn, pi)) L none with
        | none =>
          rw [hr1] at T1
          have T1 := hide T1
          have H := hide (show refTwo Lc.cid (okS (pn, pi)) L = [] by unfold refTwo; rw [hr1])
          go_wp2_with fail
          (with_reducible refine (T1.out _ HALL.out.tc).mono ?_)
          intro e w2 hret
          obtain ⟨z, hz, rfl, hb2⟩ := hret.none'
          haveI : Stp _ w2 := ⟨hb2⟩
          haveI : LeN wr.heap.size w2.heap.size := ⟨hb2.size⟩
          haveI : LeN wc.heap.size w1.heap.size := ⟨by omega⟩
          haveI : LeN wc.heap.size w2.heap.size := ⟨by have := hb2.size; omega⟩
          haveI : LeN w1.heap.size w2.heap.size := ⟨by have := hb2.size; omega⟩
          haveI : LeN w.heap.size w2.heap.size := ⟨by have := hb2.size; omega⟩
          clear hret hb2
          go_wp2
          go_roundw
          case rel => exact ⟨m + 1, q, by omega, by go_num, by rw [HTK.out, HQ.out, H.out, List.append_nil], by omega, HO.out.tc, blw⟩
          case measure => simp [intOf]; omega
        | some s =>
          rw [hr1] at T1
          have T1 := hide T1
          have T2 := HG.out pn pi s.cid
          rw [okN_f] at T2
          have TC := hide (fun (y : Lr) W (h : y.x.Ok W y.BA y.CA) => copy10_s y.x y.BA y.bc y.CA y.cc W h)
          have H := hide (show refTwo Lc.cid (okS (pn, pi)) L = (newest Lc.cid (fun x => okS (pn, pi) x && decide (x.cid < s.cid)) L none).toList ++ [s] by unfold refTwo; rw [hr1])
          clear hr1
          go_wp2_with fail
          (with_reducible refine (T1.out _ HALL.out.tc).mono ?_)
          intro e w2 hret
          obtain ⟨z, rfl, hmem, rfl, hb2⟩ := hret.some'
          haveI : Stp _ w2 := ⟨hb2⟩
          haveI : LeN wr.heap.size w2.heap.size := ⟨hb2.size⟩
          haveI : LeN wc.heap.size w1.heap.size := ⟨by omega⟩
          haveI : LeN wc.heap.size w2.heap.size := ⟨by have := hb2.size; omega⟩
          haveI : LeN w1.heap.size w2.heap.size := ⟨by have := hb2.size; omega⟩
          haveI : LeN w.heap.size w2.heap.size := ⟨by have := hb2.size; omega⟩
          have z2 := hb2.size
          have HOK := hide (HALL.out.o z hmem)
          clear hret hb2 hmem
          cases hr2 : newest Lc.cid (fun x => okS (pn, pi) x && decide (x.cid < z.x.cid)) L none with
          | none =>
            rw [hr2] at T2 H
            have T2 := hide T2
            go_wp2_with fail
            go_region_law (first | (go_simp; go_at_call 53; (with_reducible refine (T2.out _ HALL.out.tc).mono ?_); intro e w3 hret; obtain ⟨y3, hy3, rfl, hb3⟩ := hret.none'; haveI : Stp _ w3 := ⟨hb3⟩; have z3 := hb3.size; (try simp [World.setCell] at z3); clear hret hb3) | fail)
            all_goals
              go_wp2_with fail
              (with_reducible refine (TC.out z _ HOK.out.tc).mono ?_)
              intro e w4 hret
              obtain ⟨y1, e1, rfl, ho1, ho2, hb4⟩ := hret.own'
              haveI : Stp _ w4 := ⟨hb4⟩
              have z4 := hb4.size
              try simp [World.setCell] at z4
              have O1 := hide ho1
              have O2 := hide ho2
              have HE := hide e1
              clear ho1 ho2 hb4 hret e1
              go_wp2_with (at_builtin; refine wpList_append_w Try.okLt rfl (.tmp 58) (.tmp 61) rfl w1.heap.size (.slice A5 q.length c5) q.length (lcs q) 1 (lcs [y1]) ?_ ?_ ?_ ?_ ?_ ?_ ?_ ?_; go_must ((focus (first | rfl | (simp [Act.eval, Act.put]; done))); (focus (exact own_tc HO.out.o)); (focus (refine ⟨_, _, rfl, ?_⟩; exact reads_lt1 _ _ y1)); (focus (exact lc_one _)); (focus (unfold maxLen; omega)); (focus omega); (focus (first | omega | (simp; done) | (simp; omega) | exact BoxAt.lt (n := w.heap.size) inferInstance)); intro v7 w7 ho7 hg7; have HN := hide ((HO.out.tc (W := w4.alloc (.cells #[.int .i64 y1.x.k, .int .i64 y1.x.p.1, .int .u64 y1.x.p.2, .int .u64 y1.x.r, .int .i64 y1.x.s.1, .int .u64 y1.x.s.2, .int .u64 y1.x.n, .slice y1.BA y1.x.b.length y1.bc, .int .u64 y1.x.cid, .slice y1.CA y1.x.c.length y1.cc, .bool y1.x.w] 31))).app (own_tc O1.out) (own_tc O2.out) (by simp; omega) ho7 hg7); haveI : StpB w1.heap.size _ w7 := ⟨grown_belowT hg7 (by simp; omega) (fun q hq => (HO.out.o.lt q hq).1)⟩; clear ho7 hg7))
              go_wp2
              go_roundw
              case rel => exact ⟨m + 1, q ++ [y1], by omega, by go_num, by rw [HTK.out, List.map_append, HQ.out, List.map_cons, List.map_nil, HE.out, H.out]; rfl, by simp; omega, HN.out, blw⟩
              case measure => simp [intOf]; omega
          | some s2 =>
            rw [hr2] at T2 H
            have T2 := hide T2
            go_wp2_with fail
            go_region_law (first | (go_simp; go_at_call 53; (with_reducible refine (T2.out _ HALL.out.tc).mono ?_); intro e w3 hret; obtain ⟨y3, hy3, hmem3, rfl, hb3⟩ := hret.some'; haveI : Stp _ w3 := ⟨hb3⟩; have z3 := hb3.size; (try simp [World.setCell] at z3); have HOK3 := hide (HALL.out.o y3 hmem3); have HY3 := hide hy3; clear hret hb3 hmem3 hy3) | fail)
            all_goals
              go_wp2_with fail
              (with_reducible refine (TC.out y3 _ HOK3.out.tc).mono ?_)
              intro e w4 hret
              obtain ⟨y1, e1, rfl, ho1, ho2, hb4⟩ := hret.own'
              haveI : Stp _ w4 := ⟨hb4⟩
              have z4 := hb4.size
              try simp [World.setCell] at z4
              have O1 := hide ho1
              have O2 := hide ho2
              have HE := hide e1
              clear ho1 ho2 hb4 hret e1
              go_wp2_with (at_builtin; refine wpList_append_w Try.okLt rfl (.tmp 52) (.tmp 55) rfl w1.heap.size (.slice A5 q.length c5) q.length (lcs q) 1 (lcs [y1]) ?_ ?_ ?_ ?_ ?_ ?_ ?_ ?_; go_must ((focus (first | rfl | (simp [Act.eval, Act.put]; done))); (focus (exact own_tc HO.out.o)); (focus (refine ⟨_, _, rfl, ?_⟩; exact reads_lt1 _ _ y1)); (focus (exact lc_one _)); (focus (unfold maxLen; omega)); (focus omega); (focus (first | omega | (simp; done) | (simp; omega) | exact BoxAt.lt (n := w.heap.size) inferInstance)); intro v7 w7 ho7 hg7; have HN := hide ((HO.out.tc (W := w4.alloc (.cells #[.int .i64 y1.x.k, .int .i64 y1.x.p.1, .int .u64 y1.x.p.2, .int .u64 y1.x.r, .int .i64 y1.x.s.1, .int .u64 y1.x.s.2, .int .u64 y1.x.n, .slice y1.BA y1.x.b.length y1.bc, .int .u64 y1.x.cid, .slice y1.CA y1.x.c.length y1.cc, .bool y1.x.w] 31))).app (own_tc O1.out) (own_tc O2.out) (by simp; omega) ho7 hg7); haveI : BoxAt w7 w2.heap.size #[.int .i64 z.x.k, .int .i64 z.x.p.1, .int .u64 z.x.p.2, .int .u64 z.x.r, .int .i64 z.x.s.1, .int .u64 z.x.s.2, .int .u64 z.x.n, .slice z.BA z.x.b.length z.bc, .int .u64 z.x.cid, .slice z.CA z.x.c.length z.cc, .bool z.x.w] 31 := box_grown hg7 (fun e => by have := (HO.out.o.lt _ e.symm).2; omega); haveI : StpB w1.heap.size _ w7 := ⟨grown_belowT hg7 (by simp; omega) (fun q hq => (HO.out.o.lt q hq).1)⟩; have z7 := hg7.size; (try simp [World.setCell] at z7); obtain ⟨A7, c7, rfl, _, _⟩ := own_slice ho7; clear ho7 hg7))
              rw [show q.length + 1 = (q ++ [y1]).length by simp] at *
              have hq1 : (q ++ [y1]).length ≤ 2 * m + 1 := by rw [List.length_append, List.length_singleton]; omega
              go_wp2_with fail
              (with_reducible refine (TC.out z _ HOK.out.tc).mono ?_)
              intro e w8 hret
              obtain ⟨y2, e2, rfl, ho3, ho4, hb8⟩ := hret.own'
              haveI : Stp _ w8 := ⟨hb8⟩
              have z8 := hb8.size
              try simp [World.setCell] at z8
              have O3 := hide ho3
              have O4 := hide ho4
              have HE2 := hide e2
              clear ho3 ho4 hb8 hret e2
              go_wp2_with (at_builtin; refine wpList_append_w Try.okLt rfl (.tmp 58) (.tmp 61) rfl w1.heap.size (.slice A7 (q ++ [y1]).length c7) (q ++ [y1]).length (lcs (q ++ [y1])) 1 (lcs [y2]) ?_ ?_ ?_ ?_ ?_ ?_ ?_ ?_; go_must ((focus (first | rfl | (simp [Act.eval, Act.put]; done))); (focus (exact own_tc HN.out.o)); (focus (refine ⟨_, _, rfl, ?_⟩; exact reads_lt1 _ _ y2)); (focus (exact lc_one _)); (focus (unfold maxLen; omega)); (focus omega); (focus (first | omega | (simp; done) | (simp; omega) | exact BoxAt.lt (n := w.heap.size) inferInstance)); intro v9 w9 ho9 hg9; have HN2 := hide ((HN.out.tc (W := w8.alloc (.cells #[.int .i64 y2.x.k, .int .i64 y2.x.p.1, .int .u64 y2.x.p.2, .int .u64 y2.x.r, .int .i64 y2.x.s.1, .int .u64 y2.x.s.2, .int .u64 y2.x.n, .slice y2.BA y2.x.b.length y2.bc, .int .u64 y2.x.cid, .slice y2.CA y2.x.c.length y2.cc, .bool y2.x.w] 31))).app (own_tc O3.out) (own_tc O4.out) (by (try simp) <;> omega) ho9 hg9); haveI : StpB w1.heap.size _ w9 := ⟨grown_belowT hg9 (by simp; omega) (fun q hq => (HN.out.o.lt q hq).1)⟩; clear ho9 hg9))
              go_wp2
              go_roundw
              case rel => exact ⟨m + 1, q ++ [y1] ++ [y2], by omega, by go_num, by rw [HTK.out, List.map_append, List.map_append, HQ.out, List.map_cons, List.map_nil, List.map_cons, List.map_nil, HE.out, HE2.out, H.out, HY3.out]; simp, by simp; omega, HN2.out, blw⟩
              case measure => simp [intOf]; omega
      · obtain rfl : m = S.length := by omega
        have HN := hide (show Below w.heap.size w wr from blw)
        have H2 := hide (show q.map Lr.x = rkeepL L of by have := HQ.out; rw [List.take_length] at this; rw [this, rkeepL, hSD])
        go_wp2
        go_ret
        exact ⟨A5, c5, q, rfl, H2.out, HO.out.base (by omega), HN.out⟩
end Go.Proofs.Ytmleeohaaipdcaa
