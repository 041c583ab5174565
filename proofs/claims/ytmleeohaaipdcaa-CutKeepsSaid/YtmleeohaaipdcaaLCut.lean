/-
  CutKeeps: the law's function answers true at every input.
-/
import Derived.Test.YtmleeohaaipdcaaLet14
import Derived.Test.YtmleeohaaipdcaaOpenLt
namespace Go.Proofs.Ytmleeohaaipdcaa
set_option linter.unusedSimpArgs false
set_option linter.unusedVariables false
set_option linter.unusedSectionVars false
open Go.RowKit Go.Sort

theorem newest_mem {α : Type} {cd : α → Int} {ok : α → Bool} {l : List α} {r : α} (h : newest cd ok l none = some r) : r ∈ l := by
  have := ((newest_spec cd ok l none (fun _ h => by cases h)).2 r h).1
  exact List.mem_of_find?_eq_some (by simpa using this)
theorem refTwo_mem {α : Type} {cd : α → Int} {ok : α → Bool} {l : List α} {r : α} (h : r ∈ refTwo cd ok l) : r ∈ l := by
  unfold refTwo at h
  cases hn : newest cd ok l none with
  | none => rw [hn] at h; cases h
  | some s =>
    rw [hn] at h
    simp only at h
    rcases List.mem_append.1 h with h | h
    · cases h2 : newest cd (fun x => ok x && decide (cd x < cd s)) l none with
      | none => rw [h2] at h; cases h
      | some t => rw [h2] at h; simp at h; subst h; exact newest_mem h2
    · simp at h; subst h; exact newest_mem hn
theorem rkeepL_mem {L : List Lc} {of : List Pr} {r : Lc} (h : r ∈ rkeepL L of) : r ∈ L := by
  obtain ⟨p, _, hp⟩ := List.mem_flatMap.1 h
  exact refTwo_mem hp
theorem newest_le2 {α : Type} (cd : α → Int) (ok : α → Bool) (l : List α) : (refTwo cd ok l).length ≤ 2 := by
  unfold refTwo
  cases newest cd ok l none with
  | none => simp
  | some s =>
    simp only
    cases newest cd (fun x => ok x && decide (cd x < cd s)) l none <;> simp
theorem fm_le {α β : Type} (f : α → List β) (h : ∀ x, (f x).length ≤ 2) : ∀ l : List α, (l.flatMap f).length ≤ 2 * l.length
  | [] => by simp
  | x :: l => by
    have := fm_le f h l
    have := h x
    rw [List.flatMap_cons, List.length_append, List.length_cons]; omega
theorem rkeepL_len (L : List Lc) (of : List Pr) : (rkeepL L of).length ≤ 2 * of.length := by
  have h1 := fm_le (fun p => refTwo Lc.cid (okS p) L) (fun p => newest_le2 _ _ _) (sortedL of)
  have h2 := sortedL_len of
  unfold rkeepL; omega
theorem okOf {W : World} {B : Nat} {x : Lc} {z : Lr} (e : z.x = x) (hw : x.Wf) (h1 : OwnB W B (.slice z.BA z.x.b.length z.bc) z.x.b) (h2 : OwnU W B (.slice z.CA z.x.c.length z.cc) z.x.c) : z.x.Ok W z.BA z.CA := by
  obtain ⟨f1, f2, f3, f4, f5⟩ := (by rw [e]; exact hw : z.x.Wf)
  exact ⟨Reads.of_own h1, Reads.of_own h2, f1, f2, f3, f4, f5⟩
theorem sameLs_t (A A' : Option Addr) (c c' : Nat) (l m : List Lr) (w : World) (h : LsR w A l) (h' : LsR w A' m) (hl : l.length ≤ 100000) (hl' : m.length ≤ 100000) (he : l.map Lr.x = m.map Lr.x) :
    Calls Try.prog 11 #[.slice A l.length c, .slice A' m.length c'] w fun e w' => e = .returned (.bool true) ∧ Below w.heap.size w w' := by
  have := sameLs_s A A' c c' l m w h h' hl hl'
  rw [decide_eq_true he] at this
  exact this
theorem RetF.any' {w w' : World} {e : Ending} {r : Option Lc} (h : RetF w r e w') : ∃ z : Lr, z.x = r.getD lc0 ∧ e = .returned (.tuple #[z.v, .bool r.isSome]) ∧ z.x.Ok w' z.BA z.CA ∧ Below w.heap.size w w' := by
  obtain ⟨BA, bc, CA, cc, rfl, hok, hb⟩ := h
  exact ⟨⟨r.getD lc0, BA, bc, CA, cc⟩, rfl, rfl, hok, hb⟩
theorem same10_t2 (y z : Lr) (w : World) (h : y.x.Ok w y.BA y.CA) (h' : z.x.Ok w z.BA z.CA) (he : y.x = z.x) : Calls Try.prog 17 #[y.v, z.v] w (RetB w true) := by
  have := same10_s y.x z.x y.BA y.bc y.CA y.cc z.BA z.bc z.CA z.cc w h h'
  rw [decide_eq_true he] at this
  exact this
theorem heavy1_s (y : Lr) (m : Nat) (W : World) [h : BoxAt W m #[.int .i64 y.x.k, .int .i64 y.x.p.1, .int .u64 y.x.p.2, .int .u64 y.x.r, .int .i64 y.x.s.1, .int .u64 y.x.s.2, .int .u64 y.x.n, .slice y.BA y.x.b.length y.bc, .int .u64 y.x.cid, .slice y.CA y.x.c.length y.cc, .bool y.x.w] 31] : Calls Try.prog 8 #[.slice (some ⟨m, 0, none⟩) 1 1, .slice none 0 0] W (RetB W (hvL [y])) := heavyL_s _ 1 [y] W (reads_lt1 W m y) (by simp)
theorem LrRd.light {W : World} {y : Lr} (h : LrRd W y) (hh : hvy y = false) : y.x.Ok W y.BA y.CA := by
  unfold hvy at hh
  simp at hh
  exact h.ok' (by omega) (by omega)
set_option maxRecDepth 100000 in
set_option maxHeartbeats 16000000 in
theorem cutKeeps_true (A : Option Addr) (c : Nat) (l : List Lr) (y : Lr) (OA : Option Addr) (oc : Nat) (of : List Pr) (cid : Int) (w : World) (hl : l.length ≤ 9223372036854775807) (hr : Reads w w.heap.size 11 A l.length (lcs l)) (hw : ∀ z ∈ l, LrRd w z) (hy : LrRd w y) (hol : of.length ≤ 9223372036854775807) (ho : Reads w w.heap.size 2 OA of.length (pcs of)) :
    Calls Try.prog 3 #[.slice A l.length c, y.v, .slice OA of.length oc, .int .u64 cid] w (RetB w true) := by
  have TA := hide (fun W => awake21_t W)
  haveI : Src w A l.length 11 (lcs l) := ⟨hr⟩
  have T1 := hide (fun W (h : Reads W W.heap.size 11 A l.length (lcs l)) => heavyL_s A c l W h hl)
  have T2 := hide (fun W m (h : BoxAt W m #[.int .i64 y.x.k, .int .i64 y.x.p.1, .int .u64 y.x.p.2, .int .u64 y.x.r, .int .i64 y.x.s.1, .int .u64 y.x.s.2, .int .u64 y.x.n, .slice y.BA y.x.b.length y.bc, .int .u64 y.x.cid, .slice y.CA y.x.c.length y.cc, .bool y.x.w] 31) => @heavy1_s y m W h)
  cases h1 : hvL l
  · rw [h1] at T1
    cases h2 : hvL [y]
    · rw [h2] at T2
      by_cases h3 : 60 < of.length
      · have d1 : decide ((60 : Int) < (of.length : Int)) = true := decide_eq_true (by omega)
        have d2 : decide (60 < of.length) = true := decide_eq_true h3
        clear hr hw hy ho h1 h2 h3
        go_enter Try.func3, Try.ntmps3
        go_wp2_with (first | (go_at_call 8; (with_reducible refine (T1.out _ src).mono ?_); rintro e w1 ⟨rfl, hb1⟩; haveI : Stp _ w1 := ⟨hb1⟩; clear hb1) | (go_at_call 8; (with_reducible refine Calls.mono (T2.out _ _ ?_) ?_); (focus infer_instance); rintro e w2 ⟨rfl, hb2⟩; haveI : Stp _ w2 := ⟨hb2⟩; clear hb2) | (go_at_call 9; (with_reducible refine (TA.out _).mono ?_); rintro e wE ⟨rfl, hbE⟩; haveI : Stp _ wE := ⟨hbE⟩; clear hbE))
        go_ret
        exact ⟨rfl, blw⟩
      · have d1 : decide ((60 : Int) < (of.length : Int)) = false := decide_eq_false (by omega)
        have d2 : decide (60 < of.length) = false := decide_eq_false h3
        have hl60 : l.length ≤ 60 ∧ ∀ z ∈ l, hvy z = false := by
          unfold hvL at h1
          simp at h1
          exact ⟨by omega, fun z hz => h1.2 z hz⟩
        have hy60 : hvy y = false := by
          unfold hvL at h2
          simp at h2
          exact h2
        have HL := hide (show LsR w A l from ⟨hr, fun z hz => (hw z hz).light (hl60.2 z hz)⟩)
        have HY := hide (hy.light hy60)
        have HWY := hide HY.out.wf
        have HO := hide (show Sl w OA of from ho)
        have HOL := hide (show of.length ≤ 1000 by omega)
        have HLL := hide (show l.length ≤ 1000 by omega)
        obtain ⟨RES, hRES⟩ : ∃ R, R = rkeepL (l.map Lr.x ++ [y.x]) of := ⟨_, rfl⟩
        have HRES2 := hide hRES.symm
        have HWR := hide (show ∀ x ∈ RES, x.Wf from fun x hx => by
          rw [hRES] at hx
          rcases List.mem_append.1 (rkeepL_mem hx) with h | h
          · obtain ⟨z, hz, rfl⟩ := List.mem_map.1 h
            exact (HL.out.o z hz).wf
          · simp at h; subst h; exact HWY.out)
        have HLEN := hide (show ∀ m : List Lr, m.map Lr.x = RES → m.length ≤ 100000 from fun m hm => by
          have h4 := congrArg List.length hm
          have h5 := rkeepL_len (l.map Lr.x ++ [y.x]) of
          rw [List.length_map] at h4
          rw [← hRES] at h5
          omega)
        have TF := hide (fun W (h : LsR W A l) => rfind_s A c l y.x.p.1 y.x.p.2 cid W h (by omega))
        have TCP := hide (fun W (h : LsR W A l) => copied_s A c l W h (by omega))
        clear hr hw hy ho h1 h2 h3 hl60 hy60 hRES
        go_enter Try.func3, Try.ntmps3
        go_wp2_with (first | (go_at_call 8; (with_reducible refine (T1.out _ src).mono ?_); rintro e w1 ⟨rfl, hb1⟩; haveI : Stp _ w1 := ⟨hb1⟩; clear hb1) | (go_at_call 8; (with_reducible refine Calls.mono (T2.out _ _ ?_) ?_); (focus infer_instance); rintro e w2 ⟨rfl, hb2⟩; haveI : Stp _ w2 := ⟨hb2⟩; clear hb2))
        (with_reducible refine (TCP.out _ HL.out.tc).mono ?_)
        rintro e w3 ⟨AO, cO, lo, rfl, heo, hoo, hb3⟩
        haveI : Stp _ w3 := ⟨hb3⟩
        have z3 := hb3.size
        have HEO := hide heo
        have hlen : lo.length = l.length := by have := congrArg List.length heo; rwa [List.length_map, List.length_map] at this
        have HLO := hide (hoo.read (fun z hz => by
          have : z.x ∈ l.map Lr.x := by rw [← heo]; exact List.mem_map.2 ⟨z, hz, rfl⟩
          obtain ⟨u, hu, e⟩ := List.mem_map.1 this
          rw [← e]; exact (HL.out.o u hu).wf))
        have HLO1 := hide (show lo.length ≤ 1000 by rw [hlen]; exact HLL.out)
        have HRES := hide (show rkeepL (lo.map Lr.x ++ [y.x]) of = RES by rw [heo]; exact HRES2.out)
        have TFO := hide (fun W (h : LsR W AO lo) => findL_s AO cO lo y.x.p.1 y.x.p.2 cid W h (by have := HLO1.out; omega))
        rw [heo] at TFO
        have TS := hide (fun W (h : LsR W AO lo) (h' : LsR W A l) => sameLs_t AO A cO c lo l W h h' (by have := HLO1.out; omega) (by have := HLL.out; omega) HEO.out)
        generalize findL (l.map Lr.x) (y.x.p.1, y.x.p.2) cid = r at TF TFO
        clear heo hoo hb3 hlen
        go_wp2_with fail
        go_region_held3 (fun w' => w'.cell? ⟨w.heap.size, 0, none⟩ = some (.int .i64 y.x.k) ∧ w'.cell? ⟨w.heap.size, 1, none⟩ = some (.int .i64 y.x.p.1) ∧ w'.cell? ⟨w.heap.size, 2, none⟩ = some (.int .u64 y.x.p.2) ∧ w'.cell? ⟨w.heap.size, 3, none⟩ = some (.int .u64 y.x.r) ∧ w'.cell? ⟨w.heap.size, 4, none⟩ = some (.int .i64 y.x.s.1) ∧ w'.cell? ⟨w.heap.size, 5, none⟩ = some (.int .u64 y.x.s.2) ∧ w'.cell? ⟨w.heap.size, 6, none⟩ = some (.int .u64 y.x.n) ∧ w'.cell? ⟨w.heap.size, 7, none⟩ = some (.slice y.BA y.x.b.length y.bc) ∧ w'.cell? ⟨w.heap.size, 8, none⟩ = some (.int .u64 y.x.cid) ∧ w'.cell? ⟨w.heap.size, 9, none⟩ = some (.slice y.CA y.x.c.length y.cc) ∧ w'.cell? ⟨w.heap.size, 10, none⟩ = some (.bool y.x.w)) ((refine ⟨?_, ?_, ?_, ?_, ?_, ?_, ?_, ?_, ?_, ?_, ?_⟩ <;> (rw [cell?_box]; rfl)))
          (first
            | (go_at_call 13; (with_reducible refine Calls.mono (copy10_s y.x y.BA y.bc y.CA y.cc _ ?_) ?_); (focus (exact HY.out.tc)); intro e w4 hret; obtain ⟨y1, e1, rfl, ho1, ho2, hb4⟩ := hret.own'; haveI : Stp _ w4 := ⟨hb4⟩; have HY1 := hide (okOf e1 HWY.out ho1 ho2); have HE1 := hide e1; clear hret ho1 ho2 hb4 e1)
            | (go_at_call 12; (with_reducible refine Calls.mono (keep_s AO cO lo y1 OA oc of _ ?_ ?_ ?_ HLO1.out HOL.out) ?_); (focus (exact HLO.out.tc)); (focus (exact HY1.out.tc)); (focus (exact HO.out.step blw)); rintro e w5 ⟨A5, c5, l5, rfl, he5, ho5, hb5⟩; haveI : Stp _ w5 := ⟨hb5⟩; have HE5 := hide (show l5.map Lr.x = RES by rw [he5, HE1.out]; exact HRES.out); have HL5 := hide (ho5.read (fun z hz => HWR.out z.x (by rw [← HE5.out]; exact List.mem_map.2 ⟨z, hz, rfl⟩))); clear he5 ho5 hb5)
            | (go_at_call 14; (with_reducible refine Calls.mono (rkeep_s A c l y OA oc of _ ?_ ?_ ?_ HLL.out HOL.out) ?_); (focus (exact HL.out.tc)); (focus (exact HY.out.tc)); (focus (exact HO.out.step blw)); rintro e w6 ⟨A6, c6, l6, rfl, he6, ho6, hb6⟩; haveI : Stp _ w6 := ⟨hb6⟩; have HE6 := hide (show l6.map Lr.x = RES by rw [he6]; exact HRES2.out); have HL6 := hide (ho6.read (fun z hz => HWR.out z.x (by rw [← HE6.out]; exact List.mem_map.2 ⟨z, hz, rfl⟩))); clear he6 ho6 hb6)
            | (go_at_call 11; (with_reducible refine Calls.mono (sameLs_t A5 A6 c5 c6 l5 l6 _ ?_ ?_ (HLEN.out l5 HE5.out) (HLEN.out l6 HE6.out) (HE5.out.trans HE6.out.symm)) ?_); (focus (exact HL5.out.tc)); (focus (exact HL6.out.tc)); rintro e w7 ⟨rfl, hb7⟩; haveI : Stp _ w7 := ⟨hb7⟩; clear hb7)
            | fail)
        all_goals
          go_wp2_with fail
          (with_reducible refine (TFO.out _ HLO.out.tc).mono ?_)
          intro e wA hret
          obtain ⟨zA, heA, rfl, hokA, hbA⟩ := hret.any'
          haveI : Stp _ wA := ⟨hbA⟩
          have HOA := hide hokA
          have HEA := hide heA
          clear hret hokA hbA heA
          go_wp2_with fail
          (with_reducible refine (TF.out _ HL.out.tc).mono ?_)
          intro e wB hret
          obtain ⟨zB, heB, rfl, hokB, hbB⟩ := hret.any'
          haveI : Stp _ wB := ⟨hbB⟩
          have HOB := hide hokB
          have HEQ := hide (HEA.out.trans heB.symm)
          clear hret hokB hbB heB HEA
          generalize r.isSome = bb
          cases bb
          all_goals
            go_wp2_with (first
              | (go_at_call 17; (with_reducible refine Calls.mono (same10_t2 zA zB _ ?_ ?_ HEQ.out) ?_); (focus (exact HOA.out.tc)); (focus (exact HOB.out.tc)); rintro e wC ⟨rfl, hbC⟩; haveI : Stp _ wC := ⟨hbC⟩; clear hbC)
              | (go_at_call 11; (with_reducible refine Calls.mono (TS.out _ ?_ ?_) ?_); (focus (exact HLO.out.tc)); (focus (exact HL.out.tc)); rintro e wD ⟨rfl, hbD⟩; haveI : Stp _ wD := ⟨hbD⟩; clear hbD)
              | (go_at_call 9; (with_reducible refine Calls.mono (TA.out _) ?_); rintro e wE ⟨rfl, hbE⟩; haveI : Stp _ wE := ⟨hbE⟩; clear hbE))
            go_ret
            exact ⟨rfl, blw⟩
    · rw [h2] at T2
      clear hr hw hy ho h1 h2
      go_enter Try.func3, Try.ntmps3
      go_wp2_with (first | (go_at_call 8; (with_reducible refine (T1.out _ src).mono ?_); rintro e w1 ⟨rfl, hb1⟩; haveI : Stp _ w1 := ⟨hb1⟩; clear hb1) | (go_at_call 8; (with_reducible refine Calls.mono (T2.out _ _ ?_) ?_); (focus infer_instance); rintro e w2 ⟨rfl, hb2⟩; haveI : Stp _ w2 := ⟨hb2⟩; clear hb2) | (go_at_call 9; (with_reducible refine (TA.out _).mono ?_); rintro e wE ⟨rfl, hbE⟩; haveI : Stp _ wE := ⟨hbE⟩; clear hbE))
      go_ret
      exact ⟨rfl, blw⟩
  · rw [h1] at T1
    clear hr hw hy ho h1
    go_enter Try.func3, Try.ntmps3
    go_wp2_with (first | (go_at_call 8; (with_reducible refine (T1.out _ src).mono ?_); rintro e w1 ⟨rfl, hb1⟩; haveI : Stp _ w1 := ⟨hb1⟩; clear hb1) | (go_at_call 8; (with_reducible refine Calls.mono (T2.out _ _ ?_) ?_); (focus infer_instance); rintro e w2 ⟨rfl, hb2⟩; haveI : Stp _ w2 := ⟨hb2⟩; clear hb2) | (go_at_call 9; (with_reducible refine (TA.out _).mono ?_); rintro e wE ⟨rfl, hbE⟩; haveI : Stp _ wE := ⟨hbE⟩; clear hbE))
    go_ret
    exact ⟨rfl, blw⟩
end Go.Proofs.Ytmleeohaaipdcaa
