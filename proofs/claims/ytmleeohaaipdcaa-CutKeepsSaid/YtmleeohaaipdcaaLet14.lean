/-
  Layer 21: the chapter's example holds (awake).
-/
import Derived.Test.YtmleeohaaipdcaaLet13
import Derived.Test.YtmleeohaaipdcaaLet11
namespace Go.Proofs.Ytmleeohaaipdcaa
set_option linter.unusedSimpArgs false
set_option linter.unusedVariables false
set_option linter.unusedSectionVars false
open Go.RowKit

theorem exLife (n i : Int) (w : World) : Calls Try.prog 36 #[.int .i64 n, .int .u64 i] w fun e w' => e = .returned (.agg #[.int .i64 n, .int .u64 i]) ∧ w.alloc (bx n i) = w' := by
  go_enter Try.func36, Try.ntmps36
  go_wp2
  refine bodyPost_ret (v := .agg #[.int .i64 n, .int .u64 i]) (by simp [results, Try.results36, go_sem]) rfl ?_
  exact ⟨rfl, rfl⟩
theorem reads_p3x (W : World) (m : Nat) (a b c d e f : Int) [h : BoxAt W m #[.int .i64 a, .int .u64 b, .int .i64 c, .int .u64 d, .int .i64 e, .int .u64 f] 25] : Sl W (some ⟨m, 0, none⟩) [(a, b), (c, d), (e, f)] := by
  refine ⟨rfl, fun _ => ⟨_, _, rfl, h.lt, fun j u hu => ?_⟩⟩
  rw [Nat.zero_add, cell?_box]
  have e : pcs [(a, b), (c, d), (e, f)] = (#[.int .i64 a, .int .u64 b, .int .i64 c, .int .u64 d, .int .i64 e, .int .u64 f] : Array Value).toList := rfl
  rw [e] at hu
  simpa using hu
theorem reads_pp (W : World) (m : Nat) (a b c d : Int) [h : BoxAt W m #[.int .i64 a, .int .u64 b, .int .i64 c, .int .u64 d] 25] : Sl W (some ⟨m, 0, none⟩) [(a, b), (c, d)] := by
  refine ⟨rfl, fun _ => ⟨_, _, rfl, h.lt, fun j u hu => ?_⟩⟩
  rw [Nat.zero_add, cell?_box]
  have e : pcs [(a, b), (c, d)] = (#[.int .i64 a, .int .u64 b, .int .i64 c, .int .u64 d] : Array Value).toList := rfl
  rw [e] at hu
  simpa using hu
theorem reads_uuu (W : World) (m : Nat) (a b c : Int) [h : BoxAt W m #[.int .u64 a, .int .u64 b, .int .u64 c] 23] : Ul W (some ⟨m, 0, none⟩) [a, b, c] := by
  refine ⟨rfl, fun _ => ⟨_, _, rfl, h.lt, fun j u hu => ?_⟩⟩
  rw [Nat.zero_add, cell?_box]
  have e : ucs [a, b, c] = (#[.int .u64 a, .int .u64 b, .int .u64 c] : Array Value).toList := rfl
  rw [e] at hu
  simpa using hu
theorem reads_uu (W : World) (m : Nat) (a b : Int) [h : BoxAt W m #[.int .u64 a, .int .u64 b] 23] : Ul W (some ⟨m, 0, none⟩) [a, b] := by
  refine ⟨rfl, fun _ => ⟨_, _, rfl, h.lt, fun j u hu => ?_⟩⟩
  rw [Nat.zero_add, cell?_box]
  have e : ucs [a, b] = (#[.int .u64 a, .int .u64 b] : Array Value).toList := rfl
  rw [e] at hu
  simpa using hu
theorem ex_keep : rkeepL ([] ++ [aL]) [(5, 2), (6, 1), (7, 1)] = [aL] := by
  unfold rkeepL
  rw [sortedL_eq (m := [(5, 2), (6, 1), (7, 1)]) (by simp [SS, ltP]) (fun x => Iff.rfl)]
  rfl
theorem exKeep (MA : Option Addr) (mc : Nat) (CX : Option Addr) (cx : Nat) (W : World) (hm : Sl W MA [(5, 2), (6, 1), (7, 1)]) (hc : Ul W CX [1, 3, 0]) :
    Calls Try.prog 12 #[.slice none 0 0, .agg #[.int .i64 8, .int .i64 6, .int .u64 1, .int .u64 3, .int .i64 1, .int .u64 1, .int .u64 0, .slice none 0 0, .int .u64 9, .slice CX 3 cx, .bool false], .slice MA 3 mc] W fun e w' => ∃ A l c, e = .returned (.slice A l.length c) ∧ LsR w' A l ∧ l.map Lr.x = [aL] ∧ Below W.heap.size W w' := by
  have hy : aL.Ok W none CX := ⟨⟨rfl, fun h => absurd h (by decide)⟩, hc, by decide, by decide, (fun b hb => by cases hb), by decide, by decide⟩
  have h := keep_s none 0 [] ⟨aL, none, 0, CX, cx⟩ MA mc [(5, 2), (6, 1), (7, 1)] W ⟨⟨rfl, fun h => absurd h (by simp)⟩, fun y hy => by cases hy⟩ hy hm (by simp) (by simp)
  rw [show rkeepL (([] : List Lr).map Lr.x ++ [(⟨aL, none, 0, CX, cx⟩ : Lr).x]) [(5, 2), (6, 1), (7, 1)] = [aL] from ex_keep] at h
  refine Calls.mono (show Calls Try.prog 12 #[.slice none 0 0, .agg #[.int .i64 8, .int .i64 6, .int .u64 1, .int .u64 3, .int .i64 1, .int .u64 1, .int .u64 0, .slice none 0 0, .int .u64 9, .slice CX 3 cx, .bool false], .slice MA 3 mc] W _ from h) ?_
  rintro e w' ⟨A, c, l, rfl, he, ho, hb⟩
  refine ⟨A, l, c, rfl, ho.read (fun y hy => ?_), he, hb⟩
  have h1 : y.x ∈ [aL] := by rw [← he]; exact List.mem_map.2 ⟨y, hy, rfl⟩
  simp at h1
  rw [h1]
  exact ⟨by decide, by decide, (fun b hb => by cases hb), by decide, by decide⟩
theorem exReady2 (MA : Option Addr) (mc : Nat) (UA : Option Addr) (uc : Nat) (MB : Option Addr) (nc : Nat) (UB : Option Addr) (ud : Nat) (A : Option Addr) (c : Nat) (l : List Lr) (w : World) (h : ExIn MA mc UA uc MB nc UB ud A c l w) : Calls Try.prog 38 #[.agg #[.int .u64 3, .int .i64 1, .int .u64 1, .slice MA 3 mc, .slice UA 3 uc], .agg #[.int .u64 4, .int .i64 1, .int .u64 1, .slice MB 2 nc, .slice UB 2 ud], .agg #[.int .i64 5, .int .u64 2], .slice A l.length c] w fun e w' => e = .returned (.bool true) ∧ Below w.heap.size w w' :=
  exReady MA mc UA uc MB nc UB ud A c l w h
theorem exTransit2 (MA : Option Addr) (mc : Nat) (UA : Option Addr) (uc : Nat) (MB : Option Addr) (nc : Nat) (UB : Option Addr) (ud : Nat) (A : Option Addr) (c : Nat) (l : List Lr) (w : World) (h : ExIn MA mc UA uc MB nc UB ud A c l w) : Calls Try.prog 39 #[.agg #[.int .u64 3, .int .i64 1, .int .u64 1, .slice MA 3 mc, .slice UA 3 uc], .agg #[.int .u64 4, .int .i64 1, .int .u64 1, .slice MB 2 nc, .slice UB 2 ud], .agg #[.int .i64 5, .int .u64 2], .slice A l.length c] w fun e w' => ∃ TA tc, e = .returned (.slice TA 2 tc) ∧ Below w.heap.size w w' :=
  (exTransit MA mc UA uc MB nc UB ud A c l w h).mono fun _ _ ⟨TA, tc, he, _, hb⟩ => ⟨TA, tc, he, hb⟩
set_option maxRecDepth 100000 in
set_option maxHeartbeats 16000000 in
theorem awake21_t (w : World) : Calls Try.prog 9 #[] w (RetB w true) := by
  go_enter Try.func9, Try.ntmps9
  go_upto_region 2 with (go_at_call 36; (with_reducible refine (exLife _ _ _).mono ?_); rintro e w9 ⟨rfl, rfl⟩)
  go_cut [2] (fun s2 wx => ∃ b2 MA mc UA uc, s2 = .pointer (some ⟨b2, 0, none⟩) ∧ BoxAt wx b2 #[.int .u64 3, .int .i64 1, .int .u64 1, .slice MA 3 mc, .slice UA 3 uc] 100 ∧ Sl wx MA [(5, 2), (6, 1), (7, 1)] ∧ Ul wx UA [1, 1, 1] ∧ BoxAt wx (w.heap.size + 1) #[.int .i64 1, .int .u64 1] 25 ∧ Below w.heap.size w wx)
  case first =>
    go_region_held3 (fun w' => w'.cell? ⟨w.heap.size + 1, 0, none⟩ = some (.int .i64 1) ∧ w'.cell? ⟨w.heap.size + 1, 1, none⟩ = some (.int .u64 1)) ((refine ⟨?_, ?_⟩ <;> (rw [cell?_box]; rfl)))
      (first | (go_at_call 36; (with_reducible refine (exLife _ _ _).mono ?_); rintro e w9 ⟨rfl, rfl⟩) | fail)
    all_goals
      go_wp2
      go_meet
      case rel => exact ⟨_, _, _, _, _, rfl, inferInstance, reads_p3x _ _ _ _ _ _ _ _, reads_uuu _ _ _ _ _, inferInstance, blw⟩
  case rest =>
    obtain ⟨b2, MA, mc, UA, uc, rfl, hb2, hm, hu, hb0, hB⟩ := hcut
    obtain ⟨wa, rfl⟩ : ∃ wa, wa = wc := ⟨wc, rfl⟩
    haveI : Stp w wa := ⟨hB⟩
    haveI := hb2
    haveI := hb0
    have z2 := hb2.lt
    have z0 := hb0.lt
    haveI : LtN b2 wa.heap.size := ⟨z2⟩
    haveI : LtN (w.heap.size + 1) wa.heap.size := ⟨z0⟩
    haveI : LeN w.heap.size wa.heap.size := ⟨by omega⟩
    have HM := hide hm
    have HU := hide hu
    clear hm hu hB hb2 hb0
    go_upto_region 3 with (go_at_call 36; (with_reducible refine (exLife _ _ _).mono ?_); rintro e w9 ⟨rfl, rfl⟩)
    go_cut [3] (fun s3 wx => ∃ b3 MB nc UB ud, s3 = .pointer (some ⟨b3, 0, none⟩) ∧ BoxAt wx b3 #[.int .u64 4, .int .i64 1, .int .u64 1, .slice MB 2 nc, .slice UB 2 ud] 100 ∧ Sl wx MB [(5, 2), (6, 1)] ∧ Ul wx UB [4, 9] ∧ Below wa.heap.size wa wx)
    case first =>
      go_region_held3 (fun w' => w'.cell? ⟨w.heap.size + 1, 0, none⟩ = some (.int .i64 1) ∧ w'.cell? ⟨w.heap.size + 1, 1, none⟩ = some (.int .u64 1)) ((refine ⟨?_, ?_⟩ <;> (rw [cell?_box]; rfl)))
        (first | (go_at_call 36; (with_reducible refine (exLife _ _ _).mono ?_); rintro e w9 ⟨rfl, rfl⟩) | fail)
      all_goals
        go_wp2
        go_meet
        case rel => exact ⟨_, _, _, _, _, rfl, inferInstance, reads_pp _ _ _ _ _ _, reads_uu _ _ _ _, blw⟩
    case rest =>
      obtain ⟨b3, MB, nc, UB, ud, rfl, hb3, hm, hu, hB⟩ := hcut
      obtain ⟨wb, rfl⟩ : ∃ wb, wb = wc := ⟨wc, rfl⟩
      haveI : Stp wa wb := ⟨hB⟩
      haveI := hb3
      have z3 := hb3.lt
      have zb := hB.size
      haveI : LtN b2 wb.heap.size := ⟨by omega⟩
      haveI : LtN b3 wb.heap.size := ⟨by omega⟩
      haveI : LeN w.heap.size wb.heap.size := ⟨by omega⟩
      have HM2 := hide (HM.out.step hB)
      have HU2 := hide (HU.out.step hB)
      have HM3 := hide hm
      have HU3 := hide hu
      clear hm hu hB hb3
      go_upto_region 4 with fail
      go_cut [4] (fun s4 wx => ∃ A c l, s4 = .slice A (l : List Lr).length c ∧ LsR wx A l ∧ l.map Lr.x = [aL] ∧ Below wb.heap.size wb wx)
      case first =>
        go_region_held3 (fun w' => w'.cell? ⟨b2, 0, none⟩ = some (.int .u64 3) ∧ w'.cell? ⟨b2, 1, none⟩ = some (.int .i64 1) ∧ w'.cell? ⟨b2, 2, none⟩ = some (.int .u64 1) ∧ w'.cell? ⟨b2, 3, none⟩ = some (.slice MA 3 mc) ∧ w'.cell? ⟨b2, 4, none⟩ = some (.slice UA 3 uc)) ((refine ⟨?_, ?_, ?_, ?_, ?_⟩ <;> (rw [cell?_box]; rfl)))
          (first | (go_at_call 36; (with_reducible refine (exLife _ _ _).mono ?_); rintro e w9 ⟨rfl, rfl⟩) | (go_at_call 12; with_reducible refine Calls.mono (exKeep MA mc _ _ _ ?_ ?_) ?_; (focus (exact HM2.out.step blw)); (focus (exact reads_uuu _ _ _ _ _)); rintro e w8 ⟨A8, l8, c8, rfl, hl8, he8, hb8⟩; haveI : Stp _ w8 := ⟨hb8⟩; have HL8 := hide hl8; have HE8 := hide he8; clear hl8 he8 hb8) | fail)
        all_goals
          go_wp2
          go_meet
          case rel => exact ⟨A8, c8, l8, rfl, HL8.out, HE8.out, blw⟩
      case rest =>
        obtain ⟨A, c, l, rfl, hl, he, hB⟩ := hcut
        obtain ⟨wd, rfl⟩ : ∃ wd, wd = wc := ⟨wc, rfl⟩
        haveI : Stp wb wd := ⟨hB⟩
        have zd := hB.size
        haveI : LtN b2 wd.heap.size := ⟨by omega⟩
        haveI : LtN b3 wd.heap.size := ⟨by omega⟩
        haveI : LeN w.heap.size wd.heap.size := ⟨by omega⟩
        have HEX := hide (show ExIn MA mc UA uc MB nc UB ud A c l wd from ⟨⟨HM2.out.step hB, HU2.out.step hB, by simp [vA], by simp [vA]⟩, ⟨HM3.out.step hB, HU3.out.step hB, by simp [vB], by simp [vB]⟩, hl, he⟩)
        have e1 : ((l.length : Int) == 1) = true := by rw [exLen he]; rfl
        have HE1 := hide e1
        clear hl he hB e1
        go_upto_region 5 with fail
        go_cut [5] (fun s5 wx => ∃ g, s5 = .slice (some ⟨g, 0, none⟩) 3 3 ∧ BoxAt wx g #[.int .u64 2, .int .u64 3, .int .u64 1] 23 ∧ Below wd.heap.size wd wx)
        case first =>
          go_region_held3 (fun w' => w'.cell? ⟨b2, 0, none⟩ = some (.int .u64 3) ∧ w'.cell? ⟨b2, 1, none⟩ = some (.int .i64 1) ∧ w'.cell? ⟨b2, 2, none⟩ = some (.int .u64 1) ∧ w'.cell? ⟨b2, 3, none⟩ = some (.slice MA 3 mc) ∧ w'.cell? ⟨b2, 4, none⟩ = some (.slice UA 3 uc) ∧ w'.cell? ⟨b3, 0, none⟩ = some (.int .u64 4) ∧ w'.cell? ⟨b3, 1, none⟩ = some (.int .i64 1) ∧ w'.cell? ⟨b3, 2, none⟩ = some (.int .u64 1) ∧ w'.cell? ⟨b3, 3, none⟩ = some (.slice MB 2 nc) ∧ w'.cell? ⟨b3, 4, none⟩ = some (.slice UB 2 ud)) ((refine ⟨?_, ?_, ?_, ?_, ?_, ?_, ?_, ?_, ?_, ?_⟩ <;> (rw [cell?_box]; rfl)))
            (first | (go_at_call 36; (with_reducible refine (exLife _ _ _).mono ?_); rintro e w9 ⟨rfl, rfl⟩) | (go_at_call 37; with_reducible refine Calls.mono (exGoal MA mc UA uc MB nc UB ud A c l _ _ _ ?_ ?_) ?_; (focus (exact HEX.out.step blw)); (focus (exact reads_uuu _ _ _ _ _)); rintro e w8 ⟨g8, rfl, hg8, hb8⟩; haveI : Stp _ w8 := ⟨hb8⟩; haveI := hg8; clear hg8 hb8) | fail)
          all_goals
            go_wp2
            go_meet
            case rel => exact ⟨_, rfl, inferInstance, blw⟩
        case rest =>
          obtain ⟨g, rfl, hg, hB⟩ := hcut
          obtain ⟨we, rfl⟩ : ∃ we, we = wc := ⟨wc, rfl⟩
          haveI : Stp wd we := ⟨hB⟩
          haveI := hg
          have ze := hB.size
          have zg := hg.lt
          haveI : LtN b2 we.heap.size := ⟨by omega⟩
          haveI : LtN b3 we.heap.size := ⟨by omega⟩
          haveI : LtN g we.heap.size := ⟨zg⟩
          haveI : LeN w.heap.size we.heap.size := ⟨by omega⟩
          have e1 := HE1.out
          clear hB hg
          go_wp2_with fail
          go_region_held3 (fun w' => w'.cell? ⟨b2, 0, none⟩ = some (.int .u64 3) ∧ w'.cell? ⟨b2, 1, none⟩ = some (.int .i64 1) ∧ w'.cell? ⟨b2, 2, none⟩ = some (.int .u64 1) ∧ w'.cell? ⟨b2, 3, none⟩ = some (.slice MA 3 mc) ∧ w'.cell? ⟨b2, 4, none⟩ = some (.slice UA 3 uc) ∧ w'.cell? ⟨b3, 0, none⟩ = some (.int .u64 4) ∧ w'.cell? ⟨b3, 1, none⟩ = some (.int .i64 1) ∧ w'.cell? ⟨b3, 2, none⟩ = some (.int .u64 1) ∧ w'.cell? ⟨b3, 3, none⟩ = some (.slice MB 2 nc) ∧ w'.cell? ⟨b3, 4, none⟩ = some (.slice UB 2 ud) ∧ w'.cell? ⟨g, 0, none⟩ = some (.int .u64 2) ∧ w'.cell? ⟨g, 1, none⟩ = some (.int .u64 3) ∧ w'.cell? ⟨g, 2, none⟩ = some (.int .u64 1)) ((refine ⟨?_, ?_, ?_, ?_, ?_, ?_, ?_, ?_, ?_, ?_, ?_, ?_, ?_⟩ <;> (rw [cell?_box]; rfl)))
            (first
              | (go_at_call 36; (with_reducible refine (exLife _ _ _).mono ?_); rintro e w9 ⟨rfl, rfl⟩)
              | (go_at_call 39; with_reducible refine Calls.mono (exTransit2 MA mc UA uc MB nc UB ud A c l _ ?_) ?_; (focus (exact HEX.out.step blw)); rintro e w7 ⟨TA, tc, rfl, hb7⟩; haveI : Stp _ w7 := ⟨hb7⟩; clear hb7)
              | (go_at_call 38; with_reducible refine Calls.mono (exReady2 MA mc UA uc MB nc UB ud A c l _ ?_) ?_; (focus (exact HEX.out.step blw)); rintro e w8 ⟨rfl, hb8⟩; haveI : Stp _ w8 := ⟨hb8⟩; clear hb8)
              )
          all_goals
            go_wp2
            go_ret
            exact ⟨rfl, blw⟩
end Go.Proofs.Ytmleeohaaipdcaa
