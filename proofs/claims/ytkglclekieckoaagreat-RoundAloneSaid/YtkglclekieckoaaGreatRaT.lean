/-
  RoundAlone: behind the region of Renew's call.
-/
import Derived.Test.YtkglclekieckoaaGreatRaJ
namespace Go.Proofs.YtkglclekieckoaaGreat
set_option linter.unusedSimpArgs false
set_option linter.unusedVariables false
set_option linter.unusedSectionVars false
open Go.RowKit

theorem viewP_one (p : Pp) : viewP [p] = viewP [p.br] := (viewP_br [p]).symm
set_option maxRecDepth 100000 in
set_option maxHeartbeats 16000000 in
set_option synthInstance.maxSize 1000 in
theorem ra_tail (w W : World) (D : List Nat) (node cid seen : Int) (c0 : 0 ≤ cid) (c1 : cid < 18446744073709551615) (s0 : 0 ≤ seen) (s1 : seen < 18446744073709551614) (b : Ag) (u : Tu) (n8 n9 : Nat) (T : Array Value) (hz : T.size = 92)
    (h0 : T[0]? = some (.int .u64 cid)) (h1 : T[1]? = some (.int .u64 seen)) (h8 : T[8]? = some (.pointer (some ⟨n8, 0, none⟩))) (h9 : T[9]? = some (.pointer (some ⟨n9, 0, none⟩)))
    (hk8 : BoxAt W n8 b.cs 38) (hk9 : BoxAt W n9 u.cs 43) (hrd : b.rd = seen + 1) (hdn : b.dn = true) (hmd : u.md = true) (hvw : u.vw.br = aloneV 2 3 node 1 (cid + 1) (seen + 1)) (hpp : u.pp.br = aloneP 2 3 node 1 (cid + 1) (seen + 1))
    (huo : @Tu.Ok (avo D) W u) (hB : Below w.heap.size w W) (hV : viewP [aloneP 2 3 node 1 (cid + 1) (seen + 1)] = some ((seen + 1, 2, 3), [(node, 1)], [cid + 1])) (hwf : wfP (node, 1)) :
    Code.wp Tryz.prog (cdP [true, true, true, true] (Tryz.f3.body.getD .skip)) (bodyPost Tryz.prog Tryz.f3 (RetB w true)) ⟨T, []⟩ W := by
  obtain ⟨f, hf, hT⟩ := frame_lsf hz
  rw [hT, show (lsf f 0 92).toArray = #[f 0, f 1, f 2, f 3, f 4, f 5, f 6, f 7, f 8, f 9, f 10, f 11, f 12, f 13, f 14, f 15, f 16, f 17, f 18, f 19, f 20, f 21, f 22, f 23, f 24, f 25, f 26, f 27, f 28, f 29, f 30, f 31, f 32, f 33, f 34, f 35, f 36, f 37, f 38, f 39, f 40, f 41, f 42, f 43, f 44, f 45, f 46, f 47, f 48, f 49, f 50, f 51, f 52, f 53, f 54, f 55, f 56, f 57, f 58, f 59, f 60, f 61, f 62, f 63, f 64, f 65, f 66, f 67, f 68, f 69, f 70, f 71, f 72, f 73, f 74, f 75, f 76, f 77, f 78, f 79, f 80, f 81, f 82, f 83, f 84, f 85, f 86, f 87, f 88, f 89, f 90, f 91] from rfl, hf 0 _ h0, hf 1 _ h1, hf 8 _ h8, hf 9 _ h9]
  clear hf hT h0 h1 h8 h9 hz T
  conv => arg 2; dsimp only [cdP, Tryz.f3, Option.getD]
  have TA := hide (fun W => awake18_t W)
  haveI := hk8
  haveI := hk9
  haveI : Blw w W := ⟨hB⟩
  have z9 := hk9.lt
  have z8 := hk8.lt
  obtain ⟨huo1, huo2⟩ := huo
  obtain ⟨_, _, hpo, hvo⟩ := huo1
  have hpok : u.pp.Ok W := by
    obtain ⟨p1, p2, p3, p4, p5, p6⟩ := hpo
    exact ⟨p1.1, p2, p3.1, p4, p5.1, p6⟩
  obtain ⟨v1, v2, v3, v4⟩ := hvo
  have hvok : u.vw.Ok W := ⟨v1.1, v3.1, v2, v4⟩
  have e1 : u.vw.r = seen + 1 := congrArg Vw.r hvw
  have e2 : u.vw.n = 2 := congrArg Vw.n hvw
  have e3 : u.vw.i = 3 := congrArg Vw.i hvw
  have e4 : u.vw.ms = [(node, 1)] := congrArg Vw.ms hvw
  have e5 : u.vw.us = [cid + 1] := congrArg Vw.us hvw
  have ec : u.pp.cs = [(node, 1)] := congrArg Pp.cs hpp
  have TV := hide (fun (m : Nat) (c : Nat) W' (hb : Below W.heap.size W W') (hbx : BoxAt W' m #[.int .i64 u.pp.n, .int .u64 u.pp.i, .int .u64 u.pp.rd, .slice u.pp.SA u.pp.ss.length u.pp.sc, .slice u.pp.CA u.pp.cs.length u.pp.cc, .slice u.pp.UA u.pp.us.length u.pp.uc] 41) =>
    (by
      have h1 := pview_f (some ⟨m, 0, none⟩) c [u.pp] W' ⟨@reads_pq1x W' m u.pp hbx, fun x hx => by rw [List.mem_singleton.1 hx]; exact hpok.step hb⟩ (by simp) (fun x hx p hp => by
        rw [List.mem_singleton.1 hx, ec] at hp
        rw [List.mem_singleton.1 hp]
        exact hwf)
      rw [viewP_one, hpp, hV] at h1
      exact h1 : Calls Tryz.prog 11 #[.slice (some ⟨m, 0, none⟩) 1 c] W' (fun e w' => ∃ MA mc UA uc, e = .returned (.tuple #[.agg #[.int .u64 (seen + 1), .int .i64 2, .int .u64 3, .slice MA 1 mc, .slice UA 1 uc], .bool true]) ∧ Vw.Ok w' ⟨seen + 1, 2, 3, MA, mc, [(node, 1)], UA, uc, [cid + 1]⟩ ∧ (∀ a, MA = some a → W'.heap.size ≤ a.block) ∧ (∀ a, UA = some a → W'.heap.size ≤ a.block) ∧ Below W'.heap.size W' w')))
  have TS := hide (fun (MA : Option Addr) (mc : Nat) (UA : Option Addr) (uc : Nat) W' (hb : Below W.heap.size W W') (h : Vw.Ok W' ⟨seen + 1, 2, 3, MA, mc, [(node, 1)], UA, uc, [cid + 1]⟩) =>
    (by
      have h1 := vsame_s ⟨seen + 1, 2, 3, MA, mc, [(node, 1)], UA, uc, [cid + 1]⟩ u.vw W' h (hvok.step hb)
      rw [show Vw.eqB ⟨seen + 1, 2, 3, MA, mc, [(node, 1)], UA, uc, [cid + 1]⟩ u.vw = true from decide_eq_true ⟨e1.symm, e2.symm, e3.symm, e4.symm, e5.symm⟩] at h1
      exact h1 : Calls Tryz.prog 12 #[.agg #[.int .u64 (seen + 1), .int .i64 2, .int .u64 3, .slice MA 1 mc, .slice UA 1 uc], .agg #[.int .u64 u.vw.r, .int .i64 u.vw.n, .int .u64 u.vw.i, .slice u.vw.MA u.vw.ms.length u.vw.mc, .slice u.vw.UA u.vw.us.length u.vw.uc]] W' (fun e w' => e = .returned (.bool true) ∧ Below W'.heap.size W' w')))
  have hus := v3.1
  have e6 : u.vw.us.length = 1 := by rw [e5]; rfl
  have e7 : u.vw.ms.length = 1 := by rw [e4]; rfl
  rw [e5] at hus
  obtain ⟨bb, off, x, hA, hbb, hx, hc⟩ := Reads.atU (k := 0) hus (by simp)
  obtain rfl : x = cid + 1 := by simpa using hx.symm
  simp only [e6, e7, hA] at TS
  haveI : InW bb W := ⟨hbb⟩
  haveI : CellAt W bb (off + 0) (.int .u64 (cid + 1)) := ⟨hbb, hc⟩
  have HB := hide hB
  clear hk8 hk9 hvw hpp hV hwf huo2 hpo v1 v2 v3 v4 hpok hvok e1 e2 e3 e4 e5 ec hus hx hc hB
  go_wp2_with fail
  (with_reducible refine (TV.out _ _ _ ?_ ?_).mono ?_)
  · exact blw
  · exact inferInstance
  rintro e w2 ⟨MA, mc, UA, uc, rfl, hok, -, -, hb2⟩
  haveI : Stp _ w2 := ⟨hb2⟩
  have HOK := hide hok
  clear hok hb2 TV
  go_wp2_with (first
    | (go_at_call 12; (with_reducible refine (TS.out _ _ _ _ _ ?_ ?_).mono ?_); (focus (exact blw)); (focus (exact HOK.out.step blw)); rintro e w3 ⟨rfl, hb3⟩; haveI : Stp _ w3 := ⟨hb3⟩; clear hb3)
    | (go_at_call 7; (with_reducible refine (TA.out _).mono ?_); rintro e w4 ⟨rfl, hb4⟩; haveI : Stp _ w4 := ⟨hb4⟩; clear hb4))
  go_ret
  exact ⟨by simp, blw⟩
end Go.Proofs.YtkglclekieckoaaGreat
