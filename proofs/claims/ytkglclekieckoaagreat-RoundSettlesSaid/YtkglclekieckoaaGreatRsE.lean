/-
  RoundSettles: one comes: Take.
-/
import Derived.Test.YtkglclekieckoaaGreatRsD
import Derived.Test.YtkglclekieckoaaGreatMn6c
namespace Go.Proofs.YtkglclekieckoaaGreat
set_option linter.unusedSimpArgs false
set_option linter.unusedVariables false
set_option linter.unusedSectionVars false
open Go.RowKit

set_option maxRecDepth 100000 in
set_option maxHeartbeats 16000000 in
set_option synthInstance.maxSize 1000 in
theorem rs_35 (Q : Exit → Act → World → Prop) (W : World) (n : Nat) (C E : List Nat) (aa : Nat → Ag) (inc cc : Nat → Int) (SA : Option Addr) (sc : Nat) (S : List Pp) (VA : Option Addr) (vc : Nat) (V : List Vw) (m20 : Nat) (x : Wq) (T : Array Value) (hz : T.size = 178)
    (h9 : T[9]? = some (.pointer (some ⟨n, 0, none⟩))) (h20 : T[20]? = some (.pointer (some ⟨m20, 0, none⟩)))
    (hM : MWE W C E n aa inc cc SA sc S VA vc V) (hO : OneS aa inc cc S V) (hbx : BoxAt W m20 x.cs7 84) (hpo : @PpO (avo (C ++ E)) W [] x.pp) (hmx : x.pp.br ∈ S.map Pp.br) (hw : x.ds < 4)
    (hq : ∀ (T' : Array Value) (W' : World) (n21 n22 : Nat) (b : Ag) (u : Tu), T'.size = 178 → (∀ j ∈ [1, 2, 3, 9, 11, 13, 18, 20], T'[j]? = T[j]?) → T'[21]? = some (.pointer (some ⟨n21, 0, none⟩)) → T'[22]? = some (.pointer (some ⟨n22, 0, none⟩)) → BoxAt W' n21 b.cs 38 → BoxAt W' n22 u.cs 43 → TOk (S.map Pp.br) (ofN cc) x.ds (aa x.ds).br b.br u.br → MBx aa cc S b u → b.br = (takeP (aa x.ds).br x.pp.br).1 → u.br = (takeP (aa x.ds).br x.pp.br).2 → @Ag.Ok (avo (C ++ E)) W' b → @Tu.Ok (avo (C ++ E)) W' u → Below W.heap.size W W' → (W.heap.size ≤ n22) → Q .normal ⟨T', []⟩ W') :
    Code.wp Tryz.prog (cdP [true, true, true, true, true, true, true, true, false, true, false, false, true, false, false, true, true, true, true, true, false] (Tryz.f6.body.getD .skip)) Q ⟨T, []⟩ W := by
  obtain ⟨f, hf, hT⟩ := frameRs hz
  have HQ := hide hq
  subst hT
  have e9 := hf 9 _ h9
  have e20 := hf 20 _ h20
  have HE9 := hide e9
  have HE20 := hide e20
  rw [e9, e20]
  haveI hbn := hM.m.bx
  haveI hb20 : BoxAt W m20 #[.int .i64 x.ds, .int .i64 x.pp.n, .int .u64 x.pp.i, .int .u64 x.pp.rd, .slice x.pp.SA x.pp.ss.length x.pp.sc, .slice x.pp.CA x.pp.cs.length x.pp.cc, .slice x.pp.UA x.pp.us.length x.pp.uc] 84 := hbx
  have hn := hbn.lt
  have hn20 := hb20.lt
  haveI : LtN n W.heap.size := ⟨hn⟩
  haveI : LtN m20 W.heap.size := ⟨hn20⟩
  have HM := hide hM
  have HO := hide hO
  have hC : ∀ i ∈ C ++ E, i < W.heap.size := fun i hi => by
    rcases List.mem_append.1 hi with h1 | h1
    · exact hM.m.lt i h1
    · exact hM.lt i h1
  have i0 : (0 : Int) ≤ (x.ds : Int) := by omega
  have i1 : (x.ds : Int) < 4 := by omega
  have TCX := hide (fun W' (hb : Below W.heap.size W W') => refPCopyQ_s x.pp W' (@PpO.ok (avo (C ++ E)) W' [] x.pp (hpo.over (.bel hb))))
  have TTX := hide (fun (A1 : Option Addr) (c1 : Nat) (A2 : Option Addr) (c2 : Nat) (A3 : Option Addr) (c3 : Nat) W' (hb : Below W.heap.size W W') (h1 : W'.ownsRow W.heap.size 25 2 (.slice A1 x.pp.ss.length c1) x.pp.ss.length (pcs x.pp.ss)) (h2 : W'.ownsRow W.heap.size 25 2 (.slice A2 x.pp.cs.length c2) x.pp.cs.length (pcs x.pp.cs)) (h3 : W'.ownsRow W.heap.size 22 1 (.slice A3 x.pp.us.length c3) x.pp.us.length (ucs x.pp.us)) =>
    (by
      have hlt : ∀ i ∈ C ++ E, i < W'.heap.size := fun i hi => Nat.lt_of_lt_of_le (hC i hi) hb.size
      obtain ⟨o1, o2, _⟩ := HO.out.st.ok x.pp.br hmx
      obtain ⟨_, g2, _, g4, _, g6⟩ := hpo
      refine (take18_s (DFb (C ++ E) W.heap.size W') (aa x.ds) ⟨x.pp.n, x.pp.i, x.pp.rd, A1, c1, x.pp.ss, A2, c2, x.pp.cs, A3, c3, x.pp.us⟩ W' ((HM.out.ag x.ds hw).over (DFb.tr hb)) (DFb.lt hlt) (HO.out.srv x.ds hw).inv (@PpO.mk (avo (DFb (C ++ E) W.heap.size W')) W' [] _ (DFb.row h1 hC rfl) g2 (DFb.row h2 hC rfl) g4 (DFb.row h3 hC rfl) g6) ⟨o2.rg, o2.wf⟩).mono ?_
      rintro e w' ⟨b, u, q1, q2, q3, q4, q5, q6⟩
      have e : takeP (aa x.ds).br (⟨x.pp.n, x.pp.i, x.pp.rd, A1, c1, x.pp.ss, A2, c2, x.pp.cs, A3, c3, x.pp.us⟩ : Pp) = takeP (aa x.ds).br x.pp.br := rfl
      have hT : TOk (S.map Pp.br) (ofN cc) x.ds (aa x.ds).br b.br u.br := by
        rw [q1, q2, e]
        exact (HO.out.srv x.ds hw).take HO.out.st hmx
      have hMB : MBx aa cc S b u := fun B hB hb => by
        rw [q1, q2, e]
        refine (HO.out.srv x.ds hw).take_mb HO.out.st (fun g hg => ?_) (hB.mb hw) hB.b0 hb hmx
        obtain ⟨g', hg', rfl⟩ := List.mem_map.1 hg
        exact hB.sn g' hg'
      exact ⟨DFb (C ++ E) W.heap.size W', b, u, fun m cs hm hmb => ⟨DFb.ag hmb hm⟩, fun m cs hm hmb => ⟨DFb.tu hmb hm⟩, fun i hi => mem_DF.2 (.inl hi), hT, hMB, by rw [q1, e], by rw [q2, e], q3, q4, q5, q6⟩ : Calls Tryz.prog 14 #[(aa x.ds).v, .agg #[.int .i64 x.pp.n, .int .u64 x.pp.i, .int .u64 x.pp.rd, .slice A1 x.pp.ss.length c1, .slice A2 x.pp.cs.length c2, .slice A3 x.pp.us.length c3]] W' (fun e w' => ∃ (D : List Nat) (b : Ag) (u : Tu), (∀ m cs, W.heap.size ≤ m → BoxAt W' m cs 38 → InL m D) ∧ (∀ m cs, W.heap.size ≤ m → BoxAt W' m cs 43 → InL m D) ∧ (∀ i ∈ C ++ E, i ∈ D) ∧ TOk (S.map Pp.br) (ofN cc) x.ds (aa x.ds).br b.br u.br ∧ MBx aa cc S b u ∧ b.br = (takeP (aa x.ds).br x.pp.br).1 ∧ u.br = (takeP (aa x.ds).br x.pp.br).2 ∧ e = .returned (.tuple #[b.v, u.v]) ∧ @Ag.Ok (avo D) w' b ∧ @Tu.Ok (avo D) w' u ∧ Below W'.heap.size W' w')))
  clear hq h9 h20 hz hf e9 e20 hM hO hbx hpo hmx hC
  conv => arg 2; dsimp only [cdP, Tryz.f6, Option.getD]
  go_region_held3 (fun w' => (ldAg ⟨n, x.ds * 14, none⟩).run Tryz.prog w' = .ok (.agg (aa x.ds).cs) w' ∧ w'.cell? ⟨m20, 0, none⟩ = some (.int .i64 x.ds) ∧ w'.cell? ⟨m20, 1, none⟩ = some (.int .i64 x.pp.n) ∧ w'.cell? ⟨m20, 2, none⟩ = some (.int .u64 x.pp.i) ∧ w'.cell? ⟨m20, 3, none⟩ = some (.int .u64 x.pp.rd) ∧ w'.cell? ⟨m20, 4, none⟩ = some (.slice x.pp.SA x.pp.ss.length x.pp.sc) ∧ w'.cell? ⟨m20, 5, none⟩ = some (.slice x.pp.CA x.pp.cs.length x.pp.cc) ∧ w'.cell? ⟨m20, 6, none⟩ = some (.slice x.pp.UA x.pp.us.length x.pp.uc)) ((refine ⟨?_, ?_, ?_, ?_, ?_, ?_, ?_, ?_⟩ <;> (first | exact ldAg_many _ n aa inc cc _ _ _ x.ds hw | (rw [cell?_box]; rfl))))
    (first
      | (go_at_call 26; (with_reducible refine (TCX.out _ ?_).mono ?_); (focus (exact blw)); rintro e w4 ⟨A1, c1, A2, c2, A3, c3, rfl, ho1, ho2, ho3, hb4⟩; have O1 := hide (own_base ho1 (blw (a := W)).size); have O2 := hide (own_base ho2 (blw (a := W)).size); have O3 := hide (own_base ho3 (blw (a := W)).size); haveI : Stp _ w4 := ⟨hb4⟩; haveI : LtN n w4.heap.size := ⟨BoxAt.lt (n := n) (w := w4) inferInstance⟩; haveI : LtN m20 w4.heap.size := ⟨BoxAt.lt (n := m20) (w := w4) inferInstance⟩; haveI : LeN W.heap.size w4.heap.size := ⟨(blw (a := W) (W := w4)).size⟩; (try have : LtN (W.heap.size) w4.heap.size := ⟨BoxAt.lt (n := W.heap.size) (w := w4) inferInstance⟩); (try have : LtN (W.heap.size + 1) w4.heap.size := ⟨BoxAt.lt (n := W.heap.size + 1) (w := w4) inferInstance⟩); clear ho1 ho2 ho3 hb4)
      | (go_at_call 14; (with_reducible refine (TTX.out A1 c1 A2 c2 A3 c3 _ ?_ ?_ ?_ ?_).mono ?_); (focus (exact blw)); (focus (exact own_tc O1.out)); (focus (exact own_tc O2.out)); (focus (exact own_tc O3.out)); rintro e w5 ⟨D, b, u, hD1, hD2, hD3, hT, hmb, hbr, hur, rfl, hbo, huo, hb5⟩; haveI : Stp _ w5 := ⟨hb5⟩; haveI : LtN n w5.heap.size := ⟨BoxAt.lt (n := n) (w := w5) inferInstance⟩; haveI : LtN m20 w5.heap.size := ⟨BoxAt.lt (n := m20) (w := w5) inferInstance⟩; haveI : LeN W.heap.size w5.heap.size := ⟨(blw (a := W) (W := w5)).size⟩; (try have : LtN (W.heap.size) w5.heap.size := ⟨BoxAt.lt (n := W.heap.size) (w := w5) inferInstance⟩); (try have : LtN (W.heap.size + 1) w5.heap.size := ⟨BoxAt.lt (n := W.heap.size + 1) (w := w5) inferInstance⟩); (try have : LtN (w4.heap.size) w5.heap.size := ⟨BoxAt.lt (n := w4.heap.size) (w := w5) inferInstance⟩); (try have : LtN (w4.heap.size + 1) w5.heap.size := ⟨BoxAt.lt (n := w4.heap.size + 1) (w := w5) inferInstance⟩); (try have : InL (W.heap.size) D := hD1 _ _ (LeN.h) inferInstance); (try have : InL (W.heap.size) D := hD2 _ _ (LeN.h) inferInstance); (try have : InL (W.heap.size + 1) D := hD1 _ _ (LeN.h) inferInstance); (try have : InL (W.heap.size + 1) D := hD2 _ _ (LeN.h) inferInstance); (try have : InL (w4.heap.size) D := hD1 _ _ (LeN.h) inferInstance); (try have : InL (w4.heap.size) D := hD2 _ _ (LeN.h) inferInstance); (try have : InL (w4.heap.size + 1) D := hD1 _ _ (LeN.h) inferInstance); (try have : InL (w4.heap.size + 1) D := hD2 _ _ (LeN.h) inferInstance); have HT := hide hT; have HMB := hide hmb; have HBR := hide hbr; have HUR := hide hur; have HBO := hide hbo; have HUO := hide huo; have HD := hide hD3; clear hT hmb hbr hur hbo huo hb5 hD1 hD2 hD3)
      | fail)
  all_goals
    refine HQ.out _ _ _ _ b u (by rfl) (by intro j hj; simp at hj; rcases hj with rfl | rfl | rfl | rfl | rfl | rfl | rfl | rfl <;> first | rfl | exact congrArg some HE9.out.symm | exact congrArg some HE20.out.symm) (by rfl) (by rfl) inferInstance inferInstance HT.out HMB.out HBR.out HUR.out ?_ ?_ blw ?_
    · exact HBO.out.over ((Trc.h (C := D) (a := w5)).re (fun i hi => .inl (HD.out i hi)))
    · exact HUO.out.over ((Trc.h (C := D) (a := w5)).re (fun i hi => .inl (HD.out i hi)))
    · have hw4 := (blw (a := W) (W := w4)).size; have hw5 := (blw (a := W) (W := w5)).size; omega
end Go.Proofs.YtkglclekieckoaaGreat

namespace Go.Proofs.YtkglclekieckoaaGreat
set_option linter.unusedSimpArgs false
set_option linter.unusedVariables false
set_option linter.unusedSectionVars false
open Go.RowKit

set_option maxRecDepth 100000 in
set_option maxHeartbeats 16000000 in
set_option synthInstance.maxSize 1000 in
theorem rs_t4 (Q : Exit → Act → World → Prop) (W : World) (base n : Nat) (M : Ms) (Y : Wy) (OA : Option Addr) (oc : Nat) (O : List Nat) (m20 n21 n22 : Nat) (b : Ag) (u : Tu) (T : Array Value) (hz : T.size = 178)
    (h9 : T[9]? = some (.pointer (some ⟨n, 0, none⟩))) (h11 : T[11]? = some (.slice OA O.length oc)) (h13 : T[13]? = some Y.v) (h20 : T[20]? = some (.pointer (some ⟨m20, 0, none⟩))) (h21 : T[21]? = some (.pointer (some ⟨n21, 0, none⟩))) (h22 : T[22]? = some (.pointer (some ⟨n22, 0, none⟩))) (x : Wq)
    (hS : WS base W n M Y OA O) (hbx : BoxAt W m20 x.cs7 84) (hm20C : m20 ∉ M.C) (hb21 : BoxAt W n21 b.cs 38) (hb22 : BoxAt W n22 u.cs 43) (hn22C : n22 ∉ M.C) (hw : x.ds < 4) (h4 : O.length ≤ 4) (hls : M.S.length ≤ 1000) (hlv : M.V.length ≤ 1000) (hlw : Y.l.length ≤ 1000)
    (hT : TOk (M.S.map Pp.br) (ofN M.cc) x.ds (M.aa x.ds).br b.br u.br) (hbo : @Ag.Ok (avo (M.C ++ Y.E)) W b) (huo : @Tu.Ok (avo (M.C ++ Y.E)) W u)
    (hq : ∀ (T' : Array Value) (W' : World) (C' : List Nat) (SA' : Option Addr) (sc' : Nat) (VA' : Option Addr) (vc' : Nat) (Y' : Wy), T'.size = 178 → (∀ j ∈ [1, 2, 3, 9, 11, 18], T'[j]? = T[j]?) → T'[13]? = some Y'.v → Y'.l = (if u.sd = true then Y.l ++ sentW O x.ds u.pp else Y.l) → WS base W' n (M.turned C' SA' sc' VA' vc' x.ds b u) Y' OA O → Below base W W' → Q .normal ⟨T', []⟩ W') :
    Code.wp Tryz.prog (cdP [true, true, true, true, true, true, true, true, false, true, false, false, true, false, false, true, true, true, true, true, true] (Tryz.f6.body.getD .skip)) Q ⟨T, []⟩ W := by
  obtain ⟨f, hf, hT'⟩ := frameRs hz
  have HQ := hide hq
  subst hT'
  obtain ⟨YA, yc, l⟩ := Y
  have e13 := hf 13 (.slice YA l.length yc) h13
  have e9 := hf 9 _ h9
  have HE9 := hide e9
  have e11 := hf 11 _ h11
  have HE11 := hide e11
  have e20 := hf 20 _ h20
  have HE20 := hide e20
  have e21 := hf 21 _ h21
  have HE21 := hide e21
  have e22 := hf 22 _ h22
  have HE22 := hide e22
  rw [e13, e9, e11, e20, e21, e22]
  haveI hbn := hS.m.m.bx
  have hn := hbn.lt
  haveI hbx21 := hb21
  haveI hbx22 := hb22
  haveI hb20 : BoxAt W m20 #[.int .i64 x.ds, .int .i64 x.pp.n, .int .u64 x.pp.i, .int .u64 x.pp.rd, .slice x.pp.SA x.pp.ss.length x.pp.sc, .slice x.pp.CA x.pp.cs.length x.pp.cc, .slice x.pp.UA x.pp.us.length x.pp.uc] 84 := hbx
  have hC1 : ∀ {D : Avoid} , True := trivial
  have t1 : Tr (M.C ++ (⟨YA, yc, l⟩ : Wy).E) M.C W W := (Tr.refl _ _).re fun i hi => .inl (List.mem_append_left _ hi)
  have TT := hide (turned18_s n M.C M.aa M.inc M.cc M.SA M.sc M.S M.VA M.vc M.V (x.ds) b u W hS.m.m hw (hbo.over t1) (huo.over t1) (M.S.map Pp.br) hT hls hlv (hS.o.one hw hT))
  have HS := hide hS
  have HBO := hide hbo
  have HUO := hide huo
  have HT := hide hT
  have HW := hide hw
  have HLW := hide hlw
  have H4 := hide h4
  clear hq h13 e13 h9 e9 h11 e11 h20 e20 h21 e21 h22 e22 hz hf hS hb21 hb22 hls hlv hbo huo hT t1 hC1 h4 hlw
  conv => arg 2; dsimp only [cdP, Tryz.f6, Option.getD]
  go_wp2_with fail
  (with_reducible refine (TT.out).mono ?_)
  rintro e w2 ⟨C', SA', sc', VA', vc', rfl, hM, htr⟩
  have hws : WS base w2 n (M.turned C' SA' sc' VA' vc' (x.ds) b u) ⟨YA, yc, l⟩ OA O := HS.out.turned HW.out HT.out HBO.out HUO.out hM htr
  have hbl : Below base W w2 := htr.g.below HS.out.bl HS.out.cb
  have hcb := HS.out.cb
  haveI hbb20 : BoxAt w2 m20 #[.int .i64 x.ds, .int .i64 x.pp.n, .int .u64 x.pp.i, .int .u64 x.pp.rd, .slice x.pp.SA x.pp.ss.length x.pp.sc, .slice x.pp.CA x.pp.cs.length x.pp.cc, .slice x.pp.UA x.pp.us.length x.pp.uc] 84 := (htr.box hb20 hm20C).1
  haveI hbb22 : BoxAt w2 n22 u.cs 43 := (htr.box hbx22 hn22C).1
  have HWS := hide hws
  have HBL := hide hbl
  clear hM htr hws hbl TT hcb
  cases hsd : u.sd
  · have HSD := hide hsd
    go_wp2_with fail
    exact HQ.out _ _ C' SA' sc' VA' vc' ⟨YA, yc, l⟩ (by rfl) (by intro j hj; simp at hj; rcases hj with rfl | rfl | rfl | rfl | rfl | rfl <;> first | rfl  | exact congrArg some HE9.out.symm | exact congrArg some HE11.out.symm) (by rfl) (by rw [if_neg (by rw [HSD.out]; simp)]) HWS.out HBL.out
  · have HSD := hide hsd
    have TS := hide (sent18_s base YA yc l OA oc O (x.ds) u.pp w2 HWS.out.way HWS.out.bl (HWS.out.on.less (fun i hi => List.mem_append_right _ hi)) HLW.out H4.out)
    go_wp2_with fail
    (with_reducible refine (TS.out).mono ?_)
    rintro e w3 ⟨B, d, rfl, ho3, ht3⟩
    have hws3 := HWS.out.sent (Y := ⟨YA, yc, l⟩) HSD.out ho3 ht3
    have hbl3 : Below base W w3 := HBL.out.trans (ht3.g.below HWS.out.bl (fun i hi => (HWS.out.le i hi).1))
    have HW3 := hide hws3
    have HB3 := hide hbl3
    clear ho3 ht3 hws3 hbl3 TS
    go_wp2_with fail
    exact HQ.out _ _ C' SA' sc' VA' vc' ⟨B, d, l ++ sentW O (x.ds) u.pp⟩ (by rfl) (by intro j hj; simp at hj; rcases hj with rfl | rfl | rfl | rfl | rfl | rfl <;> first | rfl  | exact congrArg some HE9.out.symm | exact congrArg some HE11.out.symm) (by unfold Wy.v; rw [List.length_append]; rfl) (by rw [if_pos HSD.out]) HW3.out HB3.out
end Go.Proofs.YtkglclekieckoaaGreat

namespace Go.Proofs.YtkglclekieckoaaGreat
set_option linter.unusedSimpArgs false
set_option linter.unusedVariables false
set_option linter.unusedSectionVars false
open Go.RowKit

/-- at the head of the loop -/
structure Lp4 (w : World) (n : Nat) (c : Cfg) (R : Nat → Int) (X : Int) (sets scl : Int) (PA : Option Addr) (pc : Nat) (pl : List Int) (OA : Option Addr) (oc : Nat) (m : Nat) (M : Ms) (Y : Wy) (T : Array Value) (W : World) : Prop where
  z : T.size = 178
  t1 : T[1]? = some (.int .i64 sets)
  t2 : T[2]? = some (.int .i64 scl)
  t3 : T[3]? = some (.slice PA pl.length pc)
  t9 : T[9]? = some (.pointer (some ⟨n, 0, none⟩))
  tO : T[11]? = some (.slice OA c.O.length oc)
  tW : T[13]? = some Y.v
  ws : WS w.heap.size W n M Y OA c.O
  dl : Dl c R X m M Y
  bl : Below w.heap.size w W
set_option maxRecDepth 100000 in
set_option maxHeartbeats 8000000 in
/-- one round -/
theorem rs_round4 (Q : Exit → Act → World → Prop) (w : World) (n : Nat) (c : Cfg) (hc : c.Ok) (R : Nat → Int) (X : Int) (sets scl : Int) (PA : Option Addr) (pc : Nat) (pl : List Int) (OA : Option Addr) (oc : Nat) (m : Nat) (M : Ms) (Y : Wy) (T : Array Value) (W : World)
    (h : Lp4 w n c R X sets scl PA pc pl OA oc m M Y T W) (h18 : T[18]? = some (.int .i64 m))
    (hp : Reads w w.heap.size 1 PA pl.length (ics pl)) (hpi : ∀ x ∈ pl, -9223372036854775808 ≤ x ∧ x ≤ 9223372036854775807) (hpl : pl.length ≤ 300)
    (hq : ∀ (T' : Array Value) (W' : World) (M' : Ms) (Y' : Wy), Lp4 w n c R X sets scl PA pc pl OA oc (m + 1) M' Y' T' W' → T'[18]? = some (.int .i64 ((m + 1 : Nat) : Int)) → Q .normal ⟨T', []⟩ W')
    (he : ∀ T' : Array Value, Y.l = [] → Lp4 w n c R X sets scl PA pc pl OA oc m M Y T' W → Q (.exit 6) ⟨T', []⟩ W) :
    Code.wp Tryz.prog (cdP [true, true, true, true, true, true, true, true, false, true, false, false] (Tryz.f6.body.getD .skip)) Q ⟨T, []⟩ W := by
  obtain ⟨z, t1, t2, t3, t9, tO, tW, ws, dl, bl⟩ := h
  have hpt := dl.pt
  have hm : m ≤ 96 := by omega
  refine wp_cdseq [true, true, true, true, true, true, true, true, false, true, false, false] (by kernel_rfl) ?_
  refine rs_26 _ W Y.A Y.c Y.l.length T z tW fun T1 z1 k1 => ⟨fun h0 => ?_, fun h0 => ?_⟩
  · exact he T1 (List.eq_nil_of_length_eq_zero h0) ⟨z1, (k1 1 (by simp)).trans t1, (k1 2 (by simp)).trans t2, (k1 3 (by simp)).trans t3, (k1 9 (by simp)).trans t9, (k1 11 (by simp)).trans tO, (k1 13 (by simp)).trans tW, ws, dl, bl⟩
  show Code.wp Tryz.prog (cdP [true, true, true, true, true, true, true, true, false, true, false, false, true] (Tryz.f6.body.getD .skip)) Q ⟨T1, []⟩ W
  refine wp_cdseq [true, true, true, true, true, true, true, true, false, true, false, false, true] (by kernel_rfl) ?_
  refine wp_cdblock 7 [true, true, true, true, true, true, true, true, false, true, false, false, true, false] (by kernel_rfl) ?_
  refine wp_cdseq [true, true, true, true, true, true, true, true, false, true, false, false, true, false, false] (by kernel_rfl) ?_
  refine rs_28 _ W m T1 z1 ((k1 18 (by simp)).trans h18) (by omega) fun T2 z2 k2 => ?_
  show Code.wp Tryz.prog (cdP [true, true, true, true, true, true, true, true, false, true, false, false, true, false, false, true] (Tryz.f6.body.getD .skip)) _ ⟨T2, []⟩ W
  refine wp_cdseq [true, true, true, true, true, true, true, true, false, true, false, false, true, false, false, true] (by kernel_rfl) ?_
  refine rs_30 _ W T2 z2 fun T3 z3 k3 e19 => ?_
  show Code.wp Tryz.prog (cdP [true, true, true, true, true, true, true, true, false, true, false, false, true, false, false, true, true] (Tryz.f6.body.getD .skip)) _ ⟨T3, []⟩ W
  refine wp_cdseq [true, true, true, true, true, true, true, true, false, true, false, false, true, false, false, true, true] (by kernel_rfl) ?_
  have f1 : ∀ j ∈ [1, 2, 3, 9, 11, 13, 18], T3[j]? = T[j]? := fun j hj => (k3 j hj).trans ((k2 j hj).trans (k1 j hj))
  have hrd : Reads W W.heap.size 7 Y.A Y.l.length (wqs Y.l) := Reads.of_own ws.way
  have hwl := dl.wl
  refine rs_pick _ W PA pc pl Y.A Y.c Y.l m T3 z3 ((f1 3 (by simp)).trans t3) ((f1 13 (by simp)).trans tW) ((f1 18 (by simp)).trans h18) e19 ((hp.below bl).more bl.size) hpi hpl hrd h0 (by omega) (by omega) fun T4 i hi z4 k4 e19 hfi => ?_
  show Code.wp Tryz.prog (cdP [true, true, true, true, true, true, true, true, false, true, false, false, true, false, false, true, true, true] (Tryz.f6.body.getD .skip)) _ ⟨T4, []⟩ W
  refine wp_cdseq [true, true, true, true, true, true, true, true, false, true, false, false, true, false, false, true, true, true] (by kernel_rfl) ?_
  have f4 : ∀ j ∈ [1, 2, 3, 9, 11, 13, 18], T4[j]? = T[j]? := fun j hj => (k4 j hj).trans (f1 j hj)
  refine rs_33 _ W Y.A Y.c Y.l i T4 z4 ((f4 13 (by simp)).trans tW) e19 hrd hi fun T5 W5 z5 k5 e20 hbx hb5 => ?_
  show Code.wp Tryz.prog (cdP [true, true, true, true, true, true, true, true, false, true, false, false, true, false, false, true, true, true, true] (Tryz.f6.body.getD .skip)) _ ⟨T5, []⟩ W5
  refine wp_cdseq [true, true, true, true, true, true, true, true, false, true, false, false, true, false, false, true, true, true, true] (by kernel_rfl) ?_
  have f5 : ∀ j ∈ [1, 2, 3, 9, 11, 13, 18], T5[j]? = T[j]? := fun j hj => (k5 j (by simp at hj ⊢; omega)).trans (f4 j hj)
  have ws5 := ws.below hb5
  refine rs_34 _ W5 w.heap.size Y.A Y.c Y.l i T5 z5 ((f5 13 (by simp)).trans tW) ((k5 19 (by simp)).trans e19) ws5.way hi (by omega) fun T6 W6 B d z6 k6 e13 ho6 hb6 => ?_
  show Code.wp Tryz.prog (cdP [true, true, true, true, true, true, true, true, false, true, false, false, true, false, false, true, true, true, true, true] (Tryz.f6.body.getD .skip)) _ ⟨T6, []⟩ W6
  refine wp_cdseq [true, true, true, true, true, true, true, true, false, true, false, false, true, false, false, true, true, true, true, true] (by kernel_rfl) ?_
  have hds := ws.ds _ (List.getElem_mem hi)
  have hbr := ws.br _ (List.getElem_mem hi)
  have hx4 := hc.lt _ hds
  have ws6 : WS w.heap.size W6 n M ⟨B, d, Y.l.take i ++ Y.l.drop (i + 1)⟩ OA c.O := ws5.drop ho6 hb6
  -- what was taken off is told beside the row as it is now
  have hE6 : ∀ j ∈ (⟨B, d, Y.l.take i ++ Y.l.drop (i + 1)⟩ : Wy).E, W5.heap.size ≤ j := fun j hj => (ho6.lt j (Wy.mem hj)).1
  have hpo6 : @PpO (avo (M.C ++ (⟨B, d, Y.l.take i ++ Y.l.drop (i + 1)⟩ : Wy).E)) W6 [] (Y.l[i]).pp := (ws5.pp _ (List.getElem_mem hi)).over ((Tr.bel hb6).re fun j hj => by
    rcases List.mem_append.1 hj with h1 | h1
    · exact .inl (List.mem_append_left _ h1)
    · exact .inr (hE6 j h1))
  have hbx5 := hbx.lt
  have hbx6 : BoxAt W6 W.heap.size (Y.l[i]).cs7 84 := ⟨by rw [hb6.block _ hbx5]; exact hbx.eq⟩
  have k6' : ∀ j ∈ [1, 2, 3, 9, 11, 18], T6[j]? = T[j]? := fun j hj => (k6 j (by simp at hj ⊢; omega)).trans (f5 j (by simp at hj ⊢; omega))
  have e20' := (k6 20 (by simp)).trans e20
  refine rs_35 _ W6 n M.C (⟨B, d, Y.l.take i ++ Y.l.drop (i + 1)⟩ : Wy).E M.aa M.inc M.cc M.SA M.sc M.S M.VA M.vc M.V W.heap.size (Y.l[i]) T6 z6 ((k6' 9 (by simp)).trans t9) e20' ws6.m ws6.o hbx6 hpo6 hbr hx4 fun T7 W7 n21 n22 b u z7 k7 e21 e22 hb21 hb22 hT hmb hbe hue hbo huo hb7 hn22 => ?_
  show Code.wp Tryz.prog (cdP [true, true, true, true, true, true, true, true, false, true, false, false, true, false, false, true, true, true, true, true, true] (Tryz.f6.body.getD .skip)) _ ⟨T7, []⟩ W7
  have k7' : ∀ j ∈ [1, 2, 3, 9, 11, 18], T7[j]? = T[j]? := fun j hj => (k7 j (by simp at hj ⊢; omega)).trans (k6' j hj)
  have ws7 := ws6.below hb7
  have hnC : W.heap.size ∉ M.C := fun hm => by have := ws.m.m.lt _ hm; omega
  have hsl := dl.sl
  have hvl := dl.vl
  have hlen : (Y.l.take i ++ Y.l.drop (i + 1)).length ≤ Y.l.length := by rw [List.length_append, List.length_take, List.length_drop]; omega
  refine rs_t4 _ W7 w.heap.size n M ⟨B, d, Y.l.take i ++ Y.l.drop (i + 1)⟩ OA oc c.O W.heap.size n21 n22 b u T7 z7 ((k7' 9 (by simp)).trans t9) ((k7' 11 (by simp)).trans tO) ((k7 13 (by simp)).trans e13) ((k7 20 (by simp)).trans e20') e21 e22 (Y.l[i]) ws7 ⟨by rw [hb7.block _ hbx6.lt]; exact hbx6.eq⟩ hnC hb21 hb22 (fun hm => by have := ws6.m.m.lt _ hm; omega) hx4 hc.len (by omega) (by omega) (by show (Y.l.take i ++ Y.l.drop (i + 1)).length ≤ 1000; omega) hT hbo huo fun T8 W8 C' SA' sc' VA' vc' Y' z8 k8 e13' hY ws8 hb8 => ?_
  show Code.wp Tryz.prog (cdP [true, true, true, true, true, true, true, true, false, true, false, false, true, true] (Tryz.f6.body.getD .skip)) Q ⟨T8, []⟩ W8
  have k8' : ∀ j ∈ [1, 2, 3, 9, 11, 18], T8[j]? = T[j]? := fun j hj => (k8 j hj).trans (k7' j hj)
  refine rs_27 _ W8 m T8 z8 ((k8' 18 (by simp)).trans h18) (by omega) fun T9 z9 k9 e18 => ?_
  have dl' : Dl c R X (m + 1) (M.turned C' SA' sc' VA' vc' Y.l[i].ds b u) Y' := dl.step hc ws.o ws.ds hi hfi hT hmb hbe hue hY
  have hbl : Below w.heap.size w W8 := (below_step (below_step (below_step bl hb5) hb6) hb7).trans hb8
  exact hq T9 W8 _ Y' ⟨z9, (k9 1 (by simp)).trans ((k8' 1 (by simp)).trans t1), (k9 2 (by simp)).trans ((k8' 2 (by simp)).trans t2), (k9 3 (by simp)).trans ((k8' 3 (by simp)).trans t3), (k9 9 (by simp)).trans ((k8' 9 (by simp)).trans t9), (k9 11 (by simp)).trans ((k8' 11 (by simp)).trans tO), (k9 13 (by simp)).trans e13', ws8, dl', hbl⟩ e18
end Go.Proofs.YtkglclekieckoaaGreat

namespace Go.Proofs.YtkglclekieckoaaGreat
set_option linter.unusedSimpArgs false
set_option linter.unusedVariables false
set_option linter.unusedSectionVars false
open Go.RowKit

theorem wayQ_nil (k : Nat) : wayQ [] k = [] := rfl
/-- all that was sent has come: they are one -/
theorem Dl.oneOk {c : Cfg} {R : Nat → Int} {X : Int} {m : Nat} {M : Ms} {Y : Wy} {f : Nat → Bool} (hc : c.Ok) (hcl : c.CL = fun k => livesL (clL (fun _ => 0) f k 6)) (h : Dl c R X m M Y) (hY : Y.l = []) : ∃ rd v, OneOk f c.O M.aa rd v := by
  rcases h.st with e0 | ⟨own, hst⟩
  · exact ⟨0, vw0, by rw [e0]; exact ⟨fun k hk => (by cases hk), fun k hk => (by cases hk), fun k hk => (by cases hk), fun _ k hk => (by cases hk), fun _ k hk => (by cases hk), fun _ k hk => (by cases hk)⟩⟩
  obtain ⟨rd, v, hv⟩ := hst.end hc (fun k _ p hp => by rw [hcl] at hp; exact (cfg_mem hp).2.2.2) (fun k _ => by rw [hY]; rfl)
  have e : c.O.flatMap c.CL = allL f c.O := by rw [hcl]; rfl
  rw [e] at hv
  refine ⟨rd, v, hc.lt, fun k hk => (hv k hk).1, fun k hk => (hv k hk).2.1, fun hne k hk => ?_, fun hne k hk => ?_, fun hne k hk => ((hv k hk).2.2 hne).1⟩
  · obtain ⟨h1, h2, h3⟩ := (hv k hk).2.2 hne
    have : (M.aa k).br.vw.r = rd := by rw [h1]; exact h2
    exact this
  · obtain ⟨h1, h2, h3⟩ := (hv k hk).2.2 hne
    have : (M.aa k).br.vw.ms = sortedL (allL f c.O) := by rw [h1]; exact h3
    exact this
set_option maxRecDepth 100000 in
set_option maxHeartbeats 8000000 in
theorem rs_last (w : World) (n : Nat) (c : Cfg) (hc : c.Ok) (R : Nat → Int) (X : Int) (sets scl : Int) (hcl : c.CL = fun k => livesL (clL (fun _ => 0) (bitQ scl) k 6)) (PA : Option Addr) (pc : Nat) (pl : List Int) (OA : Option Addr) (oc : Nat) (M : Ms) (Y : Wy) (T : Array Value) (W : World)
    (h : Lp4 w n c R X sets scl PA pc pl OA oc 0 M Y T W)
    (hp : Reads w w.heap.size 1 PA pl.length (ics pl)) (hpi : ∀ x ∈ pl, -9223372036854775808 ≤ x ∧ x ≤ 9223372036854775807) (hpl : pl.length ≤ 300) :
    Code.wp Tryz.prog (cdP [true, true, true, true, true, true, true, true] (Tryz.f6.body.getD .skip)) (bodyPost Tryz.prog Tryz.f6 (RetB w true)) ⟨T, []⟩ W := by
  refine wp_cdseq [true, true, true, true, true, true, true, true] (by kernel_rfl) ?_
  refine wp_cdseq [true, true, true, true, true, true, true, true, false] (by kernel_rfl) ?_
  obtain ⟨z, t1, t2, t3, t9, tO, tW, ws, dl, bl⟩ := h
  refine rs_25 _ W T z fun T1 z1 k1 e18 => ?_
  show Code.wp Tryz.prog (cdP [true, true, true, true, true, true, true, true, false, true] (Tryz.f6.body.getD .skip)) _ ⟨T1, []⟩ W
  refine wp_cdblock 6 [true, true, true, true, true, true, true, true, false, true] (by kernel_rfl) ?_
  refine wp_cdloop [true, true, true, true, true, true, true, true, false, true, false] (by kernel_rfl) (fun a W => ∃ (m : Nat) (M : Ms) (Y : Wy) (T : Array Value), a = ⟨T, []⟩ ∧ Lp4 w n c R X sets scl PA pc pl OA oc m M Y T W ∧ T[18]? = some (.int .i64 m)) (fun a _ => 1000 - (intOf (a.tmps.getD 18 undef)).toNat) ?_ ?_
  · exact ⟨0, M, Y, T1, rfl, ⟨z1, (k1 1 (by simp)).trans t1, (k1 2 (by simp)).trans t2, (k1 3 (by simp)).trans t3, (k1 9 (by simp)).trans t9, (k1 11 (by simp)).trans tO, (k1 13 (by simp)).trans tW, ws, dl, bl⟩, e18⟩
  · rintro a W2 ⟨m, M2, Y2, T2, rfl, hL, h18⟩
    have hm : m ≤ 96 := by have := hL.dl.pt; omega
    refine rs_round4 _ w n c hc R X sets scl PA pc pl OA oc m M2 Y2 T2 W2 hL h18 hp hpi hpl (fun T3 W3 M3 Y3 hL3 h3 => ?_) (fun T3 hY hL3 => ?_)
    · refine ⟨⟨m + 1, M3, Y3, T3, rfl, hL3, h3⟩, ?_⟩
      have e1 : (T3.getD 18 undef) = .int .i64 ((m + 1 : Nat) : Int) := by rw [Array.getD_eq_getD_getElem?, h3]; rfl
      have e2 : (T2.getD 18 undef) = .int .i64 (m : Int) := by rw [Array.getD_eq_getD_getElem?, h18]; rfl
      show 1000 - (intOf (T3.getD 18 undef)).toNat < 1000 - (intOf (T2.getD 18 undef)).toNat
      rw [e1, e2]
      show 1000 - (((m + 1 : Nat) : Int)).toNat < 1000 - ((m : Nat) : Int).toNat
      omega
    · simp only [Exit.then, Exit.inBlock, if_true]
      show Code.wp Tryz.prog (cdP [true, true, true, true, true, true, true, true, true] (Tryz.f6.body.getD .skip)) _ ⟨T3, []⟩ W2
      obtain ⟨rd, v, hone⟩ := hL3.dl.oneOk hc hcl hY
      refine rs_end w W2 n M2.aa M2.inc M2.cc _ _ OA oc c.O scl rd v T3 hL3.z hL3.t2 hL3.t9 hL3.tO hL3.ws.m.m.bx hL3.ws.on.1 hc.len (fun k hk => ?_) hone hL3.bl
      have hag := hL3.ws.m.m.ag k (hc.lt k hk)
      letI : Avoid := avo M2.C
      exact hag.o.v.ok
end Go.Proofs.YtkglclekieckoaaGreat
