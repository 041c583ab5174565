/-
  RoundOne: many.step: a server is renewed.
-/
import Derived.Test.YtkglclekieckoaaGreatMn6
import Derived.Test.YtkglclekieckoaaGreatMn4
namespace Go.Proofs.YtkglclekieckoaaGreat
set_option linter.unusedSimpArgs false
set_option linter.unusedVariables false
set_option linter.unusedSectionVars false
open Go.RowKit

set_option maxRecDepth 100000 in
set_option maxHeartbeats 16000000 in
set_option synthInstance.maxSize 1000 in
theorem step18_0 (n : Nat) (C : List Nat) (aa : Nat → Ag) (inc cc : Nat → Int) (SA : Option Addr) (sc : Nat) (S : List Pp) (VA : Option Addr) (vc : Nat) (V : List Vw) (sw swho swh sset scl : Int) (w : World)
    (h : MW w C n aa inc cc SA sc S VA vc V) (hO : OneS aa inc cc S V) (hS : S.length ≤ 500) (hV : V.length ≤ 500) (b1 : -9223372036854775808 ≤ sw ∧ sw ≤ 9223372036854775807) (b2 : -9223372036854775808 ≤ swho ∧ swho ≤ 9223372036854775807) (hk : atI sw 5 = 0) :
    Calls Tryz.prog 19 #[.pointer (some ⟨n, 0, none⟩), .agg #[.int .i64 sw, .int .i64 swho, .int .i64 swh, .int .i64 sset, .int .i64 scl]] w (RetSt w C n aa inc cc S V) := by
  haveI hbn := h.bx
  have hn := h.bx.lt
  haveI : LtN n w.heap.size := ⟨hn⟩
  have HW := hide h
  have HO := hide hO
  have TA4 := hide (fun W => (by exact at18_e swho 4 W (by omega) (by omega) b2 : Calls Tryz.prog 25 #[.int .i64 swho, .int .i64 4] W (fun e w' => e = .returned (.int .i64 (atI swho 4)) ∧ w' = W)))
  have TA5 := hide (fun W => (by have := at18_e sw 5 W (by omega) (by omega) b1; rw [hk] at this; exact this : Calls Tryz.prog 25 #[.int .i64 sw, .int .i64 5] W (fun e w' => e = .returned (.int .i64 0) ∧ w' = W)))
  have hw := atI_lt swho 4 (by omega)
  generalize atI swho 4 = who at hw TA4
  have i0 : (0 : Int) ≤ (who : Int) := by omega
  have i1 : (who : Int) < 4 := by omega
  have HS := hide hS
  have HV := hide hV
  clear h hO b1 b2 hk hS hV
  have hC : ∀ i ∈ C, i < w.heap.size := HW.out.lt
  have TSV := hide (fun bits W (hb : BoxAt W n (mcs aa inc cc (.slice SA S.length sc) (.slice VA V.length vc)) 77) => servers18_s n aa inc cc _ _ who bits W hb)
  have TCL := hide (fun bits W (hb : BoxAt W n (mcs aa inc cc (.slice SA S.length sc) (.slice VA V.length vc)) 77) => clients18_s n aa inc cc _ _ who bits W hb)
  have TRN := hide (fun (l : List Pr) (A : Option Addr) (c : Nat) (cl : List Cl) (B : Option Addr) (d : Nat) W (hb : Below w.heap.size w W) (hR : Reads W W.heap.size 2 A l.length (pcs l)) (hl : l.length ≤ 4) (hL : Reads W W.heap.size 6 B cl.length (ccs cl)) (hl2 : cl.length ≤ 6) (hcl : ∀ x ∈ cl, ClOf who cc x) =>
    (by
      have hlt : ∀ i ∈ C, i < W.heap.size := fun i hi => Nat.lt_of_lt_of_le (hC i hi) hb.size
      refine (renew_s (DFb C w.heap.size W) (aa who) A c l B d cl W ((HW.out.ag who hw).over (DFb.tr hb)) (DFb.lt hlt) (HO.out.srv who hw).inv hR (by omega) hL (by omega) (fun x hx => by
        obtain ⟨r1, r2, r3, r4, r5, r6, r7⟩ := hcl x hx
        have r8 := (HO.out.srv who hw).cr x.n
        have r9 : ofN cc x.n = x.cid := r6.symm
        rw [r9] at r8
        rw [r4, r7]
        exact ⟨⟨by show -9223372036854775808 ≤ x.n; omega, by show x.n ≤ 9223372036854775807; omega, by show (0 : Int) ≤ 1; decide, by show (1 : Int) ≤ 18446744073709551615; decide⟩, r8.1, r8.2, by decide, by decide⟩)).mono ?_
      rintro e w' ⟨b, u, q1, q2, q3, q4, q5, q6⟩
      have hT : TOk (S.map Pp.br) (ofN cc) who (aa who).br b.br u.br := by
        rw [q1, q2]
        exact (HO.out.srv who hw).renew HO.out.st (ss := l) (cl := cl) (fun x hx => by
          obtain ⟨r1, r2, r3, r4, r5, r6, r7⟩ := hcl x hx
          exact ⟨r1, r2, r3, r4, r5⟩) (fun x hx => (hcl x hx).2.2.2.2.2.1) (fun x hx => by
            obtain ⟨r1, r2, r3, r4, r5, r6, r7⟩ := hcl x hx
            have r8 := (HO.out.srv who hw).cr x.n
            have r9 : ofN cc x.n = x.cid := r6.symm
            rw [r9] at r8
            rw [r4, r7]
            exact ⟨⟨by show -9223372036854775808 ≤ x.n; omega, by show x.n ≤ 9223372036854775807; omega, by show (0 : Int) ≤ 1; decide, by show (1 : Int) ≤ 18446744073709551615; decide⟩, r8.1, r8.2, by decide, by decide⟩)
      have hMB : MBx aa cc S b u := fun B hB hb => by
        rw [q1, q2]
        refine (HO.out.srv who hw).renew_mb HO.out.st (fun g hg => ?_) (hB.mb hw) hB.b0 hb (ss := l) (cl := cl) (fun x hx => by
          obtain ⟨r1, r2, r3, r4, r5, r6, r7⟩ := hcl x hx
          exact ⟨r1, r2, r3, r4, r5⟩) (fun x hx => (hcl x hx).2.2.2.2.2.1) (fun x hx => (hcl x hx).2.2.2.2.2.2) (fun x hx => by
            obtain ⟨r1, r2, r3, r4, r5, r6, r7⟩ := hcl x hx
            have r8 := (HO.out.srv who hw).cr x.n
            have r9 : ofN cc x.n = x.cid := r6.symm
            rw [r9] at r8
            rw [r4, r7]
            exact ⟨⟨by show -9223372036854775808 ≤ x.n; omega, by show x.n ≤ 9223372036854775807; omega, by show (0 : Int) ≤ 1; decide, by show (1 : Int) ≤ 18446744073709551615; decide⟩, r8.1, r8.2, by decide, by decide⟩)
        obtain ⟨g', hg', rfl⟩ := List.mem_map.1 hg
        exact hB.sn g' hg'
      exact ⟨DFb C w.heap.size W, b, u, fun m cs hm hmb => ⟨DFb.ag hmb hm⟩, fun m cs hm hmb => ⟨DFb.tu hmb hm⟩, fun i hi => mem_DF.2 (.inl hi), hT, hMB, q3, q4, q5, q6⟩ : Calls Tryz.prog 9 #[(aa who).v, .slice A l.length c, .agg #[.slice B cl.length d]] W (fun e w' => ∃ (D : List Nat) (b : Ag) (u : Tu), (∀ m cs, w.heap.size ≤ m → BoxAt W m cs 38 → InL m D) ∧ (∀ m cs, w.heap.size ≤ m → BoxAt W m cs 43 → InL m D) ∧ (∀ i ∈ C, i ∈ D) ∧ TOk (S.map Pp.br) (ofN cc) who (aa who).br b.br u.br ∧ MBx aa cc S b u ∧ e = .returned (.tuple #[b.v, u.v]) ∧ @Ag.Ok (avo D) w' b ∧ @Tu.Ok (avo D) w' u ∧ Below W.heap.size W w')))
  go_enter Tryz.func19, Tryz.ntmps19
  go_wp2_with fail
  (with_reducible refine (TA4.out _).mono ?_)
  rintro e w2 ⟨rfl, rfl⟩
  go_wp2_with fail
  (with_reducible refine (TA5.out _).mono ?_)
  rintro e w2 ⟨rfl, rfl⟩
  go_upto_region 4 with fail
  go_cut [6, 7] (fun s6 s7 wx => ∃ (n6 n7 : Nat) (b : Ag) (u : Tu), s6 = .pointer (some ⟨n6, 0, none⟩) ∧ s7 = .pointer (some ⟨n7, 0, none⟩) ∧ BoxAt wx n6 b.cs 38 ∧ BoxAt wx n7 u.cs 43 ∧ TOk (S.map Pp.br) (ofN cc) who (aa who).br b.br u.br ∧ MBx aa cc S b u ∧ @Ag.Ok (avo C) wx b ∧ @Tu.Ok (avo C) wx u ∧ Below w.heap.size w wx)
  case first =>
    go_region_held3 (fun w' => (ldAg ⟨n, who * 14, none⟩).run Tryz.prog w' = .ok (.agg (aa who).cs) w' ∧ w'.cell? ⟨w.heap.size, 3, none⟩ = some (.int .i64 sset) ∧ w'.cell? ⟨w.heap.size, 4, none⟩ = some (.int .i64 scl)) ((refine ⟨?_, ?_, ?_⟩ <;> (first | exact ldAg_many _ n aa inc cc _ _ _ who hw | (rw [cell?_box]; rfl))))
      (first
        | (go_at_call 20; (with_reducible refine (TSV.out _ _ ?_).mono ?_); (focus (exact inferInstance)); rintro e w3 ⟨l3, A3, c3, hl3, rfl, ho3, hb3⟩; haveI : Stp _ w3 := ⟨hb3⟩; haveI : LtN n w3.heap.size := ⟨BoxAt.lt (n := n) (w := w3) inferInstance⟩; haveI : LtN w.heap.size w3.heap.size := ⟨BoxAt.lt (n := w.heap.size) (w := w3) inferInstance⟩; haveI : LeN w.heap.size w3.heap.size := ⟨Nat.le_of_lt (LtN.h)⟩; (try have : LtN (w.heap.size + 1) w3.heap.size := ⟨BoxAt.lt (n := w.heap.size + 1) (w := w3) inferInstance⟩); (try have : LtN (w.heap.size + 1 + 1) w3.heap.size := ⟨BoxAt.lt (n := w.heap.size + 1 + 1) (w := w3) inferInstance⟩); (try have : LtN (w4.heap.size) w3.heap.size := ⟨BoxAt.lt (n := w4.heap.size) (w := w3) inferInstance⟩); (try have : LtN (w4.heap.size + 1) w3.heap.size := ⟨BoxAt.lt (n := w4.heap.size + 1) (w := w3) inferInstance⟩); have HO3 := hide ho3; clear ho3 hb3)
        | (go_at_call 21; (with_reducible refine (TCL.out _ _ ?_).mono ?_); (focus (exact inferInstance)); rintro e w4 ⟨l4, A4, c4, hl4, hP4, rfl, ho4, hb4⟩; haveI : Stp _ w4 := ⟨hb4⟩; haveI : LtN n w4.heap.size := ⟨BoxAt.lt (n := n) (w := w4) inferInstance⟩; haveI : LtN w.heap.size w4.heap.size := ⟨BoxAt.lt (n := w.heap.size) (w := w4) inferInstance⟩; haveI : LeN w.heap.size w4.heap.size := ⟨Nat.le_of_lt (LtN.h)⟩; (try have : LtN (w.heap.size + 1) w4.heap.size := ⟨BoxAt.lt (n := w.heap.size + 1) (w := w4) inferInstance⟩); (try have : LtN (w.heap.size + 1 + 1) w4.heap.size := ⟨BoxAt.lt (n := w.heap.size + 1 + 1) (w := w4) inferInstance⟩); (try have : LtN (w3.heap.size) w4.heap.size := ⟨BoxAt.lt (n := w3.heap.size) (w := w4) inferInstance⟩); (try have : LtN (w3.heap.size + 1) w4.heap.size := ⟨BoxAt.lt (n := w3.heap.size + 1) (w := w4) inferInstance⟩); have HO4 := hide ho4; have HP4 := hide hP4; clear ho4 hb4 hP4)
        | (go_at_call 9; (with_reducible refine (TRN.out l3 A3 c3 l4 A4 c4 _ ?_ ?_ hl3 ?_ hl4 HP4.out).mono ?_); (focus (exact blw)); (focus (exact Reads.of_own (own_tc HO3.out))); (focus (exact Reads.of_own (own_tc HO4.out))); rintro e w5 ⟨D, b, u, hD1, hD2, hD3, hT, hmb, rfl, hbo, huo, hb5⟩; haveI : Stp _ w5 := ⟨hb5⟩; haveI : LtN n w5.heap.size := ⟨BoxAt.lt (n := n) (w := w5) inferInstance⟩; haveI : LtN w.heap.size w5.heap.size := ⟨BoxAt.lt (n := w.heap.size) (w := w5) inferInstance⟩; haveI : LeN w.heap.size w5.heap.size := ⟨Nat.le_of_lt (LtN.h)⟩; (try have : LtN (w.heap.size + 1) w5.heap.size := ⟨BoxAt.lt (n := w.heap.size + 1) (w := w5) inferInstance⟩); (try have : LtN (w.heap.size + 1 + 1) w5.heap.size := ⟨BoxAt.lt (n := w.heap.size + 1 + 1) (w := w5) inferInstance⟩); (try have : LtN (w3.heap.size) w5.heap.size := ⟨BoxAt.lt (n := w3.heap.size) (w := w5) inferInstance⟩); (try have : LtN (w3.heap.size + 1) w5.heap.size := ⟨BoxAt.lt (n := w3.heap.size + 1) (w := w5) inferInstance⟩); (try have : LtN (w4.heap.size) w5.heap.size := ⟨BoxAt.lt (n := w4.heap.size) (w := w5) inferInstance⟩); (try have : LtN (w4.heap.size + 1) w5.heap.size := ⟨BoxAt.lt (n := w4.heap.size + 1) (w := w5) inferInstance⟩); (try have : InL (w.heap.size + 1) D := hD1 _ _ (LeN.h) inferInstance); (try have : InL (w.heap.size + 1) D := hD2 _ _ (LeN.h) inferInstance); (try have : InL (w.heap.size + 1 + 1) D := hD1 _ _ (LeN.h) inferInstance); (try have : InL (w.heap.size + 1 + 1) D := hD2 _ _ (LeN.h) inferInstance); (try have : InL (w3.heap.size) D := hD1 _ _ (LeN.h) inferInstance); (try have : InL (w3.heap.size) D := hD2 _ _ (LeN.h) inferInstance); (try have : InL (w3.heap.size + 1) D := hD1 _ _ (LeN.h) inferInstance); (try have : InL (w3.heap.size + 1) D := hD2 _ _ (LeN.h) inferInstance); (try have : InL (w4.heap.size) D := hD1 _ _ (LeN.h) inferInstance); (try have : InL (w4.heap.size) D := hD2 _ _ (LeN.h) inferInstance); (try have : InL (w4.heap.size + 1) D := hD1 _ _ (LeN.h) inferInstance); (try have : InL (w4.heap.size + 1) D := hD2 _ _ (LeN.h) inferInstance); have HT := hide hT; have HMB := hide hmb; have HBO := hide hbo; have HUO := hide huo; have HD := hide hD3; clear hT hmb hbo huo hb5 hD1 hD2 hD3)
        | fail)
    all_goals
      go_wp2_with fail
      go_meet
      case rel => exact ⟨_, _, b, u, rfl, rfl, inferInstance, inferInstance, HT.out, HMB.out, HBO.out.over ((Trc.h (C := D) (a := w5)).re (fun i hi => .inl (HD.out i hi))), HUO.out.over ((Trc.h (C := D) (a := w5)).re (fun i hi => .inl (HD.out i hi))), blw⟩
  case rest =>
    obtain ⟨n6, n7, b, u, rfl, rfl, hb6, hb7, hT, hmb, hbo, huo, hbl⟩ := hcut
    haveI := hb6
    haveI := hb7
    have TT := hide (turned18_s n C aa inc cc SA sc S VA vc V who b u wc (HW.out.below hbl) hw hbo huo (S.map Pp.br) hT (by have := HS.out; omega) (by have := HV.out; omega) (HO.out.one hw hT))
    have HT := hide hT
    have HMB := hide hmb
    have HBL := hide hbl
    clear hbo huo hbl hT hmb
    go_wp2_with fail
    (with_reducible refine (TT.out).mono ?_)
    rintro e w' ⟨C', SA', sc', VA', vc', rfl, hM, hT'⟩
    go_wp2_with fail
    go_ret
    exact ⟨C', updN aa who b, inc, cidsN cc u.ts, SA', sc', _, VA', vc', _, rfl, hM, HO.out.turned hw HT.out, (by split <;> simp), (by split <;> simp), (fun k hk => by omega), (Tr.bel HBL.out).trans hT', fun B hB hb => hB.turned HO.out hw HT.out (HMB.out B hB hb) (by omega)⟩
end Go.Proofs.YtkglclekieckoaaGreat
