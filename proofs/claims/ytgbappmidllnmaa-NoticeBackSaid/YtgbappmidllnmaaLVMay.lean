/-
  Layer 4: the law ViewMay: true for every input.
-/
import Derived.Test.YtgbappmidllnmaaCopy4
namespace Go.Proofs.Ytgbappmidllnmaa
set_option linter.unusedSimpArgs false
set_option linter.unusedVariables false
set_option linter.unusedSectionVars false
open Go.RowKit

theorem box2 {w : World} {n : Nat} {a b : Value} {t : TypeId} (h : BoxAt w n #[a, b] t) : w.cell? ⟨n, 0, none⟩ = some a ∧ w.cell? ⟨n, 1, none⟩ = some b := by
  refine ⟨?_, ?_⟩ <;> (rw [cell?_box]; rfl)
theorem box525 {w : World} {n m k : Nat} {a b c d e p q a' b' c' d' e' : Value} {t t' t'' : TypeId} (h : BoxAt w n #[a, b, c, d, e] t) (h' : BoxAt w m #[p, q] t') (h'' : BoxAt w k #[a', b', c', d', e'] t'') : w.cell? ⟨n, 0, none⟩ = some a ∧ w.cell? ⟨n, 1, none⟩ = some b ∧ w.cell? ⟨n, 2, none⟩ = some c ∧ w.cell? ⟨n, 3, none⟩ = some d ∧ w.cell? ⟨n, 4, none⟩ = some e ∧ w.cell? ⟨m, 0, none⟩ = some p ∧ w.cell? ⟨m, 1, none⟩ = some q ∧ w.cell? ⟨k, 0, none⟩ = some a' ∧ w.cell? ⟨k, 1, none⟩ = some b' ∧ w.cell? ⟨k, 2, none⟩ = some c' ∧ w.cell? ⟨k, 3, none⟩ = some d' ∧ w.cell? ⟨k, 4, none⟩ = some e' := by
  obtain ⟨h1, h2, h3, h4, h5⟩ := box5 h
  obtain ⟨k1, k2⟩ := box2 h'
  exact ⟨h1, h2, h3, h4, h5, k1, k2, box5 h''⟩
theorem eqB_same (r n i : Int) (A1 A2 B1 B2 : Option Addr) (c1 c2 d1 d2 : Nat) (ms : List Pr) (us : List Int) : Vw.eqB ⟨r, n, i, A1, c1, ms, A2, c2, us⟩ ⟨r, n, i, B1, d1, ms, B2, d2, us⟩ = true := by simp [Vw.eqB]
set_option maxRecDepth 100000 in
set_option maxHeartbeats 4000000 in
theorem viewMay_true (x : Vw) (a b : Int) (w : World) (hm : Sl w x.MA x.ms) (hu : Ul w x.UA x.us) (hw : x.Wf) (_ : wfP (a, b)) :
    Calls Try.prog 3 #[x.v, .agg #[.int .i64 a, .int .u64 b]] w (RetB w true) := by
  have TA := hide (fun W => awake4_t W)
  have TH := hide (fun W => heavy4_s x W)
  cases hh : hvV x
  · have okx := Vw.ok_of hm hu hh
    rw [hh] at TH
    clear hm hu hh
    have hi : 0 ≤ x.i := hw.p.2.2.1
    have hms : ∀ p ∈ x.ms, 0 ≤ p.2 := fun p hp => (hw.ms p hp).2.2.1
    have TC := hide (fun W (h : x.Ok W) => copyV_s x W h)
    have T2 := hide (fun W (h : x.Ok W) => refVMay_s x W h hi hms)
    have T3 := hide (fun W => mayId_s x.r x.n x.i W)
    have T4 := hide (fun W => refMayId_s x.r x.n x.i W hi)
    clear hw hi hms
    obtain ⟨r, n, i, MA, mc, ms, UA, uc, us⟩ := x
    have T1 : Hid (∀ W A1 c1 A2 c2, Vw.Ok W ⟨r, n, i, A1, c1, ms, A2, c2, us⟩ → Calls Try.prog 17 #[Vw.v ⟨r, n, i, A1, c1, ms, A2, c2, us⟩] W fun e w' => e = .returned (.bool (Vw.mayB ⟨r, n, i, MA, mc, ms, UA, uc, us⟩)) ∧ Below W.heap.size W w') := hide (fun W A1 c1 A2 c2 h => vmay_s ⟨r, n, i, A1, c1, ms, A2, c2, us⟩ W h)
    have T5 : Hid (∀ W A1 c1 A2 c2, Vw.Ok W ⟨r, n, i, A1, c1, ms, A2, c2, us⟩ → Vw.Ok W ⟨r, n, i, MA, mc, ms, UA, uc, us⟩ → Calls Try.prog 21 #[Vw.v ⟨r, n, i, A1, c1, ms, A2, c2, us⟩, Vw.v ⟨r, n, i, MA, mc, ms, UA, uc, us⟩] W fun e w' => e = .returned (.bool true) ∧ Below W.heap.size W w') := hide (fun W A1 c1 A2 c2 h h' => by
      have := refVSame_s ⟨r, n, i, A1, c1, ms, A2, c2, us⟩ ⟨r, n, i, MA, mc, ms, UA, uc, us⟩ W h h'
      rw [eqB_same] at this; exact this)
    have T6 : Hid (∀ W A1 c1 A2 c2 B1 d1 B2 d2, Vw.Ok W ⟨0, a, b, A1, c1, [(a, b)], A2, c2, [0]⟩ → Vw.Ok W ⟨0, a, b, B1, d1, [(a, b)], B2, d2, [0]⟩ → Calls Try.prog 21 #[.agg #[.int .u64 0, .int .i64 a, .int .u64 b, .slice A1 1 c1, .slice A2 1 c2], .agg #[.int .u64 0, .int .i64 a, .int .u64 b, .slice B1 1 d1, .slice B2 1 d2]] W fun e w' => e = .returned (.bool true) ∧ Below W.heap.size W w') := hide (fun W A1 c1 A2 c2 B1 d1 B2 d2 h h' => by
      have := refVSame_s ⟨0, a, b, A1, c1, [(a, b)], A2, c2, [0]⟩ ⟨0, a, b, B1, d1, [(a, b)], B2, d2, [0]⟩ W h h'
      rw [eqB_same] at this; exact this)
    generalize Vw.mayB ⟨r, n, i, MA, mc, ms, UA, uc, us⟩ = bm at T1 T2
    simp only at T3 T4
    generalize mayIdB r n i = bi at T3 T4
    have e1 : (bm == bm) = true := by simp
    have e2 : (bi == bi) = true := by simp
    unfold Vw.v at TH TC T1 T2 T5 ⊢
    simp only at TH TC T1 T2 T5 ⊢
    go_enter Try.func3, Try.ntmps3
    go_wp2_with fail
    (with_reducible refine (TH.out _).mono ?_)
    rintro e w1 ⟨rfl, hb⟩
    have p0 : BoxAt w1 w.heap.size #[.int .u64 r, .int .i64 n, .int .u64 i, .slice MA ms.length mc, .slice UA us.length uc] 30 := ((boxTop w _ _).alloc' _).step hb
    have p1 : BoxAt w1 (w.heap.size + 1) #[.int .i64 a, .int .u64 b] 24 := by
      have := boxTop (w.alloc (bxV r n i MA ms.length mc UA us.length uc)) #[.int .i64 a, .int .u64 b] 24
      rw [World.size_alloc] at this
      exact this.step hb
    have hB := below_step (show Below w.heap.size w ((w.alloc (bxV r n i MA ms.length mc UA us.length uc)).alloc (bx a b)) from (by repeat (first | exact Below.refl _ _ | assumption | refine bel_al ?_ _ | refine bel_gw ?_ _ _ | refine bel_drew ?_ | refine bel_drewN ?_ _))) hb
    have sx := okx.step hB
    haveI := p0
    clear hb okx TH
    go_wp2_with fail
    (with_reducible refine (TC.out _ sx).mono ?_)
    rintro e w2 ⟨A1, c1, A2, c2, rfl, so, hb⟩
    unfold Vw.v
    simp only
    replace p0 := p0.step hb
    replace p1 := p1.step hb
    replace sx := sx.step hb
    replace hB := below_step hB hb
    haveI := p0
    haveI := p1
    clear hb TC
    go_wp2_with fail
    have hb : Below w2.heap.size w2 (w2.alloc (bxV r n i A1 ms.length c1 A2 us.length c2)).drew := (by repeat (first | exact Below.refl _ _ | assumption | refine bel_al ?_ _ | refine bel_gw ?_ _ _ | refine bel_drew ?_ | refine bel_drewN ?_ _))
    have p2 : BoxAt (w2.alloc (bxV r n i A1 ms.length c1 A2 us.length c2)).drew w2.heap.size #[.int .u64 r, .int .i64 n, .int .u64 i, .slice A1 ms.length c1, .slice A2 us.length c2] 30 := (boxTop w2 _ _).drew'
    replace p0 := p0.step hb
    replace p1 := p1.step hb
    replace sx := sx.step hb
    replace so := so.step hb
    replace hB := below_step hB hb
    clear hb
    go_region_held3 (fun w' => w'.cell? ⟨w.heap.size, 0, none⟩ = some (.int .u64 r) ∧ w'.cell? ⟨w.heap.size, 1, none⟩ = some (.int .i64 n) ∧ w'.cell? ⟨w.heap.size, 2, none⟩ = some (.int .u64 i) ∧ w'.cell? ⟨w.heap.size, 3, none⟩ = some (.slice MA ms.length mc) ∧ w'.cell? ⟨w.heap.size, 4, none⟩ = some (.slice UA us.length uc) ∧ w'.cell? ⟨w.heap.size + 1, 0, none⟩ = some (.int .i64 a) ∧ w'.cell? ⟨w.heap.size + 1, 1, none⟩ = some (.int .u64 b) ∧ w'.cell? ⟨w2.heap.size, 0, none⟩ = some (.int .u64 r) ∧ w'.cell? ⟨w2.heap.size, 1, none⟩ = some (.int .i64 n) ∧ w'.cell? ⟨w2.heap.size, 2, none⟩ = some (.int .u64 i) ∧ w'.cell? ⟨w2.heap.size, 3, none⟩ = some (.slice A1 ms.length c1) ∧ w'.cell? ⟨w2.heap.size, 4, none⟩ = some (.slice A2 us.length c2)) (exact box525 p0 p1 p2)
      (first
        | (go_at_call 17; (with_reducible refine (T1.out _ _ _ _ _ so).mono ?_); rintro e w3 ⟨rfl, hb⟩; replace p0 := p0.step hb; replace p1 := p1.step hb; replace p2 := p2.step hb; replace sx := sx.step hb; replace so := so.step hb; replace hB := below_step hB hb; clear hb)
        | (go_at_call 18; (with_reducible refine (T2.out _ sx).mono ?_); rintro e w4 ⟨rfl, hb⟩; replace p0 := p0.step hb; replace p1 := p1.step hb; replace p2 := p2.step hb; replace sx := sx.step hb; replace so := so.step hb; replace hB := below_step hB hb; clear hb)
        | (go_at_call 19; (with_reducible refine (T3.out _).mono ?_); rintro e w5 ⟨rfl, hb⟩; replace p0 := p0.step hb; replace p1 := p1.step hb; replace p2 := p2.step hb; replace sx := sx.step hb; replace so := so.step hb; replace hB := below_step hB hb; clear hb)
        | (go_at_call 20; (with_reducible refine (T4.out _).mono ?_); rintro e w6 ⟨rfl, hb⟩; replace p0 := p0.step hb; replace p1 := p1.step hb; replace p2 := p2.step hb; replace sx := sx.step hb; replace so := so.step hb; replace hB := below_step hB hb; clear hb)
        | (go_at_call 22; (with_reducible refine (first_u a b _).mono ?_); rintro e w7 ⟨F1, f1, F2, f2, rfl, sf, hb⟩; replace p0 := p0.step hb; replace p1 := p1.step hb; replace p2 := p2.step hb; replace sx := sx.step hb; replace so := so.step hb; replace hB := below_step hB hb; clear hb)
        | (go_at_call 23; (with_reducible refine (refFirst_u a b _).mono ?_); rintro e w8 ⟨G1, g1, G2, g2, rfl, sg, hb⟩; replace p0 := p0.step hb; replace p1 := p1.step hb; replace p2 := p2.step hb; replace sx := sx.step hb; replace so := so.step hb; replace sf := sf.step hb; replace hB := below_step hB hb; clear hb)
        | (go_at_call 21; (with_reducible refine (T6.out _ _ _ _ _ _ _ _ _ sf sg).mono ?_); rintro e w9 ⟨rfl, hb⟩; replace p0 := p0.step hb; replace p1 := p1.step hb; replace p2 := p2.step hb; replace sx := sx.step hb; replace so := so.step hb; replace sf := sf.step hb; replace sg := sg.step hb; replace hB := below_step hB hb; clear hb)
        | (go_at_call 21; (with_reducible refine (T5.out _ _ _ _ _ so sx).mono ?_); rintro e w10 ⟨rfl, hb⟩; replace p0 := p0.step hb; replace p1 := p1.step hb; replace p2 := p2.step hb; replace sx := sx.step hb; replace so := so.step hb; replace hB := below_step hB hb; clear hb)
        | (go_at_call 15; (with_reducible refine (TA.out _).mono ?_); rintro e w11 ⟨rfl, hb⟩; replace p0 := p0.step hb; replace p1 := p1.step hb; replace p2 := p2.step hb; replace sx := sx.step hb; replace so := so.step hb; replace hB := below_step hB hb; clear hb)
        )
    go_wp2
    go_ret
    exact ⟨rfl, hB⟩
  · rw [hh] at TH
    obtain ⟨r, n, i, MA, mc, ms, UA, uc, us⟩ := x
    clear hm hu hh hw
    unfold Vw.v at TH ⊢
    simp only at TH ⊢
    go_enter Try.func3, Try.ntmps3
    go_wp2_with fail
    (with_reducible refine (TH.out _).mono ?_)
    rintro e w3 ⟨rfl, hb⟩
    obtain ⟨⟨d1, os1⟩, rfl⟩ := gw_of_below hb
    clear hb
    go_wp2_with fail
    (with_reducible refine (TA.out _).mono ?_)
    rintro e w3 ⟨rfl, hb⟩
    obtain ⟨⟨d3, os3⟩, rfl⟩ := gw_of_below hb
    clear hb
    go_wp2
    go_ret
    exact ⟨rfl, (by repeat (first | exact Below.refl _ _ | assumption | refine bel_al ?_ _ | refine bel_gw ?_ _ _ | refine bel_drew ?_ | refine bel_drewN ?_ _))⟩
end Go.Proofs.Ytgbappmidllnmaa
