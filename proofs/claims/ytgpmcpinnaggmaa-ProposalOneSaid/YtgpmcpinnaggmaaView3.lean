/-
  Contract: view.May.
-/
import Derived.Test.YtgpmcpinnaggmaaView2
namespace Go.Proofs.Ytgpmcpinnaggmaa
set_option linter.unusedSimpArgs false
set_option linter.unusedVariables false
set_option linter.unusedSectionVars false
open Go.RowKit

theorem BoxAt.step {w w' : World} {n : Nat} {cs : Array Value} {t : TypeId} (h : BoxAt w n cs t) (hb : Below w.heap.size w w') : BoxAt w' n cs t := ⟨by rw [hb.block n h.lt]; exact h.eq⟩
theorem box5 {w : World} {n : Nat} {a b c d e : Value} {t : TypeId} (h : BoxAt w n #[a, b, c, d, e] t) : w.cell? ⟨n, 0, none⟩ = some a ∧ w.cell? ⟨n, 1, none⟩ = some b ∧ w.cell? ⟨n, 2, none⟩ = some c ∧ w.cell? ⟨n, 3, none⟩ = some d ∧ w.cell? ⟨n, 4, none⟩ = some e := by
  refine ⟨?_, ?_, ?_, ?_, ?_⟩ <;> (rw [cell?_box]; rfl)
/-- may a view be that was agreed on? -/
def mayAB (x : Vw) : Bool := decide (1 ≤ (x.ms.length : Int)) && (decide ((x.ms.length : Int) ≤ 6) && (setB x.ms && ((((nodesL x.ms).length : Int) == (x.ms.length : Int)) && (((x.us.length : Int) == (x.ms.length : Int)) && !decide ((0 : Int) ∈ x.us)))))
/-- may a view be? -/
def Vw.mayB (x : Vw) : Bool := mayIdB x.r x.n x.i && (if x.r = 0 then Vw.eqB x ⟨0, x.n, x.i, none, 0, [(x.n, x.i)], none, 0, [0]⟩ else mayAB x)
set_option maxRecDepth 100000 in
set_option maxHeartbeats 2000000 in
theorem vmay_s (x : Vw) (w : World) (h : x.Ok w) : Calls Try.prog 32 #[x.v] w fun e w' => e = .returned (.bool x.mayB) ∧ Below w.heap.size w w' := by
  have HOK := hide h
  obtain ⟨r, n, i, MA, mc, ms, UA, uc, us⟩ := x
  obtain ⟨h1, h2, h3, h4⟩ := h
  simp only at h1 h2 h3 h4
  have T1 := hide (fun W => mayId_s r n i W)
  unfold Vw.mayB
  simp only
  cases hid : mayIdB r n i
  · rw [hid] at T1
    unfold Vw.v
    simp only [Bool.false_and]
    clear hid h1 h2
    go_enter Try.func32, Try.ntmps32
    go_wp2_with fail
    with_reducible refine (T1.out _).mono ?_
    rintro e w1 ⟨rfl, hb⟩
    obtain ⟨⟨d1, os1⟩, rfl⟩ := gw_of_below hb
    clear hb
    go_wp2
    go_ret
    exact ⟨rfl, (by repeat (first | exact Below.refl _ _ | assumption | refine bel_al ?_ _ | refine bel_gw ?_ _ _ | refine bel_drew ?_ | refine bel_drewN ?_ _))⟩
  · rw [hid] at T1
    rw [Bool.true_and]
    clear hid
    by_cases hr : r = 0
    · subst hr
      rw [if_pos rfl]
      unfold Vw.v
      simp only
      have HS : Hid (∀ (W : World) (y : Vw), Vw.Ok W ⟨0, n, i, MA, mc, ms, UA, uc, us⟩ → y.Ok W → Calls Try.prog 31 #[.agg #[.int .u64 0, .int .i64 n, .int .u64 i, .slice MA ms.length mc, .slice UA us.length uc], y.v] W fun e w' => e = .returned (.bool (Vw.eqB ⟨0, n, i, MA, mc, ms, UA, uc, us⟩ y)) ∧ Below W.heap.size W w') := fun W y hW hW' => vsame_s ⟨0, n, i, MA, mc, ms, UA, uc, us⟩ y W hW hW'
      have HE := hide (fun MA1 mc1 UA1 uc1 => show Vw.eqB ⟨0, n, i, MA, mc, ms, UA, uc, us⟩ ⟨0, n, i, MA1, mc1, [(n, i)], UA1, uc1, [0]⟩ = Vw.eqB ⟨0, n, i, MA, mc, ms, UA, uc, us⟩ ⟨0, n, i, none, 0, [(n, i)], none, 0, [0]⟩ from rfl)
      have h00 : ((0 : Int) == 0) = true := rfl
      go_enter Try.func32, Try.ntmps32
      go_wp2_with fail
      with_reducible refine (T1.out _).mono ?_
      rintro e w1 ⟨rfl, hb⟩
      have p0 : BoxAt w1 w.heap.size _ _ := (boxTop w _ _).step hb
      have sv := HOK.out.step (below_step (below_alloc _ _) hb)
      have hB := below_step (below_alloc w _) hb
      clear hb h1 h2 HOK
      haveI := p0
      go_wp2_with fail
      replace p0 : BoxAt w1.drew w.heap.size _ _ := ⟨p0.eq⟩
      replace hB := hB.drew
      have sv2 : Vw.Ok w1.drew ⟨0, n, i, MA, mc, ms, UA, uc, us⟩ := sv.step (Below.refl _ _).drew
      clear sv
      go_region_held3 (fun w' => w'.cell? ⟨w.heap.size, 0, none⟩ = some (.int .u64 0) ∧ w'.cell? ⟨w.heap.size, 1, none⟩ = some (.int .i64 n) ∧ w'.cell? ⟨w.heap.size, 2, none⟩ = some (.int .u64 i) ∧ w'.cell? ⟨w.heap.size, 3, none⟩ = some (.slice MA ms.length mc) ∧ w'.cell? ⟨w.heap.size, 4, none⟩ = some (.slice UA us.length uc)) (exact box5 p0)
        (first
          | (go_at_call 83; (with_reducible refine (first_s n i _).mono ?_); rintro e w2 ⟨MA1, mc1, UA1, uc1, rfl, ok1, hb⟩; replace p0 := p0.step hb; replace sv2 := sv2.step hb; replace hB := below_step hB hb; clear hb)
          | (go_at_call 31; (with_reducible refine (HS.out _ _ sv2 ok1).mono ?_); rintro e w3 ⟨rfl, hb⟩; replace p0 := p0.step hb; replace sv2 := sv2.step hb; replace ok1 := ok1.step hb; replace hB := below_step hB hb; clear hb)
          )
      go_wp2
      go_ret
      exact ⟨ret_b (by rw [HE.out]), hB⟩
    · rw [if_neg hr]
      have hr0 : (r == 0) = false := by simp [hr]
      unfold Vw.v mayAB
      simp only
      have T3 := hide (fun W (hW : Sl W MA ms) => set_any MA mc ms W hW h3)
      have T4 := hide (fun W (hW : Sl W MA ms) => nodes_s MA mc ms W hW h3)
      have T6 := hide (fun W (hW : Ul W UA us) => containsU_s UA uc us 0 W hW h4)
      have H1 := hide h1
      have H2 := hide h2
      clear h1 h2 HOK hr
      generalize nodesL ms = N at T4 ⊢
      generalize setB ms = b3 at T3 ⊢
      generalize decide ((0 : Int) ∈ us) = b6 at T6 ⊢
      generalize f1 : decide (1 ≤ (ms.length : Int)) = b1
      generalize f2 : decide ((ms.length : Int) ≤ 6) = b2
      generalize f4 : ((N.length : Int) == (ms.length : Int)) = b4
      generalize f5 : ((us.length : Int) == (ms.length : Int)) = b5
      have key : b1 = false ∨ (b1 = true ∧ b2 = false) ∨ (b1 = true ∧ b2 = true ∧ b3 = false) ∨ (b1 = true ∧ b2 = true ∧ b3 = true ∧ b4 = false) ∨ (b1 = true ∧ b2 = true ∧ b3 = true ∧ b4 = true ∧ b5 = false) ∨ (b1 = true ∧ b2 = true ∧ b3 = true ∧ b4 = true ∧ b5 = true) := by
        cases b1 <;> cases b2 <;> cases b3 <;> cases b4 <;> cases b5 <;> simp
      rcases key with rfl | ⟨rfl, rfl⟩ | ⟨rfl, rfl, rfl⟩ | ⟨rfl, rfl, rfl, rfl⟩ | ⟨rfl, rfl, rfl, rfl, rfl⟩ | ⟨rfl, rfl, rfl, rfl, rfl⟩
      all_goals
        go_enter Try.func32, Try.ntmps32
        go_wp2_with fail
        with_reducible refine (T1.out _).mono ?_
        rintro e w1 ⟨rfl, hb⟩
        obtain ⟨⟨d1, os1⟩, rfl⟩ := gw_of_below hb
        clear hb
        go_wp2_with (first
          | (go_at_call 84; (with_reducible refine (T3.out _ (H1.out.step (by repeat (first | exact Below.refl _ _ | assumption | refine bel_al ?_ _ | refine bel_gw ?_ _ _ | refine bel_drew ?_ | refine bel_drewN ?_ _)))).mono ?_); rintro e w2 ⟨rfl, hb⟩; obtain ⟨⟨d2, os2⟩, rfl⟩ := gw_of_below hb; clear hb)
          | (go_at_call 66; (with_reducible refine (T4.out _ (H1.out.step (by repeat (first | exact Below.refl _ _ | assumption | refine bel_al ?_ _ | refine bel_gw ?_ _ _ | refine bel_drew ?_ | refine bel_drewN ?_ _)))).mono ?_); rintro e w3 ⟨NA, NC, rfl, hN, hb⟩; obtain ⟨⟨d3, os3⟩, rfl⟩ := gw_of_below hb; clear hb hN)
          | (go_at_call 73; (with_reducible refine (T6.out _ (H2.out.step (by repeat (first | exact Below.refl _ _ | assumption | refine bel_al ?_ _ | refine bel_gw ?_ _ _ | refine bel_drew ?_ | refine bel_drewN ?_ _)))).mono ?_); rintro e w4 ⟨rfl, rfl⟩))
        go_ret
        exact ⟨ret_b (by simp), (by repeat (first | exact Below.refl _ _ | assumption | refine bel_al ?_ _ | refine bel_gw ?_ _ _ | refine bel_drew ?_ | refine bel_drewN ?_ _))⟩
end Go.Proofs.Ytgpmcpinnaggmaa
