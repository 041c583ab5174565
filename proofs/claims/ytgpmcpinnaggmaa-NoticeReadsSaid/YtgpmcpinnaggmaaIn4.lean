/-
  Layer 4's reference: contracts: ReadId, Read.
-/
import Derived.Test.YtgpmcpinnaggmaaIn3
namespace Go.Proofs.Ytgpmcpinnaggmaa
set_option linter.unusedSimpArgs false
set_option linter.unusedVariables false
set_option linter.unusedSectionVars false
open Go.RowKit

set_option maxRecDepth 100000 in
set_option maxHeartbeats 2000000 in
theorem readId_s (g B : Nat) (s : RS) (w : World) (h : RI w g B s) :
    Calls Try.prog 96 #[.pointer (some ⟨g, 0, none⟩)] w (RetJ g B w (.agg #[.int .u64 (rId s).1.1, .int .i64 (rId s).1.2.1, .int .u64 (rId s).1.2.2]) (rId s).2) := by
  have hle := h.le
  have htop := h.top
  have T1 := hide (uintI_s g B s _ (h.step (below_alloc w (bxI3 0 0 0))))
  have T2 := hide (fun W (hW : RI W g B (rUint s).2) => procI_s g B (rUint s).2 W hW)
  have hx3 := rGet_nonneg (rUint s).2
  have hQ : rId s = if (rGet (rUint s).2).2.2 = true ∨ mayIdB (rUint s).1 (rGet (rUint s).2).1.1 (rGet (rUint s).2).1.2 = false then ((0, 0, 0), ((rGet (rUint s).2).2.1, true)) else (((rUint s).1, (rGet (rUint s).2).1.1, (rGet (rUint s).2).1.2), (rGet (rUint s).2).2) := rfl
  rw [hQ]
  clear hQ h
  generalize rUint s = r1 at T1 T2 hx3 ⊢
  obtain ⟨x1, s1⟩ := r1
  simp only at T1 T2 hx3 ⊢
  generalize rGet s1 = r2 at T2 hx3 ⊢
  obtain ⟨⟨x2, x3⟩, bs2, bad2⟩ := r2
  simp only at T2 hx3 ⊢
  have T4 := hide (fun W => refMayId_s x1 x2 x3 W hx3)
  have key : bad2 = true ∨ (bad2 = false ∧ mayIdB x1 x2 x3 = false) ∨ (bad2 = false ∧ mayIdB x1 x2 x3 = true) := by
    cases bad2 <;> cases mayIdB x1 x2 x3 <;> simp
  rcases key with rfl | ⟨rfl, hm⟩ | ⟨rfl, hm⟩
  · rw [if_pos (.inl rfl)]
    clear T4
    go_enter Try.func96, Try.ntmps96
    go_wp2_with fail
    (with_reducible refine T1.out.mono ?_)
    rintro e wx ⟨rfl, hR, hG⟩
    obtain ⟨W1, ⟨d1, os1⟩, hs1, hg1, rfl, hR1⟩ := rstI (W := w) (fun W => W.alloc (bxI3 0 0 0)) (by repeat (first | exact Lays.id | refine Lays.alloc ?_ _ | refine Lays.gw ?_ _ _)) hG hR (by omega)
    dsimp only
    haveI : Sz W1 w.heap.size := ⟨hs1⟩
    clear hR hG
    go_wp2_with fail
    (with_reducible refine (T2.out _ (hR1.step (by repeat (first | exact Below.refl _ _ | assumption | refine bel_al ?_ _ | refine bel_gw ?_ _ _ | refine bel_drew ?_ | refine bel_drewN ?_ _)))).mono ?_)
    rintro e wx ⟨rfl, hR, hG⟩
    obtain ⟨W2, ⟨d2, os2⟩, hs2, hg2, rfl, hR2⟩ := rstI (W := W1) (fun W => gw (W.alloc (bxI3 0 0 0)) d1 os1) (by repeat (first | exact Lays.id | refine Lays.alloc ?_ _ | refine Lays.gw ?_ _ _)) hG hR (by omega)
    dsimp only
    replace hg2 := grown_trans hg1 hg2
    replace hs2 := hs2.trans hs1
    haveI : Sz W2 w.heap.size := ⟨hs2⟩
    clear hR hG hR1 hs1 hg1
    obtain ⟨v2, hbx⟩ := hR2.box
    simp only at hbx
    haveI := hbx
    have hF := hR2.fail bs2
    have hgF := grown_trans hg2 (grown_setCell W2 g 1 (.bool true))
    go_wp2
    refine bodyPost_ret (v := .agg #[.int .u64 0, .int .i64 0, .int .u64 0]) (by simp [results, Try.results96, go_sem]) rfl ?_
    exact ⟨rfl, hF.step (by repeat (first | exact Below.refl _ _ | assumption | refine bel_al ?_ _ | refine bel_gw ?_ _ _ | refine bel_drew ?_ | refine bel_drewN ?_ _)), grown_gw hgF (by repeat (first | exact Below.refl _ _ | assumption | refine bel_al ?_ _ | refine bel_gw ?_ _ _ | refine bel_drew ?_ | refine bel_drewN ?_ _))⟩
  · rw [if_pos (.inr hm)]
    rw [hm] at T4
    clear hm
    go_enter Try.func96, Try.ntmps96
    go_wp2_with fail
    (with_reducible refine T1.out.mono ?_)
    rintro e wx ⟨rfl, hR, hG⟩
    obtain ⟨W1, ⟨d1, os1⟩, hs1, hg1, rfl, hR1⟩ := rstI (W := w) (fun W => W.alloc (bxI3 0 0 0)) (by repeat (first | exact Lays.id | refine Lays.alloc ?_ _ | refine Lays.gw ?_ _ _)) hG hR (by omega)
    dsimp only
    haveI : Sz W1 w.heap.size := ⟨hs1⟩
    clear hR hG
    go_wp2_with fail
    (with_reducible refine (T2.out _ (hR1.step (by repeat (first | exact Below.refl _ _ | assumption | refine bel_al ?_ _ | refine bel_gw ?_ _ _ | refine bel_drew ?_ | refine bel_drewN ?_ _)))).mono ?_)
    rintro e wx ⟨rfl, hR, hG⟩
    obtain ⟨W2, ⟨d2, os2⟩, hs2, hg2, rfl, hR2⟩ := rstI (W := W1) (fun W => gw (W.alloc (bxI3 0 0 0)) d1 os1) (by repeat (first | exact Lays.id | refine Lays.alloc ?_ _ | refine Lays.gw ?_ _ _)) hG hR (by omega)
    dsimp only
    replace hg2 := grown_trans hg1 hg2
    replace hs2 := hs2.trans hs1
    haveI : Sz W2 w.heap.size := ⟨hs2⟩
    clear hR hG hR1 hs1 hg1
    obtain ⟨v2, hbx⟩ := hR2.box
    simp only at hbx
    haveI := hbx
    go_wp2_with fail
    (with_reducible refine (T4.out _).mono ?_)
    rintro e w3 ⟨rfl, hb⟩
    obtain ⟨⟨d4, os4⟩, rfl⟩ := gw_of_below hb
    clear hb
    have hF := hR2.fail bs2
    have hgF := grown_trans hg2 (grown_setCell W2 g 1 (.bool true))
    go_wp2
    refine bodyPost_ret (v := .agg #[.int .u64 0, .int .i64 0, .int .u64 0]) (by simp [results, Try.results96, go_sem]) rfl ?_
    exact ⟨rfl, hF.step (by repeat (first | exact Below.refl _ _ | assumption | refine bel_al ?_ _ | refine bel_gw ?_ _ _ | refine bel_drew ?_ | refine bel_drewN ?_ _)), grown_gw hgF (by repeat (first | exact Below.refl _ _ | assumption | refine bel_al ?_ _ | refine bel_gw ?_ _ _ | refine bel_drew ?_ | refine bel_drewN ?_ _))⟩
  · rw [if_neg (by rw [hm]; simp)]
    rw [hm] at T4
    clear hm
    go_enter Try.func96, Try.ntmps96
    go_wp2_with fail
    (with_reducible refine T1.out.mono ?_)
    rintro e wx ⟨rfl, hR, hG⟩
    obtain ⟨W1, ⟨d1, os1⟩, hs1, hg1, rfl, hR1⟩ := rstI (W := w) (fun W => W.alloc (bxI3 0 0 0)) (by repeat (first | exact Lays.id | refine Lays.alloc ?_ _ | refine Lays.gw ?_ _ _)) hG hR (by omega)
    dsimp only
    haveI : Sz W1 w.heap.size := ⟨hs1⟩
    clear hR hG
    go_wp2_with fail
    (with_reducible refine (T2.out _ (hR1.step (by repeat (first | exact Below.refl _ _ | assumption | refine bel_al ?_ _ | refine bel_gw ?_ _ _ | refine bel_drew ?_ | refine bel_drewN ?_ _)))).mono ?_)
    rintro e wx ⟨rfl, hR, hG⟩
    obtain ⟨W2, ⟨d2, os2⟩, hs2, hg2, rfl, hR2⟩ := rstI (W := W1) (fun W => gw (W.alloc (bxI3 0 0 0)) d1 os1) (by repeat (first | exact Lays.id | refine Lays.alloc ?_ _ | refine Lays.gw ?_ _ _)) hG hR (by omega)
    dsimp only
    replace hg2 := grown_trans hg1 hg2
    replace hs2 := hs2.trans hs1
    haveI : Sz W2 w.heap.size := ⟨hs2⟩
    clear hR hG hR1 hs1 hg1
    obtain ⟨v2, hbx⟩ := hR2.box
    simp only at hbx
    haveI := hbx
    go_wp2_with fail
    (with_reducible refine (T4.out _).mono ?_)
    rintro e w3 ⟨rfl, hb⟩
    obtain ⟨⟨d4, os4⟩, rfl⟩ := gw_of_below hb
    clear hb
    go_wp2
    refine bodyPost_ret (v := .agg #[.int .u64 x1, .int .i64 x2, .int .u64 x3]) (by simp [results, Try.results96, go_sem]) rfl ?_
    exact ⟨rfl, hR2.step (by repeat (first | exact Below.refl _ _ | assumption | refine bel_al ?_ _ | refine bel_gw ?_ _ _ | refine bel_drew ?_ | refine bel_drewN ?_ _)), grown_gw hg2 (by repeat (first | exact Below.refl _ _ | assumption | refine bel_al ?_ _ | refine bel_gw ?_ _ _ | refine bel_drew ?_ | refine bel_drewN ?_ _))⟩
/-- while the starts are read -/
structure VI (w : World) (g B nv : Nat) (a b c vm vv : Value) (ms : List Pr) (L : List Int) (s : RS) (W : World) : Prop where
  kv : BoxAt W nv #[a, b, c, vm, vv] 32
  k0 : BoxAt W w.heap.size #[.int .u64 0, .int .i64 0, .int .u64 0, .slice none 0 0, .slice none 0 0] 32
  ou : W.ownsRow (nv + 1) 24 1 vv L.length (ucs L)
  om : OwnP W (w.heap.size + 1) vm ms
  ob : ∀ r, vm.ownBlock = some r → r < nv
  rd : RI W g B s
  gr : w.grownBy W (some g)
  h1 : w.heap.size < nv
  h4 : B ≤ w.heap.size
  h5 : g < B
section
variable {w W W' : World} {g B nv : Nat} {a b c vm vv : Value} {ms : List Pr} {L : List Int} {s s' : RS}
theorem VI.read (h : VI w g B nv a b c vm vv ms L s W) (hG : W.grownBy W' (some g)) (hR : RI W' g B s') : VI w g B nv a b c vm vv ms L s' W' := by
  obtain ⟨kv, k0, ou, om, ob, rd, gr, h1, h4, h5⟩ := h
  exact ⟨kv.grown hG (by omega), k0.grown hG (by omega), own_grown ou hG (by omega), own_grown om hG (by omega), ob, hR, grown_trans gr hG, h1, h4, h5⟩
theorem VI.below (h : VI w g B nv a b c vm vv ms L s W) (hb : Below W.heap.size W W') : VI w g B nv a b c vm vv ms L s W' := by
  obtain ⟨kv, k0, ou, om, ob, rd, gr, h1, h4, h5⟩ := h
  exact ⟨kv.step hb, k0.step hb, own_below ou hb (Nat.le_refl _), own_below om hb (Nat.le_refl _), ob, rd.step hb, grown_gw gr hb, h1, h4, h5⟩
theorem VI.store {v5 : Value} {x : Int} (h : VI w g B nv a b c vm vv ms L s W) (ho : W'.ownsRow (nv + 1) 24 1 v5 (L.length + 1) (ucs L ++ ucs [x])) (hg : W.grownBy W' vv.ownBlock) :
    BoxAt W' nv #[a, b, c, vm, vv] 32 ∧ VI w g B nv a b c vm v5 ms (L ++ [x]) s (W'.setCell ⟨nv, 4, none⟩ v5) := by
  obtain ⟨kv, k0, ou, om, ob, rd, gr, h1, h4, h5⟩ := h
  have hnl := kv.lt
  have hbb : Below (nv + 1) W W' := grown_belowB hg (by omega) (fun k hk => (ou.lt k hk).1)
  have kv' : BoxAt W' nv #[a, b, c, vm, vv] 32 := kv.stepN hbb (by omega)
  have hgs := grown_setCell W' nv 4 v5
  have om' : OwnP W' (w.heap.size + 1) vm ms := own_apart om hg (fun r hr e => by have := ob r hr; have := (ou.lt r e).1; omega)
  have hs' := hbb.size
  refine ⟨kv', ⟨⟨setCell_block _ _ _ _ _ _ kv'.eq⟩, (k0.stepN hbb (by omega)).set (by omega), ?_, own_apart om' hgs (fun r hr e => by have := ob r hr; injection e; omega), ob, ?_, ?_, h1, h4, h5⟩⟩
  · rw [List.length_append, ucs_app]; exact own_grown ho hgs (by omega)
  · exact (rd.below (hbb.mono (by omega))).below (grown_to_below hgs (by omega) (by omega))
  · exact grown_then_below (grown_then_below gr (hbb.mono (by omega))) (grown_to_below hgs (by omega) (by omega))
end
/-- a view is read into new memory -/
def RetJV (g B : Nat) (w : World) (x : (Int × Int × Int) × List Pr × List Int) (s : RS) (e : Ending) (w' : World) : Prop :=
  ∃ A1 c1 A2 c2, e = .returned (.agg #[.int .u64 x.1.1, .int .i64 x.1.2.1, .int .u64 x.1.2.2, .slice A1 x.2.1.length c1, .slice A2 x.2.2.length c2]) ∧ OwnP w' w.heap.size (.slice A1 x.2.1.length c1) x.2.1 ∧ w'.ownsRow w.heap.size 24 1 (.slice A2 x.2.2.length c2) x.2.2.length (ucs x.2.2) ∧ RI w' g B s ∧ w.grownBy w' (some g)
theorem rId_nonneg (s : RS) : 0 ≤ (rId s).1.2.2 := by
  unfold rId
  split
  · simp
  · exact rGet_nonneg _
theorem rRun_nonneg : ∀ (k : Nat) (s : RS) (acc : List Pr), (∀ p ∈ acc, 0 ≤ p.2) → ∀ p ∈ (rRun k s acc).1, 0 ≤ p.2 := by
  intro k
  induction k with
  | zero => intro s acc h; exact h
  | succ k ih =>
    intro s acc h
    rw [rRun]
    split
    · simp
    · refine ih _ _ fun p hp => ?_
      rcases List.mem_append.1 hp with hp | hp
      · exact h p hp
      · simp at hp; subst hp; exact rGet_nonneg s
theorem rGetSet_nonneg (most : Nat) (s : RS) : ∀ p ∈ (rGetSet most s).1, 0 ≤ p.2 := by
  rw [rGetSet_eq]
  split
  · simp
  · split
    · simp
    · split
      · exact rRun_nonneg _ _ _ (by simp)
      · simp
theorem rGetSet_most' (most : Nat) (s : RS) : (rGetSet most s).1.length ≤ most := by
  have := rRun_le (rU8 s).1.toNat (rU8 s).2
  rw [rGetSet_eq]
  split
  · simp
  · rename_i h
    have h2 := (not_or.1 h).2
    split
    · simp
    · split
      · omega
      · simp
set_option maxRecDepth 100000 in
set_option maxHeartbeats 4000000 in
theorem readV_s (g B : Nat) (s : RS) (w : World) (h : RI w g B s) :
    Calls Try.prog 50 #[.pointer (some ⟨g, 0, none⟩)] w (RetJV g B w (rView s).1 (rView s).2) := by
  have hle := h.le
  have htop := h.top
  have T1 := hide (readId_s g B s _ (h.step (below_alloc w (bxV 0 0 0 none 0 0 none 0 0))))
  have T2 : Hid (∀ W, RI W g B (rId s).2 → Calls Try.prog 53 #[.pointer (some ⟨g, 0, none⟩), .int .i64 6] W (RetJP g B W (rGetSet 6 (rId s).2).1 (rGetSet 6 (rId s).2).2)) := hide (fun W hW => procsI_s g B 6 (rId s).2 W hW (by omega))
  have HQ := hide (rView_eq s)
  have hml := rGetSet_most' 6 (rId s).2
  have hmn := rGetSet_nonneg 6 (rId s).2
  have hin := rId_nonneg s
  generalize rView s = Q at HQ ⊢
  generalize rId s = r1 at T1 T2 HQ hml hmn hin
  obtain ⟨⟨r, n, i⟩, s1⟩ := r1
  simp only at T1 T2 HQ hml hmn hin
  generalize rGetSet 6 s1 = r2 at T2 HQ hml hmn
  obtain ⟨ms, s2⟩ := r2
  simp only at T2 HQ hml hmn
  have HMN := hide hmn
  have p0 := boxTop w #[.int .u64 0, .int .i64 0, .int .u64 0, .slice none 0 0, .slice none 0 0] 32
  clear h hmn
  go_enter Try.func50, Try.ntmps50
  go_wp2_with fail
  (with_reducible refine T1.out.mono ?_)
  rintro e w1 ⟨rfl, hR1, hG1⟩
  replace p0 := p0.grown hG1 (by omega)
  have hg1 := grown_trans (grown_below (r := some g) (below_alloc w (bxV 0 0 0 none 0 0 none 0 0))) hG1
  have hs1 : w.heap.size < w1.heap.size := p0.lt
  have hR1b := hR1.step (below_alloc w1 (bxI3 r n i))
  have p1 := boxTop w1 #[.int .u64 r, .int .i64 n, .int .u64 i] 29
  replace p0 := p0.step (below_alloc w1 (bxI3 r n i))
  replace hg1 := grown_gw hg1 (below_alloc w1 (bxI3 r n i))
  clear hR1 hG1 T1
  go_wp2_with fail
  (with_reducible refine (T2.out _ hR1b).mono ?_)
  rintro e w2 ⟨vm, rfl, hom, hR2, hG2⟩
  obtain ⟨MA, mc, rfl, _, _⟩ := own_slice hom
  replace p0 := p0.grown hG2 (by omega)
  replace p1 := p1.grown hG2 (by omega)
  haveI := p1
  rw [World.size_alloc] at hom
  have hs2 : w1.heap.size < w2.heap.size := p1.lt
  have hbA := below_alloc w2 (bxV r n i MA ms.length mc none 0 0)
  have V0 : VI w g B w2.heap.size (.int .u64 r) (.int .i64 n) (.int .u64 i) (.slice MA ms.length mc) (.slice none 0 0) ms [] s2 (w2.alloc (bxV r n i MA ms.length mc none 0 0)) :=
    ⟨boxTop w2 _ _, p0.alloc' _, World.ownsRow_nil _ _ _ _, own_below (own_base hom (by omega)) hbA (Nat.le_refl _), fun r hr => (hom.lt r hr).2, hR2.step hbA, grown_gw (grown_trans hg1 hG2) hbA, by omega, hle, htop⟩
  have HV0 := hide V0
  clear hom hR2 hG2 V0 hg1 p0 hR1b T2 hbA
  go_wp2
  go_loopw [6] (fun j wr => ∃ (k : Nat) (L : List Int) (sk : RS) (vv : Value), k ≤ ms.length ∧ j = .int .i64 k ∧ L.length = k ∧ rUints ms.length s2 [] = rUints (ms.length - k) sk L ∧ VI w g B w2.heap.size (.int .u64 r) (.int .i64 n) (.int .u64 i) (.slice MA ms.length mc) vv ms L sk wr) (fun j _ => ms.length - (intOf j).toNat)
  case atStart => exact ⟨0, [], s2, _, Nat.zero_le _, rfl, rfl, by rw [Nat.sub_zero], HV0.out⟩
  case round =>
    obtain ⟨k, L, sk, vv, hk, rfl, hL, hrun, V⟩ := hrel
    obtain ⟨UA, uc, rfl, _, _⟩ := own_slice V.ou
    have HL := hide hL
    have HRUN := hide hrun
    clear HV0 hL hrun
    by_cases hlt : k < ms.length
    · have T4 := hide (uintI_s g B sk wr V.rd)
      have hstep : Hid (rUints (ms.length - k) sk L = rUints (ms.length - (k + 1)) (rUint sk).2 (L ++ [(rUint sk).1])) := by
        rw [show ms.length - k = (ms.length - (k + 1)) + 1 by omega, rUints]; exact hide rfl
      generalize rUint sk = r4 at T4 hstep
      obtain ⟨x, s4⟩ := r4
      simp only at T4 hstep
      go_wp2_with fail
      (with_reducible refine T4.out.mono ?_)
      rintro e w3 ⟨rfl, hR3, hG3⟩
      have V3 := V.read hG3 hR3
      have V3b := V3.below (below_alloc w3 (.cells #[.int .u64 x] 24))
      haveI := V3.kv
      have hk3 := V3.kv.lt
      clear hR3 hG3 V T4
      go_wp2_with (at_builtin; refine wpList_append_any _ Try.okU (by rfl) (.tmp 24) (.tmp 26) (by rfl) (w2.heap.size + 1) (.slice UA L.length uc) L.length (ucs L) (by rfl) V3b.ou (w3.heap.size + 1) (some ⟨w3.heap.size, 0, none⟩) 1 1 (ucs [x]) (by rfl) (reads_oneU w3 x) (uc_one _) (by unfold maxLen; have := HL.out; omega) (by have := HL.out; omega) (by simp; omega) ?_; intro v5 w5 ho5 hg5 hn5 ha5; go_must (obtain ⟨kv5, V5⟩ := V3b.store ho5 hg5; haveI := kv5; obtain ⟨A5, c5, e5, _, _⟩ := own_slice ho5; subst e5; have HV5 := hide V5; clear V3 V3b V5 ho5 hg5 hn5 ha5))
      go_roundw
      case rel => exact ⟨k + 1, L ++ [x], s4, _, by omega, by go_num, by have := HL.out; simp; omega, HRUN.out.trans hstep.out, HV5.out⟩
      case measure => simp [intOf]; omega
    · obtain rfl : k = ms.length := by omega
      have HQ2 : Hid (Q = if sk.2 = true ∨ Vw.mayB ⟨r, n, i, none, 0, ms, none, 0, L⟩ = false then (((0, 0, 0), [], []), (sk.1, true)) else (((r, n, i), ms, L), sk)) := by
        have := HQ.out
        rw [HRUN.out, Nat.sub_self, rUints] at this
        exact hide this
      obtain ⟨bk, badk⟩ := sk
      simp only at HQ2
      have hok : Vw.Ok wr ⟨r, n, i, MA, mc, ms, UA, uc, L⟩ := ⟨Reads.of_own V.om, Reads.of_own V.ou, by show ms.length ≤ 1000000; omega, by show L.length ≤ 1000000; have := HL.out; omega⟩
      have T6 : Hid (Calls Try.prog 97 #[.agg #[.int .u64 r, .int .i64 n, .int .u64 i, .slice MA ms.length mc, .slice UA L.length uc]] wr fun e w' => e = .returned (.bool (Vw.mayB ⟨r, n, i, none, 0, ms, none, 0, L⟩)) ∧ Below wr.heap.size wr w') := hide (refVMay_s ⟨r, n, i, MA, mc, ms, UA, uc, L⟩ wr hok hin HMN.out)
      haveI := V.kv
      obtain ⟨vb, hbx⟩ := V.rd.box
      simp only at hbx
      haveI := hbx
      clear HQ HRUN hok
      generalize Vw.mayB ⟨r, n, i, none, 0, ms, none, 0, L⟩ = bm at T6 HQ2
      have key : badk = true ∨ (badk = false ∧ bm = false) ∨ (badk = false ∧ bm = true) := by
        cases badk <;> cases bm <;> simp
      rcases key with rfl | ⟨rfl, rfl⟩ | ⟨rfl, rfl⟩
      · replace HQ2 := hide (HQ2.out.trans (if_pos (.inl rfl)))
        haveI := V.k0
        have V3 := V.read (s' := (bk, true)) (grown_setCell wr g 1 (.bool true)) (V.rd.fail bk)
        haveI : BoxAt (wr.setCell ⟨g, 1, none⟩ (.bool true)) w.heap.size #[.int .u64 0, .int .i64 0, .int .u64 0, .slice none 0 0, .slice none 0 0] 32 := V3.k0
        obtain ⟨k3, g3⟩ := set5 V3.k0 (.int .u64 0) (.int .i64 0) (.int .u64 0) (.slice none 0 0) (.slice none 0 0)
        have HR3 := hide (V3.rd.below (grown_to_below g3 hle (by have := V3.gr.size; omega)))
        have HG3 := hide (grown_then_below V3.gr (grown_to_below g3 (Nat.le_refl _) V3.gr.size))
        clear V V3
        go_wp2
        generalize (((((wr.setCell ⟨g, 1, none⟩ (.bool true)).setCell ⟨w.heap.size, 0, none⟩ (.int .u64 0)).setCell ⟨w.heap.size, 1, none⟩ (.int .i64 0)).setCell ⟨w.heap.size, 2, none⟩ (.int .u64 0)).setCell ⟨w.heap.size, 3, none⟩ (.slice none 0 0)).setCell ⟨w.heap.size, 4, none⟩ (.slice none 0 0) = W3 at k3 HR3 HG3 ⊢
        haveI := k3
        refine bodyPost_ret (v := .agg #[.int .u64 0, .int .i64 0, .int .u64 0, .slice none 0 0, .slice none 0 0]) (by simp [results, Try.results50, go_sem]) rfl ?_
        rw [HQ2.out]
        exact ⟨none, 0, none, 0, rfl, World.ownsRow_nil _ _ _ _, World.ownsRow_nil _ _ _ _, HR3.out, HG3.out⟩
      · replace HQ2 := hide (HQ2.out.trans (if_pos (.inr rfl)))
        go_wp2_with fail
        (with_reducible refine T6.out.mono ?_)
        rintro e w4 ⟨rfl, hb⟩
        replace V := V.below hb
        obtain ⟨vb4, hbx4⟩ := V.rd.box
        simp only at hbx4
        haveI := hbx4
        clear hb
        haveI := V.k0
        have V3 := V.read (s' := (bk, true)) (grown_setCell w4 g 1 (.bool true)) (V.rd.fail bk)
        haveI : BoxAt (w4.setCell ⟨g, 1, none⟩ (.bool true)) w.heap.size #[.int .u64 0, .int .i64 0, .int .u64 0, .slice none 0 0, .slice none 0 0] 32 := V3.k0
        obtain ⟨k3, g3⟩ := set5 V3.k0 (.int .u64 0) (.int .i64 0) (.int .u64 0) (.slice none 0 0) (.slice none 0 0)
        have HR3 := hide (V3.rd.below (grown_to_below g3 hle (by have := V3.gr.size; omega)))
        have HG3 := hide (grown_then_below V3.gr (grown_to_below g3 (Nat.le_refl _) V3.gr.size))
        clear V V3
        go_wp2
        generalize (((((w4.setCell ⟨g, 1, none⟩ (.bool true)).setCell ⟨w.heap.size, 0, none⟩ (.int .u64 0)).setCell ⟨w.heap.size, 1, none⟩ (.int .i64 0)).setCell ⟨w.heap.size, 2, none⟩ (.int .u64 0)).setCell ⟨w.heap.size, 3, none⟩ (.slice none 0 0)).setCell ⟨w.heap.size, 4, none⟩ (.slice none 0 0) = W3 at k3 HR3 HG3 ⊢
        haveI := k3
        refine bodyPost_ret (v := .agg #[.int .u64 0, .int .i64 0, .int .u64 0, .slice none 0 0, .slice none 0 0]) (by simp [results, Try.results50, go_sem]) rfl ?_
        rw [HQ2.out]
        exact ⟨none, 0, none, 0, rfl, World.ownsRow_nil _ _ _ _, World.ownsRow_nil _ _ _ _, HR3.out, HG3.out⟩
      · replace HQ2 := hide (HQ2.out.trans (if_neg (by simp)))
        go_wp2_with fail
        (with_reducible refine T6.out.mono ?_)
        rintro e w4 ⟨rfl, hb⟩
        have V3 := V.below hb
        haveI := V3.k0
        haveI := V3.kv
        obtain ⟨k3, g3⟩ := set5 V3.k0 (.int .u64 r) (.int .i64 n) (.int .u64 i) (.slice MA ms.length mc) (.slice UA L.length uc)
        have HR3 := hide (V3.rd.below (grown_to_below g3 hle (by have := V3.gr.size; omega)))
        have HG3 := hide (grown_then_below V3.gr (grown_to_below g3 (Nat.le_refl _) V3.gr.size))
        have HM3 := hide (own_base (own_grown V3.om g3 (by omega)) (show w.heap.size ≤ w.heap.size + 1 by omega))
        have HU3 := hide (own_base (own_grown V3.ou g3 (by omega)) (show w.heap.size ≤ w2.heap.size + 1 by omega))
        clear V V3 hb
        go_wp2
        generalize ((((w4.setCell ⟨w.heap.size, 0, none⟩ (.int .u64 r)).setCell ⟨w.heap.size, 1, none⟩ (.int .i64 n)).setCell ⟨w.heap.size, 2, none⟩ (.int .u64 i)).setCell ⟨w.heap.size, 3, none⟩ (.slice MA ms.length mc)).setCell ⟨w.heap.size, 4, none⟩ (.slice UA L.length uc) = W3 at k3 HR3 HG3 HM3 HU3 ⊢
        haveI := k3
        refine bodyPost_ret (v := .agg #[.int .u64 r, .int .i64 n, .int .u64 i, .slice MA ms.length mc, .slice UA L.length uc]) (by simp [results, Try.results50, go_sem]) rfl ?_
        rw [HQ2.out]
        exact ⟨MA, mc, UA, uc, rfl, HM3.out, HU3.out, HR3.out, HG3.out⟩
end Go.Proofs.Ytgpmcpinnaggmaa
