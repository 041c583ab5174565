/-
  Contracts: view.GetId, view.Get.
-/
import Derived.Test.YtfddiklhjkjipaaGreatCopy4
namespace Go.Proofs.YtfddiklhjkjipaaGreat
set_option linter.unusedSimpArgs false
set_option linter.unusedVariables false
set_option linter.unusedSectionVars false
open Go.RowKit

/-- a view's name is read -/
def rId (s : RS) : (Int × Int × Int) × RS :=
  if (rGet (rUint s).2).2.2 = true ∨ mayIdB (rUint s).1 (rGet (rUint s).2).1.1 (rGet (rUint s).2).1.2 = false then ((0, 0, 0), ((rGet (rUint s).2).2.1, true)) else (((rUint s).1, (rGet (rUint s).2).1.1, (rGet (rUint s).2).1.2), (rGet (rUint s).2).2)
theorem rId_len (s : RS) : (rId s).2.1.length ≤ s.1.length := by
  have h1 := rUint_len s
  have h2 := rGet_len (rUint s).2
  unfold rId
  split <;> (simp only; omega)
set_option maxRecDepth 100000 in
set_option maxHeartbeats 1000000 in
theorem getId_s (g B : Nat) (s : RS) (w : World) (h : Rds w g B s.1 s.2) (hn : s.1.length ≤ 1000000) :
    Calls Tryz.prog 257 #[.pointer (some ⟨g, 0, none⟩)] w (RetR g B w (.agg #[.int .u64 (rId s).1.1, .int .i64 (rId s).1.2.1, .int .u64 (rId s).1.2.2]) (rId s).2) := by
  have hle := h.le
  have htop := h.top
  have T1 := hide (uintR_s g B s _ (h.step (below_alloc w (bxI3 0 0 0))) hn)
  have hl1 := rUint_len s
  have T2 := hide (fun W (hW : Rds W g B (rUint s).2.1 (rUint s).2.2) => getP_s g B (rUint s).2 W hW (by omega))
  have hQ : rId s = if (rGet (rUint s).2).2.2 = true ∨ mayIdB (rUint s).1 (rGet (rUint s).2).1.1 (rGet (rUint s).2).1.2 = false then ((0, 0, 0), ((rGet (rUint s).2).2.1, true)) else (((rUint s).1, (rGet (rUint s).2).1.1, (rGet (rUint s).2).1.2), (rGet (rUint s).2).2) := rfl
  rw [hQ]
  clear hQ hl1 h
  generalize rUint s = r1 at T1 T2 ⊢
  obtain ⟨x1, s1⟩ := r1
  simp only at T1 T2 ⊢
  generalize rGet s1 = r2 at T2 ⊢
  obtain ⟨⟨x2, x3⟩, bs2, bad2⟩ := r2
  simp only at T2 ⊢
  have T3 := hide (fun W (hW : Rds W g B bs2 bad2) => err_s g B bs2 bad2 W hW)
  have T4 := hide (fun W => mayId_s x1 x2 x3 W)
  have T5 := hide (fun W (hW : Rds W g B bs2 bad2) => failR_s g B (bs2, bad2) W hW)
  have key : bad2 = true ∨ (bad2 = false ∧ mayIdB x1 x2 x3 = false) ∨ (bad2 = false ∧ mayIdB x1 x2 x3 = true) := by
    cases bad2 <;> cases mayIdB x1 x2 x3 <;> simp
  rcases key with rfl | ⟨rfl, hm⟩ | ⟨rfl, hm⟩
  · rw [if_pos (.inl rfl)]
    simp only [if_true] at T3
    go_enter Tryz.func257, Tryz.ntmps257
    go_wp2_with fail
    (with_reducible refine T1.out.mono ?_)
    rintro e wx ⟨rfl, hR, hG⟩
    obtain ⟨W1, ⟨d1, os1⟩, hs1, hg1, rfl, hR1⟩ := rstF (W := w) (fun W => W.alloc (bxI3 0 0 0)) (by repeat (first | exact Lays.id | refine Lays.alloc ?_ _ | refine Lays.gw ?_ _ _)) hG hR (by omega)
    dsimp only
    haveI : Sz W1 w.heap.size := ⟨hs1⟩
    clear hR hG
    go_wp2_with fail
    (with_reducible refine (T2.out _ (hR1.step (by repeat (first | exact Below.refl _ _ | assumption | refine bel_al ?_ _ | refine bel_gw ?_ _ _ | refine bel_drew ?_ | refine bel_drewN ?_ _)))).mono ?_)
    rintro e wx ⟨rfl, hR, hG⟩
    obtain ⟨W2, ⟨d2, os2⟩, hs2, hg2, rfl, hR2⟩ := rstF (W := W1) (fun W => gw (W.alloc (bxI3 0 0 0)) d1 os1) (by repeat (first | exact Lays.id | refine Lays.alloc ?_ _ | refine Lays.gw ?_ _ _)) hG hR (by omega)
    dsimp only
    replace hg2 := grown_trans hg1 hg2
    replace hs2 := hs2.trans hs1
    haveI : Sz W2 w.heap.size := ⟨hs2⟩
    clear hR hG hR1 hs1 hg1
    go_wp2_with fail
    (with_reducible refine (T3.out _ (hR2.step (by repeat (first | exact Below.refl _ _ | assumption | refine bel_al ?_ _ | refine bel_gw ?_ _ _ | refine bel_drew ?_ | refine bel_drewN ?_ _)))).mono ?_)
    rintro e w3 ⟨rfl, rfl⟩
    go_wp2_with fail
    (with_reducible refine (T5.out _ (hR2.step (by repeat (first | exact Below.refl _ _ | assumption | refine bel_al ?_ _ | refine bel_gw ?_ _ _ | refine bel_drew ?_ | refine bel_drewN ?_ _)))).mono ?_)
    rintro e wx ⟨rfl, hR, hG⟩
    obtain ⟨W3, ⟨d3, os3⟩, hs3, hg3, rfl, hR3⟩ := rstF (W := W2) (fun W => (gw (gw (W.alloc (bxI3 0 0 0)) d1 os1) d2 os2).alloc (bxI3 x1 x2 x3)) (by repeat (first | exact Lays.id | refine Lays.alloc ?_ _ | refine Lays.gw ?_ _ _)) hG hR (by omega)
    dsimp only
    replace hg3 := grown_trans hg2 hg3
    replace hs3 := hs3.trans hs2
    haveI : Sz W3 w.heap.size := ⟨hs3⟩
    clear hR hG hR2 hs2 hg2
    go_wp2
    refine bodyPost_ret (v := .agg #[.int .u64 0, .int .i64 0, .int .u64 0]) (by simp [results, Tryz.results257, go_sem]) rfl ?_
    exact ⟨rfl, hR3.step (by repeat (first | exact Below.refl _ _ | assumption | refine bel_al ?_ _ | refine bel_gw ?_ _ _ | refine bel_drew ?_ | refine bel_drewN ?_ _)), grown_gw hg3 (by repeat (first | exact Below.refl _ _ | assumption | refine bel_al ?_ _ | refine bel_gw ?_ _ _ | refine bel_drew ?_ | refine bel_drewN ?_ _))⟩
  · rw [if_pos (.inr hm)]
    rw [hm] at T4
    simp only [Bool.false_eq_true, if_false] at T3
    clear hm
    go_enter Tryz.func257, Tryz.ntmps257
    go_wp2_with fail
    (with_reducible refine T1.out.mono ?_)
    rintro e wx ⟨rfl, hR, hG⟩
    obtain ⟨W1, ⟨d1, os1⟩, hs1, hg1, rfl, hR1⟩ := rstF (W := w) (fun W => W.alloc (bxI3 0 0 0)) (by repeat (first | exact Lays.id | refine Lays.alloc ?_ _ | refine Lays.gw ?_ _ _)) hG hR (by omega)
    dsimp only
    haveI : Sz W1 w.heap.size := ⟨hs1⟩
    clear hR hG
    go_wp2_with fail
    (with_reducible refine (T2.out _ (hR1.step (by repeat (first | exact Below.refl _ _ | assumption | refine bel_al ?_ _ | refine bel_gw ?_ _ _ | refine bel_drew ?_ | refine bel_drewN ?_ _)))).mono ?_)
    rintro e wx ⟨rfl, hR, hG⟩
    obtain ⟨W2, ⟨d2, os2⟩, hs2, hg2, rfl, hR2⟩ := rstF (W := W1) (fun W => gw (W.alloc (bxI3 0 0 0)) d1 os1) (by repeat (first | exact Lays.id | refine Lays.alloc ?_ _ | refine Lays.gw ?_ _ _)) hG hR (by omega)
    dsimp only
    replace hg2 := grown_trans hg1 hg2
    replace hs2 := hs2.trans hs1
    haveI : Sz W2 w.heap.size := ⟨hs2⟩
    clear hR hG hR1 hs1 hg1
    go_wp2_with fail
    (with_reducible refine (T3.out _ (hR2.step (by repeat (first | exact Below.refl _ _ | assumption | refine bel_al ?_ _ | refine bel_gw ?_ _ _ | refine bel_drew ?_ | refine bel_drewN ?_ _)))).mono ?_)
    rintro e w3 ⟨rfl, rfl⟩
    go_wp2_with fail
    (with_reducible refine (T4.out _).mono ?_)
    rintro e w3 ⟨rfl, hb⟩
    obtain ⟨⟨d4, os4⟩, rfl⟩ := gw_of_below hb
    clear hb
    go_wp2_with fail
    (with_reducible refine (T5.out _ (hR2.step (by repeat (first | exact Below.refl _ _ | assumption | refine bel_al ?_ _ | refine bel_gw ?_ _ _ | refine bel_drew ?_ | refine bel_drewN ?_ _)))).mono ?_)
    rintro e wx ⟨rfl, hR, hG⟩
    obtain ⟨W3, ⟨d3, os3⟩, hs3, hg3, rfl, hR3⟩ := rstF (W := W2) (fun W => gw ((gw (gw (W.alloc (bxI3 0 0 0)) d1 os1) d2 os2).alloc (bxI3 x1 x2 x3)) d4 os4) (by repeat (first | exact Lays.id | refine Lays.alloc ?_ _ | refine Lays.gw ?_ _ _)) hG hR (by omega)
    dsimp only
    replace hg3 := grown_trans hg2 hg3
    replace hs3 := hs3.trans hs2
    haveI : Sz W3 w.heap.size := ⟨hs3⟩
    clear hR hG hR2 hs2 hg2
    go_wp2
    refine bodyPost_ret (v := .agg #[.int .u64 0, .int .i64 0, .int .u64 0]) (by simp [results, Tryz.results257, go_sem]) rfl ?_
    exact ⟨rfl, hR3.step (by repeat (first | exact Below.refl _ _ | assumption | refine bel_al ?_ _ | refine bel_gw ?_ _ _ | refine bel_drew ?_ | refine bel_drewN ?_ _)), grown_gw hg3 (by repeat (first | exact Below.refl _ _ | assumption | refine bel_al ?_ _ | refine bel_gw ?_ _ _ | refine bel_drew ?_ | refine bel_drewN ?_ _))⟩
  · rw [if_neg (by rw [hm]; simp)]
    rw [hm] at T4
    simp only [Bool.false_eq_true, if_false] at T3
    clear hm
    go_enter Tryz.func257, Tryz.ntmps257
    go_wp2_with fail
    (with_reducible refine T1.out.mono ?_)
    rintro e wx ⟨rfl, hR, hG⟩
    obtain ⟨W1, ⟨d1, os1⟩, hs1, hg1, rfl, hR1⟩ := rstF (W := w) (fun W => W.alloc (bxI3 0 0 0)) (by repeat (first | exact Lays.id | refine Lays.alloc ?_ _ | refine Lays.gw ?_ _ _)) hG hR (by omega)
    dsimp only
    haveI : Sz W1 w.heap.size := ⟨hs1⟩
    clear hR hG
    go_wp2_with fail
    (with_reducible refine (T2.out _ (hR1.step (by repeat (first | exact Below.refl _ _ | assumption | refine bel_al ?_ _ | refine bel_gw ?_ _ _ | refine bel_drew ?_ | refine bel_drewN ?_ _)))).mono ?_)
    rintro e wx ⟨rfl, hR, hG⟩
    obtain ⟨W2, ⟨d2, os2⟩, hs2, hg2, rfl, hR2⟩ := rstF (W := W1) (fun W => gw (W.alloc (bxI3 0 0 0)) d1 os1) (by repeat (first | exact Lays.id | refine Lays.alloc ?_ _ | refine Lays.gw ?_ _ _)) hG hR (by omega)
    dsimp only
    replace hg2 := grown_trans hg1 hg2
    replace hs2 := hs2.trans hs1
    haveI : Sz W2 w.heap.size := ⟨hs2⟩
    clear hR hG hR1 hs1 hg1
    go_wp2_with fail
    (with_reducible refine (T3.out _ (hR2.step (by repeat (first | exact Below.refl _ _ | assumption | refine bel_al ?_ _ | refine bel_gw ?_ _ _ | refine bel_drew ?_ | refine bel_drewN ?_ _)))).mono ?_)
    rintro e w3 ⟨rfl, rfl⟩
    go_wp2_with fail
    (with_reducible refine (T4.out _).mono ?_)
    rintro e w3 ⟨rfl, hb⟩
    obtain ⟨⟨d4, os4⟩, rfl⟩ := gw_of_below hb
    clear hb
    go_wp2
    refine bodyPost_ret (v := .agg #[.int .u64 x1, .int .i64 x2, .int .u64 x3]) (by simp [results, Tryz.results257, go_sem]) rfl ?_
    exact ⟨rfl, hR2.step (by repeat (first | exact Below.refl _ _ | assumption | refine bel_al ?_ _ | refine bel_gw ?_ _ _ | refine bel_drew ?_ | refine bel_drewN ?_ _)), grown_gw hg2 (by repeat (first | exact Below.refl _ _ | assumption | refine bel_al ?_ _ | refine bel_gw ?_ _ _ | refine bel_drew ?_ | refine bel_drewN ?_ _))⟩

/-- so many numbers are read -/
def rUints : Nat → RS → List Int → List Int × RS
  | 0, s, acc => (acc, s)
  | k + 1, s, acc => rUints k (rUint s).2 (acc ++ [(rUint s).1])
theorem rUints_len : ∀ (k : Nat) (s : RS) (acc : List Int), (rUints k s acc).2.1.length ≤ s.1.length := by
  intro k
  induction k with
  | zero => intro s acc; exact Nat.le_refl _
  | succ k ih => intro s acc; rw [rUints]; exact Nat.le_trans (ih _ _) (rUint_len s)
/-- a view is read: its name, members, starts -/
def rView (s : RS) : ((Int × Int × Int) × List Pr × List Int) × RS :=
  let a := rId s
  let l := rGetSet 6 a.2
  let u := rUints l.1.length l.2 []
  if u.2.2 = true ∨ Vw.mayB ⟨a.1.1, a.1.2.1, a.1.2.2, none, 0, l.1, none, 0, u.1⟩ = false then (((0, 0, 0), [], []), (u.2.1, true)) else ((a.1, l.1, u.1), u.2)
/-- a view is read into new memory -/
def RetRV (g B : Nat) (w : World) (x : (Int × Int × Int) × List Pr × List Int) (s : RS) (e : Ending) (w' : World) : Prop :=
  ∃ A1 c1 A2 c2, e = .returned (.agg #[.int .u64 x.1.1, .int .i64 x.1.2.1, .int .u64 x.1.2.2, .slice A1 x.2.1.length c1, .slice A2 x.2.2.length c2]) ∧ OwnP w' w.heap.size (.slice A1 x.2.1.length c1) x.2.1 ∧ w'.ownsRow w.heap.size 22 1 (.slice A2 x.2.2.length c2) x.2.2.length (ucs x.2.2) ∧ Rds w' g B s.1 s.2 ∧ w.grownBy w' (some g)
theorem rView_eq (s : RS) : rView s = if (rUints (rGetSet 6 (rId s).2).1.length (rGetSet 6 (rId s).2).2 []).2.2 = true ∨ Vw.mayB ⟨(rId s).1.1, (rId s).1.2.1, (rId s).1.2.2, none, 0, (rGetSet 6 (rId s).2).1, none, 0, (rUints (rGetSet 6 (rId s).2).1.length (rGetSet 6 (rId s).2).2 []).1⟩ = false then (((0, 0, 0), [], []), ((rUints (rGetSet 6 (rId s).2).1.length (rGetSet 6 (rId s).2).2 []).2.1, true)) else (((rId s).1, (rGetSet 6 (rId s).2).1, (rUints (rGetSet 6 (rId s).2).1.length (rGetSet 6 (rId s).2).2 []).1), (rUints (rGetSet 6 (rId s).2).1.length (rGetSet 6 (rId s).2).2 []).2) := rfl
theorem rRun_le (k : Nat) (s : RS) : (rRun k s []).1.length ≤ k := by have := (rRun_len k s []).2; simpa using this
theorem rGetSet_le (most : Nat) (s : RS) (h : bOK s.1) : (rGetSet most s).1.length ≤ 255 := by
  have hr := rU8_range h
  have := rRun_le (rU8 s).1.toNat (rU8 s).2
  rw [rGetSet_eq]
  split
  · simp
  · split
    · simp
    · split
      · omega
      · simp
theorem ucs_app (l m : List Int) : ucs (l ++ m) = ucs l ++ ucs m := List.map_append
/-- what one round of the reading of starts leaves -/
structure VR (w : World) (g B n0 nv base bm : Nat) (a b c : Value) (vm vv : Value) (ms : List Pr) (L : List Int) (s : RS) (W : World) : Prop where
  kv : BoxAt W nv #[a, b, c, vm, vv] 36
  k0 : BoxAt W n0 #[.int .u64 0, .int .i64 0, .int .u64 0, .slice none 0 0, .slice none 0 0] 36
  ou : W.ownsRow base 22 1 vv L.length (ucs L)
  om : OwnP W bm vm ms
  rd : Rds W g B s.1 s.2
  gr : w.grownBy W (some g)
  sz : base ≤ W.heap.size
structure VN (w : World) (g B n0 nv base bm : Nat) (vm : Value) : Prop where
  e0 : n0 = w.heap.size
  h1 : n0 < nv
  h2 : nv < bm
  h3 : bm ≤ base
  h4 : B ≤ w.heap.size
  h5 : g < B
  h6 : ∀ r, vm.ownBlock = some r → r < base
theorem VR.read {w W W' : World} {g B n0 nv base bm : Nat} {a b c vm vv : Value} {ms : List Pr} {L : List Int} {s s' : RS} (N : VN w g B n0 nv base bm vm) (h : VR w g B n0 nv base bm a b c vm vv ms L s W) (hG : W.grownBy W' (some g)) (hR : Rds W' g B s'.1 s'.2) : VR w g B n0 nv base bm a b c vm vv ms L s' W' := by
  obtain ⟨e0, h1, h2, h3, h4, h5, h6⟩ := N
  exact ⟨h.kv.grown hG (by omega), h.k0.grown hG (by omega), own_grown h.ou hG (by omega), own_grown h.om hG (by omega), hR, grown_trans h.gr hG, Nat.le_trans h.sz hG.size⟩
theorem VR.below {w W W' : World} {g B n0 nv base bm : Nat} {a b c vm vv : Value} {ms : List Pr} {L : List Int} {s : RS} (h : VR w g B n0 nv base bm a b c vm vv ms L s W) (hb : Below W.heap.size W W') : VR w g B n0 nv base bm a b c vm vv ms L s W' :=
  ⟨h.kv.step hb, h.k0.step hb, own_below h.ou hb (Nat.le_refl _), own_below h.om hb (Nat.le_refl _), h.rd.step hb, grown_gw h.gr hb, Nat.le_trans h.sz hb.size⟩
theorem VR.store {w W W' : World} {g B n0 nv base bm : Nat} {a b c vm vv v5 : Value} {ms : List Pr} {L : List Int} {x : Int} {s : RS} (N : VN w g B n0 nv base bm vm) (h : VR w g B n0 nv base bm a b c vm vv ms L s W) (ho : W'.ownsRow base 22 1 v5 (L.length + 1) (ucs L ++ ucs [x])) (hg : W.grownBy W' vv.ownBlock) :
    BoxAt W' nv #[a, b, c, vm, vv] 36 ∧ VR w g B n0 nv base bm a b c vm v5 ms (L ++ [x]) s (W'.setCell ⟨nv, 4, none⟩ v5) := by
  obtain ⟨e0, h1, h2, h3, h4, h5, h6⟩ := N
  have hbb : Below base W W' := grown_belowB hg h.sz (fun k hk => (h.ou.lt k hk).1)
  have kv' : BoxAt W' nv #[a, b, c, vm, vv] 36 := h.kv.stepN hbb (by omega)
  have hgs := grown_setCell W' nv 4 v5
  have om' : OwnP W' bm vm ms := own_apart h.om hg (fun r hr e => by have := h6 r hr; have := (h.ou.lt r e).1; omega)
  refine ⟨kv', ⟨⟨setCell_block _ _ _ _ _ _ kv'.eq⟩, (h.k0.stepN hbb (by omega)).set (by omega), ?_, own_grown om' hgs (by omega), ?_, ?_, Nat.le_trans h.sz (Nat.le_trans hbb.size hgs.size)⟩⟩
  · rw [List.length_append, ucs_app]; exact own_grown ho hgs (by omega)
  · exact (h.rd.below (hbb.mono (by omega))).below (grown_to_below hgs (by omega) (by have := hbb.size; have := h.sz; omega))
  · exact grown_then_below (grown_then_below h.gr (hbb.mono (by omega))) (grown_to_below hgs (by omega) (by have := hbb.size; have := h.sz; omega))
set_option maxRecDepth 100000 in
set_option maxHeartbeats 2000000 in
theorem getV_s (g B : Nat) (s : RS) (w : World) (h : Rds w g B s.1 s.2) (hn : s.1.length ≤ 1000000) :
    Calls Tryz.prog 198 #[.pointer (some ⟨g, 0, none⟩)] w (RetRV g B w (rView s).1 (rView s).2) := by
  have hle := h.le
  have htop := h.top
  have T1 := hide (getId_s g B s _ (h.step (below_alloc w (bxV 0 0 0 none 0 0 none 0 0))) hn)
  have hl1 := rId_len s
  have T2 : Hid (∀ W, Rds W g B (rId s).2.1 (rId s).2.2 → Calls Tryz.prog 196 #[.pointer (some ⟨g, 0, none⟩), .int .i64 6] W (RetRP g B W (rGetSet 6 (rId s).2).1 (rGetSet 6 (rId s).2).2)) := hide (fun W (hW : Rds W g B (rId s).2.1 (rId s).2.2) => getSet_s g B 6 (rId s).2 W hW (by omega) (by omega))
  have hl2 := rGetSet_len 6 (rId s).2
  have HQ := hide (rView_eq s)
  have HLE := hide (fun hok => rGetSet_le 6 (rId s).2 hok)
  generalize rView s = Q at HQ ⊢
  generalize rId s = r1 at T1 T2 HQ hl1 hl2 HLE
  obtain ⟨⟨r, n, i⟩, s1⟩ := r1
  simp only at T1 T2 HQ hl1 hl2 HLE
  generalize rGetSet 6 s1 = r2 at T2 HQ hl2 HLE
  obtain ⟨ms, s2⟩ := r2
  simp only at T2 HQ hl2 HLE
  have p0 := boxTop w #[.int .u64 0, .int .i64 0, .int .u64 0, .slice none 0 0, .slice none 0 0] 36
  clear h
  go_enter Tryz.func198, Tryz.ntmps198
  go_wp2_with fail
  (with_reducible refine T1.out.mono ?_)
  rintro e w1 ⟨rfl, hR1, hG1⟩
  replace p0 := p0.grown hG1 (by omega)
  have hg1 := grown_trans (grown_below (r := some g) (below_alloc w (bxV 0 0 0 none 0 0 none 0 0))) hG1
  have hml := HLE.out hR1.ok
  have hs1 : w.heap.size < w1.heap.size := p0.lt
  have hR1b := hR1.step (below_alloc w1 (bxV r n i none 0 0 none 0 0))
  have p1 := boxTop w1 #[.int .u64 r, .int .i64 n, .int .u64 i, .slice none 0 0, .slice none 0 0] 36
  replace p0 := p0.step (below_alloc w1 (bxV r n i none 0 0 none 0 0))
  replace hg1 := grown_gw hg1 (below_alloc w1 (bxV r n i none 0 0 none 0 0))
  clear hR1 hG1 HLE T1
  go_wp2_with fail
  (with_reducible refine (T2.out _ hR1b).mono ?_)
  rintro e w2 ⟨vm, rfl, hom, hR2, hG2⟩
  obtain ⟨MA, mc, rfl, _, _⟩ := own_slice hom
  replace p0 := p0.grown hG2 (by omega)
  replace p1 := p1.grown hG2 (by omega)
  haveI := p1
  have hgs := grown_setCell w2 w1.heap.size 3 (.slice MA ms.length mc)
  rw [World.size_alloc] at hom
  have hs2 : w1.heap.size < w2.heap.size := p1.lt
  have N : VN w g B w.heap.size w1.heap.size w2.heap.size (w1.heap.size + 1) (.slice MA ms.length mc) := ⟨rfl, hs1, by omega, by omega, hle, htop, fun r hr => (hom.lt r hr).2⟩
  have V0 : VR w g B w.heap.size w1.heap.size w2.heap.size (w1.heap.size + 1) (.int .u64 r) (.int .i64 n) (.int .u64 i) (.slice MA ms.length mc) (.slice none 0 0) ms [] s2 (w2.setCell ⟨w1.heap.size, 3, none⟩ (.slice MA ms.length mc)) :=
    ⟨⟨setCell_block _ _ _ _ _ _ p1.eq⟩, p0.set (by omega), World.ownsRow_nil _ _ _ _, own_grown hom hgs (by omega), hR2.below (grown_to_below hgs (by omega) (by omega)), grown_then_below (grown_trans hg1 hG2) (grown_to_below hgs (by omega) (by omega)), by simp⟩
  have HN := hide N
  have HV0 := hide V0
  clear hom hR2 hG2 hgs N V0 hg1 p0 hR1b T2
  go_wp2
  go_loopw [13] (fun j wr => ∃ (k : Nat) (L : List Int) (sk : RS) (vv : Value), k ≤ ms.length ∧ j = .int .i64 k ∧ L.length = k ∧ sk.1.length ≤ 1000000 ∧ rUints ms.length s2 [] = rUints (ms.length - k) sk L ∧ VR w g B w.heap.size w1.heap.size w2.heap.size (w1.heap.size + 1) (.int .u64 r) (.int .i64 n) (.int .u64 i) (.slice MA ms.length mc) vv ms L sk wr) (fun j _ => ms.length - (intOf j).toNat)
  case atStart => exact ⟨0, [], s2, _, Nat.zero_le _, rfl, rfl, by omega, by rw [Nat.sub_zero], HV0.out⟩
  case round =>
    obtain ⟨k, L, sk, vv, hk, rfl, hL, hsk, hrun, V⟩ := hrel
    obtain ⟨UA, uc, rfl, _, _⟩ := own_slice V.ou
    have HL := hide hL
    have HRUN := hide hrun
    have hszb := V.sz
    clear HV0 hL hrun
    by_cases hlt : k < ms.length
    · have T4 := hide (fun W (hW : Rds W g B sk.1 sk.2) => uintR_s g B sk W hW hsk)
      have hlen := rUint_len sk
      have hstep : Hid (rUints (ms.length - k) sk L = rUints (ms.length - (k + 1)) (rUint sk).2 (L ++ [(rUint sk).1])) := by
        rw [show ms.length - k = (ms.length - (k + 1)) + 1 by omega, rUints]; exact hide rfl
      generalize rUint sk = r4 at T4 hstep hlen
      obtain ⟨x, s4⟩ := r4
      simp only at T4 hstep hlen
      have Vd : VR w g B w.heap.size w1.heap.size w2.heap.size (w1.heap.size + 1) (.int .u64 r) (.int .i64 n) (.int .u64 i) (.slice MA ms.length mc) (.slice UA L.length uc) ms L sk wr.drew := V.below (Below.refl _ _).drew
      haveI := V.kv
      haveI := Vd.kv
      clear V
      go_wp2
      go_region_law (first
        | (go_simp; go_at_call 193; (with_reducible refine (T4.out _ Vd.rd).mono ?_); rintro e w3 ⟨rfl, hR3, hG3⟩; have V3 := Vd.read HN.out hG3 hR3; have V3b := V3.below (below_alloc w3 (.cells #[.int .u64 x] 22)); haveI := V3.kv; have hs3 := V3.sz)
        | (refine step_append_any _ Tryz.okU rfl (.tmp 16) (.tmp 19) rfl w2.heap.size (.slice UA L.length uc) L.length (ucs L) (by simp [Act.eval, Act.put]) V3b.ou (w3.heap.size + 1) (some ⟨w3.heap.size, 0, none⟩) 1 1 (ucs [x]) (by simp [Act.eval, Act.put]) (reads_oneU w3 x) (uc_one _) (by unfold maxLen; have := HL.out; omega) (by have := HL.out; omega) (by simp; omega) ?_; intro v5 w5 ho5 hg5 hn5 ha5; obtain ⟨kv5, V5⟩ := V3b.store HN.out ho5 hg5; haveI := kv5; obtain ⟨A5, c5, rfl, _, _⟩ := own_slice ho5))
      all_goals
        have HV5 := hide V5
        clear V3 V3b Vd V5 ho5 hg5 hn5 ha5 hR3 hG3 T4
        go_wp2
        go_roundw
        case rel => exact ⟨k + 1, L ++ [x], s4, _, by omega, by go_num, by have := HL.out; simp; omega, by omega, HRUN.out.trans hstep.out, HV5.out⟩
        case measure => simp [intOf]; omega
    · obtain rfl : k = ms.length := by omega
      have HQ2 : Hid (Q = if sk.2 = true ∨ Vw.mayB ⟨r, n, i, none, 0, ms, none, 0, L⟩ = false then (((0, 0, 0), [], []), (sk.1, true)) else (((r, n, i), ms, L), sk)) := by
        have := HQ.out
        rw [HRUN.out, Nat.sub_self, rUints] at this
        exact hide this
      obtain ⟨bk, badk⟩ := sk
      simp only at HQ2 hsk
      have T5 := hide (fun W (hW : Rds W g B bk badk) => err_s g B bk badk W hW)
      have hok : Vw.Ok wr ⟨r, n, i, MA, mc, ms, UA, uc, L⟩ := ⟨Reads.of_own V.om, Reads.of_own V.ou, by show ms.length ≤ 1000000; omega, by show L.length ≤ 1000000; have := HL.out; omega⟩
      have T6 : Hid (Calls Tryz.prog 75 #[.agg #[.int .u64 r, .int .i64 n, .int .u64 i, .slice MA ms.length mc, .slice UA L.length uc]] wr fun e w' => e = .returned (.bool (Vw.mayB ⟨r, n, i, none, 0, ms, none, 0, L⟩)) ∧ Below wr.heap.size wr w') := hide (vmay_s ⟨r, n, i, MA, mc, ms, UA, uc, L⟩ wr hok)
      have T7 := hide (fun W (hW : Rds W g B bk badk) => failR_s g B (bk, badk) W hW)
      haveI := V.kv
      clear HQ HRUN hok
      generalize Vw.mayB ⟨r, n, i, none, 0, ms, none, 0, L⟩ = bm at T6 HQ2
      have key : badk = true ∨ (badk = false ∧ bm = false) ∨ (badk = false ∧ bm = true) := by
        cases badk <;> cases bm <;> simp
      rcases key with rfl | ⟨rfl, rfl⟩ | ⟨rfl, rfl⟩
      · replace HQ2 := hide (HQ2.out.trans (if_pos (.inl rfl)))
        simp only [if_true] at T5
        go_wp2_with fail
        (with_reducible refine (T5.out _ V.rd).mono ?_)
        rintro e w3 ⟨rfl, rfl⟩
        go_wp2_with fail
        (with_reducible refine (T7.out _ V.rd).mono ?_)
        rintro e w3 ⟨rfl, hR3, hG3⟩
        have V3 := V.read HN.out hG3 hR3
        haveI := V3.k0
        obtain ⟨k3, g3⟩ := set5 V3.k0 (.int .u64 0) (.int .i64 0) (.int .u64 0) (.slice none 0 0) (.slice none 0 0)
        have HR3 := hide (V3.rd.below (grown_to_below g3 hle (by have := V3.gr.size; omega)))
        have HG3 := hide (grown_then_below V3.gr (grown_to_below g3 (Nat.le_refl _) V3.gr.size))
        clear V V3 hR3 hG3
        go_wp2
        generalize ((((w3.setCell ⟨w.heap.size, 0, none⟩ (.int .u64 0)).setCell ⟨w.heap.size, 1, none⟩ (.int .i64 0)).setCell ⟨w.heap.size, 2, none⟩ (.int .u64 0)).setCell ⟨w.heap.size, 3, none⟩ (.slice none 0 0)).setCell ⟨w.heap.size, 4, none⟩ (.slice none 0 0) = W3 at k3 HR3 HG3 ⊢
        haveI := k3
        refine bodyPost_ret (v := .agg #[.int .u64 0, .int .i64 0, .int .u64 0, .slice none 0 0, .slice none 0 0]) (by simp [results, Tryz.results198, go_sem]) rfl ?_
        rw [HQ2.out]
        exact ⟨none, 0, none, 0, rfl, World.ownsRow_nil _ _ _ _, World.ownsRow_nil _ _ _ _, HR3.out, HG3.out⟩
      · replace HQ2 := hide (HQ2.out.trans (if_pos (.inr rfl)))
        simp only [Bool.false_eq_true, if_false] at T5
        go_wp2_with fail
        (with_reducible refine (T5.out _ V.rd).mono ?_)
        rintro e w3 ⟨rfl, rfl⟩
        go_wp2_with fail
        (with_reducible refine T6.out.mono ?_)
        rintro e w4 ⟨rfl, hb⟩
        have V4 := V.below hb
        clear V hb
        go_wp2_with fail
        (with_reducible refine (T7.out _ V4.rd).mono ?_)
        rintro e w3 ⟨rfl, hR3, hG3⟩
        have V3 := V4.read HN.out hG3 hR3
        haveI := V3.k0
        obtain ⟨k3, g3⟩ := set5 V3.k0 (.int .u64 0) (.int .i64 0) (.int .u64 0) (.slice none 0 0) (.slice none 0 0)
        have HR3 := hide (V3.rd.below (grown_to_below g3 hle (by have := V3.gr.size; omega)))
        have HG3 := hide (grown_then_below V3.gr (grown_to_below g3 (Nat.le_refl _) V3.gr.size))
        clear V4 V3 hR3 hG3
        go_wp2
        generalize ((((w3.setCell ⟨w.heap.size, 0, none⟩ (.int .u64 0)).setCell ⟨w.heap.size, 1, none⟩ (.int .i64 0)).setCell ⟨w.heap.size, 2, none⟩ (.int .u64 0)).setCell ⟨w.heap.size, 3, none⟩ (.slice none 0 0)).setCell ⟨w.heap.size, 4, none⟩ (.slice none 0 0) = W3 at k3 HR3 HG3 ⊢
        haveI := k3
        refine bodyPost_ret (v := .agg #[.int .u64 0, .int .i64 0, .int .u64 0, .slice none 0 0, .slice none 0 0]) (by simp [results, Tryz.results198, go_sem]) rfl ?_
        rw [HQ2.out]
        exact ⟨none, 0, none, 0, rfl, World.ownsRow_nil _ _ _ _, World.ownsRow_nil _ _ _ _, HR3.out, HG3.out⟩
      · replace HQ2 := hide (HQ2.out.trans (if_neg (by simp)))
        simp only [Bool.false_eq_true, if_false] at T5
        go_wp2_with fail
        (with_reducible refine (T5.out _ V.rd).mono ?_)
        rintro e w3 ⟨rfl, rfl⟩
        go_wp2_with fail
        (with_reducible refine T6.out.mono ?_)
        rintro e w4 ⟨rfl, hb⟩
        have V3 := V.below hb
        haveI := V3.k0
        haveI := V3.kv
        obtain ⟨k3, g3⟩ := set5 V3.k0 (.int .u64 r) (.int .i64 n) (.int .u64 i) (.slice MA ms.length mc) (.slice UA L.length uc)
        have HR3 := hide (V3.rd.below (grown_to_below g3 hle (by have := V3.gr.size; omega)))
        have HG3 := hide (grown_then_below V3.gr (grown_to_below g3 (Nat.le_refl _) V3.gr.size))
        have HM3 := hide (own_base (own_grown V3.om g3 (by omega)) (show w.heap.size ≤ w1.heap.size + 1 by omega))
        have HU3 := hide (own_base (own_grown V3.ou g3 (by omega)) (show w.heap.size ≤ w2.heap.size by omega))
        clear V V3 hb
        go_wp2
        generalize ((((w4.setCell ⟨w.heap.size, 0, none⟩ (.int .u64 r)).setCell ⟨w.heap.size, 1, none⟩ (.int .i64 n)).setCell ⟨w.heap.size, 2, none⟩ (.int .u64 i)).setCell ⟨w.heap.size, 3, none⟩ (.slice MA ms.length mc)).setCell ⟨w.heap.size, 4, none⟩ (.slice UA L.length uc) = W3 at k3 HR3 HG3 HM3 HU3 ⊢
        haveI := k3
        refine bodyPost_ret (v := .agg #[.int .u64 r, .int .i64 n, .int .u64 i, .slice MA ms.length mc, .slice UA L.length uc]) (by simp [results, Tryz.results198, go_sem]) rfl ?_
        rw [HQ2.out]
        exact ⟨MA, mc, UA, uc, rfl, HM3.out, HU3.out, HR3.out, HG3.out⟩
end Go.Proofs.YtfddiklhjkjipaaGreat
