/-
  Contracts: the reference's Without of layer 17, at each rule.
-/
import Derived.Test.YtoajcdcdbkjefaaRef17b
namespace Go.Proofs.Ytoajcdcdbkjefaa
set_option linter.unusedSimpArgs false
set_option linter.unusedVariables false
set_option linter.unusedSectionVars false
open Go.RowKit Go.Sort Go.Lib

theorem own_set_ne {w : World} {base : Nat} {e : TypeId} {k n : Nat} {v : Value} {xs : List Value} (h : w.ownsRow base e k v n xs) {B : Nat} (o : Nat) (hne : v.ownBlock ≠ some B) (u : Value) : (w.setCell ⟨B, o, none⟩ u).ownsRow base e k v n xs := by
  refine ⟨h.1, h.2.imp id ?_⟩
  rintro ⟨g, cap, cur, rfl, hb, hg, r⟩
  refine ⟨g, cap, cur, rfl, hb, ?_, r⟩
  have : ¬ B = g := fun e => hne (by rw [e]; rfl)
  unfold World.setCell
  simp [Array.getElem?_modify, this, hg]
theorem keep_cell {w w' : World} {row : Option Nat} (hg : w.grownBy w' row) {b : Nat} (hb : b < w.heap.size) (hne : row ≠ some b) (o : Nat) : w'.cell? ⟨b, o, none⟩ = w.cell? ⟨b, o, none⟩ ∧ w'.frozen? ⟨b, o, none⟩ = w.frozen? ⟨b, o, none⟩ := by
  have := hg.block b hb (fun e => hne e.symm)
  exact ⟨World.cell?_of_block this, World.frozen?_of_block this⟩
theorem cell_set_off {w : World} {b o o' : Nat} {u v : Value} (h : w.cell? ⟨b, o', none⟩ = some v) (hne : o' ≠ o) : (w.setCell ⟨b, o, none⟩ u).cell? ⟨b, o', none⟩ = some v := by
  rw [World.cell?_setCell_other _ _ _ _ (by intro e; injection e with e1 e2; exact hne e2.symm)]; exact h
theorem apart_step {v v1 out : Value} {N : Nat} (hap : v.ownBlock = none ∨ v.ownBlock ≠ out.ownBlock) (hlt : ∀ q, v.ownBlock = some q → q < N) (hat : v1.ownBlock = out.ownBlock ∨ v1.ownBlock = some N) : v.ownBlock = none ∨ v.ownBlock ≠ v1.ownBlock := by
  rcases hat with h | h
  · rw [h]; exact hap
  · rcases hv : v.ownBlock with _ | q
    · exact .inl rfl
    · right; rw [h]; intro e; injection e with e; have := hlt q hv; omega
theorem apart_symm {a b : Option Nat} (h : a = none ∨ a ≠ b) : b = none ∨ b ≠ a := by
  rcases h with h | h
  · subst h; cases b <;> simp
  · exact .inr (Ne.symm h)
theorem goneR_take {st : Cl → Bool} {m : List Cl} {k : Nat} {x : Cl} (h : m[k]? = some x) : goneR st (m.take (k + 1)) = goneR st (m.take k) ++ [if goes st x = true then { x with gone := true } else x] := by
  rw [take_succ_of h]; simp [goneR]
theorem livesG_take {st : Cl → Bool} {m : List Cl} {k : Nat} {x : Cl} (h : m[k]? = some x) : livesL ((m.take (k + 1)).filter (goes st)) = livesL ((m.take k).filter (goes st)) ++ (if goes st x = true then [(x.n, x.i)] else []) := by
  rw [take_succ_of h, List.filter_append, livesL, List.map_append]
  by_cases hg : goes st x = true <;> simp [hg, livesL]

set_option maxRecDepth 100000 in
set_option maxHeartbeats 8000000 in
theorem without_leave (A : Option Addr) (c : Nat) (l : List Cl) (a b now : Int) (w : World) (h : Cll w A l) (hn : l.length ≤ 1000000) (hwi : ∀ x ∈ l, 0 ≤ x.i) (hwh : ∀ x ∈ l, 0 ≤ x.heard ∧ x.heard ≤ 18446744073709551615) (hnow : 0 ≤ now ∧ now ≤ 18446744073709551615) :
    Calls Try.prog 14 #[.agg #[.slice A l.length c], .int .i64 0, .agg #[.int .i64 a, .int .u64 b], .int .u64 now] w (RetG w (goneR (fun x => eqP x.n x.i a b) (takenR l)) (livesL ((takenR l).filter (goes (fun x => eqP x.n x.i a b))))) := by
  have T := hide (fun W (hW : Cll W A l) => ref17Own_s A c l W hW hn hwi)
  have hml := takenR_len l
  have hw' : ∀ x ∈ takenR l, 0 ≤ x.heard ∧ x.heard ≤ 18446744073709551615 := by
    intro x hx; unfold takenR at hx; split at hx
    · exact hwh x hx
    · simp at hx
  generalize takenR l = m at T hml hw' ⊢
  have HW := hide hw'
  obtain ⟨hnow0, hnow1⟩ := hnow
  obtain ⟨st, hst⟩ : ∃ st : Cl → Bool, st = (fun x => eqP x.n x.i a b) := ⟨_, rfl⟩
  rw [← hst]
  have HST := hide (show ∀ x, st x = (fun x => eqP x.n x.i a b) x from fun x => by rw [hst])
  clear hwi hwh hw' hst
  go_enter Try.func14, Try.ntmps14
  go_wp2_with fail
  with_reducible refine (T.out _ (h.step (by repeat (first | exact Below.refl _ _ | assumption | refine bel_al ?_ _ | refine bel_gw ?_ _ _ | refine bel_drew ?_ | refine bel_drewN ?_ _)))).mono ?_
  rintro e w1 ⟨v, rfl, hown, hb⟩
  obtain ⟨RA, RC, rfl, hrc, _⟩ := own_slice hown
  obtain ⟨⟨d1, os1⟩, rfl⟩ := gw_of_below hb
  have hc : Cll (gw (((w.alloc (bxR RA m.length RC)).alloc (bx a b)).alloc (bxR none 0 0)) d1 os1) RA m := Reads.of_own (own_swap hown (by simp) (by simp))
  have hB1 : Below w.heap.size w (gw (((w.alloc (bxR RA m.length RC)).alloc (bx a b)).alloc (bxR none 0 0)) d1 os1) := (by repeat (first | exact Below.refl _ _ | assumption | refine bel_al ?_ _ | refine bel_gw ?_ _ _ | refine bel_drew ?_ | refine bel_drewN ?_ _))
  have q4 : (gw (((w.alloc (bxR RA m.length RC)).alloc (bx a b)).alloc (bxR none 0 0)) d1 os1).cell? ⟨w.heap.size, 0, none⟩ = some (.slice RA m.length RC) := by simp [go_sem]
  have q60 : (gw (((w.alloc (bxR RA m.length RC)).alloc (bx a b)).alloc (bxR none 0 0)) d1 os1).cell? ⟨w.heap.size + 1, 0, none⟩ = some (.int .i64 a) := by simp [go_sem]
  have q61 : (gw (((w.alloc (bxR RA m.length RC)).alloc (bx a b)).alloc (bxR none 0 0)) d1 os1).cell? ⟨w.heap.size + 1, 1, none⟩ = some (.int .u64 b) := by simp [go_sem]
  have q8 : (gw (((w.alloc (bxR RA m.length RC)).alloc (bx a b)).alloc (bxR none 0 0)) d1 os1).cell? ⟨w.heap.size + 1 + 1, 0, none⟩ = some (.slice none 0 0) := by simp [go_sem]
  have f8 : (gw (((w.alloc (bxR RA m.length RC)).alloc (bx a b)).alloc (bxR none 0 0)) d1 os1).frozen? ⟨w.heap.size + 1 + 1, 0, none⟩ = false := by simp [go_sem]
  haveI i4 : InW w.heap.size (gw (((w.alloc (bxR RA m.length RC)).alloc (bx a b)).alloc (bxR none 0 0)) d1 os1) := inferInstance
  haveI i6 : InW (w.heap.size + 1) (gw (((w.alloc (bxR RA m.length RC)).alloc (bx a b)).alloc (bxR none 0 0)) d1 os1) := inferInstance
  haveI i8 : InW (w.heap.size + 1 + 1) (gw (((w.alloc (bxR RA m.length RC)).alloc (bx a b)).alloc (bxR none 0 0)) d1 os1) := inferInstance
  clear hb h hown
  go_wp2
  generalize gw (((w.alloc (bxR RA m.length RC)).alloc (bx a b)).alloc (bxR none 0 0)) d1 os1 = W1 at *
  go_loopw [11, 12] (fun v i wr => ∃ (k : Nat) (G : List (Int × Int)) (L : List Cl) (oA : Option Addr) (oC : Nat) (gv : Value), k ≤ m.length ∧ i = .int .i64 k ∧ v = gv ∧ G = livesL ((m.take k).filter (goes st)) ∧ L = goneR st (m.take k) ∧ wr.ownsRow (W1.heap.size + 1) 27 2 gv G.length (pcs G) ∧ OwnC wr (W1.heap.size + 1) (.slice oA L.length oC) L ∧ wr.cell? ⟨W1.heap.size, 0, none⟩ = some (.slice oA L.length oC) ∧ wr.frozen? ⟨W1.heap.size, 0, none⟩ = false ∧ Below W1.heap.size W1 wr ∧ W1.heap.size < wr.heap.size ∧ (gv.ownBlock = none ∨ gv.ownBlock ≠ (Value.slice oA L.length oC).ownBlock)) (fun _ i _ => m.length - (intOf i).toNat)
  case atStart => exact ⟨0, [], [], none, 0, _, Nat.zero_le _, rfl, rfl, rfl, rfl, World.ownsRow_nil _ _ _ _, World.ownsRow_nil _ _ _ _, by simp [go_sem], by simp [go_sem], below_alloc _ _, by simp, .inl rfl⟩
  case round =>
    obtain ⟨k, G, L, oA, oC, v, hk, rfl, hgv, hG, hL, hog, hol, r10, f10, hbw, hlt10, hap⟩ := hrel
    replace hgv := hgv.symm
    subst hgv
    have hGl : G.length ≤ m.length := by
      rw [hG, livesL, List.length_map]
      exact Nat.le_trans (List.length_filter_le _ _) (by rw [List.length_take]; omega)
    have hLl : L.length = k := by rw [hL]; simp [goneR]; omega
    have HLl := hide hLl
    have hLl' : L.length ≤ 6 := by omega
    have HG := hide hG
    have HL := hide hL
    have HB := hide hbw
    have HAP := hide hap
    have nOut : (Value.slice oA L.length oC).ownBlock ≠ some W1.heap.size := fun e => by have := (hol.lt _ e).1; omega
    have nGone : v.ownBlock ≠ some W1.heap.size := fun e => by have := (hog.lt _ e).1; omega
    have NOut := hide nOut
    have NGone := hide nGone
    have NC := hide (show v.ownBlock ≠ some wr.heap.size from fun e => by have := (hog.lt _ e).2; omega)
    have NC' := hide (show (Value.slice oA L.length oC).ownBlock ≠ some wr.heap.size from fun e => by have := (hol.lt _ e).2; omega)
    have HOG := hide hog
    have HOL := hide hol
    have nb : ¬ W1.heap.size = wr.heap.size := by omega
    obtain ⟨⟨d, os⟩, rfl⟩ := gw_of_below hbw
    simp only at hlt10 r10 f10 nb
    replace HB := hide (show Below W1.heap.size W1 (gw W1 d os) from HB.out)
    replace HOG := hide (show (gw W1 d os).ownsRow (W1.heap.size + 1) 27 2 v G.length (pcs G) from HOG.out)
    replace HOL := hide (show OwnC (gw W1 d os) (W1.heap.size + 1) (.slice oA L.length oC) L from HOL.out)
    replace NC := hide (show v.ownBlock ≠ some (gw W1 d os).heap.size from NC.out)
    replace NC' := hide (show (Value.slice oA L.length oC).ownBlock ≠ some (gw W1 d os).heap.size from NC'.out)
    haveI : InW W1.heap.size (gw W1 d os) := ⟨hlt10⟩
    clear hG hL hog hol hbw hap hLl nOut nGone
    by_cases hlt : k < m.length
    · obtain ⟨bb, off, x, rfl, hbb, hp, hx⟩ := Reads.atC hc hlt
      have hxw := HW.out x (List.mem_of_getElem? hp)
      have HGT := hide (livesG_take (st := st) hp)
      have HLT := hide (goneR_take (st := st) hp)
      rw [← HG.out] at HGT
      rw [← HL.out] at HLT
      have HSX := hide (HST.out x)
      obtain ⟨xn, xi, xc, xr, xh, xg⟩ := x
      obtain ⟨g0, g1, g2, g3, g4, g5⟩ := hx
      simp only at g0 g1 g2 g3 g4 g5 hxw HSX
      obtain ⟨hxw0, hxw1⟩ := hxw
      haveI : InW bb W1 := ⟨hbb⟩
      clear hp
      cases hs : eqP xn xi a b
      · have HGF := hide (show goes st ⟨xn, xi, xc, xr, xh, xg⟩ = false by unfold goes; rw [show st ⟨xn, xi, xc, xr, xh, xg⟩ = false by rw [HSX.out]; exact hs]; simp)
        replace HGT := hide (show G = livesL ((m.take (k + 1)).filter (goes st)) by rw [HGT.out, HGF.out]; simp)
        replace HLT := hide (show L ++ [⟨xn, xi, xc, xr, xh, xg⟩] = goneR st (m.take (k + 1)) by rw [HLT.out, HGF.out]; simp)
        have nOut := NOut.out
        go_wp2_with (at_builtin; go_must (refine wpList_append_any _ Try.okC (by rfl) (.tmp 68) (.tmp 70) (by rfl) (W1.heap.size + 1) (.slice oA L.length oC) L.length (ccs L) (by rfl) ((HOL.out.alloc _).alloc _) _ (some ⟨(gw W1 d os).heap.size + 1, 0, none⟩) 1 1 (ccs [⟨xn, xi, xc, xr, xh, xg⟩]) (by rfl) (reads_oneC _ ⟨xn, xi, xc, xr, xh, xg⟩ _ (by simp)) (cc_one _) (by unfold maxLen; omega) (by omega) (by simp; omega) ?_); intro v1 w4 hown1 hg1 hnil1 hat1; obtain ⟨oA', oC', rfl, _, _⟩ := own_slice hown1; have t10 := (keep_cell hg1 (b := W1.heap.size) (by simp; omega) nOut 0); have r11 : w4.cell? ⟨W1.heap.size, 0, none⟩ = some (.slice oA L.length oC) := t10.1.trans (by simp [go_sem, r10]); have f11 : w4.frozen? ⟨W1.heap.size, 0, none⟩ = false := t10.2.trans (by simp [go_sem, f10]); clear t10)
        go_roundw
        case rel =>
          refine ⟨k + 1, G, L ++ [⟨xn, xi, xc, xr, xh, xg⟩], oA', oC', v, by omega, by go_num, rfl, HGT.out, HLT.out, ?_, ?_, by rw [List.length_append]; exact World.cell?_setCell_same _ _ _ r11, by rw [World.frozen?_setCell]; exact f11, ?_, ?_, ?_⟩
          · exact ownsRow_setCell_below (World.ownsRow.kept ((HOG.out.alloc _).alloc _) hg1 HAP.out) (a := ⟨W1.heap.size, 0, none⟩) (by simp) _
          · rw [OwnC, List.length_append, ccs_app]
            exact ownsRow_setCell_below hown1 (a := ⟨W1.heap.size, 0, none⟩) (by simp) _
          · exact (Below.grown ((HB.out.alloc (by omega) _).alloc (by simp; omega) _) hg1 (by simp; omega) (fun g hg => by have := (HOL.out.lt g hg).1; omega)).setCell (by simp) _
          · have h5 := Nat.le_trans (show (gw W1 d os).heap.size ≤ (((gw W1 d os).alloc (bxC ⟨xn, xi, xc, xr, xh, xg⟩)).alloc (bxC ⟨xn, xi, xc, xr, xh, xg⟩)).heap.size by simp; omega) hg1.size
            simpa using Nat.lt_of_lt_of_le hlt10 h5
          · rw [List.length_append]
            exact apart_step (v1 := .slice oA' (L.length + 1) oC') HAP.out (fun q hq => by have := (HOG.out.lt q hq).2; simp; omega) hat1
        case measure => simp [intOf]; omega
      · cases xg
        · have HGF := hide (show goes st ⟨xn, xi, xc, xr, xh, false⟩ = true by unfold goes; rw [show st ⟨xn, xi, xc, xr, xh, false⟩ = true by rw [HSX.out]; exact hs]; simp)
          replace HGT := hide (show G ++ [(xn, xi)] = livesL ((m.take (k + 1)).filter (goes st)) by rw [HGT.out, HGF.out]; simp)
          replace HLT := hide (show L ++ [⟨xn, xi, xc, xr, xh, true⟩] = goneR st (m.take (k + 1)) by rw [HLT.out, HGF.out]; simp)
          have nC := NC.out
          have nGone := NGone.out
          go_wp2_with (first
            | (at_builtin; (refine wpList_append_any _ Try.okP (by rfl) (.tmp 61) (.tmp 64) (by rfl) (W1.heap.size + 1) v G.length (pcs G) (by rfl) ((HOG.out.alloc _).alloc _) _ (some ⟨(gw W1 d os).heap.size + 1, 0, none⟩) 1 1 (pcs [(xn, xi)]) (by rfl) (reads_oneP _ xn xi _ (by simp)) (pc_one _) (by unfold maxLen; omega) (by omega) (by simp; omega) ?_); intro v1 w4 hown1 hg1 hnil1 hat1; have kc := fun o => keep_cell hg1 (b := (gw W1 d os).heap.size) (by simp; omega) nC o; have c0 : w4.cell? ⟨(gw W1 d os).heap.size, 0, none⟩ = some (.int .i64 xn) := (kc 0).1.trans (by simp [go_sem]); have c1 : w4.cell? ⟨(gw W1 d os).heap.size, 1, none⟩ = some (.int .u64 xi) := (kc 1).1.trans (by simp [go_sem]); have c2 : w4.cell? ⟨(gw W1 d os).heap.size, 2, none⟩ = some (.int .u64 xc) := (kc 2).1.trans (by simp [go_sem]); have c3 : w4.cell? ⟨(gw W1 d os).heap.size, 3, none⟩ = some (.int .u64 xr) := (kc 3).1.trans (by simp [go_sem]); have c4 : w4.cell? ⟨(gw W1 d os).heap.size, 4, none⟩ = some (.int .u64 xh) := (kc 4).1.trans (by simp [go_sem]); have c5 : w4.cell? ⟨(gw W1 d os).heap.size, 5, none⟩ = some (.bool false) := (kc 5).1.trans (by simp [go_sem]); have fc5 : w4.frozen? ⟨(gw W1 d os).heap.size, 5, none⟩ = false := (kc 5).2.trans (by simp [go_sem]); have e0 := cell_set_off (o := 5) (u := .bool true) c0 (by omega); have e1 := cell_set_off (o := 5) (u := .bool true) c1 (by omega); have e2 := cell_set_off (o := 5) (u := .bool true) c2 (by omega); have e3 := cell_set_off (o := 5) (u := .bool true) c3 (by omega); have e4 := cell_set_off (o := 5) (u := .bool true) c4 (by omega); have e5 := World.cell?_setCell_same w4 _ (.bool true) c5; have t10 := (keep_cell hg1 (b := W1.heap.size) (by simp; omega) nGone 0); have r11 : w4.cell? ⟨W1.heap.size, 0, none⟩ = some (.slice oA L.length oC) := t10.1.trans (by simp [go_sem, r10]); have f11 : w4.frozen? ⟨W1.heap.size, 0, none⟩ = false := t10.2.trans (by simp [go_sem, f10]); clear t10 kc; have hs4 := hg1.size; simp only [World.size_alloc] at hs4; have HAP2 := hide (apart_symm HAP.out))
            | (at_builtin; (refine wpList_append_any _ Try.okC (by rfl) (.tmp 68) (.tmp 70) (by rfl) (W1.heap.size + 1) (.slice oA L.length oC) L.length (ccs L) (by rfl) ((own_set_ne (World.ownsRow.kept ((HOL.out.alloc _).alloc _) hg1 HAP2.out) 5 NC'.out _).alloc _) _ (some ⟨w4.heap.size, 0, none⟩) 1 1 (ccs [⟨xn, xi, xc, xr, xh, true⟩]) (by rfl) (reads_oneC _ ⟨xn, xi, xc, xr, xh, true⟩ _ (by simp)) (cc_one _) (by unfold maxLen; omega) (by omega) (by simp; omega) ?_); intro v2 w6 hown2 hg2 hnil2 hat2; obtain ⟨oA', oC', rfl, _, _⟩ := own_slice hown2; have t10 := (keep_cell hg2 (b := W1.heap.size) (by simp; omega) NOut.out 0); have r12 : w6.cell? ⟨W1.heap.size, 0, none⟩ = some (.slice oA L.length oC) := t10.1.trans (by haveI : InW W1.heap.size w4 := ⟨by omega⟩; simp [go_sem, r11, nb]); have f12 : w6.frozen? ⟨W1.heap.size, 0, none⟩ = false := t10.2.trans (by haveI : InW W1.heap.size w4 := ⟨by omega⟩; simp [go_sem, f11]); clear t10))
          go_roundw
          case rel =>
            have hv1B : v1.ownBlock ≠ some (gw W1 d os).heap.size := by
              rcases hat1 with h | h
              · rw [h]; exact NC.out
              · rw [h]; intro e; injection e with e; simp at e; omega
            have hv1o : v1.ownBlock = none ∨ v1.ownBlock ≠ (Value.slice oA L.length oC).ownBlock := by
              rcases hat1 with h | h
              · rw [h]; exact HAP.out
              · right; rw [h]; intro e
                have := (HOL.out.lt _ e.symm).2; simp at this; omega
            have hown1' : w6.ownsRow (W1.heap.size + 1) 27 2 v1 (G.length + 1) (pcs G ++ pcs [(xn, xi)]) := World.ownsRow.kept ((own_set_ne hown1 5 hv1B _).alloc _) hg2 hv1o
            refine ⟨k + 1, G ++ [(xn, xi)], L ++ [⟨xn, xi, xc, xr, xh, true⟩], oA', oC', v1, by omega, by go_num, rfl, HGT.out, HLT.out, ?_, ?_, by rw [List.length_append]; exact World.cell?_setCell_same _ _ _ r12, by rw [World.frozen?_setCell]; exact f12, ?_, ?_, ?_⟩
            · rw [List.length_append, pcs_app]
              exact ownsRow_setCell_below hown1' (a := ⟨W1.heap.size, 0, none⟩) (by simp) _
            · rw [OwnC, List.length_append, ccs_app]
              exact ownsRow_setCell_below hown2 (a := ⟨W1.heap.size, 0, none⟩) (by simp) _
            · have b4 : Below W1.heap.size W1 w4 := Below.grown ((HB.out.alloc (by omega) _).alloc (by simp; omega) _) hg1 (by simp; omega) (fun g hg => by have := (HOG.out.lt g hg).1; omega)
              exact (Below.grown ((b4.setCell (by simp; omega) _).alloc (by simp; omega) _) hg2 (by simp; omega) (fun g hg => by have := (HOL.out.lt g hg).1; omega)).setCell (by simp) _
            · have h5 := hg2.size
              simp only [World.size_alloc] at h5
              have h6 : w4.heap.size ≤ w6.heap.size := Nat.le_trans (by simp) h5
              have h7 : W1.heap.size < w6.heap.size := by omega
              simpa using h7
            · rw [List.length_append]
              exact apart_step (v1 := .slice oA' (L.length + 1) oC') hv1o (fun q hq => by have := (hown1.lt q hq).2; simp; omega) hat2
          case measure => simp [intOf]; omega
        · have HGF := hide (show goes st ⟨xn, xi, xc, xr, xh, true⟩ = false by simp [goes])
          replace HGT := hide (show G = livesL ((m.take (k + 1)).filter (goes st)) by rw [HGT.out, HGF.out]; simp)
          replace HLT := hide (show L ++ [⟨xn, xi, xc, xr, xh, true⟩] = goneR st (m.take (k + 1)) by rw [HLT.out, HGF.out]; simp)
          have nOut := NOut.out
          go_wp2_with (at_builtin; go_must (refine wpList_append_any _ Try.okC (by rfl) (.tmp 68) (.tmp 70) (by rfl) (W1.heap.size + 1) (.slice oA L.length oC) L.length (ccs L) (by rfl) ((HOL.out.alloc _).alloc _) _ (some ⟨(gw W1 d os).heap.size + 1, 0, none⟩) 1 1 (ccs [⟨xn, xi, xc, xr, xh, true⟩]) (by rfl) (reads_oneC _ ⟨xn, xi, xc, xr, xh, true⟩ _ (by simp)) (cc_one _) (by unfold maxLen; omega) (by omega) (by simp; omega) ?_); intro v1 w4 hown1 hg1 hnil1 hat1; obtain ⟨oA', oC', rfl, _, _⟩ := own_slice hown1; have t10 := (keep_cell hg1 (b := W1.heap.size) (by simp; omega) nOut 0); have r11 : w4.cell? ⟨W1.heap.size, 0, none⟩ = some (.slice oA L.length oC) := t10.1.trans (by simp [go_sem, r10]); have f11 : w4.frozen? ⟨W1.heap.size, 0, none⟩ = false := t10.2.trans (by simp [go_sem, f10]); clear t10)
          go_roundw
          case rel =>
            refine ⟨k + 1, G, L ++ [⟨xn, xi, xc, xr, xh, true⟩], oA', oC', v, by omega, by go_num, rfl, HGT.out, HLT.out, ?_, ?_, by rw [List.length_append]; exact World.cell?_setCell_same _ _ _ r11, by rw [World.frozen?_setCell]; exact f11, ?_, ?_, ?_⟩
            · exact ownsRow_setCell_below (World.ownsRow.kept ((HOG.out.alloc _).alloc _) hg1 HAP.out) (a := ⟨W1.heap.size, 0, none⟩) (by simp) _
            · rw [OwnC, List.length_append, ccs_app]
              exact ownsRow_setCell_below hown1 (a := ⟨W1.heap.size, 0, none⟩) (by simp) _
            · exact (Below.grown ((HB.out.alloc (by omega) _).alloc (by simp; omega) _) hg1 (by simp; omega) (fun g hg => by have := (HOL.out.lt g hg).1; omega)).setCell (by simp) _
            · have h5 := Nat.le_trans (show (gw W1 d os).heap.size ≤ (((gw W1 d os).alloc (bxC ⟨xn, xi, xc, xr, xh, true⟩)).alloc (bxC ⟨xn, xi, xc, xr, xh, true⟩)).heap.size by simp; omega) hg1.size
              simpa using Nat.lt_of_lt_of_le hlt10 h5
            · rw [List.length_append]
              exact apart_step (v1 := .slice oA' (L.length + 1) oC') HAP.out (fun q hq => by have := (HOG.out.lt q hq).2; simp; omega) hat1
          case measure => simp [intOf]; omega
    · have H1 := hide (show G = livesL (m.filter (goes st)) by rw [HG.out, List.take_of_length_le (by omega)])
      have H2 := hide (show L = goneR st m by rw [HL.out, List.take_of_length_le (by omega)])
      have hog := HOG.out
      obtain ⟨gA, gC, rfl, _, _⟩ := own_slice hog
      have z8 := World.cell?_setCell_same _ _ (Value.slice oA L.length oC) q8
      go_wp2
      refine bodyPost_ret (v := .tuple #[.agg #[.slice oA L.length oC], .slice gA G.length gC]) (by simp [results, Try.results14, go_sem, z8]) rfl ?_
      rw [← H1.out, ← H2.out]
      refine ⟨_, gA, gC, rfl, ?_, ?_, ?_⟩
      · exact own_base (own_swap HOL.out (by simp) (by omega)) (by have := hB1.size; omega)
      · exact own_base (own_swap hog (by simp) (by omega)) (by have := hB1.size; omega)
      · exact bel_gw (hB1.setCell (by simp; omega) _) _ _

set_option maxRecDepth 100000 in
set_option maxHeartbeats 8000000 in
theorem without_drop (A : Option Addr) (c : Nat) (l : List Cl) (a b now : Int) (w : World) (h : Cll w A l) (hn : l.length ≤ 1000000) (hwi : ∀ x ∈ l, 0 ≤ x.i) (hwh : ∀ x ∈ l, 0 ≤ x.heard ∧ x.heard ≤ 18446744073709551615) (hnow : 0 ≤ now ∧ now ≤ 18446744073709551615) :
    Calls Try.prog 14 #[.agg #[.slice A l.length c], .int .i64 1, .agg #[.int .i64 a, .int .u64 b], .int .u64 now] w (RetG w (goneR (fun x => x.n == a) (takenR l)) (livesL ((takenR l).filter (goes (fun x => x.n == a))))) := by
  have T := hide (fun W (hW : Cll W A l) => ref17Own_s A c l W hW hn hwi)
  have hml := takenR_len l
  have hw' : ∀ x ∈ takenR l, 0 ≤ x.heard ∧ x.heard ≤ 18446744073709551615 := by
    intro x hx; unfold takenR at hx; split at hx
    · exact hwh x hx
    · simp at hx
  generalize takenR l = m at T hml hw' ⊢
  have HW := hide hw'
  obtain ⟨hnow0, hnow1⟩ := hnow
  obtain ⟨st, hst⟩ : ∃ st : Cl → Bool, st = (fun x => x.n == a) := ⟨_, rfl⟩
  rw [← hst]
  have HST := hide (show ∀ x, st x = (fun x => x.n == a) x from fun x => by rw [hst])
  clear hwi hwh hw' hst
  go_enter Try.func14, Try.ntmps14
  go_wp2_with fail
  with_reducible refine (T.out _ (h.step (by repeat (first | exact Below.refl _ _ | assumption | refine bel_al ?_ _ | refine bel_gw ?_ _ _ | refine bel_drew ?_ | refine bel_drewN ?_ _)))).mono ?_
  rintro e w1 ⟨v, rfl, hown, hb⟩
  obtain ⟨RA, RC, rfl, hrc, _⟩ := own_slice hown
  obtain ⟨⟨d1, os1⟩, rfl⟩ := gw_of_below hb
  have hc : Cll (gw (((w.alloc (bxR RA m.length RC)).alloc (bx a b)).alloc (bxR none 0 0)) d1 os1) RA m := Reads.of_own (own_swap hown (by simp) (by simp))
  have hB1 : Below w.heap.size w (gw (((w.alloc (bxR RA m.length RC)).alloc (bx a b)).alloc (bxR none 0 0)) d1 os1) := (by repeat (first | exact Below.refl _ _ | assumption | refine bel_al ?_ _ | refine bel_gw ?_ _ _ | refine bel_drew ?_ | refine bel_drewN ?_ _))
  have q4 : (gw (((w.alloc (bxR RA m.length RC)).alloc (bx a b)).alloc (bxR none 0 0)) d1 os1).cell? ⟨w.heap.size, 0, none⟩ = some (.slice RA m.length RC) := by simp [go_sem]
  have q60 : (gw (((w.alloc (bxR RA m.length RC)).alloc (bx a b)).alloc (bxR none 0 0)) d1 os1).cell? ⟨w.heap.size + 1, 0, none⟩ = some (.int .i64 a) := by simp [go_sem]
  have q61 : (gw (((w.alloc (bxR RA m.length RC)).alloc (bx a b)).alloc (bxR none 0 0)) d1 os1).cell? ⟨w.heap.size + 1, 1, none⟩ = some (.int .u64 b) := by simp [go_sem]
  have q8 : (gw (((w.alloc (bxR RA m.length RC)).alloc (bx a b)).alloc (bxR none 0 0)) d1 os1).cell? ⟨w.heap.size + 1 + 1, 0, none⟩ = some (.slice none 0 0) := by simp [go_sem]
  have f8 : (gw (((w.alloc (bxR RA m.length RC)).alloc (bx a b)).alloc (bxR none 0 0)) d1 os1).frozen? ⟨w.heap.size + 1 + 1, 0, none⟩ = false := by simp [go_sem]
  haveI i4 : InW w.heap.size (gw (((w.alloc (bxR RA m.length RC)).alloc (bx a b)).alloc (bxR none 0 0)) d1 os1) := inferInstance
  haveI i6 : InW (w.heap.size + 1) (gw (((w.alloc (bxR RA m.length RC)).alloc (bx a b)).alloc (bxR none 0 0)) d1 os1) := inferInstance
  haveI i8 : InW (w.heap.size + 1 + 1) (gw (((w.alloc (bxR RA m.length RC)).alloc (bx a b)).alloc (bxR none 0 0)) d1 os1) := inferInstance
  clear hb h hown
  go_wp2
  generalize gw (((w.alloc (bxR RA m.length RC)).alloc (bx a b)).alloc (bxR none 0 0)) d1 os1 = W1 at *
  go_loopw [11, 12] (fun v i wr => ∃ (k : Nat) (G : List (Int × Int)) (L : List Cl) (oA : Option Addr) (oC : Nat) (gv : Value), k ≤ m.length ∧ i = .int .i64 k ∧ v = gv ∧ G = livesL ((m.take k).filter (goes st)) ∧ L = goneR st (m.take k) ∧ wr.ownsRow (W1.heap.size + 1) 27 2 gv G.length (pcs G) ∧ OwnC wr (W1.heap.size + 1) (.slice oA L.length oC) L ∧ wr.cell? ⟨W1.heap.size, 0, none⟩ = some (.slice oA L.length oC) ∧ wr.frozen? ⟨W1.heap.size, 0, none⟩ = false ∧ Below W1.heap.size W1 wr ∧ W1.heap.size < wr.heap.size ∧ (gv.ownBlock = none ∨ gv.ownBlock ≠ (Value.slice oA L.length oC).ownBlock)) (fun _ i _ => m.length - (intOf i).toNat)
  case atStart => exact ⟨0, [], [], none, 0, _, Nat.zero_le _, rfl, rfl, rfl, rfl, World.ownsRow_nil _ _ _ _, World.ownsRow_nil _ _ _ _, by simp [go_sem], by simp [go_sem], below_alloc _ _, by simp, .inl rfl⟩
  case round =>
    obtain ⟨k, G, L, oA, oC, v, hk, rfl, hgv, hG, hL, hog, hol, r10, f10, hbw, hlt10, hap⟩ := hrel
    replace hgv := hgv.symm
    subst hgv
    have hGl : G.length ≤ m.length := by
      rw [hG, livesL, List.length_map]
      exact Nat.le_trans (List.length_filter_le _ _) (by rw [List.length_take]; omega)
    have hLl : L.length = k := by rw [hL]; simp [goneR]; omega
    have HLl := hide hLl
    have hLl' : L.length ≤ 6 := by omega
    have HG := hide hG
    have HL := hide hL
    have HB := hide hbw
    have HAP := hide hap
    have nOut : (Value.slice oA L.length oC).ownBlock ≠ some W1.heap.size := fun e => by have := (hol.lt _ e).1; omega
    have nGone : v.ownBlock ≠ some W1.heap.size := fun e => by have := (hog.lt _ e).1; omega
    have NOut := hide nOut
    have NGone := hide nGone
    have NC := hide (show v.ownBlock ≠ some wr.heap.size from fun e => by have := (hog.lt _ e).2; omega)
    have NC' := hide (show (Value.slice oA L.length oC).ownBlock ≠ some wr.heap.size from fun e => by have := (hol.lt _ e).2; omega)
    have HOG := hide hog
    have HOL := hide hol
    have nb : ¬ W1.heap.size = wr.heap.size := by omega
    obtain ⟨⟨d, os⟩, rfl⟩ := gw_of_below hbw
    simp only at hlt10 r10 f10 nb
    replace HB := hide (show Below W1.heap.size W1 (gw W1 d os) from HB.out)
    replace HOG := hide (show (gw W1 d os).ownsRow (W1.heap.size + 1) 27 2 v G.length (pcs G) from HOG.out)
    replace HOL := hide (show OwnC (gw W1 d os) (W1.heap.size + 1) (.slice oA L.length oC) L from HOL.out)
    replace NC := hide (show v.ownBlock ≠ some (gw W1 d os).heap.size from NC.out)
    replace NC' := hide (show (Value.slice oA L.length oC).ownBlock ≠ some (gw W1 d os).heap.size from NC'.out)
    haveI : InW W1.heap.size (gw W1 d os) := ⟨hlt10⟩
    clear hG hL hog hol hbw hap hLl nOut nGone
    by_cases hlt : k < m.length
    · obtain ⟨bb, off, x, rfl, hbb, hp, hx⟩ := Reads.atC hc hlt
      have hxw := HW.out x (List.mem_of_getElem? hp)
      have HGT := hide (livesG_take (st := st) hp)
      have HLT := hide (goneR_take (st := st) hp)
      rw [← HG.out] at HGT
      rw [← HL.out] at HLT
      have HSX := hide (HST.out x)
      obtain ⟨xn, xi, xc, xr, xh, xg⟩ := x
      obtain ⟨g0, g1, g2, g3, g4, g5⟩ := hx
      simp only at g0 g1 g2 g3 g4 g5 hxw HSX
      obtain ⟨hxw0, hxw1⟩ := hxw
      haveI : InW bb W1 := ⟨hbb⟩
      clear hp
      cases hs : (xn == a)
      · have HGF := hide (show goes st ⟨xn, xi, xc, xr, xh, xg⟩ = false by unfold goes; rw [show st ⟨xn, xi, xc, xr, xh, xg⟩ = false by rw [HSX.out]; exact hs]; simp)
        replace HGT := hide (show G = livesL ((m.take (k + 1)).filter (goes st)) by rw [HGT.out, HGF.out]; simp)
        replace HLT := hide (show L ++ [⟨xn, xi, xc, xr, xh, xg⟩] = goneR st (m.take (k + 1)) by rw [HLT.out, HGF.out]; simp)
        have nOut := NOut.out
        go_wp2_with (at_builtin; go_must (refine wpList_append_any _ Try.okC (by rfl) (.tmp 68) (.tmp 70) (by rfl) (W1.heap.size + 1) (.slice oA L.length oC) L.length (ccs L) (by rfl) ((HOL.out.alloc _).alloc _) _ (some ⟨(gw W1 d os).heap.size + 1, 0, none⟩) 1 1 (ccs [⟨xn, xi, xc, xr, xh, xg⟩]) (by rfl) (reads_oneC _ ⟨xn, xi, xc, xr, xh, xg⟩ _ (by simp)) (cc_one _) (by unfold maxLen; omega) (by omega) (by simp; omega) ?_); intro v1 w4 hown1 hg1 hnil1 hat1; obtain ⟨oA', oC', rfl, _, _⟩ := own_slice hown1; have t10 := (keep_cell hg1 (b := W1.heap.size) (by simp; omega) nOut 0); have r11 : w4.cell? ⟨W1.heap.size, 0, none⟩ = some (.slice oA L.length oC) := t10.1.trans (by simp [go_sem, r10]); have f11 : w4.frozen? ⟨W1.heap.size, 0, none⟩ = false := t10.2.trans (by simp [go_sem, f10]); clear t10)
        go_roundw
        case rel =>
          refine ⟨k + 1, G, L ++ [⟨xn, xi, xc, xr, xh, xg⟩], oA', oC', v, by omega, by go_num, rfl, HGT.out, HLT.out, ?_, ?_, by rw [List.length_append]; exact World.cell?_setCell_same _ _ _ r11, by rw [World.frozen?_setCell]; exact f11, ?_, ?_, ?_⟩
          · exact ownsRow_setCell_below (World.ownsRow.kept ((HOG.out.alloc _).alloc _) hg1 HAP.out) (a := ⟨W1.heap.size, 0, none⟩) (by simp) _
          · rw [OwnC, List.length_append, ccs_app]
            exact ownsRow_setCell_below hown1 (a := ⟨W1.heap.size, 0, none⟩) (by simp) _
          · exact (Below.grown ((HB.out.alloc (by omega) _).alloc (by simp; omega) _) hg1 (by simp; omega) (fun g hg => by have := (HOL.out.lt g hg).1; omega)).setCell (by simp) _
          · have h5 := Nat.le_trans (show (gw W1 d os).heap.size ≤ (((gw W1 d os).alloc (bxC ⟨xn, xi, xc, xr, xh, xg⟩)).alloc (bxC ⟨xn, xi, xc, xr, xh, xg⟩)).heap.size by simp; omega) hg1.size
            simpa using Nat.lt_of_lt_of_le hlt10 h5
          · rw [List.length_append]
            exact apart_step (v1 := .slice oA' (L.length + 1) oC') HAP.out (fun q hq => by have := (HOG.out.lt q hq).2; simp; omega) hat1
        case measure => simp [intOf]; omega
      · cases xg
        · have HGF := hide (show goes st ⟨xn, xi, xc, xr, xh, false⟩ = true by unfold goes; rw [show st ⟨xn, xi, xc, xr, xh, false⟩ = true by rw [HSX.out]; exact hs]; simp)
          replace HGT := hide (show G ++ [(xn, xi)] = livesL ((m.take (k + 1)).filter (goes st)) by rw [HGT.out, HGF.out]; simp)
          replace HLT := hide (show L ++ [⟨xn, xi, xc, xr, xh, true⟩] = goneR st (m.take (k + 1)) by rw [HLT.out, HGF.out]; simp)
          have nC := NC.out
          have nGone := NGone.out
          go_wp2_with (first
            | (at_builtin; (refine wpList_append_any _ Try.okP (by rfl) (.tmp 61) (.tmp 64) (by rfl) (W1.heap.size + 1) v G.length (pcs G) (by rfl) ((HOG.out.alloc _).alloc _) _ (some ⟨(gw W1 d os).heap.size + 1, 0, none⟩) 1 1 (pcs [(xn, xi)]) (by rfl) (reads_oneP _ xn xi _ (by simp)) (pc_one _) (by unfold maxLen; omega) (by omega) (by simp; omega) ?_); intro v1 w4 hown1 hg1 hnil1 hat1; have kc := fun o => keep_cell hg1 (b := (gw W1 d os).heap.size) (by simp; omega) nC o; have c0 : w4.cell? ⟨(gw W1 d os).heap.size, 0, none⟩ = some (.int .i64 xn) := (kc 0).1.trans (by simp [go_sem]); have c1 : w4.cell? ⟨(gw W1 d os).heap.size, 1, none⟩ = some (.int .u64 xi) := (kc 1).1.trans (by simp [go_sem]); have c2 : w4.cell? ⟨(gw W1 d os).heap.size, 2, none⟩ = some (.int .u64 xc) := (kc 2).1.trans (by simp [go_sem]); have c3 : w4.cell? ⟨(gw W1 d os).heap.size, 3, none⟩ = some (.int .u64 xr) := (kc 3).1.trans (by simp [go_sem]); have c4 : w4.cell? ⟨(gw W1 d os).heap.size, 4, none⟩ = some (.int .u64 xh) := (kc 4).1.trans (by simp [go_sem]); have c5 : w4.cell? ⟨(gw W1 d os).heap.size, 5, none⟩ = some (.bool false) := (kc 5).1.trans (by simp [go_sem]); have fc5 : w4.frozen? ⟨(gw W1 d os).heap.size, 5, none⟩ = false := (kc 5).2.trans (by simp [go_sem]); have e0 := cell_set_off (o := 5) (u := .bool true) c0 (by omega); have e1 := cell_set_off (o := 5) (u := .bool true) c1 (by omega); have e2 := cell_set_off (o := 5) (u := .bool true) c2 (by omega); have e3 := cell_set_off (o := 5) (u := .bool true) c3 (by omega); have e4 := cell_set_off (o := 5) (u := .bool true) c4 (by omega); have e5 := World.cell?_setCell_same w4 _ (.bool true) c5; have t10 := (keep_cell hg1 (b := W1.heap.size) (by simp; omega) nGone 0); have r11 : w4.cell? ⟨W1.heap.size, 0, none⟩ = some (.slice oA L.length oC) := t10.1.trans (by simp [go_sem, r10]); have f11 : w4.frozen? ⟨W1.heap.size, 0, none⟩ = false := t10.2.trans (by simp [go_sem, f10]); clear t10 kc; have hs4 := hg1.size; simp only [World.size_alloc] at hs4; have HAP2 := hide (apart_symm HAP.out))
            | (at_builtin; (refine wpList_append_any _ Try.okC (by rfl) (.tmp 68) (.tmp 70) (by rfl) (W1.heap.size + 1) (.slice oA L.length oC) L.length (ccs L) (by rfl) ((own_set_ne (World.ownsRow.kept ((HOL.out.alloc _).alloc _) hg1 HAP2.out) 5 NC'.out _).alloc _) _ (some ⟨w4.heap.size, 0, none⟩) 1 1 (ccs [⟨xn, xi, xc, xr, xh, true⟩]) (by rfl) (reads_oneC _ ⟨xn, xi, xc, xr, xh, true⟩ _ (by simp)) (cc_one _) (by unfold maxLen; omega) (by omega) (by simp; omega) ?_); intro v2 w6 hown2 hg2 hnil2 hat2; obtain ⟨oA', oC', rfl, _, _⟩ := own_slice hown2; have t10 := (keep_cell hg2 (b := W1.heap.size) (by simp; omega) NOut.out 0); have r12 : w6.cell? ⟨W1.heap.size, 0, none⟩ = some (.slice oA L.length oC) := t10.1.trans (by haveI : InW W1.heap.size w4 := ⟨by omega⟩; simp [go_sem, r11, nb]); have f12 : w6.frozen? ⟨W1.heap.size, 0, none⟩ = false := t10.2.trans (by haveI : InW W1.heap.size w4 := ⟨by omega⟩; simp [go_sem, f11]); clear t10))
          go_roundw
          case rel =>
            have hv1B : v1.ownBlock ≠ some (gw W1 d os).heap.size := by
              rcases hat1 with h | h
              · rw [h]; exact NC.out
              · rw [h]; intro e; injection e with e; simp at e; omega
            have hv1o : v1.ownBlock = none ∨ v1.ownBlock ≠ (Value.slice oA L.length oC).ownBlock := by
              rcases hat1 with h | h
              · rw [h]; exact HAP.out
              · right; rw [h]; intro e
                have := (HOL.out.lt _ e.symm).2; simp at this; omega
            have hown1' : w6.ownsRow (W1.heap.size + 1) 27 2 v1 (G.length + 1) (pcs G ++ pcs [(xn, xi)]) := World.ownsRow.kept ((own_set_ne hown1 5 hv1B _).alloc _) hg2 hv1o
            refine ⟨k + 1, G ++ [(xn, xi)], L ++ [⟨xn, xi, xc, xr, xh, true⟩], oA', oC', v1, by omega, by go_num, rfl, HGT.out, HLT.out, ?_, ?_, by rw [List.length_append]; exact World.cell?_setCell_same _ _ _ r12, by rw [World.frozen?_setCell]; exact f12, ?_, ?_, ?_⟩
            · rw [List.length_append, pcs_app]
              exact ownsRow_setCell_below hown1' (a := ⟨W1.heap.size, 0, none⟩) (by simp) _
            · rw [OwnC, List.length_append, ccs_app]
              exact ownsRow_setCell_below hown2 (a := ⟨W1.heap.size, 0, none⟩) (by simp) _
            · have b4 : Below W1.heap.size W1 w4 := Below.grown ((HB.out.alloc (by omega) _).alloc (by simp; omega) _) hg1 (by simp; omega) (fun g hg => by have := (HOG.out.lt g hg).1; omega)
              exact (Below.grown ((b4.setCell (by simp; omega) _).alloc (by simp; omega) _) hg2 (by simp; omega) (fun g hg => by have := (HOL.out.lt g hg).1; omega)).setCell (by simp) _
            · have h5 := hg2.size
              simp only [World.size_alloc] at h5
              have h6 : w4.heap.size ≤ w6.heap.size := Nat.le_trans (by simp) h5
              have h7 : W1.heap.size < w6.heap.size := by omega
              simpa using h7
            · rw [List.length_append]
              exact apart_step (v1 := .slice oA' (L.length + 1) oC') hv1o (fun q hq => by have := (hown1.lt q hq).2; simp; omega) hat2
          case measure => simp [intOf]; omega
        · have HGF := hide (show goes st ⟨xn, xi, xc, xr, xh, true⟩ = false by simp [goes])
          replace HGT := hide (show G = livesL ((m.take (k + 1)).filter (goes st)) by rw [HGT.out, HGF.out]; simp)
          replace HLT := hide (show L ++ [⟨xn, xi, xc, xr, xh, true⟩] = goneR st (m.take (k + 1)) by rw [HLT.out, HGF.out]; simp)
          have nOut := NOut.out
          go_wp2_with (at_builtin; go_must (refine wpList_append_any _ Try.okC (by rfl) (.tmp 68) (.tmp 70) (by rfl) (W1.heap.size + 1) (.slice oA L.length oC) L.length (ccs L) (by rfl) ((HOL.out.alloc _).alloc _) _ (some ⟨(gw W1 d os).heap.size + 1, 0, none⟩) 1 1 (ccs [⟨xn, xi, xc, xr, xh, true⟩]) (by rfl) (reads_oneC _ ⟨xn, xi, xc, xr, xh, true⟩ _ (by simp)) (cc_one _) (by unfold maxLen; omega) (by omega) (by simp; omega) ?_); intro v1 w4 hown1 hg1 hnil1 hat1; obtain ⟨oA', oC', rfl, _, _⟩ := own_slice hown1; have t10 := (keep_cell hg1 (b := W1.heap.size) (by simp; omega) nOut 0); have r11 : w4.cell? ⟨W1.heap.size, 0, none⟩ = some (.slice oA L.length oC) := t10.1.trans (by simp [go_sem, r10]); have f11 : w4.frozen? ⟨W1.heap.size, 0, none⟩ = false := t10.2.trans (by simp [go_sem, f10]); clear t10)
          go_roundw
          case rel =>
            refine ⟨k + 1, G, L ++ [⟨xn, xi, xc, xr, xh, true⟩], oA', oC', v, by omega, by go_num, rfl, HGT.out, HLT.out, ?_, ?_, by rw [List.length_append]; exact World.cell?_setCell_same _ _ _ r11, by rw [World.frozen?_setCell]; exact f11, ?_, ?_, ?_⟩
            · exact ownsRow_setCell_below (World.ownsRow.kept ((HOG.out.alloc _).alloc _) hg1 HAP.out) (a := ⟨W1.heap.size, 0, none⟩) (by simp) _
            · rw [OwnC, List.length_append, ccs_app]
              exact ownsRow_setCell_below hown1 (a := ⟨W1.heap.size, 0, none⟩) (by simp) _
            · exact (Below.grown ((HB.out.alloc (by omega) _).alloc (by simp; omega) _) hg1 (by simp; omega) (fun g hg => by have := (HOL.out.lt g hg).1; omega)).setCell (by simp) _
            · have h5 := Nat.le_trans (show (gw W1 d os).heap.size ≤ (((gw W1 d os).alloc (bxC ⟨xn, xi, xc, xr, xh, true⟩)).alloc (bxC ⟨xn, xi, xc, xr, xh, true⟩)).heap.size by simp; omega) hg1.size
              simpa using Nat.lt_of_lt_of_le hlt10 h5
            · rw [List.length_append]
              exact apart_step (v1 := .slice oA' (L.length + 1) oC') HAP.out (fun q hq => by have := (HOG.out.lt q hq).2; simp; omega) hat1
          case measure => simp [intOf]; omega
    · have H1 := hide (show G = livesL (m.filter (goes st)) by rw [HG.out, List.take_of_length_le (by omega)])
      have H2 := hide (show L = goneR st m by rw [HL.out, List.take_of_length_le (by omega)])
      have hog := HOG.out
      obtain ⟨gA, gC, rfl, _, _⟩ := own_slice hog
      have z8 := World.cell?_setCell_same _ _ (Value.slice oA L.length oC) q8
      go_wp2
      refine bodyPost_ret (v := .tuple #[.agg #[.slice oA L.length oC], .slice gA G.length gC]) (by simp [results, Try.results14, go_sem, z8]) rfl ?_
      rw [← H1.out, ← H2.out]
      refine ⟨_, gA, gC, rfl, ?_, ?_, ?_⟩
      · exact own_base (own_swap HOL.out (by simp) (by omega)) (by have := hB1.size; omega)
      · exact own_base (own_swap hog (by simp) (by omega)) (by have := hB1.size; omega)
      · exact bel_gw (hB1.setCell (by simp; omega) _) _ _

set_option maxRecDepth 100000 in
set_option maxHeartbeats 8000000 in
theorem without_silent (A : Option Addr) (c : Nat) (l : List Cl) (a b now : Int) (w : World) (h : Cll w A l) (hn : l.length ≤ 1000000) (hwi : ∀ x ∈ l, 0 ≤ x.i) (hwh : ∀ x ∈ l, 0 ≤ x.heard ∧ x.heard ≤ 18446744073709551615) (hnow : 0 ≤ now ∧ now ≤ 18446744073709551615) :
    Calls Try.prog 14 #[.agg #[.slice A l.length c], .int .i64 2, .agg #[.int .i64 a, .int .u64 b], .int .u64 now] w (RetG w (goneR (silB now) (takenR l)) (livesL ((takenR l).filter (goes (silB now))))) := by
  have T := hide (fun W (hW : Cll W A l) => ref17Own_s A c l W hW hn hwi)
  have hml := takenR_len l
  have hw' : ∀ x ∈ takenR l, 0 ≤ x.heard ∧ x.heard ≤ 18446744073709551615 := by
    intro x hx; unfold takenR at hx; split at hx
    · exact hwh x hx
    · simp at hx
  generalize takenR l = m at T hml hw' ⊢
  have HW := hide hw'
  obtain ⟨hnow0, hnow1⟩ := hnow
  obtain ⟨st, hst⟩ : ∃ st : Cl → Bool, st = (silB now) := ⟨_, rfl⟩
  rw [← hst]
  have HST := hide (show ∀ x, st x = (silB now) x from fun x => by rw [hst])
  clear hwi hwh hw' hst
  go_enter Try.func14, Try.ntmps14
  go_wp2_with fail
  with_reducible refine (T.out _ (h.step (by repeat (first | exact Below.refl _ _ | assumption | refine bel_al ?_ _ | refine bel_gw ?_ _ _ | refine bel_drew ?_ | refine bel_drewN ?_ _)))).mono ?_
  rintro e w1 ⟨v, rfl, hown, hb⟩
  obtain ⟨RA, RC, rfl, hrc, _⟩ := own_slice hown
  obtain ⟨⟨d1, os1⟩, rfl⟩ := gw_of_below hb
  have hc : Cll (gw (((w.alloc (bxR RA m.length RC)).alloc (bx a b)).alloc (bxR none 0 0)) d1 os1) RA m := Reads.of_own (own_swap hown (by simp) (by simp))
  have hB1 : Below w.heap.size w (gw (((w.alloc (bxR RA m.length RC)).alloc (bx a b)).alloc (bxR none 0 0)) d1 os1) := (by repeat (first | exact Below.refl _ _ | assumption | refine bel_al ?_ _ | refine bel_gw ?_ _ _ | refine bel_drew ?_ | refine bel_drewN ?_ _))
  have q4 : (gw (((w.alloc (bxR RA m.length RC)).alloc (bx a b)).alloc (bxR none 0 0)) d1 os1).cell? ⟨w.heap.size, 0, none⟩ = some (.slice RA m.length RC) := by simp [go_sem]
  have q60 : (gw (((w.alloc (bxR RA m.length RC)).alloc (bx a b)).alloc (bxR none 0 0)) d1 os1).cell? ⟨w.heap.size + 1, 0, none⟩ = some (.int .i64 a) := by simp [go_sem]
  have q61 : (gw (((w.alloc (bxR RA m.length RC)).alloc (bx a b)).alloc (bxR none 0 0)) d1 os1).cell? ⟨w.heap.size + 1, 1, none⟩ = some (.int .u64 b) := by simp [go_sem]
  have q8 : (gw (((w.alloc (bxR RA m.length RC)).alloc (bx a b)).alloc (bxR none 0 0)) d1 os1).cell? ⟨w.heap.size + 1 + 1, 0, none⟩ = some (.slice none 0 0) := by simp [go_sem]
  have f8 : (gw (((w.alloc (bxR RA m.length RC)).alloc (bx a b)).alloc (bxR none 0 0)) d1 os1).frozen? ⟨w.heap.size + 1 + 1, 0, none⟩ = false := by simp [go_sem]
  haveI i4 : InW w.heap.size (gw (((w.alloc (bxR RA m.length RC)).alloc (bx a b)).alloc (bxR none 0 0)) d1 os1) := inferInstance
  haveI i6 : InW (w.heap.size + 1) (gw (((w.alloc (bxR RA m.length RC)).alloc (bx a b)).alloc (bxR none 0 0)) d1 os1) := inferInstance
  haveI i8 : InW (w.heap.size + 1 + 1) (gw (((w.alloc (bxR RA m.length RC)).alloc (bx a b)).alloc (bxR none 0 0)) d1 os1) := inferInstance
  clear hb h hown
  go_wp2
  generalize gw (((w.alloc (bxR RA m.length RC)).alloc (bx a b)).alloc (bxR none 0 0)) d1 os1 = W1 at *
  go_loopw [11, 12] (fun v i wr => ∃ (k : Nat) (G : List (Int × Int)) (L : List Cl) (oA : Option Addr) (oC : Nat) (gv : Value), k ≤ m.length ∧ i = .int .i64 k ∧ v = gv ∧ G = livesL ((m.take k).filter (goes st)) ∧ L = goneR st (m.take k) ∧ wr.ownsRow (W1.heap.size + 1) 27 2 gv G.length (pcs G) ∧ OwnC wr (W1.heap.size + 1) (.slice oA L.length oC) L ∧ wr.cell? ⟨W1.heap.size, 0, none⟩ = some (.slice oA L.length oC) ∧ wr.frozen? ⟨W1.heap.size, 0, none⟩ = false ∧ Below W1.heap.size W1 wr ∧ W1.heap.size < wr.heap.size ∧ (gv.ownBlock = none ∨ gv.ownBlock ≠ (Value.slice oA L.length oC).ownBlock)) (fun _ i _ => m.length - (intOf i).toNat)
  case atStart => exact ⟨0, [], [], none, 0, _, Nat.zero_le _, rfl, rfl, rfl, rfl, World.ownsRow_nil _ _ _ _, World.ownsRow_nil _ _ _ _, by simp [go_sem], by simp [go_sem], below_alloc _ _, by simp, .inl rfl⟩
  case round =>
    obtain ⟨k, G, L, oA, oC, v, hk, rfl, hgv, hG, hL, hog, hol, r10, f10, hbw, hlt10, hap⟩ := hrel
    replace hgv := hgv.symm
    subst hgv
    have hGl : G.length ≤ m.length := by
      rw [hG, livesL, List.length_map]
      exact Nat.le_trans (List.length_filter_le _ _) (by rw [List.length_take]; omega)
    have hLl : L.length = k := by rw [hL]; simp [goneR]; omega
    have HLl := hide hLl
    have hLl' : L.length ≤ 6 := by omega
    have HG := hide hG
    have HL := hide hL
    have HB := hide hbw
    have HAP := hide hap
    have nOut : (Value.slice oA L.length oC).ownBlock ≠ some W1.heap.size := fun e => by have := (hol.lt _ e).1; omega
    have nGone : v.ownBlock ≠ some W1.heap.size := fun e => by have := (hog.lt _ e).1; omega
    have NOut := hide nOut
    have NGone := hide nGone
    have NC := hide (show v.ownBlock ≠ some wr.heap.size from fun e => by have := (hog.lt _ e).2; omega)
    have NC' := hide (show (Value.slice oA L.length oC).ownBlock ≠ some wr.heap.size from fun e => by have := (hol.lt _ e).2; omega)
    have HOG := hide hog
    have HOL := hide hol
    have nb : ¬ W1.heap.size = wr.heap.size := by omega
    obtain ⟨⟨d, os⟩, rfl⟩ := gw_of_below hbw
    simp only at hlt10 r10 f10 nb
    replace HB := hide (show Below W1.heap.size W1 (gw W1 d os) from HB.out)
    replace HOG := hide (show (gw W1 d os).ownsRow (W1.heap.size + 1) 27 2 v G.length (pcs G) from HOG.out)
    replace HOL := hide (show OwnC (gw W1 d os) (W1.heap.size + 1) (.slice oA L.length oC) L from HOL.out)
    replace NC := hide (show v.ownBlock ≠ some (gw W1 d os).heap.size from NC.out)
    replace NC' := hide (show (Value.slice oA L.length oC).ownBlock ≠ some (gw W1 d os).heap.size from NC'.out)
    haveI : InW W1.heap.size (gw W1 d os) := ⟨hlt10⟩
    clear hG hL hog hol hbw hap hLl nOut nGone
    by_cases hlt : k < m.length
    · obtain ⟨bb, off, x, rfl, hbb, hp, hx⟩ := Reads.atC hc hlt
      have hxw := HW.out x (List.mem_of_getElem? hp)
      have HGT := hide (livesG_take (st := st) hp)
      have HLT := hide (goneR_take (st := st) hp)
      rw [← HG.out] at HGT
      rw [← HL.out] at HLT
      have HSX := hide (HST.out x)
      obtain ⟨xn, xi, xc, xr, xh, xg⟩ := x
      obtain ⟨g0, g1, g2, g3, g4, g5⟩ := hx
      simp only at g0 g1 g2 g3 g4 g5 hxw HSX
      obtain ⟨hxw0, hxw1⟩ := hxw
      haveI : InW bb W1 := ⟨hbb⟩
      clear hp
      by_cases h1 : xh < now
      · have n0 : 0 ≤ now - xh := by omega
        have n1 : now - xh ≤ 18446744073709551615 := by omega
        have b1 : decide (xh < now) = true := by simpa using h1
        by_cases h2 : 12 < now - xh
        · have b2 : decide (12 < now - xh) = true := by simpa using h2
          cases xg
          · have HGF := hide (show goes st ⟨xn, xi, xc, xr, xh, false⟩ = true by unfold goes; rw [show st ⟨xn, xi, xc, xr, xh, false⟩ = true by rw [HSX.out]; unfold silB; simp; omega]; simp)
            replace HGT := hide (show G ++ [(xn, xi)] = livesL ((m.take (k + 1)).filter (goes st)) by rw [HGT.out, HGF.out]; simp)
            replace HLT := hide (show L ++ [⟨xn, xi, xc, xr, xh, true⟩] = goneR st (m.take (k + 1)) by rw [HLT.out, HGF.out]; simp)
            have nC := NC.out
            have nGone := NGone.out
            go_wp2_with (first
              | (at_builtin; (refine wpList_append_any _ Try.okP (by rfl) (.tmp 61) (.tmp 64) (by rfl) (W1.heap.size + 1) v G.length (pcs G) (by rfl) ((HOG.out.alloc _).alloc _) _ (some ⟨(gw W1 d os).heap.size + 1, 0, none⟩) 1 1 (pcs [(xn, xi)]) (by rfl) (reads_oneP _ xn xi _ (by simp)) (pc_one _) (by unfold maxLen; omega) (by omega) (by simp; omega) ?_); intro v1 w4 hown1 hg1 hnil1 hat1; have kc := fun o => keep_cell hg1 (b := (gw W1 d os).heap.size) (by simp; omega) nC o; have c0 : w4.cell? ⟨(gw W1 d os).heap.size, 0, none⟩ = some (.int .i64 xn) := (kc 0).1.trans (by simp [go_sem]); have c1 : w4.cell? ⟨(gw W1 d os).heap.size, 1, none⟩ = some (.int .u64 xi) := (kc 1).1.trans (by simp [go_sem]); have c2 : w4.cell? ⟨(gw W1 d os).heap.size, 2, none⟩ = some (.int .u64 xc) := (kc 2).1.trans (by simp [go_sem]); have c3 : w4.cell? ⟨(gw W1 d os).heap.size, 3, none⟩ = some (.int .u64 xr) := (kc 3).1.trans (by simp [go_sem]); have c4 : w4.cell? ⟨(gw W1 d os).heap.size, 4, none⟩ = some (.int .u64 xh) := (kc 4).1.trans (by simp [go_sem]); have c5 : w4.cell? ⟨(gw W1 d os).heap.size, 5, none⟩ = some (.bool false) := (kc 5).1.trans (by simp [go_sem]); have fc5 : w4.frozen? ⟨(gw W1 d os).heap.size, 5, none⟩ = false := (kc 5).2.trans (by simp [go_sem]); have e0 := cell_set_off (o := 5) (u := .bool true) c0 (by omega); have e1 := cell_set_off (o := 5) (u := .bool true) c1 (by omega); have e2 := cell_set_off (o := 5) (u := .bool true) c2 (by omega); have e3 := cell_set_off (o := 5) (u := .bool true) c3 (by omega); have e4 := cell_set_off (o := 5) (u := .bool true) c4 (by omega); have e5 := World.cell?_setCell_same w4 _ (.bool true) c5; have t10 := (keep_cell hg1 (b := W1.heap.size) (by simp; omega) nGone 0); have r11 : w4.cell? ⟨W1.heap.size, 0, none⟩ = some (.slice oA L.length oC) := t10.1.trans (by simp [go_sem, r10]); have f11 : w4.frozen? ⟨W1.heap.size, 0, none⟩ = false := t10.2.trans (by simp [go_sem, f10]); clear t10 kc; have hs4 := hg1.size; simp only [World.size_alloc] at hs4; have HAP2 := hide (apart_symm HAP.out))
              | (at_builtin; (refine wpList_append_any _ Try.okC (by rfl) (.tmp 68) (.tmp 70) (by rfl) (W1.heap.size + 1) (.slice oA L.length oC) L.length (ccs L) (by rfl) ((own_set_ne (World.ownsRow.kept ((HOL.out.alloc _).alloc _) hg1 HAP2.out) 5 NC'.out _).alloc _) _ (some ⟨w4.heap.size, 0, none⟩) 1 1 (ccs [⟨xn, xi, xc, xr, xh, true⟩]) (by rfl) (reads_oneC _ ⟨xn, xi, xc, xr, xh, true⟩ _ (by simp)) (cc_one _) (by unfold maxLen; omega) (by omega) (by simp; omega) ?_); intro v2 w6 hown2 hg2 hnil2 hat2; obtain ⟨oA', oC', rfl, _, _⟩ := own_slice hown2; have t10 := (keep_cell hg2 (b := W1.heap.size) (by simp; omega) NOut.out 0); have r12 : w6.cell? ⟨W1.heap.size, 0, none⟩ = some (.slice oA L.length oC) := t10.1.trans (by haveI : InW W1.heap.size w4 := ⟨by omega⟩; simp [go_sem, r11, nb]); have f12 : w6.frozen? ⟨W1.heap.size, 0, none⟩ = false := t10.2.trans (by haveI : InW W1.heap.size w4 := ⟨by omega⟩; simp [go_sem, f11]); clear t10))
            go_roundw
            case rel =>
              have hv1B : v1.ownBlock ≠ some (gw W1 d os).heap.size := by
                rcases hat1 with h | h
                · rw [h]; exact NC.out
                · rw [h]; intro e; injection e with e; simp at e; omega
              have hv1o : v1.ownBlock = none ∨ v1.ownBlock ≠ (Value.slice oA L.length oC).ownBlock := by
                rcases hat1 with h | h
                · rw [h]; exact HAP.out
                · right; rw [h]; intro e
                  have := (HOL.out.lt _ e.symm).2; simp at this; omega
              have hown1' : w6.ownsRow (W1.heap.size + 1) 27 2 v1 (G.length + 1) (pcs G ++ pcs [(xn, xi)]) := World.ownsRow.kept ((own_set_ne hown1 5 hv1B _).alloc _) hg2 hv1o
              refine ⟨k + 1, G ++ [(xn, xi)], L ++ [⟨xn, xi, xc, xr, xh, true⟩], oA', oC', v1, by omega, by go_num, rfl, HGT.out, HLT.out, ?_, ?_, by rw [List.length_append]; exact World.cell?_setCell_same _ _ _ r12, by rw [World.frozen?_setCell]; exact f12, ?_, ?_, ?_⟩
              · rw [List.length_append, pcs_app]
                exact ownsRow_setCell_below hown1' (a := ⟨W1.heap.size, 0, none⟩) (by simp) _
              · rw [OwnC, List.length_append, ccs_app]
                exact ownsRow_setCell_below hown2 (a := ⟨W1.heap.size, 0, none⟩) (by simp) _
              · have b4 : Below W1.heap.size W1 w4 := Below.grown ((HB.out.alloc (by omega) _).alloc (by simp; omega) _) hg1 (by simp; omega) (fun g hg => by have := (HOG.out.lt g hg).1; omega)
                exact (Below.grown ((b4.setCell (by simp; omega) _).alloc (by simp; omega) _) hg2 (by simp; omega) (fun g hg => by have := (HOL.out.lt g hg).1; omega)).setCell (by simp) _
              · have h5 := hg2.size
                simp only [World.size_alloc] at h5
                have h6 : w4.heap.size ≤ w6.heap.size := Nat.le_trans (by simp) h5
                have h7 : W1.heap.size < w6.heap.size := by omega
                simpa using h7
              · rw [List.length_append]
                exact apart_step (v1 := .slice oA' (L.length + 1) oC') hv1o (fun q hq => by have := (hown1.lt q hq).2; simp; omega) hat2
            case measure => simp [intOf]; omega
          · have HGF := hide (show goes st ⟨xn, xi, xc, xr, xh, true⟩ = false by simp [goes])
            replace HGT := hide (show G = livesL ((m.take (k + 1)).filter (goes st)) by rw [HGT.out, HGF.out]; simp)
            replace HLT := hide (show L ++ [⟨xn, xi, xc, xr, xh, true⟩] = goneR st (m.take (k + 1)) by rw [HLT.out, HGF.out]; simp)
            have nOut := NOut.out
            go_wp2_with (at_builtin; go_must (refine wpList_append_any _ Try.okC (by rfl) (.tmp 68) (.tmp 70) (by rfl) (W1.heap.size + 1) (.slice oA L.length oC) L.length (ccs L) (by rfl) ((HOL.out.alloc _).alloc _) _ (some ⟨(gw W1 d os).heap.size + 1, 0, none⟩) 1 1 (ccs [⟨xn, xi, xc, xr, xh, true⟩]) (by rfl) (reads_oneC _ ⟨xn, xi, xc, xr, xh, true⟩ _ (by simp)) (cc_one _) (by unfold maxLen; omega) (by omega) (by simp; omega) ?_); intro v1 w4 hown1 hg1 hnil1 hat1; obtain ⟨oA', oC', rfl, _, _⟩ := own_slice hown1; have t10 := (keep_cell hg1 (b := W1.heap.size) (by simp; omega) nOut 0); have r11 : w4.cell? ⟨W1.heap.size, 0, none⟩ = some (.slice oA L.length oC) := t10.1.trans (by simp [go_sem, r10]); have f11 : w4.frozen? ⟨W1.heap.size, 0, none⟩ = false := t10.2.trans (by simp [go_sem, f10]); clear t10)
            go_roundw
            case rel =>
              refine ⟨k + 1, G, L ++ [⟨xn, xi, xc, xr, xh, true⟩], oA', oC', v, by omega, by go_num, rfl, HGT.out, HLT.out, ?_, ?_, by rw [List.length_append]; exact World.cell?_setCell_same _ _ _ r11, by rw [World.frozen?_setCell]; exact f11, ?_, ?_, ?_⟩
              · exact ownsRow_setCell_below (World.ownsRow.kept ((HOG.out.alloc _).alloc _) hg1 HAP.out) (a := ⟨W1.heap.size, 0, none⟩) (by simp) _
              · rw [OwnC, List.length_append, ccs_app]
                exact ownsRow_setCell_below hown1 (a := ⟨W1.heap.size, 0, none⟩) (by simp) _
              · exact (Below.grown ((HB.out.alloc (by omega) _).alloc (by simp; omega) _) hg1 (by simp; omega) (fun g hg => by have := (HOL.out.lt g hg).1; omega)).setCell (by simp) _
              · have h5 := Nat.le_trans (show (gw W1 d os).heap.size ≤ (((gw W1 d os).alloc (bxC ⟨xn, xi, xc, xr, xh, true⟩)).alloc (bxC ⟨xn, xi, xc, xr, xh, true⟩)).heap.size by simp; omega) hg1.size
                simpa using Nat.lt_of_lt_of_le hlt10 h5
              · rw [List.length_append]
                exact apart_step (v1 := .slice oA' (L.length + 1) oC') HAP.out (fun q hq => by have := (HOG.out.lt q hq).2; simp; omega) hat1
            case measure => simp [intOf]; omega
        · have b2 : decide (12 < now - xh) = false := by simpa using h2
          have HGF := hide (show goes st ⟨xn, xi, xc, xr, xh, xg⟩ = false by unfold goes; rw [show st ⟨xn, xi, xc, xr, xh, xg⟩ = false by rw [HSX.out]; unfold silB; simp; omega]; simp)
          replace HGT := hide (show G = livesL ((m.take (k + 1)).filter (goes st)) by rw [HGT.out, HGF.out]; simp)
          replace HLT := hide (show L ++ [⟨xn, xi, xc, xr, xh, xg⟩] = goneR st (m.take (k + 1)) by rw [HLT.out, HGF.out]; simp)
          have nOut := NOut.out
          go_wp2_with (at_builtin; go_must (refine wpList_append_any _ Try.okC (by rfl) (.tmp 68) (.tmp 70) (by rfl) (W1.heap.size + 1) (.slice oA L.length oC) L.length (ccs L) (by rfl) ((HOL.out.alloc _).alloc _) _ (some ⟨(gw W1 d os).heap.size + 1, 0, none⟩) 1 1 (ccs [⟨xn, xi, xc, xr, xh, xg⟩]) (by rfl) (reads_oneC _ ⟨xn, xi, xc, xr, xh, xg⟩ _ (by simp)) (cc_one _) (by unfold maxLen; omega) (by omega) (by simp; omega) ?_); intro v1 w4 hown1 hg1 hnil1 hat1; obtain ⟨oA', oC', rfl, _, _⟩ := own_slice hown1; have t10 := (keep_cell hg1 (b := W1.heap.size) (by simp; omega) nOut 0); have r11 : w4.cell? ⟨W1.heap.size, 0, none⟩ = some (.slice oA L.length oC) := t10.1.trans (by simp [go_sem, r10]); have f11 : w4.frozen? ⟨W1.heap.size, 0, none⟩ = false := t10.2.trans (by simp [go_sem, f10]); clear t10)
          go_roundw
          case rel =>
            refine ⟨k + 1, G, L ++ [⟨xn, xi, xc, xr, xh, xg⟩], oA', oC', v, by omega, by go_num, rfl, HGT.out, HLT.out, ?_, ?_, by rw [List.length_append]; exact World.cell?_setCell_same _ _ _ r11, by rw [World.frozen?_setCell]; exact f11, ?_, ?_, ?_⟩
            · exact ownsRow_setCell_below (World.ownsRow.kept ((HOG.out.alloc _).alloc _) hg1 HAP.out) (a := ⟨W1.heap.size, 0, none⟩) (by simp) _
            · rw [OwnC, List.length_append, ccs_app]
              exact ownsRow_setCell_below hown1 (a := ⟨W1.heap.size, 0, none⟩) (by simp) _
            · exact (Below.grown ((HB.out.alloc (by omega) _).alloc (by simp; omega) _) hg1 (by simp; omega) (fun g hg => by have := (HOL.out.lt g hg).1; omega)).setCell (by simp) _
            · have h5 := Nat.le_trans (show (gw W1 d os).heap.size ≤ (((gw W1 d os).alloc (bxC ⟨xn, xi, xc, xr, xh, xg⟩)).alloc (bxC ⟨xn, xi, xc, xr, xh, xg⟩)).heap.size by simp; omega) hg1.size
              simpa using Nat.lt_of_lt_of_le hlt10 h5
            · rw [List.length_append]
              exact apart_step (v1 := .slice oA' (L.length + 1) oC') HAP.out (fun q hq => by have := (HOG.out.lt q hq).2; simp; omega) hat1
          case measure => simp [intOf]; omega
      · have b1 : decide (xh < now) = false := by simpa using h1
        have HGF := hide (show goes st ⟨xn, xi, xc, xr, xh, xg⟩ = false by unfold goes; rw [show st ⟨xn, xi, xc, xr, xh, xg⟩ = false by rw [HSX.out]; unfold silB; simp; omega]; simp)
        replace HGT := hide (show G = livesL ((m.take (k + 1)).filter (goes st)) by rw [HGT.out, HGF.out]; simp)
        replace HLT := hide (show L ++ [⟨xn, xi, xc, xr, xh, xg⟩] = goneR st (m.take (k + 1)) by rw [HLT.out, HGF.out]; simp)
        have nOut := NOut.out
        go_wp2_with (at_builtin; go_must (refine wpList_append_any _ Try.okC (by rfl) (.tmp 68) (.tmp 70) (by rfl) (W1.heap.size + 1) (.slice oA L.length oC) L.length (ccs L) (by rfl) ((HOL.out.alloc _).alloc _) _ (some ⟨(gw W1 d os).heap.size + 1, 0, none⟩) 1 1 (ccs [⟨xn, xi, xc, xr, xh, xg⟩]) (by rfl) (reads_oneC _ ⟨xn, xi, xc, xr, xh, xg⟩ _ (by simp)) (cc_one _) (by unfold maxLen; omega) (by omega) (by simp; omega) ?_); intro v1 w4 hown1 hg1 hnil1 hat1; obtain ⟨oA', oC', rfl, _, _⟩ := own_slice hown1; have t10 := (keep_cell hg1 (b := W1.heap.size) (by simp; omega) nOut 0); have r11 : w4.cell? ⟨W1.heap.size, 0, none⟩ = some (.slice oA L.length oC) := t10.1.trans (by simp [go_sem, r10]); have f11 : w4.frozen? ⟨W1.heap.size, 0, none⟩ = false := t10.2.trans (by simp [go_sem, f10]); clear t10)
        go_roundw
        case rel =>
          refine ⟨k + 1, G, L ++ [⟨xn, xi, xc, xr, xh, xg⟩], oA', oC', v, by omega, by go_num, rfl, HGT.out, HLT.out, ?_, ?_, by rw [List.length_append]; exact World.cell?_setCell_same _ _ _ r11, by rw [World.frozen?_setCell]; exact f11, ?_, ?_, ?_⟩
          · exact ownsRow_setCell_below (World.ownsRow.kept ((HOG.out.alloc _).alloc _) hg1 HAP.out) (a := ⟨W1.heap.size, 0, none⟩) (by simp) _
          · rw [OwnC, List.length_append, ccs_app]
            exact ownsRow_setCell_below hown1 (a := ⟨W1.heap.size, 0, none⟩) (by simp) _
          · exact (Below.grown ((HB.out.alloc (by omega) _).alloc (by simp; omega) _) hg1 (by simp; omega) (fun g hg => by have := (HOL.out.lt g hg).1; omega)).setCell (by simp) _
          · have h5 := Nat.le_trans (show (gw W1 d os).heap.size ≤ (((gw W1 d os).alloc (bxC ⟨xn, xi, xc, xr, xh, xg⟩)).alloc (bxC ⟨xn, xi, xc, xr, xh, xg⟩)).heap.size by simp; omega) hg1.size
            simpa using Nat.lt_of_lt_of_le hlt10 h5
          · rw [List.length_append]
            exact apart_step (v1 := .slice oA' (L.length + 1) oC') HAP.out (fun q hq => by have := (HOG.out.lt q hq).2; simp; omega) hat1
        case measure => simp [intOf]; omega
    · have H1 := hide (show G = livesL (m.filter (goes st)) by rw [HG.out, List.take_of_length_le (by omega)])
      have H2 := hide (show L = goneR st m by rw [HL.out, List.take_of_length_le (by omega)])
      have hog := HOG.out
      obtain ⟨gA, gC, rfl, _, _⟩ := own_slice hog
      have z8 := World.cell?_setCell_same _ _ (Value.slice oA L.length oC) q8
      go_wp2
      refine bodyPost_ret (v := .tuple #[.agg #[.slice oA L.length oC], .slice gA G.length gC]) (by simp [results, Try.results14, go_sem, z8]) rfl ?_
      rw [← H1.out, ← H2.out]
      refine ⟨_, gA, gC, rfl, ?_, ?_, ?_⟩
      · exact own_base (own_swap HOL.out (by simp) (by omega)) (by have := hB1.size; omega)
      · exact own_base (own_swap hog (by simp) (by omega)) (by have := hB1.size; omega)
      · exact bel_gw (hB1.setCell (by simp; omega) _) _ _


end Go.Proofs.Ytoajcdcdbkjefaa
