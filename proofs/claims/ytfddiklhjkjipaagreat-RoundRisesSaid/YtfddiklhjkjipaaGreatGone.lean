/-
  Contracts: the closures of layer 17; registry.gone and registry.who at each of them.
-/
import Derived.Test.YtfddiklhjkjipaaGreatReg2
namespace Go.Proofs.YtfddiklhjkjipaaGreat
set_option linter.unusedSimpArgs false
set_option linter.unusedVariables false
set_option linter.unusedSectionVars false
open Go.RowKit Go.Sort Go.Lib

theorem flat_set {α : Type} {enc : α → List Value} {k : Nat} (hk : ∀ x, (enc x).length = k) : ∀ (l : List α) (i j : Nat) (x y : α) (v : Value), l[i]? = some x → j < k → enc y = (enc x).set j v → (l.flatMap enc).set (i * k + j) v = (l.set i y).flatMap enc := by
  intro l
  induction l with
  | nil => intro i j x y v h; simp at h
  | cons z l ih =>
    intro i j x y v h hj he
    cases i with
    | zero =>
      simp at h; subst h
      rw [List.set_cons_zero, List.flatMap_cons, List.flatMap_cons, he, Nat.zero_mul, Nat.zero_add, List.set_append_left _ _ (by rw [hk]; exact hj)]
    | succ i =>
      simp at h
      rw [List.set_cons_succ, List.flatMap_cons, List.flatMap_cons, ← ih i j x y v h hj he, List.set_append_right _ _ (by rw [hk, Nat.succ_mul]; omega), hk]
      congr 2
      rw [Nat.succ_mul]; omega
theorem own_setC {w : World} {base g n cap : Nat} {l : List Cl} (h : w.ownsRow base 48 6 (.slice (some ⟨g, 0, none⟩) n cap) n (ccs l)) {i : Nat} (j : Nat) {x y : Cl} {v : Value} (hx : l[i]? = some x) (hj : j < 6) (he : cc y = (cc x).set j v) :
    (w.setCell ⟨g, i * 6 + j, none⟩ v).ownsRow base 48 6 (.slice (some ⟨g, 0, none⟩) n cap) n (ccs (l.set i y)) ∧ w.grownBy (w.setCell ⟨g, i * 6 + j, none⟩ v) (some g) := by
  obtain ⟨h1, g1⟩ := h.stored (i * 6 + j) v
  rw [ccs, flat_set cc_len l i j x y v hx hj he] at h1
  exact ⟨h1, g1⟩
theorem own_lenC {w : World} {base n : Nat} {l : List Cl} {v : Value} (h : w.ownsRow base 48 6 v n (ccs l)) : n = l.length := by have := h.1; rw [ccs_len] at this; omega
theorem own_atC {w : World} {base g n cap : Nat} {l : List Cl} (h : w.ownsRow base 48 6 (.slice (some ⟨g, 0, none⟩) n cap) n (ccs l)) {i : Nat} {x : Cl} (hp : l[i]? = some x) : AtC w g (i * 6) x := by
  have hl : i < l.length := (List.getElem?_eq_some_iff.1 hp).1
  have hn := own_lenC h
  have key : ∀ j (hj : j < 6), w.cell? ⟨g, i * 6 + j, none⟩ = (cc x)[j]? := fun j hj => by rw [h.cellAt _ (by omega), ccs_get hp j hj]
  exact ⟨key 0 (by omega), key 1 (by omega), key 2 (by omega), key 3 (by omega), key 4 (by omega), key 5 (by omega)⟩

/-! ### the closures -/
set_option maxHeartbeats 400000 in
theorem leave1_b (x : Cl) (g : Nat) (a b : Int) (w : World) (h0 : w.cell? ⟨g, 0, none⟩ = some (.int .i64 a)) (h1 : w.cell? ⟨g, 1, none⟩ = some (.int .u64 b)) (hg : g < w.heap.size) :
    Calls Tryz.prog 260 #[.agg #[.int .i64 x.n, .int .u64 x.i, .int .u64 x.cid, .int .u64 x.rnd, .int .u64 x.heard, .bool x.gone], .pointer (some ⟨g, 0, none⟩)] w (RetB7 w (eqP x.n x.i a b)) := by
  have k0 := cell_old (o := bxC x) (p := ⟨g, 0, none⟩) hg h0
  have k1 := cell_old (o := bxC x) (p := ⟨g, 1, none⟩) hg h1
  go_enter Tryz.func260, Tryz.ntmps260
  go_wp2
  go_ret
  exact ⟨rfl, below_alloc _ _⟩
set_option maxHeartbeats 400000 in
theorem drop1_b (x : Cl) (g : Nat) (a : Int) (w : World) (h0 : w.cell? ⟨g, 0, none⟩ = some (.int .i64 a)) (hg : g < w.heap.size) :
    Calls Tryz.prog 209 #[.agg #[.int .i64 x.n, .int .u64 x.i, .int .u64 x.cid, .int .u64 x.rnd, .int .u64 x.heard, .bool x.gone], .pointer (some ⟨g, 0, none⟩)] w (RetB7 w (x.n == a)) := by
  have k0 := cell_old (o := bxC x) (p := ⟨g, 0, none⟩) hg h0
  go_enter Tryz.func209, Tryz.ntmps209
  go_wp2
  go_ret
  exact ⟨rfl, below_alloc _ _⟩
def silB (now : Int) (x : Cl) : Bool := decide (12 < now) && decide (x.heard < now - 12)
set_option maxHeartbeats 400000 in
theorem silent1_b (x : Cl) (g : Nat) (now : Int) (w : World) (h0 : w.cell? ⟨g, 0, none⟩ = some (.int .u64 now)) (hg : g < w.heap.size) (hn : 0 ≤ now) (hn' : now ≤ 18446744073709551615) :
    Calls Tryz.prog 166 #[.agg #[.int .i64 x.n, .int .u64 x.i, .int .u64 x.cid, .int .u64 x.rnd, .int .u64 x.heard, .bool x.gone], .pointer (some ⟨g, 0, none⟩)] w (RetB7 w (silB now x)) := by
  have k0 := cell_old (o := bxC x) (p := ⟨g, 0, none⟩) hg h0
  by_cases h : 12 < now
  · have H := hide (show silB now x = decide (x.heard < now - 12) by simp [silB, h])
    go_enter Tryz.func166, Tryz.ntmps166
    go_wp2
    all_goals
      go_ret
      exact ⟨ret_b (by rw [H.out]), below_alloc _ _⟩
  · have H := hide (show silB now x = false by simp [silB, h])
    go_enter Tryz.func166, Tryz.ntmps166
    go_wp2
    go_ret
    exact ⟨ret_b H.out.symm, below_alloc _ _⟩

/-! ### who goes -/
def goes (st : Cl → Bool) (x : Cl) : Bool := !x.gone && st x
def goneR (st : Cl → Bool) (l : List Cl) : List Cl := l.map fun x => if goes st x = true then { x with gone := true } else x
def RetG (w : World) (l : List Cl) (p : List (Int × Int)) (e : Ending) (w' : World) : Prop :=
  ∃ v A c, e = .returned (.tuple #[.agg #[v], .slice A p.length c]) ∧ OwnC w' w.heap.size v l ∧ w'.ownsRow w.heap.size 25 2 (.slice A p.length c) p.length (pcs p) ∧ Below w.heap.size w w'
/-- the row behind k rounds -/
def mixR (st : Cl → Bool) (m : List Cl) (k : Nat) : List Cl := goneR st (m.take k) ++ m.drop k
theorem mixR_len (st : Cl → Bool) (m : List Cl) (k : Nat) : (mixR st m k).length = m.length := by
  simp [mixR, goneR]; omega
theorem mixR_get {st : Cl → Bool} {m : List Cl} {k : Nat} {x : Cl} (h : m[k]? = some x) : (mixR st m k)[k]? = some x := by
  have hl := (List.getElem?_eq_some_iff.1 h).1
  have h1 : (goneR st (m.take k)).length = k := by simp [goneR]; omega
  rw [mixR, List.getElem?_append_right (by omega), h1, List.getElem?_drop, Nat.sub_self, Nat.add_zero, h]
theorem mixR_step {st : Cl → Bool} {m : List Cl} {k : Nat} {x : Cl} (h : m[k]? = some x) : mixR st m (k + 1) = (mixR st m k).set k (if goes st x = true then { x with gone := true } else x) := by
  have hl := (List.getElem?_eq_some_iff.1 h).1
  have h1 : (goneR st (m.take k)).length = k := by simp [goneR]; omega
  have h2 : m.drop k = x :: m.drop (k + 1) := by
    rw [List.drop_eq_getElem_cons hl]
    obtain ⟨_, h3⟩ := List.getElem?_eq_some_iff.1 h
    rw [h3]
  unfold mixR
  rw [List.set_append_right _ _ (by omega), h1, Nat.sub_self, h2, List.set_cons_zero, take_succ_of h]
  simp [goneR]
theorem set_self {m : List Cl} {k : Nat} {x : Cl} (h : m[k]? = some x) : m.set k x = m := by
  obtain ⟨h1, h2⟩ := List.getElem?_eq_some_iff.1 h
  rw [← h2]; exact List.set_getElem_self h1

set_option maxRecDepth 100000 in
set_option maxHeartbeats 4000000 in
theorem gone_leave (A : Option Addr) (c : Nat) (l : List Cl) (g : Nat) (st : Cl → Bool) (w : World) (h : Cll w A l) (hn : l.length ≤ 1000000)
    (hF : ∀ (x : Cl) (W : World), Below w.heap.size w W → Calls Tryz.prog 260 #[.agg #[.int .i64 x.n, .int .u64 x.i, .int .u64 x.cid, .int .u64 x.rnd, .int .u64 x.heard, .bool x.gone], .pointer (some ⟨g, 0, none⟩)] W (RetB7 W (st x))) :
    Calls Tryz.prog 165 #[.agg #[.slice A l.length c], .func (.func 260) #[] #[.pointer (some ⟨g, 0, none⟩)]] w (RetG w (goneR st (takenR l)) (livesL ((takenR l).filter (goes st)))) := by
  have h1 : Cll ((w.alloc (bxR A l.length c)).alloc (bxR none 0 0)) A l := (h.step (below_alloc _ _)).step (below_alloc _ _)
  have hB : Below w.heap.size w ((w.alloc (bxR A l.length c)).alloc (bxR none 0 0)) := below_step (below_alloc _ _) (below_alloc _ _)
  have HF := hide hF
  clear h hF
  go_enter Tryz.func165, Tryz.ntmps165
  go_wp2_with fail
  with_reducible refine (taken_s A c l _ h1 hn).mono ?_
  rintro e w1 ⟨v, rfl, hown, hb⟩
  have hml := takenR_len l
  generalize takenR l = m at *
  obtain ⟨RA, RC, rfl, hrc, _⟩ := own_slice hown
  have c0 : w1.cell? ⟨w.heap.size, 0, none⟩ = some (.slice A l.length c) := (hb.cell (p := ⟨w.heap.size, 0, none⟩) (by simp; omega)).trans (by simp)
  have f0 : w1.frozen? ⟨w.heap.size, 0, none⟩ = false := (hb.frozen (p := ⟨w.heap.size, 0, none⟩) (by simp; omega)).trans (by simp)
  have c1 : w1.cell? ⟨w.heap.size + 1, 0, none⟩ = some (.slice none 0 0) := (hb.cell (p := ⟨w.heap.size + 1, 0, none⟩) (by simp)).trans (by simp)
  have f1 : w1.frozen? ⟨w.heap.size + 1, 0, none⟩ = false := (hb.frozen (p := ⟨w.heap.size + 1, 0, none⟩) (by simp)).trans (by simp)
  have hsz := hb.size
  simp at hsz
  replace hB := below_step hB hb
  have HO := hide hown
  clear hb hown h1
  have hgr : ∀ gr, (Value.slice RA m.length RC).ownBlock = some gr → w.heap.size + 2 ≤ gr ∧ gr < w1.heap.size := fun gr hg => by
    have := HO.out.lt gr hg; simp at this; exact this
  have HGR := hide hgr
  clear hgr
  go_wp2
  go_loopw [6, 14] (fun v i wr => ∃ (k : Nat) (L : List Cl), k ≤ m.length ∧ i = .int .i64 k ∧ L = (m.take k).filter (goes st) ∧ OwnC wr w1.heap.size v L ∧ wr.ownsRow (w.heap.size + 2) 48 6 (.slice RA m.length RC) m.length (ccs (mixR st m k)) ∧
    wr.cell? ⟨w.heap.size, 0, none⟩ = some (.slice RA m.length RC) ∧ wr.cell? ⟨w.heap.size + 1, 0, none⟩ = some (.slice none 0 0) ∧ wr.frozen? ⟨w.heap.size + 1, 0, none⟩ = false ∧ Below w.heap.size w wr ∧ w1.heap.size ≤ wr.heap.size) (fun _ i _ => m.length - (intOf i).toNat)
  case atStart =>
    refine ⟨0, [], Nat.zero_le _, rfl, by simp, World.ownsRow_nil _ _ _ _, ?_, World.cell?_setCell_same _ _ _ c0, ?_, ?_, hB.setCell (by simp) _, by simp⟩
    · have := ownsRow_setCell_below HO.out (a := ⟨w.heap.size, 0, none⟩) (by simp; omega) (.slice RA m.length RC)
      simpa [mixR, goneR] using this
    · rw [World.cell?_setCell_other _ _ _ _ (by simp)]; exact c1
    · rw [World.frozen?_setCell]; exact f1
  case round =>
    obtain ⟨k, L, hk, rfl, hL, hown, hrow, r0, r1, fr1, hbw, hs1⟩ := hrel
    have hLl : L.length ≤ k := by
      rw [hL]
      have h1 := List.length_filter_le (goes st) (m.take k)
      rw [List.length_take] at h1; omega
    have HL := hide hL
    have HOL := hide hown
    have HRW := hide hrow
    clear hL hown hrow c0 c1 f0 f1
    by_cases hlt : k < m.length
    · obtain ⟨gr, gc, hgv, _, _⟩ := HRW.out.form (by omega)
      injection hgv with hgA _ hgC
      subst hgA hgC
      have hgb := HGR.out gr rfl
      have hp : m[k]? = some m[k] := List.getElem?_eq_getElem hlt
      generalize m[k] = x at hp
      obtain ⟨xn, xi, xc, xr, xh, xg⟩ := x
      have hx := own_atC HRW.out (mixR_get (st := st) hp)
      obtain ⟨g0, g1, g2, g3, g4, g5⟩ := hx
      simp only at g0 g1 g2 g3 g4 g5
      have HP := hide hp
      have HST := hide (mixR_step (st := st) hp)
      have HF2 := hide (show (m.take (k + 1)).filter (goes st) = L ++ (if goes st ⟨xn, xi, xc, xr, xh, xg⟩ = true then [⟨xn, xi, xc, xr, xh, xg⟩] else []) by
        rw [take_succ_of hp, List.filter_append, HL.out]
        by_cases hq : goes st ⟨xn, xi, xc, xr, xh, xg⟩ = true <;> simp [hq])
      have i0 : (0 : Int) ≤ (k : Int) := by omega
      have i1 : (k : Int) < (m.length : Int) := by omega
      clear hp
      go_wp2_with fail
      with_reducible refine (there_b ⟨xn, xi, xc, xr, xh, xg⟩ _).mono ?_
      rintro e w2 ⟨rfl, hb2⟩
      have a2 : AtC w2 wr.heap.size 0 ⟨xn, xi, xc, xr, xh, xg⟩ := by
        have key : ∀ j v, (wr.alloc (bxC ⟨xn, xi, xc, xr, xh, xg⟩)).cell? ⟨wr.heap.size, j, none⟩ = some v → w2.cell? ⟨wr.heap.size, j, none⟩ = some v := fun j v hv => (hb2.cell (p := ⟨wr.heap.size, j, none⟩) (by simp)).trans hv
        exact ⟨key 0 _ (by simp), key 1 _ (by simp), key 2 _ (by simp), key 3 _ (by simp), key 4 _ (by simp), key 5 _ (by simp)⟩
      obtain ⟨e0, e1, e2, e3, e4, e5⟩ := a2
      simp only at e0 e1 e2 e3 e4 e5
      have hbz2 : Below wr.heap.size wr w2 := (below_alloc _ _).trans (hb2.mono (by simp))
      have hsz2 := hb2.size
      simp at hsz2
      clear hb2 g0 g1 g2 g3 g4 g5
      cases xg
      · go_wp2_with fail
        with_reducible refine (HF.out ⟨xn, xi, xc, xr, xh, false⟩ w2 (below_step hbw hbz2)).mono ?_
        rintro e w3 ⟨rfl, hb3⟩
        have k0 := (hb3.cell (p := ⟨wr.heap.size, 0, none⟩) (by simp; omega)).trans e0
        have k1 := (hb3.cell (p := ⟨wr.heap.size, 1, none⟩) (by simp; omega)).trans e1
        have k2 := (hb3.cell (p := ⟨wr.heap.size, 2, none⟩) (by simp; omega)).trans e2
        have k3 := (hb3.cell (p := ⟨wr.heap.size, 3, none⟩) (by simp; omega)).trans e3
        have k4 := (hb3.cell (p := ⟨wr.heap.size, 4, none⟩) (by simp; omega)).trans e4
        have k5 := (hb3.cell (p := ⟨wr.heap.size, 5, none⟩) (by simp; omega)).trans e5
        have hbz3 : Below wr.heap.size wr w3 := below_step hbz2 hb3
        have hs3 := hbz3.size
        have HOL3 := hide (own_below HOL.out hbz3 (Nat.le_refl _))
        have HRW3 := hide (own_below HRW.out hbz3 (Nat.le_refl _))
        have s0 := (hbz3.cell (p := ⟨w.heap.size, 0, none⟩) (by simp; omega)).trans r0
        have s1 := (hbz3.cell (p := ⟨w.heap.size + 1, 0, none⟩) (by simp; omega)).trans r1
        have sf := (hbz3.frozen (p := ⟨w.heap.size + 1, 0, none⟩) (by simp; omega)).trans fr1
        have hbw3 := below_step hbw hbz3
        clear hb3 e0 e1 e2 e3 e4 e5 r0 r1 fr1
        cases hst : st ⟨xn, xi, xc, xr, xh, false⟩
        · have HE := hide (show goes st ⟨xn, xi, xc, xr, xh, false⟩ = false by simp [goes, hst])
          go_wp2
          go_roundw
          case rel =>
            refine ⟨k + 1, L, by omega, by go_num, by rw [HF2.out, HE.out]; simp, HOL3.out, ?_, s0, s1, sf, hbw3, by omega⟩
            rw [HST.out, HE.out, if_neg (by simp), set_self (mixR_get HP.out)]
            exact HRW3.out
          case measure => simp [intOf]; omega
        · have HE := hide (show goes st ⟨xn, xi, xc, xr, xh, false⟩ = true by simp [goes, hst])
          go_wp2_with (at_builtin; go_must (refine wpList_append_any _ Tryz.okC (by rfl) (.tmp 26) (.tmp 28) (by rfl) w1.heap.size _ _ (ccs L) (by rfl) (HOL3.out.alloc _) (w3.heap.size + 1) (some ⟨w3.heap.size, 0, none⟩) 1 1 (ccs [⟨xn, xi, xc, xr, xh, false⟩]) (by rfl) (reads_oneC w3 ⟨xn, xi, xc, xr, xh, false⟩ _ rfl) (cc_one _) (by unfold maxLen; omega) (by omega) (by simp; omega) ?_); intro v1 w4 hown1 hg1 hnil1 hat1; have hkeep : ∀ p : Addr, p.block < w1.heap.size → w4.cell? p = w3.cell? p := (fun p hp => by
              rw [← World.cell?_alloc_lt w3 (bxC ⟨xn, xi, xc, xr, xh, false⟩) p (by omega)]
              exact World.cell?_of_block (hg1.block p.block (by simp; omega) (fun e => by have := (HOL3.out.lt _ e.symm).1; omega))); have t0 := (hkeep ⟨w.heap.size, 0, none⟩ (by simp; omega)).trans s0; have HK := hide hkeep; have HRW4 := hide (World.ownsRow.kept (HRW3.out.alloc (bxC ⟨xn, xi, xc, xr, xh, false⟩)) hg1 (.inr (fun e => by have := (HOL3.out.lt gr (by rw [← e]; rfl)).1; omega))); have u0 := (own_atC HRW4.out (mixR_get (st := st) HP.out)).h5; have uf := HRW4.out.frozenAt (k * 6 + 5); clear hkeep)
          go_roundw
          case rel =>
            obtain ⟨z1, z2⟩ := own_setC HRW4.out 5 (y := ⟨xn, xi, xc, xr, xh, true⟩) (v := .bool true) (mixR_get (st := st) HP.out) (by omega) rfl
            have hbelow : Below w.heap.size w w4 := (hbw3.alloc (by omega) _).grown hg1 (by simp; omega) (fun q hq => by have := (HOL3.out.lt q hq).1; omega)
            have hgs := hg1.size
            simp at hgs
            refine ⟨k + 1, L ++ [⟨xn, xi, xc, xr, xh, false⟩], by omega, by go_num, by rw [HF2.out, HE.out]; simp, ?_, ?_, ?_, ?_, ?_, hbelow.setCell (by simp; omega) _, by simp; omega⟩
            · refine World.ownsRow.kept (row := some gr) ?_ z2 (.inr (fun e => ?_))
              · rw [List.length_append, ccs_app]; exact hown1
              · have := (hown1.lt gr e).1; omega
            · rw [HST.out, HE.out, if_pos rfl]; exact z1
            · rw [World.cell?_setCell_other _ _ _ _ (by simp <;> omega)]; exact t0
            · rw [World.cell?_setCell_other _ _ _ _ (by simp <;> omega), HK.out _ (by simp; omega)]; exact s1
            · rw [World.frozen?_setCell]
              have e1 : w4.frozen? ⟨w.heap.size + 1, 0, none⟩ = (w3.alloc (bxC ⟨xn, xi, xc, xr, xh, false⟩)).frozen? ⟨w.heap.size + 1, 0, none⟩ := World.frozen?_of_block (hg1.block (w.heap.size + 1) (by simp; omega) (fun e => by have := (HOL3.out.lt _ e.symm).1; omega))
              rw [e1, (below_alloc w3 _).frozen (p := ⟨w.heap.size + 1, 0, none⟩) (by simp; omega)]; exact sf
          case measure => simp [intOf]; omega
      · have HE := hide (show goes st ⟨xn, xi, xc, xr, xh, true⟩ = false by simp [goes])
        go_wp2
        go_roundw
        case rel =>
          refine ⟨k + 1, L, by omega, by go_num, by rw [HF2.out, HE.out]; simp, own_below HOL.out hbz2 (Nat.le_refl _), ?_, (hbz2.cell (p := ⟨w.heap.size, 0, none⟩) (by simp; omega)).trans r0, (hbz2.cell (p := ⟨w.heap.size + 1, 0, none⟩) (by simp; omega)).trans r1, (hbz2.frozen (p := ⟨w.heap.size + 1, 0, none⟩) (by simp; omega)).trans fr1, below_step hbw hbz2, Nat.le_trans hs1 hbz2.size⟩
          rw [HST.out, HE.out, if_neg (by simp), set_self (mixR_get HP.out)]
          exact own_below HRW.out hbz2 (Nat.le_refl _)
        case measure => simp [intOf]; omega
    · have hk' : k = m.length := by omega
      subst hk'
      have H1 := hide (show mixR st m m.length = goneR st m by simp [mixR])
      have H2 := hide (show L = m.filter (goes st) by rw [HL.out, List.take_length])
      have hown := HOL.out
      obtain ⟨LA, LC, rfl, _, _⟩ := own_slice hown
      have hcl : Cll wr.drew LA L := Reads.of_own hown
      have hbw' := hbw.drew
      have HROW := hide (show OwnC wr.drew (w.heap.size + 2) (.slice RA m.length RC) (goneR st m) by
        have := HRW.out
        rw [H1.out] at this
        rw [OwnC, show (goneR st m).length = m.length by simp [goneR]]; exact this)
      clear hown
      go_wp2_with fail
      go_region_held3 (fun w' => w'.cell? ⟨w.heap.size, 0, none⟩ = some (.slice RA m.length RC)) (first | exact t0 | go_keep)
        (first
          | (go_at_call 162; (with_reducible refine (lives7_s LA LC L _ hcl (by omega)).mono ?_); rintro e w5 ⟨PA, PC, rfl, hpr, hb5⟩; have t0 := (hb5.cell (p := ⟨w.heap.size, 0, none⟩) (by simp; omega)).trans r0; have t1 := (hb5.cell (p := ⟨w.heap.size + 1, 0, none⟩) (by simp; omega)).trans r1; have tf := (hb5.frozen (p := ⟨w.heap.size + 1, 0, none⟩) (by simp; omega)).trans fr1))
      have z1 : (w5.setCell ⟨w.heap.size + 1, 0, none⟩ (.slice RA m.length RC)).cell? ⟨w.heap.size + 1, 0, none⟩ = some (.slice RA m.length RC) := World.cell?_setCell_same _ _ _ t1
      go_wp2
      refine bodyPost_ret (v := .tuple #[.agg #[.slice RA m.length RC], .slice PA (livesL L).length PC]) (by simp [results, Tryz.results165, go_sem, z1]) rfl ?_
      rw [← H2.out]
      have hgl : (goneR st m).length = m.length := by simp [goneR]
      refine ⟨.slice RA m.length RC, PA, PC, rfl, ?_, ?_, ?_⟩
      · exact own_base (ownsRow_setCell_below (own_below HROW.out hb5 (Nat.le_refl _)) (a := ⟨w.heap.size + 1, 0, none⟩) (by simp) _) (by omega)
      · exact own_base (ownsRow_setCell_below hpr (a := ⟨w.heap.size + 1, 0, none⟩) (by simp; omega) _) (by simp; omega)
      · exact (below_step hbw' hb5).setCell (by simp) _

set_option maxRecDepth 100000 in
set_option maxHeartbeats 4000000 in
theorem gone_drop (A : Option Addr) (c : Nat) (l : List Cl) (g : Nat) (st : Cl → Bool) (w : World) (h : Cll w A l) (hn : l.length ≤ 1000000)
    (hF : ∀ (x : Cl) (W : World), Below w.heap.size w W → Calls Tryz.prog 209 #[.agg #[.int .i64 x.n, .int .u64 x.i, .int .u64 x.cid, .int .u64 x.rnd, .int .u64 x.heard, .bool x.gone], .pointer (some ⟨g, 0, none⟩)] W (RetB7 W (st x))) :
    Calls Tryz.prog 165 #[.agg #[.slice A l.length c], .func (.func 209) #[] #[.pointer (some ⟨g, 0, none⟩)]] w (RetG w (goneR st (takenR l)) (livesL ((takenR l).filter (goes st)))) := by
  have h1 : Cll ((w.alloc (bxR A l.length c)).alloc (bxR none 0 0)) A l := (h.step (below_alloc _ _)).step (below_alloc _ _)
  have hB : Below w.heap.size w ((w.alloc (bxR A l.length c)).alloc (bxR none 0 0)) := below_step (below_alloc _ _) (below_alloc _ _)
  have HF := hide hF
  clear h hF
  go_enter Tryz.func165, Tryz.ntmps165
  go_wp2_with fail
  with_reducible refine (taken_s A c l _ h1 hn).mono ?_
  rintro e w1 ⟨v, rfl, hown, hb⟩
  have hml := takenR_len l
  generalize takenR l = m at *
  obtain ⟨RA, RC, rfl, hrc, _⟩ := own_slice hown
  have c0 : w1.cell? ⟨w.heap.size, 0, none⟩ = some (.slice A l.length c) := (hb.cell (p := ⟨w.heap.size, 0, none⟩) (by simp; omega)).trans (by simp)
  have f0 : w1.frozen? ⟨w.heap.size, 0, none⟩ = false := (hb.frozen (p := ⟨w.heap.size, 0, none⟩) (by simp; omega)).trans (by simp)
  have c1 : w1.cell? ⟨w.heap.size + 1, 0, none⟩ = some (.slice none 0 0) := (hb.cell (p := ⟨w.heap.size + 1, 0, none⟩) (by simp)).trans (by simp)
  have f1 : w1.frozen? ⟨w.heap.size + 1, 0, none⟩ = false := (hb.frozen (p := ⟨w.heap.size + 1, 0, none⟩) (by simp)).trans (by simp)
  have hsz := hb.size
  simp at hsz
  replace hB := below_step hB hb
  have HO := hide hown
  clear hb hown h1
  have hgr : ∀ gr, (Value.slice RA m.length RC).ownBlock = some gr → w.heap.size + 2 ≤ gr ∧ gr < w1.heap.size := fun gr hg => by
    have := HO.out.lt gr hg; simp at this; exact this
  have HGR := hide hgr
  clear hgr
  go_wp2
  go_loopw [6, 14] (fun v i wr => ∃ (k : Nat) (L : List Cl), k ≤ m.length ∧ i = .int .i64 k ∧ L = (m.take k).filter (goes st) ∧ OwnC wr w1.heap.size v L ∧ wr.ownsRow (w.heap.size + 2) 48 6 (.slice RA m.length RC) m.length (ccs (mixR st m k)) ∧
    wr.cell? ⟨w.heap.size, 0, none⟩ = some (.slice RA m.length RC) ∧ wr.cell? ⟨w.heap.size + 1, 0, none⟩ = some (.slice none 0 0) ∧ wr.frozen? ⟨w.heap.size + 1, 0, none⟩ = false ∧ Below w.heap.size w wr ∧ w1.heap.size ≤ wr.heap.size) (fun _ i _ => m.length - (intOf i).toNat)
  case atStart =>
    refine ⟨0, [], Nat.zero_le _, rfl, by simp, World.ownsRow_nil _ _ _ _, ?_, World.cell?_setCell_same _ _ _ c0, ?_, ?_, hB.setCell (by simp) _, by simp⟩
    · have := ownsRow_setCell_below HO.out (a := ⟨w.heap.size, 0, none⟩) (by simp; omega) (.slice RA m.length RC)
      simpa [mixR, goneR] using this
    · rw [World.cell?_setCell_other _ _ _ _ (by simp)]; exact c1
    · rw [World.frozen?_setCell]; exact f1
  case round =>
    obtain ⟨k, L, hk, rfl, hL, hown, hrow, r0, r1, fr1, hbw, hs1⟩ := hrel
    have hLl : L.length ≤ k := by
      rw [hL]
      have h1 := List.length_filter_le (goes st) (m.take k)
      rw [List.length_take] at h1; omega
    have HL := hide hL
    have HOL := hide hown
    have HRW := hide hrow
    clear hL hown hrow c0 c1 f0 f1
    by_cases hlt : k < m.length
    · obtain ⟨gr, gc, hgv, _, _⟩ := HRW.out.form (by omega)
      injection hgv with hgA _ hgC
      subst hgA hgC
      have hgb := HGR.out gr rfl
      have hp : m[k]? = some m[k] := List.getElem?_eq_getElem hlt
      generalize m[k] = x at hp
      obtain ⟨xn, xi, xc, xr, xh, xg⟩ := x
      have hx := own_atC HRW.out (mixR_get (st := st) hp)
      obtain ⟨g0, g1, g2, g3, g4, g5⟩ := hx
      simp only at g0 g1 g2 g3 g4 g5
      have HP := hide hp
      have HST := hide (mixR_step (st := st) hp)
      have HF2 := hide (show (m.take (k + 1)).filter (goes st) = L ++ (if goes st ⟨xn, xi, xc, xr, xh, xg⟩ = true then [⟨xn, xi, xc, xr, xh, xg⟩] else []) by
        rw [take_succ_of hp, List.filter_append, HL.out]
        by_cases hq : goes st ⟨xn, xi, xc, xr, xh, xg⟩ = true <;> simp [hq])
      have i0 : (0 : Int) ≤ (k : Int) := by omega
      have i1 : (k : Int) < (m.length : Int) := by omega
      clear hp
      go_wp2_with fail
      with_reducible refine (there_b ⟨xn, xi, xc, xr, xh, xg⟩ _).mono ?_
      rintro e w2 ⟨rfl, hb2⟩
      have a2 : AtC w2 wr.heap.size 0 ⟨xn, xi, xc, xr, xh, xg⟩ := by
        have key : ∀ j v, (wr.alloc (bxC ⟨xn, xi, xc, xr, xh, xg⟩)).cell? ⟨wr.heap.size, j, none⟩ = some v → w2.cell? ⟨wr.heap.size, j, none⟩ = some v := fun j v hv => (hb2.cell (p := ⟨wr.heap.size, j, none⟩) (by simp)).trans hv
        exact ⟨key 0 _ (by simp), key 1 _ (by simp), key 2 _ (by simp), key 3 _ (by simp), key 4 _ (by simp), key 5 _ (by simp)⟩
      obtain ⟨e0, e1, e2, e3, e4, e5⟩ := a2
      simp only at e0 e1 e2 e3 e4 e5
      have hbz2 : Below wr.heap.size wr w2 := (below_alloc _ _).trans (hb2.mono (by simp))
      have hsz2 := hb2.size
      simp at hsz2
      clear hb2 g0 g1 g2 g3 g4 g5
      cases xg
      · go_wp2_with fail
        with_reducible refine (HF.out ⟨xn, xi, xc, xr, xh, false⟩ w2 (below_step hbw hbz2)).mono ?_
        rintro e w3 ⟨rfl, hb3⟩
        have k0 := (hb3.cell (p := ⟨wr.heap.size, 0, none⟩) (by simp; omega)).trans e0
        have k1 := (hb3.cell (p := ⟨wr.heap.size, 1, none⟩) (by simp; omega)).trans e1
        have k2 := (hb3.cell (p := ⟨wr.heap.size, 2, none⟩) (by simp; omega)).trans e2
        have k3 := (hb3.cell (p := ⟨wr.heap.size, 3, none⟩) (by simp; omega)).trans e3
        have k4 := (hb3.cell (p := ⟨wr.heap.size, 4, none⟩) (by simp; omega)).trans e4
        have k5 := (hb3.cell (p := ⟨wr.heap.size, 5, none⟩) (by simp; omega)).trans e5
        have hbz3 : Below wr.heap.size wr w3 := below_step hbz2 hb3
        have hs3 := hbz3.size
        have HOL3 := hide (own_below HOL.out hbz3 (Nat.le_refl _))
        have HRW3 := hide (own_below HRW.out hbz3 (Nat.le_refl _))
        have s0 := (hbz3.cell (p := ⟨w.heap.size, 0, none⟩) (by simp; omega)).trans r0
        have s1 := (hbz3.cell (p := ⟨w.heap.size + 1, 0, none⟩) (by simp; omega)).trans r1
        have sf := (hbz3.frozen (p := ⟨w.heap.size + 1, 0, none⟩) (by simp; omega)).trans fr1
        have hbw3 := below_step hbw hbz3
        clear hb3 e0 e1 e2 e3 e4 e5 r0 r1 fr1
        cases hst : st ⟨xn, xi, xc, xr, xh, false⟩
        · have HE := hide (show goes st ⟨xn, xi, xc, xr, xh, false⟩ = false by simp [goes, hst])
          go_wp2
          go_roundw
          case rel =>
            refine ⟨k + 1, L, by omega, by go_num, by rw [HF2.out, HE.out]; simp, HOL3.out, ?_, s0, s1, sf, hbw3, by omega⟩
            rw [HST.out, HE.out, if_neg (by simp), set_self (mixR_get HP.out)]
            exact HRW3.out
          case measure => simp [intOf]; omega
        · have HE := hide (show goes st ⟨xn, xi, xc, xr, xh, false⟩ = true by simp [goes, hst])
          go_wp2_with (at_builtin; go_must (refine wpList_append_any _ Tryz.okC (by rfl) (.tmp 26) (.tmp 28) (by rfl) w1.heap.size _ _ (ccs L) (by rfl) (HOL3.out.alloc _) (w3.heap.size + 1) (some ⟨w3.heap.size, 0, none⟩) 1 1 (ccs [⟨xn, xi, xc, xr, xh, false⟩]) (by rfl) (reads_oneC w3 ⟨xn, xi, xc, xr, xh, false⟩ _ rfl) (cc_one _) (by unfold maxLen; omega) (by omega) (by simp; omega) ?_); intro v1 w4 hown1 hg1 hnil1 hat1; have hkeep : ∀ p : Addr, p.block < w1.heap.size → w4.cell? p = w3.cell? p := (fun p hp => by
              rw [← World.cell?_alloc_lt w3 (bxC ⟨xn, xi, xc, xr, xh, false⟩) p (by omega)]
              exact World.cell?_of_block (hg1.block p.block (by simp; omega) (fun e => by have := (HOL3.out.lt _ e.symm).1; omega))); have t0 := (hkeep ⟨w.heap.size, 0, none⟩ (by simp; omega)).trans s0; have HK := hide hkeep; have HRW4 := hide (World.ownsRow.kept (HRW3.out.alloc (bxC ⟨xn, xi, xc, xr, xh, false⟩)) hg1 (.inr (fun e => by have := (HOL3.out.lt gr (by rw [← e]; rfl)).1; omega))); have u0 := (own_atC HRW4.out (mixR_get (st := st) HP.out)).h5; have uf := HRW4.out.frozenAt (k * 6 + 5); clear hkeep)
          go_roundw
          case rel =>
            obtain ⟨z1, z2⟩ := own_setC HRW4.out 5 (y := ⟨xn, xi, xc, xr, xh, true⟩) (v := .bool true) (mixR_get (st := st) HP.out) (by omega) rfl
            have hbelow : Below w.heap.size w w4 := (hbw3.alloc (by omega) _).grown hg1 (by simp; omega) (fun q hq => by have := (HOL3.out.lt q hq).1; omega)
            have hgs := hg1.size
            simp at hgs
            refine ⟨k + 1, L ++ [⟨xn, xi, xc, xr, xh, false⟩], by omega, by go_num, by rw [HF2.out, HE.out]; simp, ?_, ?_, ?_, ?_, ?_, hbelow.setCell (by simp; omega) _, by simp; omega⟩
            · refine World.ownsRow.kept (row := some gr) ?_ z2 (.inr (fun e => ?_))
              · rw [List.length_append, ccs_app]; exact hown1
              · have := (hown1.lt gr e).1; omega
            · rw [HST.out, HE.out, if_pos rfl]; exact z1
            · rw [World.cell?_setCell_other _ _ _ _ (by simp <;> omega)]; exact t0
            · rw [World.cell?_setCell_other _ _ _ _ (by simp <;> omega), HK.out _ (by simp; omega)]; exact s1
            · rw [World.frozen?_setCell]
              have e1 : w4.frozen? ⟨w.heap.size + 1, 0, none⟩ = (w3.alloc (bxC ⟨xn, xi, xc, xr, xh, false⟩)).frozen? ⟨w.heap.size + 1, 0, none⟩ := World.frozen?_of_block (hg1.block (w.heap.size + 1) (by simp; omega) (fun e => by have := (HOL3.out.lt _ e.symm).1; omega))
              rw [e1, (below_alloc w3 _).frozen (p := ⟨w.heap.size + 1, 0, none⟩) (by simp; omega)]; exact sf
          case measure => simp [intOf]; omega
      · have HE := hide (show goes st ⟨xn, xi, xc, xr, xh, true⟩ = false by simp [goes])
        go_wp2
        go_roundw
        case rel =>
          refine ⟨k + 1, L, by omega, by go_num, by rw [HF2.out, HE.out]; simp, own_below HOL.out hbz2 (Nat.le_refl _), ?_, (hbz2.cell (p := ⟨w.heap.size, 0, none⟩) (by simp; omega)).trans r0, (hbz2.cell (p := ⟨w.heap.size + 1, 0, none⟩) (by simp; omega)).trans r1, (hbz2.frozen (p := ⟨w.heap.size + 1, 0, none⟩) (by simp; omega)).trans fr1, below_step hbw hbz2, Nat.le_trans hs1 hbz2.size⟩
          rw [HST.out, HE.out, if_neg (by simp), set_self (mixR_get HP.out)]
          exact own_below HRW.out hbz2 (Nat.le_refl _)
        case measure => simp [intOf]; omega
    · have hk' : k = m.length := by omega
      subst hk'
      have H1 := hide (show mixR st m m.length = goneR st m by simp [mixR])
      have H2 := hide (show L = m.filter (goes st) by rw [HL.out, List.take_length])
      have hown := HOL.out
      obtain ⟨LA, LC, rfl, _, _⟩ := own_slice hown
      have hcl : Cll wr.drew LA L := Reads.of_own hown
      have hbw' := hbw.drew
      have HROW := hide (show OwnC wr.drew (w.heap.size + 2) (.slice RA m.length RC) (goneR st m) by
        have := HRW.out
        rw [H1.out] at this
        rw [OwnC, show (goneR st m).length = m.length by simp [goneR]]; exact this)
      clear hown
      go_wp2_with fail
      go_region_held3 (fun w' => w'.cell? ⟨w.heap.size, 0, none⟩ = some (.slice RA m.length RC)) (first | exact t0 | go_keep)
        (first
          | (go_at_call 162; (with_reducible refine (lives7_s LA LC L _ hcl (by omega)).mono ?_); rintro e w5 ⟨PA, PC, rfl, hpr, hb5⟩; have t0 := (hb5.cell (p := ⟨w.heap.size, 0, none⟩) (by simp; omega)).trans r0; have t1 := (hb5.cell (p := ⟨w.heap.size + 1, 0, none⟩) (by simp; omega)).trans r1; have tf := (hb5.frozen (p := ⟨w.heap.size + 1, 0, none⟩) (by simp; omega)).trans fr1))
      have z1 : (w5.setCell ⟨w.heap.size + 1, 0, none⟩ (.slice RA m.length RC)).cell? ⟨w.heap.size + 1, 0, none⟩ = some (.slice RA m.length RC) := World.cell?_setCell_same _ _ _ t1
      go_wp2
      refine bodyPost_ret (v := .tuple #[.agg #[.slice RA m.length RC], .slice PA (livesL L).length PC]) (by simp [results, Tryz.results165, go_sem, z1]) rfl ?_
      rw [← H2.out]
      have hgl : (goneR st m).length = m.length := by simp [goneR]
      refine ⟨.slice RA m.length RC, PA, PC, rfl, ?_, ?_, ?_⟩
      · exact own_base (ownsRow_setCell_below (own_below HROW.out hb5 (Nat.le_refl _)) (a := ⟨w.heap.size + 1, 0, none⟩) (by simp) _) (by omega)
      · exact own_base (ownsRow_setCell_below hpr (a := ⟨w.heap.size + 1, 0, none⟩) (by simp; omega) _) (by simp; omega)
      · exact (below_step hbw' hb5).setCell (by simp) _

set_option maxRecDepth 100000 in
set_option maxHeartbeats 4000000 in
theorem gone_silent (A : Option Addr) (c : Nat) (l : List Cl) (g : Nat) (st : Cl → Bool) (w : World) (h : Cll w A l) (hn : l.length ≤ 1000000)
    (hF : ∀ (x : Cl) (W : World), Below w.heap.size w W → Calls Tryz.prog 166 #[.agg #[.int .i64 x.n, .int .u64 x.i, .int .u64 x.cid, .int .u64 x.rnd, .int .u64 x.heard, .bool x.gone], .pointer (some ⟨g, 0, none⟩)] W (RetB7 W (st x))) :
    Calls Tryz.prog 165 #[.agg #[.slice A l.length c], .func (.func 166) #[] #[.pointer (some ⟨g, 0, none⟩)]] w (RetG w (goneR st (takenR l)) (livesL ((takenR l).filter (goes st)))) := by
  have h1 : Cll ((w.alloc (bxR A l.length c)).alloc (bxR none 0 0)) A l := (h.step (below_alloc _ _)).step (below_alloc _ _)
  have hB : Below w.heap.size w ((w.alloc (bxR A l.length c)).alloc (bxR none 0 0)) := below_step (below_alloc _ _) (below_alloc _ _)
  have HF := hide hF
  clear h hF
  go_enter Tryz.func165, Tryz.ntmps165
  go_wp2_with fail
  with_reducible refine (taken_s A c l _ h1 hn).mono ?_
  rintro e w1 ⟨v, rfl, hown, hb⟩
  have hml := takenR_len l
  generalize takenR l = m at *
  obtain ⟨RA, RC, rfl, hrc, _⟩ := own_slice hown
  have c0 : w1.cell? ⟨w.heap.size, 0, none⟩ = some (.slice A l.length c) := (hb.cell (p := ⟨w.heap.size, 0, none⟩) (by simp; omega)).trans (by simp)
  have f0 : w1.frozen? ⟨w.heap.size, 0, none⟩ = false := (hb.frozen (p := ⟨w.heap.size, 0, none⟩) (by simp; omega)).trans (by simp)
  have c1 : w1.cell? ⟨w.heap.size + 1, 0, none⟩ = some (.slice none 0 0) := (hb.cell (p := ⟨w.heap.size + 1, 0, none⟩) (by simp)).trans (by simp)
  have f1 : w1.frozen? ⟨w.heap.size + 1, 0, none⟩ = false := (hb.frozen (p := ⟨w.heap.size + 1, 0, none⟩) (by simp)).trans (by simp)
  have hsz := hb.size
  simp at hsz
  replace hB := below_step hB hb
  have HO := hide hown
  clear hb hown h1
  have hgr : ∀ gr, (Value.slice RA m.length RC).ownBlock = some gr → w.heap.size + 2 ≤ gr ∧ gr < w1.heap.size := fun gr hg => by
    have := HO.out.lt gr hg; simp at this; exact this
  have HGR := hide hgr
  clear hgr
  go_wp2
  go_loopw [6, 14] (fun v i wr => ∃ (k : Nat) (L : List Cl), k ≤ m.length ∧ i = .int .i64 k ∧ L = (m.take k).filter (goes st) ∧ OwnC wr w1.heap.size v L ∧ wr.ownsRow (w.heap.size + 2) 48 6 (.slice RA m.length RC) m.length (ccs (mixR st m k)) ∧
    wr.cell? ⟨w.heap.size, 0, none⟩ = some (.slice RA m.length RC) ∧ wr.cell? ⟨w.heap.size + 1, 0, none⟩ = some (.slice none 0 0) ∧ wr.frozen? ⟨w.heap.size + 1, 0, none⟩ = false ∧ Below w.heap.size w wr ∧ w1.heap.size ≤ wr.heap.size) (fun _ i _ => m.length - (intOf i).toNat)
  case atStart =>
    refine ⟨0, [], Nat.zero_le _, rfl, by simp, World.ownsRow_nil _ _ _ _, ?_, World.cell?_setCell_same _ _ _ c0, ?_, ?_, hB.setCell (by simp) _, by simp⟩
    · have := ownsRow_setCell_below HO.out (a := ⟨w.heap.size, 0, none⟩) (by simp; omega) (.slice RA m.length RC)
      simpa [mixR, goneR] using this
    · rw [World.cell?_setCell_other _ _ _ _ (by simp)]; exact c1
    · rw [World.frozen?_setCell]; exact f1
  case round =>
    obtain ⟨k, L, hk, rfl, hL, hown, hrow, r0, r1, fr1, hbw, hs1⟩ := hrel
    have hLl : L.length ≤ k := by
      rw [hL]
      have h1 := List.length_filter_le (goes st) (m.take k)
      rw [List.length_take] at h1; omega
    have HL := hide hL
    have HOL := hide hown
    have HRW := hide hrow
    clear hL hown hrow c0 c1 f0 f1
    by_cases hlt : k < m.length
    · obtain ⟨gr, gc, hgv, _, _⟩ := HRW.out.form (by omega)
      injection hgv with hgA _ hgC
      subst hgA hgC
      have hgb := HGR.out gr rfl
      have hp : m[k]? = some m[k] := List.getElem?_eq_getElem hlt
      generalize m[k] = x at hp
      obtain ⟨xn, xi, xc, xr, xh, xg⟩ := x
      have hx := own_atC HRW.out (mixR_get (st := st) hp)
      obtain ⟨g0, g1, g2, g3, g4, g5⟩ := hx
      simp only at g0 g1 g2 g3 g4 g5
      have HP := hide hp
      have HST := hide (mixR_step (st := st) hp)
      have HF2 := hide (show (m.take (k + 1)).filter (goes st) = L ++ (if goes st ⟨xn, xi, xc, xr, xh, xg⟩ = true then [⟨xn, xi, xc, xr, xh, xg⟩] else []) by
        rw [take_succ_of hp, List.filter_append, HL.out]
        by_cases hq : goes st ⟨xn, xi, xc, xr, xh, xg⟩ = true <;> simp [hq])
      have i0 : (0 : Int) ≤ (k : Int) := by omega
      have i1 : (k : Int) < (m.length : Int) := by omega
      clear hp
      go_wp2_with fail
      with_reducible refine (there_b ⟨xn, xi, xc, xr, xh, xg⟩ _).mono ?_
      rintro e w2 ⟨rfl, hb2⟩
      have a2 : AtC w2 wr.heap.size 0 ⟨xn, xi, xc, xr, xh, xg⟩ := by
        have key : ∀ j v, (wr.alloc (bxC ⟨xn, xi, xc, xr, xh, xg⟩)).cell? ⟨wr.heap.size, j, none⟩ = some v → w2.cell? ⟨wr.heap.size, j, none⟩ = some v := fun j v hv => (hb2.cell (p := ⟨wr.heap.size, j, none⟩) (by simp)).trans hv
        exact ⟨key 0 _ (by simp), key 1 _ (by simp), key 2 _ (by simp), key 3 _ (by simp), key 4 _ (by simp), key 5 _ (by simp)⟩
      obtain ⟨e0, e1, e2, e3, e4, e5⟩ := a2
      simp only at e0 e1 e2 e3 e4 e5
      have hbz2 : Below wr.heap.size wr w2 := (below_alloc _ _).trans (hb2.mono (by simp))
      have hsz2 := hb2.size
      simp at hsz2
      clear hb2 g0 g1 g2 g3 g4 g5
      cases xg
      · go_wp2_with fail
        with_reducible refine (HF.out ⟨xn, xi, xc, xr, xh, false⟩ w2 (below_step hbw hbz2)).mono ?_
        rintro e w3 ⟨rfl, hb3⟩
        have k0 := (hb3.cell (p := ⟨wr.heap.size, 0, none⟩) (by simp; omega)).trans e0
        have k1 := (hb3.cell (p := ⟨wr.heap.size, 1, none⟩) (by simp; omega)).trans e1
        have k2 := (hb3.cell (p := ⟨wr.heap.size, 2, none⟩) (by simp; omega)).trans e2
        have k3 := (hb3.cell (p := ⟨wr.heap.size, 3, none⟩) (by simp; omega)).trans e3
        have k4 := (hb3.cell (p := ⟨wr.heap.size, 4, none⟩) (by simp; omega)).trans e4
        have k5 := (hb3.cell (p := ⟨wr.heap.size, 5, none⟩) (by simp; omega)).trans e5
        have hbz3 : Below wr.heap.size wr w3 := below_step hbz2 hb3
        have hs3 := hbz3.size
        have HOL3 := hide (own_below HOL.out hbz3 (Nat.le_refl _))
        have HRW3 := hide (own_below HRW.out hbz3 (Nat.le_refl _))
        have s0 := (hbz3.cell (p := ⟨w.heap.size, 0, none⟩) (by simp; omega)).trans r0
        have s1 := (hbz3.cell (p := ⟨w.heap.size + 1, 0, none⟩) (by simp; omega)).trans r1
        have sf := (hbz3.frozen (p := ⟨w.heap.size + 1, 0, none⟩) (by simp; omega)).trans fr1
        have hbw3 := below_step hbw hbz3
        clear hb3 e0 e1 e2 e3 e4 e5 r0 r1 fr1
        cases hst : st ⟨xn, xi, xc, xr, xh, false⟩
        · have HE := hide (show goes st ⟨xn, xi, xc, xr, xh, false⟩ = false by simp [goes, hst])
          go_wp2
          go_roundw
          case rel =>
            refine ⟨k + 1, L, by omega, by go_num, by rw [HF2.out, HE.out]; simp, HOL3.out, ?_, s0, s1, sf, hbw3, by omega⟩
            rw [HST.out, HE.out, if_neg (by simp), set_self (mixR_get HP.out)]
            exact HRW3.out
          case measure => simp [intOf]; omega
        · have HE := hide (show goes st ⟨xn, xi, xc, xr, xh, false⟩ = true by simp [goes, hst])
          go_wp2_with (at_builtin; go_must (refine wpList_append_any _ Tryz.okC (by rfl) (.tmp 26) (.tmp 28) (by rfl) w1.heap.size _ _ (ccs L) (by rfl) (HOL3.out.alloc _) (w3.heap.size + 1) (some ⟨w3.heap.size, 0, none⟩) 1 1 (ccs [⟨xn, xi, xc, xr, xh, false⟩]) (by rfl) (reads_oneC w3 ⟨xn, xi, xc, xr, xh, false⟩ _ rfl) (cc_one _) (by unfold maxLen; omega) (by omega) (by simp; omega) ?_); intro v1 w4 hown1 hg1 hnil1 hat1; have hkeep : ∀ p : Addr, p.block < w1.heap.size → w4.cell? p = w3.cell? p := (fun p hp => by
              rw [← World.cell?_alloc_lt w3 (bxC ⟨xn, xi, xc, xr, xh, false⟩) p (by omega)]
              exact World.cell?_of_block (hg1.block p.block (by simp; omega) (fun e => by have := (HOL3.out.lt _ e.symm).1; omega))); have t0 := (hkeep ⟨w.heap.size, 0, none⟩ (by simp; omega)).trans s0; have HK := hide hkeep; have HRW4 := hide (World.ownsRow.kept (HRW3.out.alloc (bxC ⟨xn, xi, xc, xr, xh, false⟩)) hg1 (.inr (fun e => by have := (HOL3.out.lt gr (by rw [← e]; rfl)).1; omega))); have u0 := (own_atC HRW4.out (mixR_get (st := st) HP.out)).h5; have uf := HRW4.out.frozenAt (k * 6 + 5); clear hkeep)
          go_roundw
          case rel =>
            obtain ⟨z1, z2⟩ := own_setC HRW4.out 5 (y := ⟨xn, xi, xc, xr, xh, true⟩) (v := .bool true) (mixR_get (st := st) HP.out) (by omega) rfl
            have hbelow : Below w.heap.size w w4 := (hbw3.alloc (by omega) _).grown hg1 (by simp; omega) (fun q hq => by have := (HOL3.out.lt q hq).1; omega)
            have hgs := hg1.size
            simp at hgs
            refine ⟨k + 1, L ++ [⟨xn, xi, xc, xr, xh, false⟩], by omega, by go_num, by rw [HF2.out, HE.out]; simp, ?_, ?_, ?_, ?_, ?_, hbelow.setCell (by simp; omega) _, by simp; omega⟩
            · refine World.ownsRow.kept (row := some gr) ?_ z2 (.inr (fun e => ?_))
              · rw [List.length_append, ccs_app]; exact hown1
              · have := (hown1.lt gr e).1; omega
            · rw [HST.out, HE.out, if_pos rfl]; exact z1
            · rw [World.cell?_setCell_other _ _ _ _ (by simp <;> omega)]; exact t0
            · rw [World.cell?_setCell_other _ _ _ _ (by simp <;> omega), HK.out _ (by simp; omega)]; exact s1
            · rw [World.frozen?_setCell]
              have e1 : w4.frozen? ⟨w.heap.size + 1, 0, none⟩ = (w3.alloc (bxC ⟨xn, xi, xc, xr, xh, false⟩)).frozen? ⟨w.heap.size + 1, 0, none⟩ := World.frozen?_of_block (hg1.block (w.heap.size + 1) (by simp; omega) (fun e => by have := (HOL3.out.lt _ e.symm).1; omega))
              rw [e1, (below_alloc w3 _).frozen (p := ⟨w.heap.size + 1, 0, none⟩) (by simp; omega)]; exact sf
          case measure => simp [intOf]; omega
      · have HE := hide (show goes st ⟨xn, xi, xc, xr, xh, true⟩ = false by simp [goes])
        go_wp2
        go_roundw
        case rel =>
          refine ⟨k + 1, L, by omega, by go_num, by rw [HF2.out, HE.out]; simp, own_below HOL.out hbz2 (Nat.le_refl _), ?_, (hbz2.cell (p := ⟨w.heap.size, 0, none⟩) (by simp; omega)).trans r0, (hbz2.cell (p := ⟨w.heap.size + 1, 0, none⟩) (by simp; omega)).trans r1, (hbz2.frozen (p := ⟨w.heap.size + 1, 0, none⟩) (by simp; omega)).trans fr1, below_step hbw hbz2, Nat.le_trans hs1 hbz2.size⟩
          rw [HST.out, HE.out, if_neg (by simp), set_self (mixR_get HP.out)]
          exact own_below HRW.out hbz2 (Nat.le_refl _)
        case measure => simp [intOf]; omega
    · have hk' : k = m.length := by omega
      subst hk'
      have H1 := hide (show mixR st m m.length = goneR st m by simp [mixR])
      have H2 := hide (show L = m.filter (goes st) by rw [HL.out, List.take_length])
      have hown := HOL.out
      obtain ⟨LA, LC, rfl, _, _⟩ := own_slice hown
      have hcl : Cll wr.drew LA L := Reads.of_own hown
      have hbw' := hbw.drew
      have HROW := hide (show OwnC wr.drew (w.heap.size + 2) (.slice RA m.length RC) (goneR st m) by
        have := HRW.out
        rw [H1.out] at this
        rw [OwnC, show (goneR st m).length = m.length by simp [goneR]]; exact this)
      clear hown
      go_wp2_with fail
      go_region_held3 (fun w' => w'.cell? ⟨w.heap.size, 0, none⟩ = some (.slice RA m.length RC)) (first | exact t0 | go_keep)
        (first
          | (go_at_call 162; (with_reducible refine (lives7_s LA LC L _ hcl (by omega)).mono ?_); rintro e w5 ⟨PA, PC, rfl, hpr, hb5⟩; have t0 := (hb5.cell (p := ⟨w.heap.size, 0, none⟩) (by simp; omega)).trans r0; have t1 := (hb5.cell (p := ⟨w.heap.size + 1, 0, none⟩) (by simp; omega)).trans r1; have tf := (hb5.frozen (p := ⟨w.heap.size + 1, 0, none⟩) (by simp; omega)).trans fr1))
      have z1 : (w5.setCell ⟨w.heap.size + 1, 0, none⟩ (.slice RA m.length RC)).cell? ⟨w.heap.size + 1, 0, none⟩ = some (.slice RA m.length RC) := World.cell?_setCell_same _ _ _ t1
      go_wp2
      refine bodyPost_ret (v := .tuple #[.agg #[.slice RA m.length RC], .slice PA (livesL L).length PC]) (by simp [results, Tryz.results165, go_sem, z1]) rfl ?_
      rw [← H2.out]
      have hgl : (goneR st m).length = m.length := by simp [goneR]
      refine ⟨.slice RA m.length RC, PA, PC, rfl, ?_, ?_, ?_⟩
      · exact own_base (ownsRow_setCell_below (own_below HROW.out hb5 (Nat.le_refl _)) (a := ⟨w.heap.size + 1, 0, none⟩) (by simp) _) (by omega)
      · exact own_base (ownsRow_setCell_below hpr (a := ⟨w.heap.size + 1, 0, none⟩) (by simp; omega) _) (by simp; omega)
      · exact (below_step hbw' hb5).setCell (by simp) _

end Go.Proofs.YtfddiklhjkjipaaGreat
