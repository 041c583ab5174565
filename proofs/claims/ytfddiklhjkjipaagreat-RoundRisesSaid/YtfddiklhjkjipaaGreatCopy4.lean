/-
  Contract: layer 4's Copy of a view (the reference).
-/
import Derived.Test.YtfddiklhjkjipaaGreatRef4
import Derived.Test.YtfddiklhjkjipaaGreatBack
import Derived.Test.YtfddiklhjkjipaaGreatOkU
namespace Go.Proofs.YtfddiklhjkjipaaGreat
set_option linter.unusedSimpArgs false
set_option linter.unusedVariables false
set_option linter.unusedSectionVars false
open Go.RowKit

theorem own_emptyU (w : World) : (w.alloc (.cells #[] 22)).ownsRow w.heap.size 22 1 (.slice (some ⟨w.heap.size, 0, none⟩) 0 0) 0 [] := World.ownsRow_lit w #[] 0 (Nat.le_refl _) (by unfold maxLen; omega) rfl
theorem own_apart {w w' : World} {base : Nat} {e : TypeId} {k n : Nat} {v : Value} {xs : List Value} {row : Option Nat} (h : w.ownsRow base e k v n xs) (hg : w.grownBy w' row) (hne : ∀ r, v.ownBlock = some r → row ≠ some r) : w'.ownsRow base e k v n xs := by
  refine ⟨h.1, h.2.imp id ?_⟩
  rintro ⟨r, cap, cur, rfl, hbase, hr, h1⟩
  refine ⟨r, cap, cur, rfl, hbase, ?_, h1⟩
  have hlt : r < w.heap.size := (Array.getElem?_eq_some_iff.1 hr).1
  rw [hg.block r hlt (fun e => hne r rfl e.symm)]; exact hr
theorem own_emptyP' (w : World) (m : Nat) (hm : m = w.heap.size) : (w.alloc (.cells #[] 25)).ownsRow m 25 2 (.slice (some ⟨m, 0, none⟩) 0 0) 0 [] := by subst hm; exact own_empty w
theorem own_emptyU' (w : World) (m : Nat) (hm : m = w.heap.size) : (w.alloc (.cells #[] 22)).ownsRow m 22 1 (.slice (some ⟨m, 0, none⟩) 0 0) 0 [] := by subst hm; exact own_emptyU w
theorem ob (n c m : Nat) : (Value.slice (some ⟨m, 0, none⟩) n c).ownBlock = some m := rfl
theorem BoxAt.stepN {w w' : World} {n N : Nat} {cs : Array Value} {t : TypeId} (h : BoxAt w n cs t) (hb : Below N w w') (hn : n < N) : BoxAt w' n cs t := ⟨by rw [hb.block n hn]; exact h.eq⟩
theorem BoxAt.drew' {w : World} {n : Nat} {cs : Array Value} {t : TypeId} (h : BoxAt w n cs t) : BoxAt w.drew n cs t := ⟨h.eq⟩
theorem BoxAt.set {w : World} {n m i : Nat} {v : Value} {cs : Array Value} {t : TypeId} (h : BoxAt w n cs t) (hne : n ≠ m) : BoxAt (w.setCell ⟨m, i, none⟩ v) n cs t := ⟨by rw [Below.heap_setCell _ _ _ _ hne]; exact h.eq⟩
theorem cp8 {W0 X w1 : World} {N m : Nat} {v1 : Value} {e : TypeId} {k n : Nat} {xs : List Value} (hX : Below N W0 X) (hXs : N ≤ X.heap.size) (ho : w1.ownsRow m e k v1 (0 + n) ([] ++ xs)) (hg : X.grownBy w1 (some m)) (hm : N ≤ m) : Below N W0 w1 ∧ w1.ownsRow N e k v1 n xs := by
  refine ⟨hX.grown hg hXs (fun j hj => by injection hj; omega), own_base ?_ hm⟩
  rw [Nat.zero_add, List.nil_append] at ho; exact ho
theorem set5 {w : World} {m : Nat} {a b c d e : Value} {t : TypeId} (k : BoxAt w m #[a, b, c, d, e] t) (a' b' c' d' e' : Value) :
    BoxAt (((((w.setCell ⟨m, 0, none⟩ a').setCell ⟨m, 1, none⟩ b').setCell ⟨m, 2, none⟩ c').setCell ⟨m, 3, none⟩ d').setCell ⟨m, 4, none⟩ e') m #[a', b', c', d', e'] t ∧ w.grownBy (((((w.setCell ⟨m, 0, none⟩ a').setCell ⟨m, 1, none⟩ b').setCell ⟨m, 2, none⟩ c').setCell ⟨m, 3, none⟩ d').setCell ⟨m, 4, none⟩ e') (some m) := by
  refine ⟨⟨?_⟩, grown_trans (grown_trans (grown_trans (grown_trans (grown_setCell _ _ _ _) (grown_setCell _ _ _ _)) (grown_setCell _ _ _ _)) (grown_setCell _ _ _ _)) (grown_setCell _ _ _ _)⟩
  have h0 := setCell_block w m 0 a' _ _ k.eq
  have h1 := setCell_block _ m 1 b' _ _ h0
  have h2 := setCell_block _ m 2 c' _ _ h1
  have h3 := setCell_block _ m 3 d' _ _ h2
  exact setCell_block _ m 4 e' _ _ h3
theorem apart0 {n c n' c' : Nat} (m m' : Nat) (h : m ≠ m') : ∀ r, (Value.slice (some ⟨m, 0, none⟩) n c).ownBlock = some r → (Value.slice (some ⟨m', 0, none⟩) n' c').ownBlock ≠ some r := by
  intro r hr e
  rw [ob] at hr e
  injection hr; injection e; omega
theorem apart1 {v : Value} {a b m : Nat} (h : v.ownBlock = some a ∨ v.ownBlock = some b) (ha : a ≠ m) (hb : b ≠ m) : ∀ r, v.ownBlock = some r → some m ≠ some r := by
  intro r hr e
  injection e with e
  subst e
  rcases h with h | h
  · rw [h] at hr; injection hr; omega
  · rw [h] at hr; injection hr; omega
theorem apart2 {w : World} {v : Value} {base : Nat} {e : TypeId} {k n : Nat} {xs : List Value} (h : w.ownsRow base e k v n xs) : ∀ r, v.ownBlock = some r → some w.heap.size ≠ some r := by
  intro r hr e
  injection e with e
  have := (h.lt r hr).2
  omega
set_option maxRecDepth 100000 in
set_option maxHeartbeats 2000000 in
theorem copyV_s (x : Vw) (w : World) (h : x.Ok w) : Calls Tryz.prog 82 #[x.v] w (RetV w x.r x.n x.i x.ms x.us) := by
  obtain ⟨r, n, i, MA, mc, ms, UA, uc, us⟩ := x
  obtain ⟨h1, h2, h3, h4⟩ := h
  simp only at h1 h2 h3 h4
  unfold Vw.v
  simp only
  obtain ⟨W0, hW0⟩ : ∃ W0, W0 = (w.alloc (bxV r n i MA ms.length mc UA us.length uc)).alloc (bxV 0 0 0 none 0 0 none 0 0) := ⟨_, rfl⟩
  have hs0 : W0.heap.size = w.heap.size + 1 + 1 := by rw [hW0]; simp
  have q0 : BoxAt W0 w.heap.size #[.int .u64 r, .int .i64 n, .int .u64 i, .slice MA ms.length mc, .slice UA us.length uc] 36 := by rw [hW0]; exact (boxTop w _ _).alloc' _
  have q1 : BoxAt W0 (w.heap.size + 1) #[.int .u64 0, .int .i64 0, .int .u64 0, .slice none 0 0, .slice none 0 0] 36 := by
    rw [hW0]
    have := boxTop (w.alloc (bxV r n i MA ms.length mc UA us.length uc)) #[.int .u64 0, .int .i64 0, .int .u64 0, .slice none 0 0, .slice none 0 0] 36
    rw [World.size_alloc] at this
    exact this
  have hB0 : Below w.heap.size w W0 := by rw [hW0]; exact (by repeat (first | exact Below.refl _ _ | assumption | refine bel_al ?_ _ | refine bel_gw ?_ _ _ | refine bel_drew ?_ | refine bel_drewN ?_ _))
  have hrm : Reads W0 w.heap.size 2 MA ms.length (pcs ms) := Reads.below h1 hB0
  have hru : Reads W0 w.heap.size 1 UA us.length (ucs us) := Reads.below h2 hB0
  have HB0 := hide hB0
  clear h1 h2 hB0
  go_enter Tryz.func82, Tryz.ntmps82
  go_wp2_with fail
  change Code.wp _ _ _ _ ((w.alloc (bxV r n i MA ms.length mc UA us.length uc)).alloc (bxV 0 0 0 none 0 0 none 0 0))
  rw [← hW0]
  clear hW0
  haveI : Sz W0 (w.heap.size + 1 + 1) := ⟨hs0⟩
  have p0 : BoxAt W0.drew w.heap.size _ _ := ⟨q0.eq⟩
  have hne : w.heap.size ≠ w.heap.size + 1 := by omega
  have xC : (W0.alloc (.cells #[] 25)).drew.ownsRow (w.heap.size + 1 + 1) 25 2 (.slice (some ⟨w.heap.size + 1 + 1, 0, none⟩) 0 0) 0 [] := own_emptyP' W0 (w.heap.size + 1 + 1) hs0.symm
  have xA : ((W0.alloc (.cells #[] 25)).alloc (.cells #[] 22)).drew.ownsRow (w.heap.size + 1 + 1) 25 2 (.slice (some ⟨w.heap.size + 1 + 1, 0, none⟩) 0 0) 0 [] := (own_emptyP' W0 (w.heap.size + 1 + 1) hs0.symm).alloc _
  have xA9 : ((W0.alloc (.cells #[] 25)).alloc (.cells #[] 22)).drew.ownsRow (w.heap.size + 1 + 1 + 1) 22 1 (.slice (some ⟨w.heap.size + 1 + 1 + 1, 0, none⟩) 0 0) 0 [] := own_emptyU' (W0.alloc (.cells #[] 25)) (w.heap.size + 1 + 1 + 1) (by simp [hs0])
  have xB : ((W0.alloc (.cells #[] 22)).alloc (.cells #[] 25)).drew.ownsRow (w.heap.size + 1 + 1 + 1) 25 2 (.slice (some ⟨w.heap.size + 1 + 1 + 1, 0, none⟩) 0 0) 0 [] := own_emptyP' (W0.alloc (.cells #[] 22)) (w.heap.size + 1 + 1 + 1) (by simp [hs0])
  have xB9 : ((W0.alloc (.cells #[] 22)).alloc (.cells #[] 25)).drew.ownsRow (w.heap.size + 1 + 1) 22 1 (.slice (some ⟨w.heap.size + 1 + 1, 0, none⟩) 0 0) 0 [] := (own_emptyU' W0 (w.heap.size + 1 + 1) hs0.symm).alloc _
  have eC : Below (w.heap.size + 1 + 1) W0 (W0.alloc (.cells #[] 25)).drew := by rw [← hs0]; exact (by repeat (first | exact Below.refl _ _ | assumption | refine bel_al ?_ _ | refine bel_gw ?_ _ _ | refine bel_drew ?_ | refine bel_drewN ?_ _))
  have eA : Below (w.heap.size + 1 + 1) W0 ((W0.alloc (.cells #[] 25)).alloc (.cells #[] 22)).drew := by rw [← hs0]; exact (by repeat (first | exact Below.refl _ _ | assumption | refine bel_al ?_ _ | refine bel_gw ?_ _ _ | refine bel_drew ?_ | refine bel_drewN ?_ _))
  have eB : Below (w.heap.size + 1 + 1) W0 ((W0.alloc (.cells #[] 22)).alloc (.cells #[] 25)).drew := by rw [← hs0]; exact (by repeat (first | exact Below.refl _ _ | assumption | refine bel_al ?_ _ | refine bel_gw ?_ _ _ | refine bel_drew ?_ | refine bel_drewN ?_ _))
  have sC : (W0.alloc (.cells #[] 25)).drew.heap.size = w.heap.size + 3 := by simp [hs0]
  have sA : ((W0.alloc (.cells #[] 25)).alloc (.cells #[] 22)).drew.heap.size = w.heap.size + 4 := by simp [hs0]
  have sB : ((W0.alloc (.cells #[] 22)).alloc (.cells #[] 25)).drew.heap.size = w.heap.size + 4 := by simp [hs0]
  go_region_held3 (fun w' => w'.cell? ⟨w.heap.size, 0, none⟩ = some (.int .u64 r) ∧ w'.cell? ⟨w.heap.size, 1, none⟩ = some (.int .i64 n) ∧ w'.cell? ⟨w.heap.size, 2, none⟩ = some (.int .u64 i) ∧ w'.cell? ⟨w.heap.size, 3, none⟩ = some (.slice MA ms.length mc) ∧ w'.cell? ⟨w.heap.size, 4, none⟩ = some (.slice UA us.length uc)) (first | with_reducible exact box5 p0 | with_reducible exact box5 (q0.alloc' _).drew' | with_reducible exact box5 ((q0.alloc' _).alloc' _).drew' | with_reducible exact box5 p2 | with_reducible exact box5 (p1.alloc' _) | with_reducible exact box5 p1 | with_reducible exact box5 (((((p2.set hne).set hne).set hne).set hne).set hne))
    (first
      | (refine step_append_any _ Tryz.okP rfl (.tmp 5) (.tmp 7) rfl (w.heap.size + 1 + 1) (.slice (some ⟨(w.heap.size + 1 + 1), 0, none⟩) 0 0) 0 [] (by simp [Act.eval, Act.put]) xA w.heap.size MA ms.length mc (pcs ms) (by simp [Act.eval, Act.put]) (hrm.below (eA.mono (by omega))) (pc_one _) (by unfold maxLen; omega) (by omega) (by omega) ?_; go_must (intro v1 w1 ho1 hg1 hn1 ha1; obtain ⟨b1, O1⟩ := cp8 eA (by omega) ho1 hg1 (by omega); have p1 := q0.stepN b1 (by omega); have ru1 := hru.below (b1.mono (by omega)); have z1 := hg1.size; have y9 := own_apart xA9 hg1 (apart0 _ _ (by omega)); have na := apart1 (m := w.heap.size + 1 + 1 + 1) (a := w.heap.size + 1 + 1) (b := _) ha1 (by omega) (by omega); obtain ⟨A1, c1, rfl, _, _⟩ := own_slice O1))
      | (refine step_append_any _ Tryz.okP rfl (.tmp 5) (.tmp 7) rfl (w.heap.size + 1 + 1 + 1) (.slice (some ⟨(w.heap.size + 1 + 1 + 1), 0, none⟩) 0 0) 0 [] (by simp [Act.eval, Act.put]) xB w.heap.size MA ms.length mc (pcs ms) (by simp [Act.eval, Act.put]) (hrm.below (eB.mono (by omega))) (pc_one _) (by unfold maxLen; omega) (by omega) (by omega) ?_; go_must (intro v1 w1 ho1 hg1 hn1 ha1; obtain ⟨b1, O1⟩ := cp8 eB (by omega) ho1 hg1 (by omega); have p1 := q0.stepN b1 (by omega); have ru1 := hru.below (b1.mono (by omega)); have z1 := hg1.size; have y9 := own_apart xB9 hg1 (apart0 _ _ (by omega)); have na := apart1 (m := w.heap.size + 1 + 1) (a := w.heap.size + 1 + 1 + 1) (b := _) ha1 (by omega) (by omega); obtain ⟨A1, c1, rfl, _, _⟩ := own_slice O1))
      | (refine step_append_any _ Tryz.okP rfl (.tmp 5) (.tmp 7) rfl (w.heap.size + 1 + 1) (.slice (some ⟨(w.heap.size + 1 + 1), 0, none⟩) 0 0) 0 [] (by simp [Act.eval, Act.put]) xC w.heap.size MA ms.length mc (pcs ms) (by simp [Act.eval, Act.put]) (hrm.below (eC.mono (by omega))) (pc_one _) (by unfold maxLen; omega) (by omega) (by omega) ?_; go_must (intro v1 w1 ho1 hg1 hn1 ha1; obtain ⟨b1, O1⟩ := cp8 eC (by omega) ho1 hg1 (by omega); have p1 := q0.stepN b1 (by omega); have ru1 := hru.below (b1.mono (by omega)); have z1 := hg1.size; have y9 := own_emptyU w1; have na := apart2 O1; obtain ⟨A1, c1, rfl, _, _⟩ := own_slice O1))
      | (refine step_append_any _ Tryz.okU rfl (.tmp 9) (.tmp 11) rfl w1.heap.size (.slice (some ⟨w1.heap.size, 0, none⟩) 0 0) 0 [] (by simp [Act.eval, Act.put]) y9 w.heap.size UA us.length uc (ucs us) (by simp [Act.eval, Act.put]) (ru1.alloc (by omega) _) (uc_one _) (by unfold maxLen; omega) (by omega) (by (try simp) <;> omega) ?_; intro v2 w2 ho2 hg2 hn2 ha2; obtain ⟨b2, O2⟩ := cp8 (b1.alloc (by omega) _) (by (try simp) <;> omega) ho2 hg2 (by omega); have p2 := q0.stepN b2 (by omega); have O1b := own_apart (O1.alloc _) hg2 na; haveI k2 := q1.stepN b2 (by omega); obtain ⟨A2, c2, rfl, _, _⟩ := own_slice O2)
      | (refine step_append_any _ Tryz.okU rfl (.tmp 9) (.tmp 11) rfl (w.heap.size + 1 + 1) (.slice (some ⟨(w.heap.size + 1 + 1), 0, none⟩) 0 0) 0 [] (by simp [Act.eval, Act.put]) y9 w.heap.size UA us.length uc (ucs us) (by simp [Act.eval, Act.put]) ru1 (uc_one _) (by unfold maxLen; omega) (by omega) (by (try simp) <;> omega) ?_; intro v2 w2 ho2 hg2 hn2 ha2; obtain ⟨b2, O2⟩ := cp8 b1 (by (try simp) <;> omega) ho2 hg2 (by omega); have p2 := q0.stepN b2 (by omega); have O1b := own_apart O1 hg2 na; haveI k2 := q1.stepN b2 (by omega); obtain ⟨A2, c2, rfl, _, _⟩ := own_slice O2)
      | (refine step_append_any _ Tryz.okU rfl (.tmp 9) (.tmp 11) rfl (w.heap.size + 1 + 1 + 1) (.slice (some ⟨(w.heap.size + 1 + 1 + 1), 0, none⟩) 0 0) 0 [] (by simp [Act.eval, Act.put]) y9 w.heap.size UA us.length uc (ucs us) (by simp [Act.eval, Act.put]) ru1 (uc_one _) (by unfold maxLen; omega) (by omega) (by (try simp) <;> omega) ?_; intro v2 w2 ho2 hg2 hn2 ha2; obtain ⟨b2, O2⟩ := cp8 b1 (by (try simp) <;> omega) ho2 hg2 (by omega); have p2 := q0.stepN b2 (by omega); have O1b := own_apart O1 hg2 na; haveI k2 := q1.stepN b2 (by omega); obtain ⟨A2, c2, rfl, _, _⟩ := own_slice O2))
  all_goals
    obtain ⟨k3, g3⟩ := set5 k2 (.int .u64 r) (.int .i64 n) (.int .u64 i) (.slice A1 ms.length c1) (.slice A2 us.length c2)
    have HM3 := hide (own_grown O1b g3 (by omega))
    have HU3 := hide (own_grown O2 g3 (by omega))
    have HB3 := hide (HB0.out.trans ((b2.mono (show w.heap.size ≤ w.heap.size + 1 + 1 by omega)).trans (grown_to_below g3 (show w.heap.size ≤ w.heap.size + 1 by omega) (by have := b2.size; omega))))
    generalize ((((w2.setCell ⟨w.heap.size + 1, 0, none⟩ (.int .u64 r)).setCell ⟨w.heap.size + 1, 1, none⟩ (.int .i64 n)).setCell ⟨w.heap.size + 1, 2, none⟩ (.int .u64 i)).setCell ⟨w.heap.size + 1, 3, none⟩ (.slice A1 ms.length c1)).setCell ⟨w.heap.size + 1, 4, none⟩ (.slice A2 us.length c2) = W3 at k3 HM3 HU3 HB3 ⊢
    haveI := k3
    clear g3 O1b O2 b2 k2 p2 ho2 hg2 hn2 ha2
    go_wp2
    refine bodyPost_ret (v := Vw.v ⟨r, n, i, A1, c1, ms, A2, c2, us⟩) (by simp [results, Tryz.results82, go_sem, Vw.v]) rfl ?_
    exact ⟨A1, c1, A2, c2, rfl, ⟨Reads.of_own HM3.out, Reads.of_own HU3.out, h3, h4⟩, HB3.out⟩
end Go.Proofs.YtfddiklhjkjipaaGreat
