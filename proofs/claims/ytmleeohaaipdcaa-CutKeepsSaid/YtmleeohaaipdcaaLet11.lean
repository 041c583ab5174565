/-
  Layer 21: contract: the program's Keep.
-/
import Derived.Test.YtmleeohaaipdcaaLet10
import Derived.Test.YtmleeohaaipdcaaLet6
namespace Go.Proofs.Ytmleeohaaipdcaa
set_option linter.unusedSimpArgs false
set_option linter.unusedVariables false
set_option linter.unusedSectionVars false
open Go.RowKit Go.Sort

theorem set12_arr {α : Type} (a0 a1 a2 a3 a4 a5 a6 a7 a8 a9 a10 a11 v0 v1 v2 v3 v4 v5 v6 v7 v8 v9 v10 v11 : α) : ((((((((((((#[a0, a1, a2, a3, a4, a5, a6, a7, a8, a9, a10, a11].setIfInBounds 0 v0).setIfInBounds 1 v1).setIfInBounds 2 v2).setIfInBounds 3 v3).setIfInBounds 4 v4).setIfInBounds 5 v5).setIfInBounds 6 v6).setIfInBounds 7 v7).setIfInBounds 8 v8).setIfInBounds 9 v9).setIfInBounds 10 v10).setIfInBounds 11 v11) = #[v0, v1, v2, v3, v4, v5, v6, v7, v8, v9, v10, v11] := by simp
instance (priority := high) BoxAt.set12 (W : World) (m : Nat) (t : TypeId) (a0 a1 a2 a3 a4 a5 a6 a7 a8 a9 a10 a11 v0 v1 v2 v3 v4 v5 v6 v7 v8 v9 v10 v11 : Value) [k : BoxAt W m #[a0, a1, a2, a3, a4, a5, a6, a7, a8, a9, a10, a11] t] : BoxAt ((((((((((((W.setCell ⟨m, 0, none⟩ v0).setCell ⟨m, 1, none⟩ v1).setCell ⟨m, 2, none⟩ v2).setCell ⟨m, 3, none⟩ v3).setCell ⟨m, 4, none⟩ v4).setCell ⟨m, 5, none⟩ v5).setCell ⟨m, 6, none⟩ v6).setCell ⟨m, 7, none⟩ v7).setCell ⟨m, 8, none⟩ v8).setCell ⟨m, 9, none⟩ v9).setCell ⟨m, 10, none⟩ v10).setCell ⟨m, 11, none⟩ v11) m #[v0, v1, v2, v3, v4, v5, v6, v7, v8, v9, v10, v11] t := ⟨by
  have h0 := @BoxAt.setAt W m 0 v0 _ t k
  have h1 := @BoxAt.setAt _ m 1 v1 _ t h0
  have h2 := @BoxAt.setAt _ m 2 v2 _ t h1
  have h3 := @BoxAt.setAt _ m 3 v3 _ t h2
  have h4 := @BoxAt.setAt _ m 4 v4 _ t h3
  have h5 := @BoxAt.setAt _ m 5 v5 _ t h4
  have h6 := @BoxAt.setAt _ m 6 v6 _ t h5
  have h7 := @BoxAt.setAt _ m 7 v7 _ t h6
  have h8 := @BoxAt.setAt _ m 8 v8 _ t h7
  have h9 := @BoxAt.setAt _ m 9 v9 _ t h8
  have h10 := @BoxAt.setAt _ m 10 v10 _ t h9
  have h11 := @BoxAt.setAt _ m 11 v11 _ t h10
  have h := h11.eq
  rw [set12_arr] at h
  exact h⟩
theorem KS.step {bo ba : Nat} {OA : Option Addr} {oc : Nat} {of : List Pr} {q : List Lr} {a W : World} (h : KS bo ba OA oc of q a) (hb : Below a.heap.size a W) : KS bo ba OA oc of q W := by
  obtain ⟨A, c, k1, k2⟩ := h.k
  haveI := h.o
  haveI := k1
  haveI : Stp a W := ⟨hb⟩
  exact ⟨inferInstance, A, c, inferInstance, own_below k2 hb (Nat.le_refl _)⟩
theorem addL_filter {of : List Pr} {l : List Lr} {k : Nat} {y : Lr} (h : l[k]? = some y) : addL of ((l.take k).filter (goodL of)) y = (l.take (k + 1)).filter (goodL of) := by
  unfold addL
  rw [take_succ_of h, List.filter_append]
  cases hg : goodL of y <;> simp [hg]
theorem addL_last (of : List Pr) (l : List Lr) (y : Lr) : addL of (l.filter (goodL of)) y = (l ++ [y]).filter (goodL of) := by
  unfold addL
  rw [List.filter_append]
  cases hg : goodL of y <;> simp [hg]
theorem tailF_mem {α : Type} (fr : α → Pr) (cd : α → Int) : ∀ (l : List α) (p t : α), t ∈ tailF fr cd p l → t ∈ l
  | [], _, _, h => h
  | y :: l, p, t, h => by
    rw [tailF] at h
    split at h
    · exact List.mem_cons_of_mem _ (tailF_mem fr cd l y t h)
    · rcases List.mem_cons.1 h with h | h
      · exact List.mem_cons.2 (Or.inl h)
      · exact List.mem_cons_of_mem _ (tailF_mem fr cd l y t h)
theorem compK_mem {l : List KP} {t : KP} (h : t ∈ compK l) : t ∈ l := by
  cases l with
  | nil => exact h
  | cons x l =>
    unfold compK at h
    rw [compF] at h
    rcases List.mem_cons.1 h with h | h
    · exact List.mem_cons.2 (Or.inl h)
    · exact List.mem_cons_of_mem _ (tailF_mem _ _ l x t h)
theorem compK_len (l : List KP) : (compK l).length ≤ l.length := compF_le _ _ l
theorem sortK_mem {F : List Lr} {t : KP} (h : t ∈ sortK F) : t.1 ∈ F := List.mem_of_getElem? (mem_zipIdx'.1 ((sortK_perm F).mem_iff.1 h))
theorem sortAny_s (base : Nat) (A : Option Addr) (c : Nat) (F : List Lr) (w : World) (h : w.ownsRow base 109 12 (.slice A F.length c) F.length (kcs F.zipIdx)) (hn : F.length ≤ 1000000) :
    Calls Try.prog 44 #[.slice A F.length c, .func (.func 45) #[] #[]] w fun e w' => e = .returned (.tuple #[]) ∧ w'.ownsRow base 109 12 (.slice A F.length c) F.length (kcs (sortK F)) ∧ w.grownBy w' (Value.slice A F.length c).ownBlock := by
  cases A with
  | none =>
    have h0 : F.length = 0 := by
      rcases h.2 with ⟨_, h⟩ | ⟨g, cap, cur, he, _⟩
      · exact h
      · cases he
    have hF : F = [] := List.eq_nil_of_length_eq_zero h0
    subst hF
    refine (sortKept_none none c _ w).mono ?_
    rintro e w' ⟨rfl, rfl⟩
    have hn : sortK ([] : List Lr) = [] := List.eq_nil_of_length_eq_zero (by rw [sortK_len]; rfl)
    rw [hn]
    exact ⟨rfl, h, World.grownBy.refl _ _⟩
  | some a =>
    obtain ⟨g, cap, cur, he, hb, hg, h1⟩ : ∃ g cap cur, Value.slice (some a) F.length c = .slice (some ⟨g, 0, none⟩) F.length cap ∧ base ≤ g ∧ w.heap[g]? = some (.cells cur 109 (0, 0)) ∧ True := by
      rcases h.2 with ⟨he, _⟩ | ⟨g, cap, cur, he, hb, hg, _⟩
      · cases he
      · exact ⟨g, cap, cur, he, hb, hg, trivial⟩
    injection he with e1 e2 e3
    injection e1 with e1
    subst e1 e3
    have hlt : g < w.heap.size := (Array.getElem?_eq_some_iff.1 hg).1
    refine (sortKept_s base g c F w (by rw [OwnK, List.length_zipIdx]; exact h) hlt hn).mono ?_
    rintro e w' ⟨rfl, h2, h3⟩
    refine ⟨rfl, ?_, h3⟩
    rw [OwnK, sortK_len] at h2; exact h2
theorem compactAny_s (base : Nat) (A : Option Addr) (n c : Nat) (l : List KP) (w : World) (h : w.ownsRow base 109 12 (.slice A n c) n (kcs l)) (hl : n = l.length) (hn : l.length ≤ 1000000) :
    Calls Try.prog 50 #[.slice A n c, .func (.func 43) #[] #[]] w fun e w' => e = .returned (.slice A (compK l).length c) ∧ w'.ownsRow base 109 12 (.slice A (compK l).length c) (compK l).length (kcs (compK l)) ∧ w.grownBy w' (Value.slice A n c).ownBlock := by
  subst hl
  cases A with
  | none =>
    have h0 : l.length = 0 := by
      rcases h.2 with ⟨_, h⟩ | ⟨g, cap, cur, he, _⟩
      · exact h
      · cases he
    have hF : l = [] := List.eq_nil_of_length_eq_zero h0
    subst hF
    refine (compactK_few none 0 c _ w (by omega)).mono ?_
    rintro e w' ⟨rfl, rfl⟩
    exact ⟨rfl, h, World.grownBy.refl _ _⟩
  | some a =>
    obtain ⟨g, cap, cur, he, hb, hg, h1, h2⟩ : ∃ g cap cur, Value.slice (some a) l.length c = .slice (some ⟨g, 0, none⟩) l.length cap ∧ base ≤ g ∧ w.heap[g]? = some (.cells cur 109 (0, 0)) ∧ l.length ≤ cap ∧ cap ≤ maxLen := by
      rcases h.2 with ⟨he, _⟩ | ⟨g, cap, cur, he, hb, hg, h1, h2, _⟩
      · cases he
      · exact ⟨g, cap, cur, he, hb, hg, h1, h2⟩
    injection he with e1 e2 e3
    injection e1 with e1
    subst e1 e3
    have hlt : g < w.heap.size := (Array.getElem?_eq_some_iff.1 hg).1
    exact compactK_own base g c l w h hlt hn h1 h2
/-- a row of the frame's that holds something lies in a block -/
theorem ownK_some {w : World} {base n c : Nat} {A : Option Addr} {xs : List Value} (h : w.ownsRow base 109 12 (.slice A n c) n xs) (hn : 0 < n) : ∃ g, A = some ⟨g, 0, none⟩ ∧ g < w.heap.size := by
  rcases h.2 with ⟨_, h⟩ | ⟨g, cap, cur, he, hb, hg, _⟩
  · omega
  · injection he with e1 e2 e3
    exact ⟨g, e1, (Array.getElem?_eq_some_iff.1 hg).1⟩
abbrev frK : KP → Pr := fun z => z.1.x.p
abbrev lcK : KP → Lc := fun z => z.1.x
set_option maxRecDepth 100000 in
set_option maxHeartbeats 16000000 in
theorem keep_s (A : Option Addr) (c : Nat) (l : List Lr) (y : Lr) (OA : Option Addr) (oc : Nat) (of : List Pr) (w : World) (h : LsR w A l) (hy : y.x.Ok w y.BA y.CA) (ho : Sl w OA of) (hl : l.length ≤ 1000) (hol : of.length ≤ 1000) :
    Calls Try.prog 12 #[.slice A l.length c, y.v, .slice OA of.length oc] w (RetLs w (rkeepL (l.map Lr.x ++ [y.x]) of)) := by
  have HL := hide h
  have HY := hide hy
  have HOF := hide ho
  have TA := hide (fun bo ba q z W (S : KS bo ba OA oc of q W) (hz : z.x.Ok W z.BA z.CA) (hof : Sl W OA of) (h1 : bo < ba) (hq : q.length ≤ 100000) => add_s bo ba OA oc of q z W S hz hof h1 hq (by omega))
  obtain ⟨RES, hRES⟩ : ∃ R, R = rkeepL (l.map Lr.x ++ [y.x]) of := ⟨_, rfl⟩
  rw [← hRES]
  have HRES := hide hRES
  clear h hy ho hRES
  go_enter Try.func12, Try.ntmps12
  go_wp2_with fail
  go_loopw [18] (fun j wr => ∃ k : Nat, k ≤ l.length ∧ j = .int .i64 k ∧ KS (w.heap.size + 1) (w.heap.size + 1 + 1) OA oc of ((l.take k).filter (goodL of)) wr ∧ BoxAt wr w.heap.size #[.int .i64 y.x.k, .int .i64 y.x.p.1, .int .u64 y.x.p.2, .int .u64 y.x.r, .int .i64 y.x.s.1, .int .u64 y.x.s.2, .int .u64 y.x.n, .slice y.BA y.x.b.length y.bc, .int .u64 y.x.cid, .slice y.CA y.x.c.length y.cc, .bool y.x.w] 31 ∧ Below w.heap.size w wr) (fun j _ => l.length - (intOf j).toNat)
  case atStart => exact ⟨0, Nat.zero_le _, rfl, (by rw [List.take_zero, List.filter_nil]; exact ⟨inferInstance, none, 0, (inferInstance : BoxAt _ _ #[.slice none 0 0] _), World.ownsRow_nil _ _ _ _⟩), inferInstance, blw⟩
  case round =>
    obtain ⟨k, hk, rfl, hS, hb0, hB⟩ := hrel
    haveI : Stp w wr := ⟨hB⟩
    haveI := hb0
    have zb : w.heap.size + 1 + 1 < wr.heap.size := by obtain ⟨_, _, kb, _⟩ := hS.k; exact kb.lt
    haveI : LtN w.heap.size (w.heap.size + 1 + 1) := ⟨by omega⟩
    haveI : LeN w.heap.size (w.heap.size + 1 + 1) := ⟨by omega⟩
    haveI : LeN w.heap.size wr.heap.size := ⟨by omega⟩
    haveI : LtN w.heap.size wr.heap.size := ⟨by omega⟩
    haveI : LtN (w.heap.size + 1) wr.heap.size := ⟨by omega⟩
    haveI : LtN (w.heap.size + 1 + 1) wr.heap.size := ⟨by omega⟩
    have HS := hide hS
    have HB := hide hB
    clear hS hB
    by_cases hlt : k < l.length
    · obtain ⟨b, off, z, rfl, hb, hz, hok, g0, g1, g2, g3, g4, g5, g6, g7, g8, g9, g10⟩ := (HL.out.tc (W := wr)).at hlt
      haveI : InW b wr := ⟨hb⟩
      have HZ := hide hz
      have HOK := hide hok
      have HQ := hide (show ((l.take k).filter (goodL of)).length ≤ 100000 from Nat.le_trans (List.length_filter_le _ _) (by simp; omega))
      have i0 : (0 : Int) ≤ (k : Int) := by omega
      have i1 : (k : Int) < (l.length : Int) := by omega
      clear hz hok
      go_wp2_with fail
      (with_reducible refine (TA.out _ _ _ z _ (HS.out.step blw) HOK.out.tc (HOF.out.step blw) (by omega) HQ.out).mono ?_)
      rintro e w1 ⟨rfl, hS1, hb1⟩
      haveI : StpB (w.heap.size + 1 + 1) _ w1 := ⟨hb1⟩
      have HS1 := hide (show KS (w.heap.size + 1) (w.heap.size + 1 + 1) OA oc of ((l.take (k + 1)).filter (goodL of)) w1 by rw [← addL_filter HZ.out]; exact hS1)
      clear hS1 hb1
      go_wp2
      go_roundw
      case rel => exact ⟨k + 1, by omega, by go_num, HS1.out, inferInstance, blw⟩
      case measure => simp [intOf]; omega
    · obtain rfl : k = l.length := by omega
      have HS0 := hide (show KS (w.heap.size + 1) (w.heap.size + 1 + 1) OA oc of (l.filter (goodL of)) wr by have := HS.out; rwa [List.take_length] at this)
      have HQ := hide (show (l.filter (goodL of)).length ≤ 100000 from Nat.le_trans (List.length_filter_le _ _) (by omega))
      clear HS
      go_wp2_with fail
      (with_reducible refine (TA.out _ _ _ y _ HS0.out HY.out.tc (HOF.out.step blw) (by omega) HQ.out).mono ?_)
      rintro e w1 ⟨rfl, hS1, hb1⟩
      haveI : StpB (w.heap.size + 1 + 1) _ w1 := ⟨hb1⟩
      rw [addL_last] at hS1
      have hFm : ∀ z ∈ (l ++ [y]).filter (goodL of), z.x.Ok w z.BA z.CA := fun z hz => by
        rcases List.mem_append.1 (List.mem_filter.1 hz).1 with h | h
        · exact HL.out.o z h
        · simp at h; subst h; exact HY.out
      have hR : RES = kprogL (sortK ((l ++ [y]).filter (goodL of))) := by
        rw [HRES.out, kprog_eq (l ++ [y]) of (sortK_perm _) (sortK_sorted _), List.map_append]; rfl
      have hFl : ((l ++ [y]).filter (goodL of)).length ≤ 2000 := Nat.le_trans (List.length_filter_le _ _) (by simp; omega)
      generalize (l ++ [y]).filter (goodL of) = F at hS1 hFm hR hFl
      have HFM := hide hFm
      have HR := hide hR
      obtain ⟨FA, fc, hk1, ho1⟩ := hS1.k
      haveI := hk1
      have HO1 := hide ho1
      have z1 := hk1.lt
      haveI : LtN (w.heap.size + 1 + 1) (w.heap.size + 1 + 1 + 1) := ⟨by omega⟩
      haveI : LtN w.heap.size (w.heap.size + 1 + 1 + 1) := ⟨by omega⟩
      haveI : LeN w.heap.size (w.heap.size + 1 + 1 + 1) := ⟨by omega⟩
      clear hFm hR hk1 ho1 hS1 hb1 HRES HS0 HQ TA HL HY HOF
      go_wp2_with fail
      (with_reducible refine (sortAny_s _ FA fc F _ HO1.out (by omega)).mono ?_)
      rintro e w2 ⟨rfl, ho2, hg2⟩
      haveI : StpB (w.heap.size + 1 + 1 + 1) w1 w2 := ⟨grown_belowT hg2 (by omega) (fun q hq => (HO1.out.lt q hq).1)⟩
      have z2 := hg2.size
      have HO2 := hide ho2
      clear ho2 hg2
      go_wp2_with fail
      (with_reducible refine (compactAny_s _ FA F.length fc (sortK F) _ HO2.out (sortK_len F).symm (by rw [sortK_len]; omega)).mono ?_)
      rintro e w3 ⟨rfl, ho3, hg3⟩
      haveI : StpB (w.heap.size + 1 + 1 + 1) w2 w3 := ⟨grown_belowT hg3 (by omega) (fun q hq => (HO2.out.lt q hq).1)⟩
      have z3 := hg3.size
      have HO3 := hide ho3
      have hCm : ∀ t ∈ compK (sortK F), t.1.x.Ok w t.1.BA t.1.CA := fun t ht => HFM.out _ (sortK_mem (compK_mem ht))
      have hCl : (compK (sortK F)).length ≤ 2000 := by have h1 := compK_len (sortK F); have h2 := sortK_len F; omega
      have hR2 : RES = (keepG frK (compK (sortK F))).map lcK := HR.out
      generalize compK (sortK F) = C at HO3 hCm hR2 hCl
      have HCM := hide hCm
      have HR2 := hide hR2
      clear ho3 hg3 hCm hR2 HFM HR HO1 HO2
      go_wp2_with fail
      obtain ⟨W0, hW0⟩ : ∃ W0, W0 = w3.setCell ⟨w.heap.size + 1 + 1, 0, none⟩ (.slice FA C.length fc) := ⟨_, rfl⟩
      have hB0 : Below w.heap.size w W0 := by rw [hW0]; exact blw
      have hOC : W0.ownsRow (w.heap.size + 1 + 1 + 1) 109 12 (.slice FA C.length fc) C.length (kcs C) := by rw [hW0]; exact own_kp HO3.out
      haveI hba : BoxAt W0 (w.heap.size + 1 + 1) #[.slice FA C.length fc] 105 := by rw [hW0]; infer_instance
      have z0 := hB0.size
      have zw := hba.lt
      haveI : LtN (w.heap.size + 1 + 1) W0.heap.size := ⟨zw⟩
      haveI : LeN w.heap.size W0.heap.size := ⟨z0⟩
      rw [← hW0]
      have HB0 := hide hB0
      have HOC := hide hOC
      clear hW0 hB0 hOC HO3
      go_loopw [12, 36] (fun v j wr => ∃ (m : Nat) (q : List Lr), m ≤ C.length ∧ j = .int .i64 m ∧ q.map Lr.x ++ (keepG frK (C.drop m)).map lcK = RES ∧ q.length ≤ m ∧ LsO wr W0.heap.size v q ∧ Below W0.heap.size W0 wr) (fun _ j _ => C.length - (intOf j).toNat)
      case atStart => exact ⟨0, [], Nat.zero_le _, rfl, HR2.out.symm, Nat.zero_le _, LsO.nil _ _, Below.refl _ _⟩
      case round =>
        obtain ⟨m, q, hm, rfl, hq, hq2, ho, hB1⟩ := hrel
        haveI : Stp W0 wr := ⟨hB1⟩
        have zr := hB1.size
        haveI : LeN W0.heap.size wr.heap.size := ⟨zr⟩
        haveI : LeN w.heap.size wr.heap.size := ⟨by omega⟩
        haveI : LtN (w.heap.size + 1 + 1) wr.heap.size := ⟨by omega⟩
        have HQ := hide hq
        have HO := hide ho
        have HBR := hide (below_step HB0.out hB1)
        obtain ⟨A5, c5, rfl, _, _⟩ := own_slice ho.o
        clear hq ho
        by_cases hlt : m < C.length
        · obtain ⟨g, rfl, hg⟩ := ownK_some HOC.out (by omega)
          have HOW := hide (show wr.ownsRow (w.heap.size + 1 + 1 + 1) 109 12 (.slice (some ⟨g, 0, none⟩) C.length fc) C.length (kcs C) from own_below HOC.out hB1 (Nat.le_refl _))
          haveI : InW g wr := ⟨by omega⟩
          have ht : C[m]? = some C[m] := List.getElem?_eq_getElem hlt
          generalize C[m] = t at ht
          have ct0 := ownK_at' HOW.out ht (q := 0) (by omega) (a := m * 12) (by omega) rfl
          have ct1 := ownK_at' HOW.out ht (q := 1) (by omega) (a := m * 12 + 1) (by omega) rfl
          have ct2 := ownK_at' HOW.out ht (q := 2) (by omega) (a := m * 12 + 2) (by omega) rfl
          have ct3 := ownK_at' HOW.out ht (q := 3) (by omega) (a := m * 12 + 3) (by omega) rfl
          have ct4 := ownK_at' HOW.out ht (q := 4) (by omega) (a := m * 12 + 4) (by omega) rfl
          have ct5 := ownK_at' HOW.out ht (q := 5) (by omega) (a := m * 12 + 5) (by omega) rfl
          have ct6 := ownK_at' HOW.out ht (q := 6) (by omega) (a := m * 12 + 6) (by omega) rfl
          have ct7 := ownK_at' HOW.out ht (q := 7) (by omega) (a := m * 12 + 7) (by omega) rfl
          have ct8 := ownK_at' HOW.out ht (q := 8) (by omega) (a := m * 12 + 8) (by omega) rfl
          have ct9 := ownK_at' HOW.out ht (q := 9) (by omega) (a := m * 12 + 9) (by omega) rfl
          have ct10 := ownK_at' HOW.out ht (q := 10) (by omega) (a := m * 12 + 10) (by omega) rfl
          have ct11 := ownK_at' HOW.out ht (q := 11) (by omega) (a := m * 12 + 11) (by omega) rfl
          have HT := hide ht
          have HOK := hide ((HCM.out t (List.mem_of_getElem? ht)).step HBR.out)
          have HKD := hide (keepG_drop frK ht)
          have i0 : (0 : Int) ≤ (m : Int) := by omega
          have i1 : (m : Int) < (C.length : Int) := by omega
          clear ht hB1
          by_cases hm2 : m + 2 < C.length
          · have ht2 : C[m + 2]? = some C[m + 2] := List.getElem?_eq_getElem hm2
            generalize C[m + 2] = t2 at ht2
            have e1 := ownK_at' HOW.out ht2 (q := 1) (by omega) (a := (m + 2) * 12 + 1) (by omega) rfl
            have e2 := ownK_at' HOW.out ht2 (q := 2) (by omega) (a := (m + 2) * 12 + 2) (by omega) rfl
            have hd : (C[m + 2]?.map frK) = some (frK t2) := by rw [ht2]; rfl
            rw [hd] at HKD
            have d1 : decide ((C.length : Int) ≤ (m : Int) + 2) = false := decide_eq_false (by omega)
            have j0 : (0 : Int) ≤ (m : Int) + 2 := by omega
            have j1 : (m : Int) + 2 < (C.length : Int) := by omega
            have j2 : ((m : Int) + 2).toNat = m + 2 := by omega
            clear ht2 hd
            cases f1 : eqP t2.1.x.p.1 t2.1.x.p.2 t.1.x.p.1 t.1.x.p.2
            · have HK := hide (show keepG frK (C.drop m) = t :: keepG frK (C.drop (m + 1)) by
                rw [HKD.out, if_neg]
                intro h
                injection h with h
                have := eqP_iff.2 (show ((t2.1.x.p.1, t2.1.x.p.2) : Int × Int) = (t.1.x.p.1, t.1.x.p.2) from h)
                rw [f1] at this; cases this)
              clear HKD
              go_wp2_with fail
              go_quiet (fail)
              go_wp2_with fail
              (with_reducible refine (copyL_s t.1.x t.1.BA t.1.bc t.1.CA t.1.cc _ HOK.out.tc).mono ?_)
              intro e w4 hret
              obtain ⟨y1, e1', rfl, ho1, ho2, hb4⟩ := hret.own'
              haveI : Stp _ w4 := ⟨hb4⟩
              have z4 := hb4.size
              try simp [World.setCell] at z4
              have O1 := hide ho1
              have O2 := hide ho2
              have HE := hide e1'
              clear ho1 ho2 hb4 hret e1'
              go_wp2_with (at_builtin; refine wpList_append_w Try.okLt rfl (.tmp 59) (.tmp 63) rfl W0.heap.size (.slice A5 q.length c5) q.length (lcs q) 1 (lcs [y1]) ?_ ?_ ?_ ?_ ?_ ?_ ?_ ?_; go_must ((focus (first | rfl | (simp [Act.eval, Act.put]; done))); (focus (exact own_tc HO.out.o)); (focus (refine ⟨_, _, rfl, ?_⟩; exact reads_lt1 _ _ y1)); (focus (exact lc_one _)); (focus (unfold maxLen; omega)); (focus omega); (focus (first | omega | (simp; done) | (simp; omega) | exact BoxAt.lt (n := w.heap.size) inferInstance)); intro v7 w7 ho7 hg7; have HN := hide ((HO.out.tc (W := w4.alloc (.cells #[.int .i64 y1.x.k, .int .i64 y1.x.p.1, .int .u64 y1.x.p.2, .int .u64 y1.x.r, .int .i64 y1.x.s.1, .int .u64 y1.x.s.2, .int .u64 y1.x.n, .slice y1.BA y1.x.b.length y1.bc, .int .u64 y1.x.cid, .slice y1.CA y1.x.c.length y1.cc, .bool y1.x.w] 31))).app (own_tc O1.out) (own_tc O2.out) (by (try simp) <;> omega) ho7 hg7); haveI : StpB W0.heap.size _ w7 := ⟨grown_belowT hg7 (by (try simp) <;> omega) (fun q hq => (HO.out.o.lt q hq).1)⟩; clear ho7 hg7))
              go_wp2
              go_roundw
              case rel => exact ⟨m + 1, q ++ [y1], by omega, by go_num, by rw [← HQ.out, HK.out, List.map_append, List.map_cons, List.map_nil, HE.out, List.map_cons, List.append_assoc]; rfl, by rw [List.length_append, List.length_singleton]; omega, HN.out, blw⟩
              case measure => simp [intOf]; omega
            · have HK := hide (show keepG frK (C.drop m) = keepG frK (C.drop (m + 1)) by
                rw [HKD.out, if_pos]
                have := eqP_iff.1 f1
                exact congrArg some this)
              clear HKD
              go_wp2_with fail
              go_quiet (fail)
              go_wp2
              go_roundw
              case rel => exact ⟨m + 1, q, by omega, by go_num, by rw [← HK.out]; exact HQ.out, by omega, HO.out.tc, blw⟩
              case measure => simp [intOf]; omega
          · have d1 : decide ((C.length : Int) ≤ (m : Int) + 2) = true := decide_eq_true (by omega)
            have HK := hide (show keepG frK (C.drop m) = t :: keepG frK (C.drop (m + 1)) by
              rw [HKD.out, if_neg]
              rw [List.getElem?_eq_none (by omega)]; simp)
            clear HKD
            go_wp2_with fail
            go_quiet (fail)
            go_wp2_with fail
            (with_reducible refine (copyL_s t.1.x t.1.BA t.1.bc t.1.CA t.1.cc _ HOK.out.tc).mono ?_)
            intro e w4 hret
            obtain ⟨y1, e1', rfl, ho1, ho2, hb4⟩ := hret.own'
            haveI : Stp _ w4 := ⟨hb4⟩
            have z4 := hb4.size
            try simp [World.setCell] at z4
            have O1 := hide ho1
            have O2 := hide ho2
            have HE := hide e1'
            clear ho1 ho2 hb4 hret e1'
            go_wp2_with (at_builtin; refine wpList_append_w Try.okLt rfl (.tmp 59) (.tmp 63) rfl W0.heap.size (.slice A5 q.length c5) q.length (lcs q) 1 (lcs [y1]) ?_ ?_ ?_ ?_ ?_ ?_ ?_ ?_; go_must ((focus (first | rfl | (simp [Act.eval, Act.put]; done))); (focus (exact own_tc HO.out.o)); (focus (refine ⟨_, _, rfl, ?_⟩; exact reads_lt1 _ _ y1)); (focus (exact lc_one _)); (focus (unfold maxLen; omega)); (focus omega); (focus (first | omega | (simp; done) | (simp; omega) | exact BoxAt.lt (n := w.heap.size) inferInstance)); intro v7 w7 ho7 hg7; have HN := hide ((HO.out.tc (W := w4.alloc (.cells #[.int .i64 y1.x.k, .int .i64 y1.x.p.1, .int .u64 y1.x.p.2, .int .u64 y1.x.r, .int .i64 y1.x.s.1, .int .u64 y1.x.s.2, .int .u64 y1.x.n, .slice y1.BA y1.x.b.length y1.bc, .int .u64 y1.x.cid, .slice y1.CA y1.x.c.length y1.cc, .bool y1.x.w] 31))).app (own_tc O1.out) (own_tc O2.out) (by (try simp) <;> omega) ho7 hg7); haveI : StpB W0.heap.size _ w7 := ⟨grown_belowT hg7 (by (try simp) <;> omega) (fun q hq => (HO.out.o.lt q hq).1)⟩; clear ho7 hg7))
            go_wp2
            go_roundw
            case rel => exact ⟨m + 1, q ++ [y1], by omega, by go_num, by rw [← HQ.out, HK.out, List.map_append, List.map_cons, List.map_nil, HE.out, List.map_cons, List.append_assoc]; rfl, by rw [List.length_append, List.length_singleton]; omega, HN.out, blw⟩
            case measure => simp [intOf]; omega
        · obtain rfl : m = C.length := by omega
          have HN := hide HBR.out
          have H2 := hide (show q.map Lr.x = RES by have := HQ.out; rw [List.drop_length, keepG, List.map_nil, List.append_nil] at this; exact this)
          go_wp2
          go_ret
          exact ⟨A5, c5, q, rfl, H2.out, HO.out.base (by omega), HN.out⟩
end Go.Proofs.Ytmleeohaaipdcaa
