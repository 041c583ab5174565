/-
  RegistryOther answers true.
-/
import Derived.Test.YtoajcdcdbkjefaaLTells
import Derived.Test.YtoajcdcdbkjefaaPlain17
namespace Go.Proofs.Ytoajcdcdbkjefaa
set_option linter.unusedSimpArgs false
set_option linter.unusedVariables false
set_option linter.unusedSectionVars false
open Go.RowKit Go.Sort Go.Lib

theorem less_take {m : List Cl} {k : Nat} {x : Cl} {n : Int} (h : m[k]? = some x) : lessR (m.take (k + 1)) n = lessR (m.take k) n ++ (if x.n = n then [] else [x]) := by
  unfold lessR
  rw [take_succ_of h, List.filter_append]
  by_cases hx : x.n = n <;> simp [hx]
theorem less_take_len (m : List Cl) (k : Nat) (n : Int) : (lessR (m.take k) n).length ≤ k := by
  unfold lessR
  have := List.length_filter_le (fun x : Cl => !(x.n == n)) (m.take k)
  rw [List.length_take] at this; omega
set_option maxRecDepth 100000 in
set_option maxHeartbeats 8000000 in
theorem registryOther_true (A : Option Addr) (c : Nat) (l : List Cl) (now sn si kind n i rnd cid : Int) (SA : Option Addr) (sc : Nat) (set : List (Int × Int)) (v6 v7 v8 v9 v10 : Value) (w : World) (h : Cll w A l) (hn : l.length ≤ 9223372036854775807) (hS : Reads w w.heap.size 2 SA set.length (pcs set)) (hsn : set.length ≤ 9223372036854775807) :
    Calls Try.prog 3 #[.agg #[.slice A l.length c], .int .u64 now, .agg #[.int .i64 sn, .int .u64 si], .agg #[.int .i64 kind, .int .i64 n, .int .u64 i, .int .u64 rnd, .int .u64 cid, .slice SA set.length sc, v6, v7, v8, v9, v10]] w (RetB w true) := by
  by_cases h3 : 300 < l.length
  · have hd : decide (300 < l.length) = true := by simp [h3]
    go_enter Try.func3, Try.ntmps3
    go_wp2_with fail
    with_reducible refine (heavy_b A c l _ hn).mono ?_
    rintro e w1 ⟨rfl, hb⟩
    obtain ⟨⟨d1, os1⟩, rfl⟩ := gw_of_below hb
    rw [hd]
    clear hb
    go_wp2_with fail
    with_reducible refine (awake_t _).mono ?_
    rintro e w2 ⟨rfl, hb⟩
    obtain ⟨⟨d2, os2⟩, rfl⟩ := gw_of_below hb
    go_wp2
    go_ret
    exact ⟨rfl, (by repeat (first | exact Below.refl _ _ | assumption | refine bel_al ?_ _ | refine bel_gw ?_ _ _ | refine bel_drew ?_ | refine bel_drewN ?_ _))⟩
  · have hd : decide (300 < l.length) = false := by simp [h3]
    have h3' : l.length ≤ 300 := by omega
    clear h3 hn
    by_cases hs1 : 100 < set.length
    · have hs2 : (100 : Int) < (set.length : Int) := by omega
      go_enter Try.func3, Try.ntmps3
      go_wp2_with fail
      with_reducible refine (heavy_b A c l _ (by omega)).mono ?_
      rintro e w1 ⟨rfl, hb⟩
      obtain ⟨⟨d1, os1⟩, rfl⟩ := gw_of_below hb
      rw [hd]
      clear hb
      go_wp2_with fail
      with_reducible refine (awake_t _).mono ?_
      rintro e w2 ⟨rfl, hb⟩
      obtain ⟨⟨d2, os2⟩, rfl⟩ := gw_of_below hb
      go_wp2
      go_ret
      exact ⟨rfl, (by repeat (first | exact Below.refl _ _ | assumption | refine bel_al ?_ _ | refine bel_gw ?_ _ _ | refine bel_drew ?_ | refine bel_drewN ?_ _))⟩
    · have hs2 : ¬ (100 : Int) < (set.length : Int) := by omega
      have hs3 : set.length ≤ 100 := by omega
      clear hs1 hsn
      go_enter Try.func3, Try.ntmps3
      go_wp2_with fail
      with_reducible refine (heavy_b A c l _ (by omega)).mono ?_
      rintro e w1 ⟨rfl, hb⟩
      obtain ⟨⟨d1, os1⟩, rfl⟩ := gw_of_below hb
      rw [hd]
      clear hb hd
      go_wp2_with fail
      with_reducible refine (regMay_b A c l _ (h.step (by repeat (first | exact Below.refl _ _ | assumption | refine bel_al ?_ _ | refine bel_gw ?_ _ _ | refine bel_drew ?_ | refine bel_drewN ?_ _))) (by omega)).mono ?_
      rintro e w2 ⟨rfl, hb⟩
      obtain ⟨⟨d2, os2⟩, rfl⟩ := gw_more hb
      clear hb
      cases hm : mayR l
      · clear hm
        go_wp2_with fail
        with_reducible refine (awake_t _).mono ?_
        rintro e w3 ⟨rfl, hb⟩
        obtain ⟨⟨d3, os3⟩, rfl⟩ := gw_more hb
        go_wp2
        go_ret
        exact ⟨rfl, (by repeat (first | exact Below.refl _ _ | assumption | refine bel_al ?_ _ | refine bel_gw ?_ _ _ | refine bel_drew ?_ | refine bel_drewN ?_ _))⟩
      · obtain ⟨o1, o2, o3, o4⟩ := hear_once (now := now) (sn := sn) (si := si) (kind := kind) (n := n) (i := i) (rnd := rnd) (cid := cid) (set := set) hm
        have ht := takenR_of hm
        have hl6 := ((mayR_iff l).1 hm).2.2
        have T1 : ∀ W, Cll W A l → Reads W W.heap.size 2 SA set.length (pcs set) → Calls Try.prog 11 #[.agg #[.slice A l.length c], .int .u64 now, .agg #[.int .i64 sn, .int .u64 si], .agg #[.int .i64 kind, .int .i64 n, .int .u64 i, .int .u64 rnd, .int .u64 cid, .slice SA set.length sc, v6, v7, v8, v9, v10]] W (RetH W (hearR l now sn si kind n i rnd cid set)) := fun W h1 h2 => by
          have := hear_s A c l now sn si kind n i rnd cid SA sc set v6 v7 v8 v9 v10 W h1 (by omega) h2 (by omega)
          rw [ht] at this; exact this
        obtain ⟨s, hs⟩ : ∃ s, s = (hearR l now sn si kind n i rnd cid set).1 := ⟨_, rfl⟩
        obtain ⟨q, hq⟩ : ∃ q, q = (hearR l now sn si kind n i rnd cid set).2 := ⟨_, rfl⟩
        rw [show hearR l now sn si kind n i rnd cid set = (s, q) by rw [hs, hq]] at T1
        rw [← hs] at o1 o2 o3 o4
        have hts := takenR_of o1
        have hs6 := ((mayR_iff s).1 o1).2.2
        obtain ⟨q2, hq2⟩ : ∃ q2, q2 = (hearR s now sn si kind n i rnd cid set).2 := ⟨_, rfl⟩
        have T2 : ∀ A' c' W, Cll W A' s → Reads W W.heap.size 2 SA set.length (pcs set) → Calls Try.prog 11 #[.agg #[.slice A' s.length c'], .int .u64 now, .agg #[.int .i64 sn, .int .u64 si], .agg #[.int .i64 kind, .int .i64 n, .int .u64 i, .int .u64 rnd, .int .u64 cid, .slice SA set.length sc, v6, v7, v8, v9, v10]] W (RetH W (s, q2)) := fun A' c' W h1 h2 => by
          have := hear_s A' c' s now sn si kind n i rnd cid SA sc set v6 v7 v8 v9 v10 W h1 (by omega) h2 (by omega)
          rw [hts, show hearR s now sn si kind n i rnd cid set = (s, q2) from Prod.ext o3 hq2.symm] at this; exact this
        have T3 : ∀ A' c' W, Cll W A' s → Calls Try.prog 9 #[.agg #[.slice A' s.length c']] W (RetB W true) := fun A' c' W h1 => by
          have := regMay_b A' c' s W h1 (by omega)
          rw [o1] at this; exact this
        have hq3 : (q2 == 3) = false := by rw [← hq2] at o4; simpa using o4
        have HLE := hide o2
        have HT1 := hide T1
        have HT2 := hide T2
        have HT3 := hide T3
        clear T1 T2 T3 hts ht o1 o2 o3 o4 hs hq hq2 hm
        go_wp2_with fail
        with_reducible refine (HT1.out _ (h.step (by repeat (first | exact Below.refl _ _ | assumption | refine bel_al ?_ _ | refine bel_gw ?_ _ _ | refine bel_drew ?_ | refine bel_drewN ?_ _))) ((Reads.below hS (by repeat (first | exact Below.refl _ _ | assumption | refine bel_al ?_ _ | refine bel_gw ?_ _ _ | refine bel_drew ?_ | refine bel_drewN ?_ _))).more (by simp [size_gwe]; omega))).mono ?_
        rintro e w3 ⟨v, rfl, hown, hb⟩
        simp only at hown ⊢
        obtain ⟨RA, RC, rfl, _, _⟩ := own_slice hown
        have s1 : Cll w3 RA s := Reads.of_own hown
        obtain ⟨⟨d3, os3⟩, rfl⟩ := gw_more hb
        clear hb hown
        go_wp2_with fail
        with_reducible refine (HT2.out _ _ _ (s1.step (by repeat (first | exact Below.refl _ _ | assumption | refine bel_al ?_ _ | refine bel_gw ?_ _ _ | refine bel_drew ?_ | refine bel_drewN ?_ _))) ((Reads.below hS (by repeat (first | exact Below.refl _ _ | assumption | refine bel_al ?_ _ | refine bel_gw ?_ _ _ | refine bel_drew ?_ | refine bel_drewN ?_ _))).more (by simp [size_gwe]; omega))).mono ?_
        rintro e w4 ⟨v, rfl, hown, hb⟩
        simp only at hown ⊢
        obtain ⟨TA, TC, rfl, _, _⟩ := own_slice hown
        have s2 : Cll w4 TA s := Reads.of_own hown
        obtain ⟨⟨d4, os4⟩, rfl⟩ := gw_of_below hb
        clear hb hown
        go_wp2_with fail
        with_reducible refine (refSame_t _ _ _ _ s _ (s1.step (by repeat (first | exact Below.refl _ _ | assumption | refine bel_al ?_ _ | refine bel_gw ?_ _ _ | refine bel_drew ?_ | refine bel_drewN ?_ _))) (s2.step (by repeat (first | exact Below.refl _ _ | assumption | refine bel_al ?_ _ | refine bel_gw ?_ _ _ | refine bel_drew ?_ | refine bel_drewN ?_ _))) (by omega)).mono ?_
        rintro e w5 ⟨rfl, hb⟩
        obtain ⟨⟨d5, os5⟩, rfl⟩ := gw_of_below hb
        clear hb
        go_wp2_with fail
        with_reducible refine (HT3.out _ _ _ (s1.step (by repeat (first | exact Below.refl _ _ | assumption | refine bel_al ?_ _ | refine bel_gw ?_ _ _ | refine bel_drew ?_ | refine bel_drewN ?_ _)))).mono ?_
        rintro e w6 ⟨rfl, hb⟩
        obtain ⟨⟨d6, os6⟩, rfl⟩ := gw_more hb
        clear hb
        have sa : Cll (gw ((gw ((gw (((w.alloc (bxR A l.length c)).alloc (bx sn si)).alloc (bxN kind n i rnd cid (.slice SA set.length sc) v6 v7 v8 v9 v10)) d3 os3).alloc (bxR RA s.length RC)) d4 os4).alloc (bxR TA s.length TC)) d6 os6) A l := h.step (by repeat (first | exact Below.refl _ _ | assumption | refine bel_al ?_ _ | refine bel_gw ?_ _ _ | refine bel_drew ?_ | refine bel_drewN ?_ _))
        have ss : Cll (gw ((gw ((gw (((w.alloc (bxR A l.length c)).alloc (bx sn si)).alloc (bxN kind n i rnd cid (.slice SA set.length sc) v6 v7 v8 v9 v10)) d3 os3).alloc (bxR RA s.length RC)) d4 os4).alloc (bxR TA s.length TC)) d6 os6) RA s := s1.step (by repeat (first | exact Below.refl _ _ | assumption | refine bel_al ?_ _ | refine bel_gw ?_ _ _ | refine bel_drew ?_ | refine bel_drewN ?_ _))
        have hB : Below w.heap.size w (gw ((gw ((gw (((w.alloc (bxR A l.length c)).alloc (bx sn si)).alloc (bxN kind n i rnd cid (.slice SA set.length sc) v6 v7 v8 v9 v10)) d3 os3).alloc (bxR RA s.length RC)) d4 os4).alloc (bxR TA s.length TC)) d6 os6) := (by repeat (first | exact Below.refl _ _ | assumption | refine bel_al ?_ _ | refine bel_gw ?_ _ _ | refine bel_drew ?_ | refine bel_drewN ?_ _))
        have q4 : (gw ((gw ((gw (((w.alloc (bxR A l.length c)).alloc (bx sn si)).alloc (bxN kind n i rnd cid (.slice SA set.length sc) v6 v7 v8 v9 v10)) d3 os3).alloc (bxR RA s.length RC)) d4 os4).alloc (bxR TA s.length TC)) d6 os6).cell? ⟨w.heap.size, 0, none⟩ = some (.slice A l.length c) := by simp [go_sem]
        have q7 : (gw ((gw ((gw (((w.alloc (bxR A l.length c)).alloc (bx sn si)).alloc (bxN kind n i rnd cid (.slice SA set.length sc) v6 v7 v8 v9 v10)) d3 os3).alloc (bxR RA s.length RC)) d4 os4).alloc (bxR TA s.length TC)) d6 os6).cell? ⟨w.heap.size + 1 + 1, 1, none⟩ = some (.int .i64 n) := by simp [go_sem]
        have q9 : (gw ((gw ((gw (((w.alloc (bxR A l.length c)).alloc (bx sn si)).alloc (bxN kind n i rnd cid (.slice SA set.length sc) v6 v7 v8 v9 v10)) d3 os3).alloc (bxR RA s.length RC)) d4 os4).alloc (bxR TA s.length TC)) d6 os6).cell? ⟨(gw (((w.alloc (bxR A l.length c)).alloc (bx sn si)).alloc (bxN kind n i rnd cid (.slice SA set.length sc) v6 v7 v8 v9 v10)) d3 os3).heap.size, 0, none⟩ = some (.slice RA s.length RC) := by simp [go_sem]
        haveI i4 : InW w.heap.size (gw ((gw ((gw (((w.alloc (bxR A l.length c)).alloc (bx sn si)).alloc (bxN kind n i rnd cid (.slice SA set.length sc) v6 v7 v8 v9 v10)) d3 os3).alloc (bxR RA s.length RC)) d4 os4).alloc (bxR TA s.length TC)) d6 os6) := inferInstance
        haveI i7 : InW (w.heap.size + 1 + 1) (gw ((gw ((gw (((w.alloc (bxR A l.length c)).alloc (bx sn si)).alloc (bxN kind n i rnd cid (.slice SA set.length sc) v6 v7 v8 v9 v10)) d3 os3).alloc (bxR RA s.length RC)) d4 os4).alloc (bxR TA s.length TC)) d6 os6) := inferInstance
        haveI i9 : InW (gw (((w.alloc (bxR A l.length c)).alloc (bx sn si)).alloc (bxN kind n i rnd cid (.slice SA set.length sc) v6 v7 v8 v9 v10)) d3 os3).heap.size (gw ((gw ((gw (((w.alloc (bxR A l.length c)).alloc (bx sn si)).alloc (bxN kind n i rnd cid (.slice SA set.length sc) v6 v7 v8 v9 v10)) d3 os3).alloc (bxR RA s.length RC)) d4 os4).alloc (bxR TA s.length TC)) d6 os6) := inferInstance
        go_wp2
        generalize gw ((gw ((gw (((w.alloc (bxR A l.length c)).alloc (bx sn si)).alloc (bxN kind n i rnd cid (.slice SA set.length sc) v6 v7 v8 v9 v10)) d3 os3).alloc (bxR RA s.length RC)) d4 os4).alloc (bxR TA s.length TC)) d6 os6 = W1 at *
        generalize (gw (((w.alloc (bxR A l.length c)).alloc (bx sn si)).alloc (bxN kind n i rnd cid (.slice SA set.length sc) v6 v7 v8 v9 v10)) d3 os3).heap.size = N9 at *
        clear s1 s2 h hS
        go_loopw [13, 15] (fun v i wr => ∃ (k : Nat) (L : List Cl), k ≤ l.length ∧ i = .int .i64 k ∧ L = lessR (l.take k) n ∧ OwnC wr W1.heap.size v L ∧ Below W1.heap.size W1 wr) (fun _ i _ => l.length - (intOf i).toNat)
        case atStart => exact ⟨0, [], Nat.zero_le _, rfl, rfl, World.ownsRow_nil _ _ _ _, Below.refl _ _⟩
        case round =>
          obtain ⟨k, L, hk, rfl, hL, hown, hbw⟩ := hrel
          have hLl : L.length ≤ k := by rw [hL]; exact less_take_len _ _ _
          have HL := hide hL
          have HB := hide hbw
          obtain ⟨⟨d, os⟩, rfl⟩ := gw_of_below hbw
          have HO := hide hown
          clear hL hown hbw
          by_cases hlt : k < l.length
          · obtain ⟨b, off, x, rfl, hb, hp, hx⟩ := Reads.atC sa hlt
            obtain ⟨xn, xi, xc, xr, xh, xg⟩ := x
            obtain ⟨g0, g1, g2, g3, g4, g5⟩ := hx
            simp only at g0 g1 g2 g3 g4 g5
            haveI : InW b W1 := ⟨hb⟩
            have HST := hide (less_take (n := n) hp)
            have i0 : (0 : Int) ≤ (k : Int) := by omega
            have i1 : (k : Int) < (l.length : Int) := by omega
            clear hp
            by_cases hxn : xn = n
            · have hxb : (xn != n) = false := by simp [hxn]
              have HST2 := hide (show lessR (l.take (k + 1)) n = L by rw [HST.out, ← HL.out]; simp [hxn])
              clear hxn
              go_wp2
              go_quiet (fail)
              go_wp2
              go_roundw
              case rel => exact ⟨k + 1, L, by omega, by go_num, HST2.out.symm, own_drewN HO.out _, below_drewN HB.out _⟩
              case measure => simp [intOf]; omega
            · have hxb : (xn != n) = true := by simpa using hxn
              have HST2 := hide (show lessR (l.take (k + 1)) n = L ++ [⟨xn, xi, xc, xr, xh, xg⟩] by rw [HST.out, ← HL.out]; simp [hxn])
              clear hxn
              go_wp2
              go_quiet (fail)
              go_wp2_with (at_builtin; go_must (refine wpList_append_any _ Try.okC (by rfl) (.tmp 78) (.tmp 84) (by rfl) W1.heap.size _ _ (ccs L) (by rfl) ((own_drewN HO.out _).alloc _) _ (some ⟨(gw W1 d os).heap.size, 0, none⟩) 1 1 (ccs [⟨xn, xi, xc, xr, xh, xg⟩]) (by rfl) (reads_oneC _ ⟨xn, xi, xc, xr, xh, xg⟩ _ rfl) (cc_one _) (by unfold maxLen; omega) (by omega) (by simp [size_gwe]; omega) ?_); intro v1 w4 hown1 hg1 hnil1 hat1)
              go_roundw
              case rel =>
                refine ⟨k + 1, L ++ [⟨xn, xi, xc, xr, xh, xg⟩], by omega, by go_num, HST2.out.symm, ?_, ?_⟩
                · rw [OwnC, List.length_append, ccs_app]; exact hown1
                · exact (bel_al (below_drewN HB.out _) _).grown hg1 (by simp [size_gwe]; omega) (fun g hg => (HO.out.lt g hg).1)
              case measure => simp [intOf]; omega
          · have hLn : L = lessR l n := by rw [HL.out, List.take_of_length_le (by omega)]
            have hown := HO.out
            obtain ⟨A3, c3, rfl, _, _⟩ := own_slice hown
            have s3 : Cll (gw W1 d os) A3 L := Reads.of_own hown
            have HLN := hide hLn
            have hL3 : L.length ≤ 300 := by omega
            have hBB := below_step hB HB.out
            clear hLn hown HO HL HB
            go_wp2
            clear hk hlt
            generalize hW2 : gw W1 d os = W2 at *
            have HW2 := hide hW2
            clear hW2
            go_loopw [14, 16] (fun v i wr => ∃ (k : Nat) (L : List Cl), k ≤ s.length ∧ i = .int .i64 k ∧ L = lessR (s.take k) n ∧ OwnC wr W2.heap.size v L ∧ Below W2.heap.size W2 wr) (fun _ i _ => s.length - (intOf i).toNat)
            case atStart => exact ⟨0, [], Nat.zero_le _, rfl, rfl, World.ownsRow_nil _ _ _ _, Below.refl _ _⟩
            case round =>
              obtain ⟨k, M, hk, rfl, hM, hown, hbw⟩ := hrel
              have hMl : M.length ≤ k := by rw [hM]; exact less_take_len _ _ _
              have HM := hide hM
              have HB := hide hbw
              obtain ⟨⟨d', os'⟩, rfl⟩ := gw_of_below hbw
              have HO := hide hown
              clear hM hown hbw
              have hWW := HW2.out
              subst hWW
              by_cases hlt : k < s.length
              · obtain ⟨b, off, x, rfl, hb, hp, hx⟩ := Reads.atC ss hlt
                obtain ⟨xn, xi, xc, xr, xh, xg⟩ := x
                obtain ⟨g0, g1, g2, g3, g4, g5⟩ := hx
                simp only at g0 g1 g2 g3 g4 g5
                haveI : InW b W1 := ⟨hb⟩
                have HST := hide (less_take (n := n) hp)
                have i0 : (0 : Int) ≤ (k : Int) := by omega
                have i1 : (k : Int) < (s.length : Int) := by omega
                clear hp
                by_cases hxn : xn = n
                · have hxb : (xn != n) = false := by simp [hxn]
                  have HST2 := hide (show lessR (s.take (k + 1)) n = M by rw [HST.out, ← HM.out]; simp [hxn])
                  clear hxn
                  go_wp2
                  go_quiet (fail)
                  go_wp2
                  go_roundw
                  case rel => exact ⟨k + 1, M, by omega, by go_num, HST2.out.symm, own_drewN HO.out _, below_drewN HB.out _⟩
                  case measure => simp [intOf]; omega
                · have hxb : (xn != n) = true := by simpa using hxn
                  have HST2 := hide (show lessR (s.take (k + 1)) n = M ++ [⟨xn, xi, xc, xr, xh, xg⟩] by rw [HST.out, ← HM.out]; simp [hxn])
                  clear hxn
                  go_wp2
                  go_quiet (fail)
                  go_wp2_with (at_builtin; go_must (refine wpList_append_any _ Try.okC (by rfl) (.tmp 104) (.tmp 110) (by rfl) (gw W1 d os).heap.size _ _ (ccs M) (by rfl) ((own_drewN HO.out _).alloc _) _ (some ⟨(gw (gw W1 d os) d' os').heap.size, 0, none⟩) 1 1 (ccs [⟨xn, xi, xc, xr, xh, xg⟩]) (by rfl) (reads_oneC _ ⟨xn, xi, xc, xr, xh, xg⟩ _ rfl) (cc_one _) (by unfold maxLen; omega) (by omega) (by simp [size_gwe]; omega) ?_); intro v1 w4 hown1 hg1 hnil1 hat1)
                  go_roundw
                  case rel =>
                    refine ⟨k + 1, M ++ [⟨xn, xi, xc, xr, xh, xg⟩], by omega, by go_num, HST2.out.symm, ?_, ?_⟩
                    · rw [OwnC, List.length_append, ccs_app]; exact hown1
                    · exact (bel_al (below_drewN HB.out _) _).grown hg1 (by simp [size_gwe]; omega) (fun g hg => (HO.out.lt g hg).1)
                  case measure => simp [intOf]; omega
              · have hMn : M = L := by rw [HM.out, List.take_of_length_le (by omega), HLN.out, HLE.out]
                subst hMn
                have hown := HO.out
                obtain ⟨A4, c4, rfl, _, _⟩ := own_slice hown
                have s4 : Cll (gw (gw W1 d os) d' os') A4 M := Reads.of_own hown
                clear hown HO
                go_wp2_with fail
                with_reducible refine (refSame_t _ _ _ _ M _ (s3.step (by repeat (first | exact Below.refl _ _ | assumption | refine bel_al ?_ _ | refine bel_gw ?_ _ _ | refine bel_drew ?_ | refine bel_drewN ?_ _))) s4 (by omega)).mono ?_
                rintro e w8 ⟨rfl, hb⟩
                clear HM
                replace hBB := below_step (below_step hBB HB.out) hb
                clear hb
                go_wp2_with fail
                with_reducible refine (awake_t _).mono ?_
                rintro e w9 ⟨rfl, hb⟩
                go_wp2
                go_ret
                exact ⟨rfl, below_step hBB hb⟩
end Go.Proofs.Ytoajcdcdbkjefaa
