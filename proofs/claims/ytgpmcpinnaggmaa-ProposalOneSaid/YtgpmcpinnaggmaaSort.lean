/-
  Contracts: slices.Compact, Clone and Clip at lives, proc.Sorted.
-/
import Derived.Test.YtgpmcpinnaggmaaRow
namespace Go.Proofs.Ytgpmcpinnaggmaa
set_option linter.unusedSimpArgs false
set_option linter.unusedVariables false
set_option linter.unusedSectionVars false
open Go.RowKit Go.Sort Go.Lib

theorem get!_of {l : List (Int × Int)} {i : Nat} (h : i < l.length) : l[i]? = some (l.toArray[i]!) := by simp [h]
theorem get!_arr {d : Array (Int × Int)} {i : Nat} (h : i < d.size) : d.toList[i]? = some (d[i]!) := by simp [h]
theorem compact_short {l : List (Int × Int)} (h : l.length < 2) : compact l = l := compact_all l fun j hj => keeps_lt_one _ j (by omega)

set_option maxHeartbeats 2000000 in
theorem compact_own (base g cap : Nat) (l : List (Int × Int)) (w : World) (h : OwnP w base (.slice (some ⟨g, 0, none⟩) l.length cap) l) (hn : l.length ≤ 1000000) (hc : l.length ≤ cap) (hcap : cap ≤ maxLen) :
    Calls Try.prog 109 #[.slice (some ⟨g, 0, none⟩) l.length cap] w fun e w' => e = .returned (.slice (some ⟨g, 0, none⟩) (compact l).length cap) ∧ OwnP w' base (.slice (some ⟨g, 0, none⟩) (compact l).length cap) (compact l) ∧ w.grownBy w' (some g) := by
  unfold maxLen at hcap
  by_cases h2 : l.length < 2
  · have hz := compact_short h2
    rw [hz]
    have HO := hide h
    clear h hz
    go_enter Try.func109, Try.ntmps109
    go_wp2
    go_ret
    exact ⟨rfl, HO.out, World.grownBy.refl _ _⟩
  · have HO := hide h
    clear h
    have hb8 : decide ((l.length : Int) < 2) = false := by simp; omega
    go_enter Try.func109, Try.ntmps109
    go_wp2
    go_loopw [3] (fun s3 wr => ∃ k q : Nat, 1 ≤ k ∧ k ≤ l.length ∧ s3 = .int .i64 k ∧ wr = w.drewN q ∧ ∀ j, j < k → keeps l.toArray j = true) (fun s3 _ => l.length - (intOf s3).toNat)
    case atStart => exact ⟨1, 0, Nat.le_refl _, by omega, rfl, rfl, keeps_lt_one _⟩
    case round =>
      obtain ⟨k, q, hk1, hk, rfl, rfl, hall⟩ := hrel
      have HA := hide hall
      clear hall
      by_cases hlt : k < l.length
      · obtain ⟨c1, c2⟩ := own_at2 HO.out (get!_of hlt)
        obtain ⟨b1, b2⟩ := own_at2 HO.out (get!_of (l := l) (i := k - 1) (by omega))
        generalize hx : l.toArray[k]! = x at c1 c2
        generalize hy : l.toArray[k - 1]! = y at b1 b2
        obtain ⟨xn, xi⟩ := x
        obtain ⟨yn, yi⟩ := y
        simp only at c1 c2 b1 b2
        have HX := hide hx
        have HY := hide hy
        clear hx hy
        have i0 : (0 : Int) ≤ (k : Int) := by omega
        have i1 : (k : Int) < (l.length : Int) := by omega
        have i2 : (0 : Int) ≤ (k : Int) - 1 := by omega
        have i3 : (k : Int) - 1 < (l.length : Int) := by omega
        have i4 : ((k : Int) - 1).toNat = k - 1 := by omega
        have i5 : (1 : Int) ≤ (k : Int) := by omega
        cases he : eqP xn xi yn yi
        · have H := hide (show ∀ j, j < k + 1 → keeps l.toArray j = true by
            intro j hj
            by_cases e : j = k
            · subst e
              refine keeps_pos ?_
              rw [HX.out, HY.out]; intro h'; rw [← eqP_iff, he] at h'; cases h'
            · exact HA.out j (by omega))
          go_wp2
          go_quiet (fail)
          go_wp2
          go_roundw
          case rel => exact ⟨k + 1, _, by omega, by omega, by go_num, rfl, H.out⟩
          case measure => simp [intOf]; omega
        · have HD := hide (show keeps l.toArray k = false by
            refine keeps_neg (by omega) ?_
            rw [HX.out, HY.out]; exact eqP_iff.1 he)
          have n1 : ¬ cap = k := by omega
          have n2 : ¬ k = cap := by omega
          have n3 : k ≤ cap := by omega
          go_wp2
          go_quiet (fail)
          go_wp2
          clear c1 c2 b1 b2
          go_loopw [3, 5] (fun s3 s5 wr => ∃ (kk k2 : Nat) (dk : Array (Int × Int)), s3 = .int .i64 kk ∧ s5 = .int .i64 k2 ∧ 1 ≤ k2 ∧ k + k2 ≤ l.length ∧ wr.ownsRow base 26 2 (.slice (some ⟨g, 0, none⟩) l.length cap) l.length (pcs dk.toList) ∧ w.grownBy wr (some g) ∧ CompInv l.toArray (k + k2) kk dk) (fun _ s5 _ => l.length - (intOf s5).toNat)
          case atStart => exact ⟨k, 1, l.toArray, rfl, rfl, Nat.le_refl _, by omega, own_drewN HO.out _, ⟨rfl, rfl, rfl, Nat.le_refl _, fun _ _ _ => rfl⟩, CompInv.start HA.out HD.out⟩
          case round =>
            obtain ⟨kk, k2, dk, rfl, rfl, h1, hle, hown, hgr, hI⟩ := hrel
            have hkk := hI.lt
            have hds := hI.size
            have hds' : dk.toList.length = l.length := by simpa using hds
            have HW := hide hown
            have HG := hide hgr
            have HI := hide hI
            have HS := hide hds
            have HS' := hide hds'
            clear hown hgr hI hds hds'
            by_cases hlt2 : k + k2 < l.length
            · have e1 := own_at2 HW.out (get!_arr (d := dk) (i := k + k2) (by rw [HS.out]; simpa using hlt2))
              have e2 := own_at2 HW.out (get!_arr (d := dk) (i := k + k2 - 1) (by rw [HS.out]; simp; omega))
              have e3 := own_at2 HW.out (get!_arr (d := dk) (i := kk) (by rw [HS.out]; simp; omega))
              have f1 := HW.out.frozenAt (kk * 2)
              have f2 := HW.out.frozenAt (kk * 2 + 1)
              rw [HI.out.high (k + k2) (by omega), show (k + k2) * 2 = k * 2 + k2 * 2 by omega] at e1
              rw [HI.out.high (k + k2 - 1) (by omega), show (k + k2 - 1) * 2 = k * 2 + (k2 - 1) * 2 by omega] at e2
              generalize hu : l.toArray[k + k2]! = u at e1
              generalize hv : l.toArray[k + k2 - 1]! = v at e2
              generalize dk[kk]! = z at e3
              obtain ⟨un, ui⟩ := u
              obtain ⟨vn, vi⟩ := v
              obtain ⟨e11, e12⟩ := e1
              obtain ⟨e21, e22⟩ := e2
              obtain ⟨e31, e32⟩ := e3
              simp only at e11 e12 e21 e22
              have HU := hide hu
              have HV := hide hv
              clear hu hv
              have j0 : (0 : Int) ≤ (k2 : Int) := by omega
              have j1 : (k2 : Int) < (l.length : Int) - (k : Int) := by omega
              have j2 : (0 : Int) ≤ (k2 : Int) - 1 := by omega
              have j3 : (k2 : Int) - 1 < (l.length : Int) - (k : Int) := by omega
              have j4 : ((k2 : Int) - 1).toNat = k2 - 1 := by omega
              have j5 : (1 : Int) ≤ (k2 : Int) := by omega
              have j6 : k2 < l.length - k := by omega
              have j7 : (0 : Int) ≤ (kk : Int) := by omega
              have j8 : (kk : Int) < (l.length : Int) := by omega
              cases he2 : eqP un ui vn vi
              · have HK := hide (show CompInv l.toArray (k + (k2 + 1)) (kk + 1) (dk.setIfInBounds kk (un, ui)) by
                  have := HI.out.keep (by simpa using hlt2) (keeps_pos (by rw [HU.out, HV.out]; intro h'; rw [← eqP_iff, he2] at h'; cases h'))
                  rw [HU.out] at this; exact this)
                go_wp2
                go_quiet (fail)
                go_wp2
                go_roundw
                case rel =>
                  obtain ⟨s1, s2⟩ := own_set2 (own_drewN HW.out nq) kk un ui
                  refine ⟨kk + 1, k2 + 1, dk.setIfInBounds kk (un, ui), by go_num, by go_num, by omega, by omega, ?_, ?_, HK.out⟩
                  · rw [Array.toList_setIfInBounds]; exact s1
                  · exact HG.out.trans ⟨s2.os, s2.tape, s2.output, s2.size, s2.block⟩
                case measure => simp [intOf]; omega
              · have HK := hide (show CompInv l.toArray (k + (k2 + 1)) kk dk from HI.out.skip (keeps_neg (by omega) (by rw [HU.out, HV.out]; exact eqP_iff.1 he2)))
                go_wp2
                go_quiet (fail)
                go_wp2
                go_roundw
                case rel => exact ⟨kk, k2 + 1, dk, rfl, by go_num, by omega, by omega, own_drewN HW.out _, HG.out.trans ⟨rfl, rfl, rfl, Nat.le_refl _, fun _ _ _ => rfl⟩, HK.out⟩
                case measure => simp [intOf]; omega
            · have hend : k + k2 = l.length := by omega
              have HF := hide (show compact l = dk.toList.take kk ∧ (compact l).length = kk by
                have hI := HI.out
                rw [hend] at hI
                have hlen : (compact l).length = kk := hI.len
                refine ⟨?_, hlen⟩
                apply List.ext_getElem?
                intro j
                rw [List.getElem?_take]
                split
                · rename_i hj
                  rw [show dk.toList[j]? = some dk[j]! from get!_arr (by have := HS.out; simp at this; omega)]
                  exact hI.low j hj
                · exact List.getElem?_eq_none (by omega))
              have hcl : ∀ ty, (Builtin.clear_ #[27] ty #[.slice (some ⟨g, kk * 2, none⟩) (l.length - kk) (cap - kk)]).run Try.prog wr = .ok (.tuple #[]) (wr.setCells g (kk * 2) (Builtin.zeroCells #[.int .i64 0, .int .u64 0] (l.length - kk)).toList) := fun ty =>
                run_clear_cells wr 27 26 ty (.agg #[.int .i64 0, .int .u64 0]) Try.underlying27 (fun _ => by kernel_rfl) (by simp [Value.cells, Value.oneCell']) (by simp [Value.cells]) g (kk * 2) (l.length - kk) (cap - kk)
                  (fun j hj => by
                    have hj' : j < (l.length - kk) * 2 := hj
                    rw [HW.out.cellAt _ (by omega), List.getElem?_eq_getElem (by rw [pcs_len]; have := HS'.out; omega)]; rfl)
                  (fun j hj => HW.out.frozenAt _)
              have HE := hide hend
              have m0 : ¬ cap = kk := by omega
              have m1 : kk ≤ cap := by omega
              have m2 : (0 : Int) ≤ (kk : Int) := by omega
              have m3 : (kk : Int) ≤ (l.length : Int) := by omega
              have m4 : kk ≤ l.length := by omega
              clear hend
              go_wp2
              go_ret
              obtain ⟨s1, s2⟩ := own_setCells (Builtin.zeroCells #[.int .i64 0, .int .u64 0] (l.length - kk)).toList (kk * 2) wr _ (own_take HW.out m4) (Nat.le_refl _)
              refine ⟨?_, ?_, HG.out.trans s2⟩
              · rw [HF.out.2]; rfl
              · rw [OwnP, HF.out.2, HF.out.1, pcs, ← flat_take pc_len]; exact s1
      · have H := hide (show compact l = l from compact_all l fun j hj => HA.out j (by omega))
        go_wp2
        go_ret
        refine ⟨?_, ?_, ?_⟩
        · rw [H.out]; rfl
        · rw [OwnP, H.out]; exact own_drewN HO.out _
        · exact ⟨rfl, rfl, rfl, Nat.le_refl _, fun _ _ _ => rfl⟩


/-- one life in a new block -/
theorem reads_one (w : World) (a b : Int) : Reads (w.alloc (.cells #[.int .i64 a, .int .u64 b] 26)) (w.heap.size + 1) 2 (some ⟨w.heap.size, 0, none⟩) 1 (pcs [(a, b)]) := by
  have := Reads.of_own (World.ownsRow_lit (base := 0) (e := 26) (size := 2) w #[.int .i64 a, .int .u64 b] 1 (Nat.zero_le _) (by unfold maxLen; omega) rfl)
  simpa [pcs, pc] using this
theorem own_empty (w : World) : (w.alloc (.cells #[] 26)).ownsRow w.heap.size 26 2 (.slice (some ⟨w.heap.size, 0, none⟩) 0 0) 0 [] := World.ownsRow_lit w #[] 0 (Nat.le_refl _) (by unfold maxLen; omega) rfl
set_option maxHeartbeats 400000 in
/-- the library's Clone: nil of nil, else a new row -/
theorem clone_any (A : Option Addr) (c : Nat) (l : List (Int × Int)) (w : World) (hR : Reads w w.heap.size 2 A l.length (pcs l)) (hn : l.length ≤ 1000000) :
    Calls Try.prog 105 #[.slice A l.length c] w fun e w' => ∃ v, e = .returned v ∧ OwnP w' w.heap.size v l ∧ Below w.heap.size w w' := by
  cases A with
  | none =>
    have h0 : l.length = 0 := by
      rcases Nat.eq_zero_or_pos l.length with h | h
      · exact h
      · obtain ⟨_, _, h', _⟩ := hR.2 h; cases h'
    have hl : l = [] := List.eq_nil_of_length_eq_zero h0
    subst hl
    clear hR h0
    have hnil : ∀ W c, (binOp .eql 27 (.slice none 0 c) (.slice none 0 0)).run Try.prog W = .ok (.bool true) W := fun W c => Lib.run_eql_slice_nil W 27 26 none 0 c 0 0 Try.underlying27
    rw [show ([] : List (Int × Int)).length = 0 from rfl]
    go_enter Try.func105, Try.ntmps105
    go_wp2
    go_ret
    exact ⟨_, rfl, World.ownsRow_nil _ _ _ _, Below.refl _ _⟩
  | some ad =>
    have hnil : ∀ W, (binOp .eql 27 (.slice (some ad) l.length c) (.slice none 0 0)).run Try.prog W = .ok (.bool false) W := fun W => Lib.run_eql_slice_nil W 27 26 (some ad) l.length c 0 0 Try.underlying27
    go_enter Try.func105, Try.ntmps105
    go_wp2_with (at_builtin; go_must (refine wpList_append_any _ Try.okP (by rfl) (.tmp 5) (.tmp 6) (by rfl) w.heap.size (.slice (some ⟨w.heap.size, 0, none⟩) 0 0) 0 [] (by rfl) (own_empty w) w.heap.size (some ad) l.length c (pcs l) (by rfl) (hR.alloc (Nat.le_refl _) _) (pc_one l) (by unfold maxLen; omega) (by omega) (by simp) ?_); intro v1 w1 hown1 hg1 hnil1 hat1)
    go_ret
    rw [Nat.zero_add, List.nil_append] at hown1
    exact ⟨_, rfl, hown1, (below_alloc w _).grown hg1 (by simp) (by simp [Value.ownBlock])⟩

set_option maxHeartbeats 400000 in
theorem clip_any (A : Option Addr) (n c : Nat) (w : World) (_hn : n ≤ 1000000) (hc : n ≤ c) (_hm : c ≤ maxLen) :
    Calls Try.prog 108 #[.slice A n c] w fun e w' => e = .returned (.slice A n n) ∧ w = w' := by
  go_enter Try.func108, Try.ntmps108
  go_wp2
  go_ret
  exact ⟨rfl, rfl⟩
set_option maxHeartbeats 400000 in
theorem compact_few (A : Option Addr) (n c : Nat) (w : World) (hn : n < 2) :
    Calls Try.prog 109 #[.slice A n c] w fun e w' => e = .returned (.slice A n c) ∧ w = w' := by
  have hb : decide ((n : Int) < 2) = true := by simp; omega
  go_enter Try.func109, Try.ntmps109
  go_wp2
  go_ret
  exact ⟨rfl, rfl⟩

/-- the lives in their order, each once -/
def sortedL (l : List (Int × Int)) : List (Int × Int) := compact (sortL l)
theorem compact_len (l : List (Int × Int)) : (compact l).length ≤ l.length := by
  unfold compact compactUpTo
  rw [List.length_map]
  exact Nat.le_trans (List.length_filter_le _ _) (by simp)
theorem sortedL_len (l : List (Int × Int)) : (sortedL l).length ≤ l.length := by
  have := compact_len (sortL l); rw [sortL_len] at this; exact this

set_option maxHeartbeats 400000 in
theorem sorted_any (A : Option Addr) (c : Nat) (l : List (Int × Int)) (w : World) (hR : Reads w w.heap.size 2 A l.length (pcs l)) (hn : l.length ≤ 1000000) :
    Calls Try.prog 67 #[.slice A l.length c] w fun e w' => ∃ A', e = .returned (.slice A' (sortedL l).length (sortedL l).length) ∧ Reads w' w'.heap.size 2 A' (sortedL l).length (pcs (sortedL l)) ∧ Below w.heap.size w w' := by
  go_enter Try.func67, Try.ntmps67
  go_wp2_with fail
  refine (clone_any A c l w hR hn).mono ?_
  rintro e w1 ⟨v, rfl, hown, hb1⟩
  rcases hown.2 with ⟨rfl, h0⟩ | ⟨g, cap, cur, rfl, hbase, hg, hlc, hcm, hcs, htake⟩
  · have hl : l = [] := List.eq_nil_of_length_eq_zero h0
    subst hl
    have H := hide (show sortedL [] = [] by unfold sortedL; rw [show sortL [] = [] by simp [sortL]]; exact compact_short (by simp))
    go_wp2_with (first | (go_at_call 106; refine (sortFunc_none _ _ _ _).mono ?_; rintro e w' ⟨rfl, rfl⟩) | (go_at_call 109; refine (compact_few _ _ _ _ (by omega)).mono ?_; rintro e w' ⟨rfl, rfl⟩) | (go_at_call 108; refine (clip_any _ _ _ _ (by omega) (by omega) (by unfold maxLen; omega)).mono ?_; rintro e w' ⟨rfl, rfl⟩))
    go_ret
    rw [H.out]
    exact ⟨none, rfl, Reads.none_, hb1⟩
  · have hlt : g < w1.heap.size := by
      rcases Nat.lt_or_ge g w1.heap.size with hlt | hge
      · exact hlt
      · rw [Array.getElem?_eq_none hge] at hg; cases hg
    have HO := hide hown
    clear hg hcs htake hown
    go_wp2_with fail
    refine (sortFunc_own w.heap.size g cap l w1 HO.out hlt hn).mono ?_
    rintro e w2 ⟨rfl, hown2, hg2⟩
    have hsl := sortL_len l
    have hcl := compact_len (sortL l)
    rw [hsl] at hcl
    have HO2 := hide hown2
    have HG2 := hide hg2
    have HS := hide hsl
    have C := compact_own w.heap.size g cap (sortL l) w2 HO2.out (by omega) (by omega) hcm
    rw [HS.out] at C
    have HC := hide C
    clear C hown2 hg2 hsl
    go_wp2_with fail
    refine HC.out.mono ?_
    rintro e w3 ⟨rfl, hown3, hg3⟩
    have HO3 := hide hown3
    have HG3 := hide hg3
    clear hown3 hg3
    go_wp2_with fail
    refine (clip_any _ _ _ _ (by omega) (by omega) hcm).mono ?_
    rintro e w4 ⟨rfl, rfl⟩
    go_wp2
    go_ret
    refine ⟨some ⟨g, 0, none⟩, rfl, Reads.of_own HO3.out, ?_⟩
    exact (hb1.grown HG2.out hb1.size (fun k hk => by injection hk with hk; omega)).grown HG3.out (Nat.le_trans hb1.size HG2.out.size) (fun k hk => by injection hk with hk; omega)

end Go.Proofs.Ytgpmcpinnaggmaa
