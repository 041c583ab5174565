/-
  Layer 8: the law NoticeUnlike: true for every input.
-/
import Derived.Test.YtgpmcpinnaggmaaLNBack
namespace Go.Proofs.Ytgpmcpinnaggmaa
set_option linter.unusedSimpArgs false
set_option linter.unusedVariables false
set_option linter.unusedSectionVars false
open Go.RowKit

theorem strOfNums_inj {a b : List Int} (ha : bOK a) (hb : bOK b) (h : (strOfNums a).toList = (strOfNums b).toList) : a = b := by
  have h1 : a.map (fun n => UInt8.ofNat n.toNat) = b.map (fun n => UInt8.ofNat n.toNat) := by
    rw [← strOfNums_data, ← strOfNums_data, ← ByteArray.toList_eq, ← ByteArray.toList_eq, h]
  clear h
  induction a generalizing b with
  | nil => cases b with
    | nil => rfl
    | cons y b => simp at h1
  | cons x a ih => cases b with
    | nil => simp at h1
    | cons y b =>
      simp only [List.map_cons, List.cons.injEq] at h1
      obtain ⟨x0, x1⟩ := ha x (by simp)
      obtain ⟨y0, y1⟩ := hb y (by simp)
      have h3 := congrArg UInt8.toNat h1.1
      simp only [UInt8.toNat_ofNat'] at h3
      rw [Nat.mod_eq_of_lt (by omega), Nat.mod_eq_of_lt (by omega)] at h3
      have e : x = y := by omega
      rw [e, ih ha.tail hb.tail h1.2]
theorem nt_enc_eq {x y : Nt} (hm : x.mayB = true) (hm' : y.mayB = true) (hf : NtF x) (hf' : NtF y) : x.enc = y.enc ↔ Nt.eqB x y = true := by
  constructor
  · intro h
    have h1 := decN_back x hm hf
    have h2 := decN_back y hm' hf'
    rw [h, h2] at h1
    injection h1 with h1
    have : Nt.eqB x.bare y.bare = true := by rw [← h1]; simp [Nt.eqB, eqP, Vw.eqB]
    exact this
  · intro h
    have : x.bare = y.bare := by
      obtain ⟨k, n, i, rd, cd, SA, sc, st, ⟨r, vn, vi, MA, mc, ms, UA, uc, us⟩⟩ := x
      obtain ⟨k', n', i', rd', cd', SA', sc', st', ⟨r', vn', vi', MA', mc', ms', UA', uc', us'⟩⟩ := y
      simp [Nt.eqB, eqP, Vw.eqB] at h
      simp [Nt.bare, Nt.at]
      simp_all
    rw [← bare_enc x, this, bare_enc]
set_option maxRecDepth 100000 in
set_option maxHeartbeats 4000000 in
theorem unlikeTT (x y : Nt) (w : World) (okx : x.Ok w) (oky : y.Ok w) (hx : x.Wf) (hy : y.Wf) (hhx : hvN x = false) (hhy : hvN y = false) (hmx : x.mayB = true) (hmy : y.mayB = true) :
    Calls Try.prog 4 #[x.v, y.v] w (RetB w true) := by
  have TA := hide (fun W => awake8_t W)
  have TH := hide (fun W => heavy8_s x W)
  have TH' := hide (fun W => heavy8_s y W)
  rw [hhx] at TH
  rw [hhy] at TH'
  obtain ⟨l1, l2, l3⟩ : x.st.length ≤ 300 ∧ x.vw.ms.length ≤ 300 ∧ x.vw.us.length ≤ 300 := by unfold hvN at hhx; simp at hhx; omega
  obtain ⟨l4, l5, l6⟩ : y.st.length ≤ 300 ∧ y.vw.ms.length ≤ 300 ∧ y.vw.us.length ≤ 300 := by unfold hvN at hhy; simp at hhy; omega
  have TE := hide (fun W (h : x.Ok W) => encode_s x W h (NtF.of hx) ⟨l1, l2, l3⟩ hmx)
  have TE' := hide (fun W (h : y.Ok W) => encode_s y W h (NtF.of hy) ⟨l4, l5, l6⟩ hmy)
  have HX := hide okx
  have HY := hide oky
  have HK1 := hide (enc_ok x hmx (NtF.of hx))
  have HK2 := hide (enc_ok y hmy (NtF.of hy))
  have hl1 := enc_len x hmx
  have hl2 := enc_len y hmy
  have T3 := hide (fun W (h : x.Ok W) (h' : y.Ok W) => nsame_s x y W h h')
  have T4 := hide (fun W (h : x.Ok W) (h' : y.Ok W) => refNSame_s x y W h h')
  have hse : (((strOfNums x.enc).toList == (strOfNums y.enc).toList) == Nt.eqB x y) = true := by
    have h := nt_enc_eq hmx hmy (NtF.of hx) (NtF.of hy)
    cases hq : Nt.eqB x y
    · rw [hq] at h
      have : ¬ (strOfNums x.enc).toList = (strOfNums y.enc).toList := fun h' => by
        have := h.1 (strOfNums_inj HK1.out HK2.out h'); cases this
      simp [this]
    · rw [h.2 hq]; simp
  generalize Nt.eqB x y = b2 at T3 T4 hse
  generalize x.enc = en at TE hl1 HK1 hse
  generalize y.enc = en' at TE' hl2 HK2 hse
  have e2 : (b2 == b2) = true := by simp
  obtain ⟨k, n, i, rd, cd, SA, sc, st, ⟨r, vn, vi, MA, mc, ms, UA, uc, us⟩⟩ := x
  obtain ⟨k', n', i', rd', cd', SA', sc', st', ⟨r', vn', vi', MA', mc', ms', UA', uc', us'⟩⟩ := y
  unfold Nt.v at *
  simp only at *
  clear okx oky hx hy hhx hhy hmx hmy l1 l2 l3 l4 l5 l6
  go_enter Try.func4, Try.ntmps4
  go_wp2_with fail
  (with_reducible refine (TH.out _).mono ?_)
  rintro e w1 ⟨rfl, hb⟩
  have hB := below_step (show Below w.heap.size w ((w.alloc (bxN k n i rd cd SA st.length sc r vn vi MA ms.length mc UA us.length uc)).alloc (bxN k' n' i' rd' cd' SA' st'.length sc' r' vn' vi' MA' ms'.length mc' UA' us'.length uc')) from (by repeat (first | exact Below.refl _ _ | assumption | refine bel_al ?_ _ | refine bel_gw ?_ _ _ | refine bel_drew ?_ | refine bel_drewN ?_ _))) hb
  have p0 := ((boxTop w (csN k n i rd cd SA st.length sc r vn vi MA ms.length mc UA us.length uc) 34).alloc' (bxN k' n' i' rd' cd' SA' st'.length sc' r' vn' vi' MA' ms'.length mc' UA' us'.length uc')).step hb
  have p1 := (boxTop (w.alloc (bxN k n i rd cd SA st.length sc r vn vi MA ms.length mc UA us.length uc)) (csN k' n' i' rd' cd' SA' st'.length sc' r' vn' vi' MA' ms'.length mc' UA' us'.length uc') 34).step hb
  rw [World.size_alloc] at p1
  haveI := p0
  haveI := p1
  clear hb TH
  go_wp2_with fail
  (with_reducible refine (TH'.out _).mono ?_)
  rintro e w2 ⟨rfl, hb⟩
  replace p0 := p0.step hb
  replace p1 := p1.step hb
  replace hB := below_step hB hb
  haveI := p0
  haveI := p1
  clear hb TH'
  go_wp2_with fail
  (with_reducible refine (TE.out _ (HX.out.step hB)).mono ?_)
  rintro e w4 ⟨v4, rfl, ho4, hb⟩
  obtain ⟨A4, c4, rfl, _, _⟩ := own_slice ho4
  replace p0 := p0.step hb
  replace p1 := p1.step hb
  replace hB := below_step hB hb
  have HO4 := hide ho4
  haveI := p0
  haveI := p1
  clear hb TE ho4
  go_wp2_with fail
  (with_reducible refine (TE'.out _ (HY.out.step hB)).mono ?_)
  rintro e w5 ⟨v5, rfl, ho5, hb⟩
  obtain ⟨A5, c5, rfl, _, _⟩ := own_slice ho5
  replace p0 := p0.step hb
  replace p1 := p1.step hb
  replace hB := below_step hB hb
  have HO5 := hide (own_below HO4.out hb (Nat.le_refl _))
  have hcv := fun d os => conv_reads (w := gw w5 d os) (c := c4) (Reads.below (Reads.of_own HO5.out) (below_gw w5 d os))
  have hcv2 := fun d os => conv_reads (w := gw w5 d os) (c := c5) (Reads.below (Reads.of_own ho5) (below_gw w5 d os))
  haveI := p0
  haveI := p1
  haveI : InW w.heap.size w5 := ⟨p0.lt⟩
  haveI : InW (w.heap.size + 1) w5 := ⟨p1.lt⟩
  clear hb TE' ho5 HO4 HO5 p0 p1
  go_wp2_with fail
  (refine wp_region_gw (by kernel_rfl) (by kernel_rfl) ?_; (repeat (go_big_quiet_step ((first | (go_at_call 15; with_reducible exact calls_gw (T4.out _ (HX.out.step (below_step hB (by repeat (first | exact Below.refl _ _ | assumption | refine bel_al ?_ _ | refine bel_gw ?_ _ _ | refine bel_drew ?_ | refine bel_drewN ?_ _)))) (HY.out.step (below_step hB (by repeat (first | exact Below.refl _ _ | assumption | refine bel_al ?_ _ | refine bel_gw ?_ _ _ | refine bel_drew ?_ | refine bel_drewN ?_ _)))))) | (go_at_call 18; with_reducible exact calls_gw (T3.out _ (HX.out.step (below_step hB (by repeat (first | exact Below.refl _ _ | assumption | refine bel_al ?_ _ | refine bel_gw ?_ _ _ | refine bel_drew ?_ | refine bel_drewN ?_ _)))) (HY.out.step (below_step hB (by repeat (first | exact Below.refl _ _ | assumption | refine bel_al ?_ _ | refine bel_gw ?_ _ _ | refine bel_drew ?_ | refine bel_drewN ?_ _)))))) | (go_at_call 12; with_reducible exact calls_gw (TA.out _)))))); refine wpQuiet_nil ?_; intro _ hw'; obtain ⟨⟨dq, osq⟩, hw''⟩ := hw'; subst hw'')
  go_wp2
  go_ret
  exact ⟨rfl, below_step hB (by repeat (first | exact Below.refl _ _ | assumption | refine bel_al ?_ _ | refine bel_gw ?_ _ _ | refine bel_drew ?_ | refine bel_drewN ?_ _))⟩
set_option maxRecDepth 100000 in
set_option maxHeartbeats 4000000 in
theorem unlikeTF (x y : Nt) (w : World) (okx : x.Ok w) (oky : y.Ok w) (hx : x.Wf) (hy : y.Wf) (hhx : hvN x = false) (hhy : hvN y = false) (hmx : x.mayB = true) (hmy : y.mayB = false) :
    Calls Try.prog 4 #[x.v, y.v] w (RetB w true) := by
  have TA := hide (fun W => awake8_t W)
  have TH := hide (fun W => heavy8_s x W)
  have TH' := hide (fun W => heavy8_s y W)
  rw [hhx] at TH
  rw [hhy] at TH'
  obtain ⟨l1, l2, l3⟩ : x.st.length ≤ 300 ∧ x.vw.ms.length ≤ 300 ∧ x.vw.us.length ≤ 300 := by unfold hvN at hhx; simp at hhx; omega
  have TE := hide (fun W (h : x.Ok W) => encode_s x W h (NtF.of hx) ⟨l1, l2, l3⟩ hmx)
  have TE' : Hid (∀ W, y.Ok W → Calls Try.prog 17 #[y.v] W fun e w' => e = .returned (.tuple #[.slice none 0 0, .int .i64 3]) ∧ Below W.heap.size W w') := hide (fun W h => encode_no y.k y.n y.i y.rd y.cd y.SA y.sc y.st y.vw.r y.vw.n y.vw.i y.vw.MA y.vw.mc y.vw.ms y.vw.UA y.vw.uc y.vw.us W h hmy)
  have HX := hide okx
  have HY := hide oky
  obtain ⟨k, n, i, rd, cd, SA, sc, st, ⟨r, vn, vi, MA, mc, ms, UA, uc, us⟩⟩ := x
  obtain ⟨k', n', i', rd', cd', SA', sc', st', ⟨r', vn', vi', MA', mc', ms', UA', uc', us'⟩⟩ := y
  unfold Nt.v at *
  simp only at *
  clear okx oky hx hy hhx hhy hmx hmy l1 l2 l3
  go_enter Try.func4, Try.ntmps4
  go_wp2_with fail
  (with_reducible refine (TH.out _).mono ?_)
  rintro e w1 ⟨rfl, hb⟩
  have hB := below_step (show Below w.heap.size w ((w.alloc (bxN k n i rd cd SA st.length sc r vn vi MA ms.length mc UA us.length uc)).alloc (bxN k' n' i' rd' cd' SA' st'.length sc' r' vn' vi' MA' ms'.length mc' UA' us'.length uc')) from (by repeat (first | exact Below.refl _ _ | assumption | refine bel_al ?_ _ | refine bel_gw ?_ _ _ | refine bel_drew ?_ | refine bel_drewN ?_ _))) hb
  have p0 := ((boxTop w (csN k n i rd cd SA st.length sc r vn vi MA ms.length mc UA us.length uc) 34).alloc' (bxN k' n' i' rd' cd' SA' st'.length sc' r' vn' vi' MA' ms'.length mc' UA' us'.length uc')).step hb
  have p1 := (boxTop (w.alloc (bxN k n i rd cd SA st.length sc r vn vi MA ms.length mc UA us.length uc)) (csN k' n' i' rd' cd' SA' st'.length sc' r' vn' vi' MA' ms'.length mc' UA' us'.length uc') 34).step hb
  rw [World.size_alloc] at p1
  haveI := p0
  haveI := p1
  clear hb TH
  go_wp2_with fail
  (with_reducible refine (TH'.out _).mono ?_)
  rintro e w2 ⟨rfl, hb⟩
  replace p0 := p0.step hb
  replace p1 := p1.step hb
  replace hB := below_step hB hb
  haveI := p0
  haveI := p1
  clear hb TH'
  go_wp2_with fail
  (with_reducible refine (TE.out _ (HX.out.step hB)).mono ?_)
  rintro e w4 ⟨v4, rfl, ho4, hb⟩
  obtain ⟨A4, c4, rfl, _, _⟩ := own_slice ho4
  replace p0 := p0.step hb
  replace p1 := p1.step hb
  replace hB := below_step hB hb
  have HO4 := hide ho4
  haveI := p0
  haveI := p1
  clear hb TE ho4
  go_wp2_with fail
  (with_reducible refine (TE'.out _ (HY.out.step hB)).mono ?_)
  rintro e w5 ⟨rfl, hb⟩
  replace hB := below_step hB hb
  clear hb TE' p0 p1
  go_wp2_with fail
  (with_reducible refine (TA.out _).mono ?_)
  rintro e w17 ⟨rfl, hb⟩
  replace hB := below_step hB hb
  clear hb
  go_wp2
  go_ret
  exact ⟨rfl, hB⟩
set_option maxRecDepth 100000 in
set_option maxHeartbeats 4000000 in
theorem unlikeFT (x y : Nt) (w : World) (okx : x.Ok w) (oky : y.Ok w) (hx : x.Wf) (hy : y.Wf) (hhx : hvN x = false) (hhy : hvN y = false) (hmx : x.mayB = false) (hmy : y.mayB = true) :
    Calls Try.prog 4 #[x.v, y.v] w (RetB w true) := by
  have TA := hide (fun W => awake8_t W)
  have TH := hide (fun W => heavy8_s x W)
  have TH' := hide (fun W => heavy8_s y W)
  rw [hhx] at TH
  rw [hhy] at TH'
  obtain ⟨l4, l5, l6⟩ : y.st.length ≤ 300 ∧ y.vw.ms.length ≤ 300 ∧ y.vw.us.length ≤ 300 := by unfold hvN at hhy; simp at hhy; omega
  have TE : Hid (∀ W, x.Ok W → Calls Try.prog 17 #[x.v] W fun e w' => e = .returned (.tuple #[.slice none 0 0, .int .i64 3]) ∧ Below W.heap.size W w') := hide (fun W h => encode_no x.k x.n x.i x.rd x.cd x.SA x.sc x.st x.vw.r x.vw.n x.vw.i x.vw.MA x.vw.mc x.vw.ms x.vw.UA x.vw.uc x.vw.us W h hmx)
  have TE' := hide (fun W (h : y.Ok W) => encode_s y W h (NtF.of hy) ⟨l4, l5, l6⟩ hmy)
  have HX := hide okx
  have HY := hide oky
  obtain ⟨k, n, i, rd, cd, SA, sc, st, ⟨r, vn, vi, MA, mc, ms, UA, uc, us⟩⟩ := x
  obtain ⟨k', n', i', rd', cd', SA', sc', st', ⟨r', vn', vi', MA', mc', ms', UA', uc', us'⟩⟩ := y
  unfold Nt.v at *
  simp only at *
  clear okx oky hx hy hhx hhy hmx hmy l4 l5 l6
  go_enter Try.func4, Try.ntmps4
  go_wp2_with fail
  (with_reducible refine (TH.out _).mono ?_)
  rintro e w1 ⟨rfl, hb⟩
  have hB := below_step (show Below w.heap.size w ((w.alloc (bxN k n i rd cd SA st.length sc r vn vi MA ms.length mc UA us.length uc)).alloc (bxN k' n' i' rd' cd' SA' st'.length sc' r' vn' vi' MA' ms'.length mc' UA' us'.length uc')) from (by repeat (first | exact Below.refl _ _ | assumption | refine bel_al ?_ _ | refine bel_gw ?_ _ _ | refine bel_drew ?_ | refine bel_drewN ?_ _))) hb
  have p0 := ((boxTop w (csN k n i rd cd SA st.length sc r vn vi MA ms.length mc UA us.length uc) 34).alloc' (bxN k' n' i' rd' cd' SA' st'.length sc' r' vn' vi' MA' ms'.length mc' UA' us'.length uc')).step hb
  have p1 := (boxTop (w.alloc (bxN k n i rd cd SA st.length sc r vn vi MA ms.length mc UA us.length uc)) (csN k' n' i' rd' cd' SA' st'.length sc' r' vn' vi' MA' ms'.length mc' UA' us'.length uc') 34).step hb
  rw [World.size_alloc] at p1
  haveI := p0
  haveI := p1
  clear hb TH
  go_wp2_with fail
  (with_reducible refine (TH'.out _).mono ?_)
  rintro e w2 ⟨rfl, hb⟩
  replace p0 := p0.step hb
  replace p1 := p1.step hb
  replace hB := below_step hB hb
  haveI := p0
  haveI := p1
  clear hb TH'
  go_wp2_with fail
  (with_reducible refine (TE.out _ (HX.out.step hB)).mono ?_)
  rintro e w4 ⟨rfl, hb⟩
  replace p0 := p0.step hb
  replace p1 := p1.step hb
  replace hB := below_step hB hb
  haveI := p0
  haveI := p1
  clear hb TE
  go_wp2_with fail
  (with_reducible refine (TE'.out _ (HY.out.step hB)).mono ?_)
  rintro e w5 ⟨v5, rfl, ho5, hb⟩
  replace hB := below_step hB hb
  clear hb TE' p0 p1 ho5
  go_wp2_with fail
  (with_reducible refine (TA.out _).mono ?_)
  rintro e w17 ⟨rfl, hb⟩
  replace hB := below_step hB hb
  clear hb
  go_wp2
  go_ret
  exact ⟨rfl, hB⟩
set_option maxRecDepth 100000 in
set_option maxHeartbeats 4000000 in
theorem unlikeFF (x y : Nt) (w : World) (okx : x.Ok w) (oky : y.Ok w) (hx : x.Wf) (hy : y.Wf) (hhx : hvN x = false) (hhy : hvN y = false) (hmx : x.mayB = false) (hmy : y.mayB = false) :
    Calls Try.prog 4 #[x.v, y.v] w (RetB w true) := by
  have TA := hide (fun W => awake8_t W)
  have TH := hide (fun W => heavy8_s x W)
  have TH' := hide (fun W => heavy8_s y W)
  rw [hhx] at TH
  rw [hhy] at TH'
  have TE : Hid (∀ W, x.Ok W → Calls Try.prog 17 #[x.v] W fun e w' => e = .returned (.tuple #[.slice none 0 0, .int .i64 3]) ∧ Below W.heap.size W w') := hide (fun W h => encode_no x.k x.n x.i x.rd x.cd x.SA x.sc x.st x.vw.r x.vw.n x.vw.i x.vw.MA x.vw.mc x.vw.ms x.vw.UA x.vw.uc x.vw.us W h hmx)
  have TE' : Hid (∀ W, y.Ok W → Calls Try.prog 17 #[y.v] W fun e w' => e = .returned (.tuple #[.slice none 0 0, .int .i64 3]) ∧ Below W.heap.size W w') := hide (fun W h => encode_no y.k y.n y.i y.rd y.cd y.SA y.sc y.st y.vw.r y.vw.n y.vw.i y.vw.MA y.vw.mc y.vw.ms y.vw.UA y.vw.uc y.vw.us W h hmy)
  have HX := hide okx
  have HY := hide oky
  obtain ⟨k, n, i, rd, cd, SA, sc, st, ⟨r, vn, vi, MA, mc, ms, UA, uc, us⟩⟩ := x
  obtain ⟨k', n', i', rd', cd', SA', sc', st', ⟨r', vn', vi', MA', mc', ms', UA', uc', us'⟩⟩ := y
  unfold Nt.v at *
  simp only at *
  clear okx oky hx hy hhx hhy hmx hmy
  go_enter Try.func4, Try.ntmps4
  go_wp2_with fail
  (with_reducible refine (TH.out _).mono ?_)
  rintro e w1 ⟨rfl, hb⟩
  have hB := below_step (show Below w.heap.size w ((w.alloc (bxN k n i rd cd SA st.length sc r vn vi MA ms.length mc UA us.length uc)).alloc (bxN k' n' i' rd' cd' SA' st'.length sc' r' vn' vi' MA' ms'.length mc' UA' us'.length uc')) from (by repeat (first | exact Below.refl _ _ | assumption | refine bel_al ?_ _ | refine bel_gw ?_ _ _ | refine bel_drew ?_ | refine bel_drewN ?_ _))) hb
  have p0 := ((boxTop w (csN k n i rd cd SA st.length sc r vn vi MA ms.length mc UA us.length uc) 34).alloc' (bxN k' n' i' rd' cd' SA' st'.length sc' r' vn' vi' MA' ms'.length mc' UA' us'.length uc')).step hb
  have p1 := (boxTop (w.alloc (bxN k n i rd cd SA st.length sc r vn vi MA ms.length mc UA us.length uc)) (csN k' n' i' rd' cd' SA' st'.length sc' r' vn' vi' MA' ms'.length mc' UA' us'.length uc') 34).step hb
  rw [World.size_alloc] at p1
  haveI := p0
  haveI := p1
  clear hb TH
  go_wp2_with fail
  (with_reducible refine (TH'.out _).mono ?_)
  rintro e w2 ⟨rfl, hb⟩
  replace p0 := p0.step hb
  replace p1 := p1.step hb
  replace hB := below_step hB hb
  haveI := p0
  haveI := p1
  clear hb TH'
  go_wp2_with fail
  (with_reducible refine (TE.out _ (HX.out.step hB)).mono ?_)
  rintro e w4 ⟨rfl, hb⟩
  replace p0 := p0.step hb
  replace p1 := p1.step hb
  replace hB := below_step hB hb
  haveI := p0
  haveI := p1
  clear hb TE
  go_wp2_with fail
  (with_reducible refine (TE'.out _ (HY.out.step hB)).mono ?_)
  rintro e w5 ⟨rfl, hb⟩
  replace hB := below_step hB hb
  clear hb TE' p0 p1
  go_wp2_with fail
  (with_reducible refine (TA.out _).mono ?_)
  rintro e w17 ⟨rfl, hb⟩
  replace hB := below_step hB hb
  clear hb
  go_wp2
  go_ret
  exact ⟨rfl, hB⟩
set_option maxRecDepth 100000 in
set_option maxHeartbeats 4000000 in
theorem noticeUnlike_true (x y : Nt) (w : World) (hs : Sl w x.SA x.st) (hm : Sl w x.vw.MA x.vw.ms) (hu : Ul w x.vw.UA x.vw.us) (hx : x.Wf) (hs' : Sl w y.SA y.st) (hm' : Sl w y.vw.MA y.vw.ms) (hu' : Ul w y.vw.UA y.vw.us) (hy : y.Wf) :
    Calls Try.prog 4 #[x.v, y.v] w (RetB w true) := by
  have TA := hide (fun W => awake8_t W)
  have TH := hide (fun W => heavy8_s x W)
  have TH' := hide (fun W => heavy8_s y W)
  cases hh : hvN x
  · cases hh' : hvN y
    · have okx := Nt.ok_of hs hm hu hh
      have oky := Nt.ok_of hs' hm' hu' hh'
      cases hmx : x.mayB <;> cases hmy : y.mayB
      · exact unlikeFF x y w okx oky hx hy hh hh' hmx hmy
      · exact unlikeFT x y w okx oky hx hy hh hh' hmx hmy
      · exact unlikeTF x y w okx oky hx hy hh hh' hmx hmy
      · exact unlikeTT x y w okx oky hx hy hh hh' hmx hmy
    · rw [hh] at TH
      rw [hh'] at TH'
      obtain ⟨k, n, i, rd, cd, SA, sc, st, ⟨r, vn, vi, MA, mc, ms, UA, uc, us⟩⟩ := x
      obtain ⟨k', n', i', rd', cd', SA', sc', st', ⟨r', vn', vi', MA', mc', ms', UA', uc', us'⟩⟩ := y
      unfold Nt.v at *
      simp only at *
      clear hs hm hu hx hs' hm' hu' hy hh hh'
      go_enter Try.func4, Try.ntmps4
      go_wp2_with fail
      (with_reducible refine (TH.out _).mono ?_)
      rintro e w1 ⟨rfl, hb⟩
      obtain ⟨⟨d1, os1⟩, rfl⟩ := gw_of_below hb
      clear hb
      go_wp2_with fail
      (with_reducible refine (TH'.out _).mono ?_)
      rintro e w1 ⟨rfl, hb⟩
      obtain ⟨⟨d2, os2⟩, rfl⟩ := gw_of_below hb
      clear hb
      go_wp2_with fail
      (with_reducible refine (TA.out _).mono ?_)
      rintro e w3 ⟨rfl, hb⟩
      obtain ⟨⟨d3, os3⟩, rfl⟩ := gw_of_below hb
      clear hb
      go_wp2
      go_ret
      exact ⟨rfl, (by repeat (first | exact Below.refl _ _ | assumption | refine bel_al ?_ _ | refine bel_gw ?_ _ _ | refine bel_drew ?_ | refine bel_drewN ?_ _))⟩
  · rw [hh] at TH
    clear TH'
    obtain ⟨k, n, i, rd, cd, SA, sc, st, ⟨r, vn, vi, MA, mc, ms, UA, uc, us⟩⟩ := x
    obtain ⟨k', n', i', rd', cd', SA', sc', st', ⟨r', vn', vi', MA', mc', ms', UA', uc', us'⟩⟩ := y
    unfold Nt.v at *
    simp only at *
    clear hs hm hu hx hs' hm' hu' hy hh
    go_enter Try.func4, Try.ntmps4
    go_wp2_with fail
    (with_reducible refine (TH.out _).mono ?_)
    rintro e w1 ⟨rfl, hb⟩
    obtain ⟨⟨d1, os1⟩, rfl⟩ := gw_of_below hb
    clear hb
    go_wp2_with fail
    (with_reducible refine (TA.out _).mono ?_)
    rintro e w3 ⟨rfl, hb⟩
    obtain ⟨⟨d3, os3⟩, rfl⟩ := gw_of_below hb
    clear hb
    go_wp2
    go_ret
    exact ⟨rfl, (by repeat (first | exact Below.refl _ _ | assumption | refine bel_al ?_ _ | refine bel_gw ?_ _ _ | refine bel_drew ?_ | refine bel_drewN ?_ _))⟩
end Go.Proofs.Ytgpmcpinnaggmaa
