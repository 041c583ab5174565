/-
  Layer 18: contracts: start, come, whom.
-/
import Derived.Test.YtkglclekieckoaaGreatRd5
import Derived.Test.YtkglclekieckoaaGreatInts
namespace Go.Proofs.YtkglclekieckoaaGreat
set_option linter.unusedSimpArgs false
set_option linter.unusedVariables false
set_option linter.unusedSectionVars false
open Go.RowKit

/-- something told, its rows in new memory -/
structure TeN (W : World) (B : Nat) (x : Te) : Prop where
  s : Sl W x.nt.SA x.nt.st
  sl : x.nt.st.length ≤ 1000000
  sn : NewA B x.nt.SA
  v : VwN W B x.nt.vw
theorem TeN.o [Avoid] {W : World} {B : Nat} {x : Te} (h : TeN W B x) {C : List Nat} (hC : ∀ i ∈ C ++ Avoid.D, i < B) : NtO W C x.nt := ⟨.new h.s h.sn hC, h.sl, h.v.o hC⟩
theorem TeN.step {X W : World} {B : Nat} {x : Te} (h : TeN X B x) (hb : Below X.heap.size X W) : TeN W B x := ⟨h.s.step hb, h.sl, h.sn, h.v.step hb⟩
abbrev Te.ag (x : Te) : Value := .agg #[.int .i64 x.n, .int .u64 x.i, .int .i64 x.nt.k, .int .i64 x.nt.n, .int .u64 x.nt.i, .int .u64 x.nt.rd, .int .u64 x.nt.cd, .slice x.nt.SA x.nt.st.length x.nt.sc, .int .u64 x.nt.vw.r, .int .i64 x.nt.vw.n, .int .u64 x.nt.vw.i, .slice x.nt.vw.MA x.nt.vw.ms.length x.nt.vw.mc, .slice x.nt.vw.UA x.nt.vw.us.length x.nt.vw.uc]
theorem vw0_new (W : World) (B : Nat) : VwN W B vw0 := ⟨vw0_ok W, (fun a h => by cases h), (fun a h => by cases h)⟩
def RetTe (w : World) (x : Te) (e : Ending) (w' : World) : Prop := ∃ y : Te, y.br = x.br ∧ e = .returned y.ag ∧ TeN w' w.heap.size y ∧ Below w.heap.size w w'
set_option maxRecDepth 100000 in
set_option maxHeartbeats 2000000 in
theorem startN_s (a : Ag) (p : Pr) (cid : Int) (w : World) (h : Sl w a.TA a.td) (hl : a.td.length ≤ 1000000) : Calls Tryz.prog 73 #[a.v, .agg #[.int .i64 p.1, .int .u64 p.2], .int .u64 cid] w (RetTe w (startT a p cid)) := by
  have T := hide (fun W (h : Reads W W.heap.size 2 a.TA a.td.length (pcs a.td)) => clone_any a.TA a.tc a.td W h hl)
  haveI : Src w a.TA a.td.length 2 (pcs a.td) := ⟨h⟩
  clear h
  go_enter Tryz.func73, Tryz.ntmps73
  go_wp2_with fail
  go_region_held3 (fun w' => w'.cell? ⟨w.heap.size, 0, none⟩ = some (.int .i64 a.n) ∧ w'.cell? ⟨w.heap.size, 1, none⟩ = some (.int .u64 a.i) ∧ w'.cell? ⟨w.heap.size, 5, none⟩ = some (.slice a.TA a.td.length a.tc) ∧ w'.cell? ⟨w.heap.size + 1, 0, none⟩ = some (.int .i64 p.1) ∧ w'.cell? ⟨w.heap.size + 1, 1, none⟩ = some (.int .u64 p.2)) ((refine ⟨?_, ?_, ?_, ?_, ?_⟩ <;> (rw [cell?_box]; rfl)))
    (first | (go_at_call 33; (with_reducible refine (T.out _ src).mono ?_); rintro e w1 ⟨v1, rfl, ho1, hb1⟩; obtain ⟨A1, c1, rfl, _, _⟩ := own_slice ho1; haveI : Stp _ w1 := ⟨hb1⟩; have z1 := hb1.size; have N1 := hide ((own_newA ho1).mono (B' := w.heap.size + 1 + 1 + 1) (by simp)); have R1 := hide (RO.own (C := [w.heap.size, w.heap.size + 1, w.heap.size + 1 + 1]) ho1 (by intro i hi; simp at hi; simp; omega)); clear ho1 hb1) | fail)
  all_goals
    go_wp2
    refine bodyPost_ret (v := .agg #[.int .i64 p.1, .int .u64 p.2, .int .i64 4, .int .i64 a.n, .int .u64 a.i, .int .u64 0, .int .u64 cid, .slice A1 a.td.length c1, .int .u64 0, .int .i64 0, .int .u64 0, .slice none 0 0, .slice none 0 0]) (by simp [results, Tryz.results73, go_sem]) rfl ?_
    exact ⟨⟨p.1, p.2, ⟨4, a.n, a.i, 0, cid, A1, c1, a.td, vw0⟩⟩, rfl, rfl, ⟨R1.out.tc.1, hl, N1.out.mono (by omega), vw0_new _ _⟩, blw⟩
set_option maxRecDepth 100000 in
set_option maxHeartbeats 2000000 in
theorem comeN_s (p : Pr) (v : Vw) (w : World) (h : v.Ok w) : Calls Tryz.prog 77 #[.agg #[.int .i64 p.1, .int .u64 p.2], v.ag] w (RetTe w (comeT p v)) := by
  have T := hide (fun W (h : v.Ok W) => cpV_s v W h)
  have HV := hide h
  clear h
  go_enter Tryz.func77, Tryz.ntmps77
  go_wp2_with fail
  go_region_held3 (fun w' => w'.cell? ⟨w.heap.size, 0, none⟩ = some (.int .i64 p.1) ∧ w'.cell? ⟨w.heap.size, 1, none⟩ = some (.int .u64 p.2) ∧ w'.cell? ⟨w.heap.size + 1, 0, none⟩ = some (.int .u64 v.r) ∧ w'.cell? ⟨w.heap.size + 1, 1, none⟩ = some (.int .i64 v.n) ∧ w'.cell? ⟨w.heap.size + 1, 2, none⟩ = some (.int .u64 v.i) ∧ w'.cell? ⟨w.heap.size + 1, 3, none⟩ = some (.slice v.MA v.ms.length v.mc) ∧ w'.cell? ⟨w.heap.size + 1, 4, none⟩ = some (.slice v.UA v.us.length v.uc)) ((refine ⟨?_, ?_, ?_, ?_, ?_, ?_, ?_⟩ <;> (rw [cell?_box]; rfl)))
    (first | (go_at_call 62; (with_reducible refine (T.out _ (HV.out.step blw)).mono ?_); rintro e w1 ⟨y, hy, rfl, hn, hb1⟩; haveI : Stp _ w1 := ⟨hb1⟩; have z1 := hb1.size; have HYE := hide hy; have HO := hide (And.intro (RO.new (C := [w.heap.size, w.heap.size + 1, w.heap.size + 1 + 1]) hn.ok.1 hn.m (by intro i hi; simp at hi; simp; omega)) (RO.new (C := [w.heap.size, w.heap.size + 1, w.heap.size + 1 + 1]) hn.ok.2 hn.u (by intro i hi; simp at hi; simp; omega))); have HL := hide (And.intro hn.ok.3 hn.ok.4); have HN := hide (show NewA w.heap.size y.MA ∧ NewA w.heap.size y.UA from ⟨hn.m.mono (by simp; omega), hn.u.mono (by simp; omega)⟩); clear hn hb1 hy) | fail)
  all_goals
    go_wp2
    refine bodyPost_ret (v := .agg #[.int .i64 p.1, .int .u64 p.2, .int .i64 5, .int .i64 0, .int .u64 0, .int .u64 0, .int .u64 0, .slice none 0 0, .int .u64 y.r, .int .i64 y.n, .int .u64 y.i, .slice y.MA y.ms.length y.mc, .slice y.UA y.us.length y.uc]) (by simp [results, Tryz.results77, go_sem]) rfl ?_
    refine ⟨⟨p.1, p.2, ⟨5, 0, 0, 0, 0, none, 0, [], y⟩⟩, ?_, rfl, ⟨Reads.none_, by simp, (fun a h => by cases h), ⟨⟨HO.out.1.tc.1, HO.out.2.tc.1, HL.out.1, HL.out.2⟩, HN.out.1, HN.out.2⟩⟩, blw⟩
    unfold Te.br Nt.br comeT
    simp only [HYE.out]
/-! ### whom -/
def stepK (a : Ag) (L : List Pr) (p : Pp) : List Pr := if p.sv ≠ a.sv ∧ p.sv ∈ a.ss then sortedL (L ++ p.cs) else L
def knownU (a : Ag) (m : Nat) : List Pr := (a.gt.take m).foldl (stepK a) (ownL a)
theorem knownU_succ {a : Ag} {m : Nat} {p : Pp} (h : a.gt[m]? = some p) : knownU a (m + 1) = stepK a (knownU a m) p := by
  unfold knownU
  rw [take_succ_of h, List.foldl_append]
  rfl
theorem knownU_all (a : Ag) : knownU a a.gt.length = knownL a := by unfold knownU; rw [List.take_length]; rfl
theorem ownL_len (a : Ag) : (ownL a).length ≤ 6 := by
  unfold ownL livesL
  rw [List.length_map]
  exact Nat.le_trans (List.length_filter_le _ _) (takenR_len a.cl)
theorem knownU_len {a : Ag} (hc : ∀ p ∈ a.gt, p.cs.length ≤ 100) : ∀ m, (knownU a m).length ≤ 6 + 100 * m := by
  intro m
  induction m with
  | zero => simpa [knownU] using ownL_len a
  | succ m ih =>
    by_cases h : m < a.gt.length
    · have hp : a.gt[m]? = some a.gt[m] := List.getElem?_eq_getElem h
      rw [knownU_succ hp]
      unfold stepK
      split
      · have h1 := sortedL_len (knownU a m ++ a.gt[m].cs)
        have h2 := hc _ (List.getElem_mem h)
        rw [List.length_append] at h1
        omega
      · omega
    · have : knownU a (m + 1) = knownU a m := by
        unfold knownU
        rw [List.take_of_length_le (by omega), List.take_of_length_le (by omega)]
      rw [this]; omega
theorem lastOf_one (x : Pr) : lastOf [x] = [x] := rfl
theorem lastOf_skip {x y : Pr} {l : List Pr} (h : y.1 = x.1) : lastOf (x :: y :: l) = lastOf (y :: l) := by rw [lastOf, if_pos h]
theorem lastOf_keep {x y : Pr} {l : List Pr} (h : y.1 ≠ x.1) : lastOf (x :: y :: l) = x :: lastOf (y :: l) := by rw [lastOf, if_neg h]
theorem lastOf_len : ∀ l : List Pr, (lastOf l).length ≤ l.length
  | [] => Nat.le_refl _
  | [x] => Nat.le_refl _
  | x :: y :: l => by
    have := lastOf_len (y :: l)
    unfold lastOf
    split
    · simp at this ⊢; omega
    · simp at this ⊢; omega
def RetSn (w : World) (l : List Pr) (e : Ending) (w' : World) : Prop := ∃ A c, e = .returned (.slice A l.length c) ∧ Sl w' A l ∧ NewA w.heap.size A ∧ Below w.heap.size w w'
variable [Avoid]
set_option maxRecDepth 100000 in
set_option maxHeartbeats 8000000 in
theorem whom_s (g : Nat) (C : List Nat) (a : Ag) (t : Tu) (w : World) (h : MK w C g a t) (hl : a.gt.length ≤ 15) (hc : ∀ p ∈ a.gt, p.cs.length ≤ 100) :
    Calls Tryz.prog 71 #[.pointer (some ⟨g, 0, none⟩)] w (RetSn w (whomL a)) := by
  have hsl := h.ao.sl
  have hcl := h.ao.cl
  have TL := hide (fun W (h : Reads W W.heap.size 6 a.LA a.cl.length (ccs a.cl)) => regLives_s a.LA a.lc a.cl W h hcl)
  have TH := hide (fun (p : Pp) W (h : Reads W W.heap.size 2 a.SA a.ss.length (pcs a.ss)) => has_b a.SA a.sc a.ss p.n p.i W h hsl)
  haveI := h.bx
  haveI : Src w a.LA a.cl.length 6 (ccs a.cl) := ⟨h.ao.c.1⟩
  haveI : Src w a.SA a.ss.length 2 (pcs a.ss) := ⟨h.ao.s.1⟩
  haveI : Src w a.GA a.gt.length 6 (pps a.gt) := ⟨Reads.of_own h.go⟩
  have HP := hide (fun p hp => (h.ao.p p hp).ok)
  have HC := hide hc
  have HKL := hide (knownU_len hc)
  have z := h.bx.lt
  haveI : LtN g w.heap.size := ⟨z⟩
  clear h hc
  go_enter Tryz.func71, Tryz.ntmps71
  go_wp2_with fail
  (with_reducible refine (TL.out _ src).mono ?_)
  rintro e w1 ⟨A1, c1, rfl, ho1, hb1⟩
  haveI : Stp w w1 := ⟨hb1⟩
  have z1 := hb1.size
  have HOWN := hide (show Sl w1 A1 (ownL a) from Reads.of_own ho1)
  have NOWN := hide (own_newA ho1)
  have e1 : (livesL ((takenR a.cl).filter (fun x => !x.gone))).length = (ownL a).length := rfl
  rw [e1]
  clear ho1 hb1 TL e1
  go_wp2_with fail
  go_loopw [4, 23] (fun s4 s23 wr => ∃ (m : Nat) (A : Option Addr) (c : Nat), s4 = .slice A (knownU a m).length c ∧ s23 = .int .i64 m ∧ m ≤ a.gt.length ∧ Sl wr A (knownU a m) ∧ Below w1.heap.size w1 wr) (fun _ s23 _ => a.gt.length - (intOf s23).toNat)
  case atStart => exact ⟨0, A1, c1, rfl, rfl, Nat.zero_le _, HOWN.out, blw⟩
  case round =>
    obtain ⟨m, A, c, rfl, rfl, hm, hS, hB⟩ := hrel
    haveI : Stp w1 wr := ⟨hB⟩
    have zr := hB.size
    have HS := hide hS
    have HU := hide (HKL.out m)
    clear hS hB
    by_cases hlt : m < a.gt.length
    · obtain ⟨b, off, p, hbA, hb, hp, g0, g1, g2, g3, g4, g5⟩ := (src (w := w) (W := wr) (A := a.GA) (n := a.gt.length) (k := 6) (xs := pps a.gt)).at6 hlt
      haveI : InW b wr := ⟨hb⟩
      have HPO := hide (HP.out p (List.mem_of_getElem? hp))
      have HPC := hide (HC.out p (List.mem_of_getElem? hp))
      have HSU := hide (knownU_succ hp)
      have i0 : (0 : Int) ≤ (m : Int) := by omega
      have i1 : (m : Int) < (a.gt.length : Int) := by omega
      have TH := hide (fun W h => TH.out p W h)
      clear hp
      cases hq : eqP p.n p.i a.n a.i
      · have hq' : ¬ p.sv = a.sv := fun e => by
          have e1 : p.n = a.n := congrArg Prod.fst e
          have e2 : p.i = a.i := congrArg Prod.snd e
          simp [eqP, e1, e2] at hq
        cases hh : decide ((p.n, p.i) ∈ a.ss)
        · have TH := hide (fun W h => (by have := TH.out W h; rw [hh] at this; exact this : Calls Tryz.prog 30 #[.slice a.SA a.ss.length a.sc, .agg #[.int .i64 p.n, .int .u64 p.i]] W (RetB W false)))
          have HN := hide (show knownU a (m + 1) = knownU a m by rw [HSU.out, stepK, if_neg (fun e => of_decide_eq_false hh e.2)])
          clear hq' hh
          go_wp2_with fail
          (refine wp_region_gw (by kernel_rfl) (by kernel_rfl) ?_; (repeat (go_big_quiet_step ((first | (go_at_call 30; with_reducible exact calls_gw (TH.out _ src)) | fail)))); refine wpQuiet_nil ?_; intro _ hw'; obtain ⟨⟨dq, osq⟩, hw''⟩ := hw'; subst hw'')
          go_wp2
          go_roundw
          case rel => exact ⟨m + 1, A, c, by rw [HN.out], by go_num, by omega, by rw [HN.out]; exact HS.out.step blw, blw⟩
          case measure => simp [intOf]; omega
        · have TH := hide (fun W h => (by have := TH.out W h; rw [hh] at this; exact this : Calls Tryz.prog 30 #[.slice a.SA a.ss.length a.sc, .agg #[.int .i64 p.n, .int .u64 p.i]] W (RetB W true)))
          have HN := hide (show knownU a (m + 1) = sortedL (knownU a m ++ p.cs) by rw [HSU.out, stepK, if_pos ⟨hq', of_decide_eq_true hh⟩])
          have TU := hide (fun W (n : Nat) (hn : W.heap.size = n) (h : Sl W A (knownU a m)) (h' : Sl W p.CA p.cs) => (by have := union2_s A p.CA c p.cc (knownU a m) p.cs W h h' (by have := HU.out; have := HPC.out; omega); rw [hn] at this; exact this : Calls Tryz.prog 100 #[.slice (some ⟨n, 0, none⟩) 2 2] (W.alloc (.cells #[.slice A (knownU a m).length c, .slice p.CA p.cs.length p.cc] 27)) (RetS W (sortedL (knownU a m ++ p.cs)))))
          clear hq' hh
          go_wp2_with fail
          (refine wp_region_gw (by kernel_rfl) (by kernel_rfl) ?_; (repeat (go_big_quiet_step ((first | (go_at_call 30; with_reducible exact calls_gw (TH.out _ src)) | fail)))); refine wpQuiet_nil ?_; intro _ hw'; obtain ⟨⟨dq, osq⟩, hw''⟩ := hw'; subst hw'')
          clear hbA
          go_wp2_with fail
          (with_reducible refine (TU.out _ _ ?_ ?_ ?_).mono ?_)
          · simp [size_gwe]
          · exact HS.out.step blw
          · exact HPO.out.c.step blw
          rintro e w5 ⟨A5, c5, rfl, hS5, hb5⟩
          haveI : Stp _ w5 := ⟨hb5⟩
          have HS5 := hide hS5
          clear hS5 hb5
          go_wp2
          go_roundw
          case rel => exact ⟨m + 1, A5, c5, by rw [HN.out], by go_num, by omega, by rw [HN.out]; exact HS5.out, blw⟩
          case measure => simp [intOf]; omega
      · have hq' : p.sv = a.sv := by
          simp [eqP] at hq
          exact Prod.ext hq.1 hq.2
        have HN := hide (show knownU a (m + 1) = knownU a m by rw [HSU.out, stepK, if_neg (fun e => e.1 hq')])
        clear hq'
        go_wp2_with fail
        (refine wp_region_gw (by kernel_rfl) (by kernel_rfl) ?_; (repeat (go_big_quiet_step ((fail)))); refine wpQuiet_nil ?_; intro _ hw'; obtain ⟨⟨dq, osq⟩, hw''⟩ := hw'; subst hw'')
        go_wp2
        go_roundw
        case rel => exact ⟨m + 1, A, c, by rw [HN.out], by go_num, by omega, by rw [HN.out]; exact HS.out.step blw, blw⟩
        case measure => simp [intOf]; omega
    · obtain rfl : m = a.gt.length := by omega
      have hB1 : Sl wr A1 (ownL a) := HOWN.out.step blw
      rw [knownU_all] at HS HU ⊢
      have HWH := hide (show whomL a = if 6 < (lastOf (knownL a)).length then ownL a else lastOf (knownL a) from rfl)
      have HLL := lastOf_len (knownL a)
      generalize knownL a = K at HS HU HWH HLL ⊢
      have HB1 := hide hB1
      have HLE := hide HLL
      clear hB1 TH HP HC HKL HLL
      obtain ⟨wo, rfl⟩ : ∃ wo, wo = wr := ⟨wr, rfl⟩
      go_wp2_with fail
      go_loopw [7, 53] (fun s7 s53 wx => ∃ (m : Nat) (P : List Pr) (A2 : Option Addr) (c2 : Nat), s7 = .slice A2 P.length c2 ∧ s53 = .int .i64 m ∧ m ≤ K.length ∧ P ++ lastOf (K.drop m) = lastOf K ∧ wx.ownsRow wo.heap.size 25 2 (.slice A2 P.length c2) P.length (pcs P) ∧ Below wo.heap.size wo wx) (fun _ s53 _ => K.length - (intOf s53).toNat)
      case atStart => exact ⟨0, [], none, 0, rfl, rfl, Nat.zero_le _, by simp, World.ownsRow_nil _ _ _ _, blw⟩
      case round =>
        obtain ⟨q, P, A2, c2, rfl, rfl, hq, hPL, hown, hBx⟩ := hrel
        haveI : Stp wo wr := ⟨hBx⟩
        have zx := hBx.size
        have HO := hide hown
        have HPL := hide hPL
        have hPn : P.length ≤ K.length := by
          have h1 := congrArg List.length hPL
          rw [List.length_append] at h1
          have := HLE.out
          omega
        have HKS := hide (show Sl wr A K from HS.out.step blw)
        clear hown hPL hBx
        by_cases hlt : q < K.length
        · obtain ⟨b, off, rfl, hb, hcc⟩ := HKS.out.2 (by omega)
          haveI : InW b wr := ⟨hb⟩
          have hx : K[q]? = some K[q] := List.getElem?_eq_getElem hlt
          have hdr : K.drop q = K[q] :: K.drop (q + 1) := List.drop_eq_getElem_cons hlt
          generalize K[q] = x at hx hdr
          have x0 := hcc (q * 2 + 0) _ (by rw [pcs, flat_get pc_len K q 0 _ hx (by omega)]; rfl)
          have x1 := hcc (q * 2 + 1) _ (by rw [pcs, flat_get pc_len K q 1 _ hx (by omega)]; rfl)
          rw [Nat.add_zero] at x0
          rw [← Nat.add_assoc] at x1
          have i0 : (0 : Int) ≤ (q : Int) := by omega
          have i1 : (q : Int) < (K.length : Int) := by omega
          have i2 : (0 : Int) ≤ (q : Int) + 1 := by omega
          have hlk : K.length ≤ 1000000 := by have := HU.out; omega
          have KEEP : Hid (lastOf (K.drop q) = x :: lastOf (K.drop (q + 1)) → (P ++ [x]) ++ lastOf (K.drop (q + 1)) = lastOf K) := hide (fun e => by rw [← HPL.out, e]; simp)
          by_cases hend : q + 1 = K.length
          · have hE : lastOf (K.drop q) = x :: lastOf (K.drop (q + 1)) := by rw [hdr, List.drop_eq_nil_of_le (by omega)]; rfl
            have HKP := hide (KEEP.out hE)
            have e2 : ((q : Int) + 1 == (K.length : Int)) = true := by simp; omega
            have HE1 := hide hend
            clear hcc hx hdr hE hend
            go_wp2_with fail
            (refine wp_region_gw (by kernel_rfl) (by kernel_rfl) ?_; (repeat (go_big_quiet_step ((fail)))); refine wpQuiet_nil ?_; intro _ hw'; obtain ⟨⟨dq, osq⟩, hw''⟩ := hw'; subst hw'')
            go_wp2_with (at_builtin; refine wpList_append_x Tryz.okP rfl (.tmp 74) (.tmp 76) rfl wo.heap.size (.slice A2 P.length c2) P.length (pcs P) 1 (pcs [x]) ?_ ?_ ?_ ?_ ?_ ?_ ?_ ?_; go_must ((focus (first | rfl | (simp [Act.eval, Act.put]; done))); (focus (exact own_tc HO.out)); (focus (refine ⟨_, _, rfl, ?_⟩; exact reads_p1x _ _ _ _)); (focus (exact pc_one _)); (focus (unfold maxLen; omega)); (focus omega); (focus (first | omega | (simp; done) | (simp; omega) | exact blw.size | exact BoxAt.lt (n := w.heap.size) inferInstance)); intro v4 w4 ho4 hg4 ha4; obtain ⟨A4, c4, rfl, _, _⟩ := own_slice ho4; have HO4 := hide ho4; have HB4 := hide ((blw (a := wo)).trans (grown_belowT hg4 (blw (a := wo)).size (fun k hk => (HO.out.lt k hk).1))); clear ho4 hg4 ha4))
            go_wp2
            go_roundw
            case rel => exact ⟨q + 1, P ++ [x], A4, c4, by simp, by go_num, by omega, HKP.out, by rw [show (P ++ [x]).length = P.length + 1 by simp, show pcs (P ++ [x]) = pcs P ++ pcs [x] from List.flatMap_append]; exact HO4.out, HB4.out⟩
            case measure => simp [intOf]; omega
          · have hy : K[q + 1]? = some (K[q + 1]'(by omega)) := List.getElem?_eq_getElem (by omega)
            have hdr2 : K.drop (q + 1) = (K[q + 1]'(by omega)) :: K.drop (q + 2) := List.drop_eq_getElem_cons (by omega)
            generalize K[q + 1]'(by omega) = y at hy hdr2
            have y0 := hcc ((q + 1) * 2 + 0) _ (by rw [pcs, flat_get pc_len K (q + 1) 0 _ hy (by omega)]; rfl)
            rw [Nat.add_zero] at y0
            have e2 : ((q : Int) + 1 == (K.length : Int)) = false := by simp; omega
            have i3 : (q : Int) + 1 < (K.length : Int) := by omega
            have i4 : ((q : Int) + 1).toNat = q + 1 := by omega
            by_cases hyx : y.1 = x.1
            · have HSK := hide (show P ++ lastOf (K.drop (q + 1)) = lastOf K by rw [← HPL.out, hdr, hdr2, lastOf_skip hyx])
              have hb1 : (y.1 != x.1) = false := by simp [hyx]
              clear hcc hx hdr hy hdr2 hend hyx
              go_wp2_with fail
              (refine wp_region_gw (by kernel_rfl) (by kernel_rfl) ?_; (repeat (go_big_quiet_step ((fail)))); refine wpQuiet_nil ?_; intro _ hw'; obtain ⟨⟨dq, osq⟩, hw''⟩ := hw'; subst hw'')
              go_wp2
              go_roundw
              case rel => exact ⟨q + 1, P, A2, c2, rfl, by go_num, by omega, HSK.out, own_tc HO.out, blw⟩
              case measure => simp [intOf]; omega
            · have hE : lastOf (K.drop q) = x :: lastOf (K.drop (q + 1)) := by rw [hdr, hdr2, lastOf_keep hyx]
              have HKP := hide (KEEP.out hE)
              have hb1 : (y.1 != x.1) = true := by simp [hyx]
              clear hcc hx hdr hy hdr2 hend hyx hE
              go_wp2_with fail
              (refine wp_region_gw (by kernel_rfl) (by kernel_rfl) ?_; (repeat (go_big_quiet_step ((fail)))); refine wpQuiet_nil ?_; intro _ hw'; obtain ⟨⟨dq, osq⟩, hw''⟩ := hw'; subst hw'')
              go_wp2_with (at_builtin; refine wpList_append_x Tryz.okP rfl (.tmp 74) (.tmp 76) rfl wo.heap.size (.slice A2 P.length c2) P.length (pcs P) 1 (pcs [x]) ?_ ?_ ?_ ?_ ?_ ?_ ?_ ?_; go_must ((focus (first | rfl | (simp [Act.eval, Act.put]; done))); (focus (exact own_tc HO.out)); (focus (refine ⟨_, _, rfl, ?_⟩; exact reads_p1x _ _ _ _)); (focus (exact pc_one _)); (focus (unfold maxLen; omega)); (focus omega); (focus (first | omega | (simp; done) | (simp; omega) | exact blw.size | exact BoxAt.lt (n := w.heap.size) inferInstance)); intro v4 w4 ho4 hg4 ha4; obtain ⟨A4, c4, rfl, _, _⟩ := own_slice ho4; have HO4 := hide ho4; have HB4 := hide ((blw (a := wo)).trans (grown_belowT hg4 (blw (a := wo)).size (fun k hk => (HO.out.lt k hk).1))); clear ho4 hg4 ha4))
              go_wp2
              go_roundw
              case rel => exact ⟨q + 1, P ++ [x], A4, c4, by simp, by go_num, by omega, HKP.out, by rw [show (P ++ [x]).length = P.length + 1 by simp, show pcs (P ++ [x]) = pcs P ++ pcs [x] from List.flatMap_append]; exact HO4.out, HB4.out⟩
              case measure => simp [intOf]; omega
        · obtain rfl : q = K.length := by omega
          have hP : P = lastOf K := by have := HPL.out; rw [List.drop_length, show lastOf [] = [] from rfl, List.append_nil] at this; exact this
          have HA1 := hide (show Sl wr A1 (ownL a) from HB1.out.step blw)
          by_cases h6 : 6 < P.length
          · have d1 : decide ((6 : Int) < (P.length : Int)) = true := decide_eq_true (by omega)
            have HE := hide (show whomL a = ownL a by rw [HWH.out, ← hP, if_pos h6])
            clear hP h6
            go_wp2
            go_ret
            exact ⟨A1, c1, by rw [HE.out]; rfl, by rw [HE.out]; exact HA1.out, NOWN.out, blw⟩
          · have d1 : decide ((6 : Int) < (P.length : Int)) = false := decide_eq_false (by omega)
            have HE := hide (show whomL a = P by rw [HWH.out, ← hP, if_neg h6])
            clear hP h6
            go_wp2
            go_ret
            exact ⟨A2, c2, by rw [HE.out]; rfl, by rw [HE.out]; exact Reads.of_own HO.out, (own_newA HO.out).mono (by omega), blw⟩
end Go.Proofs.YtkglclekieckoaaGreat
