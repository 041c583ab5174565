/-
  Layer 16: contract: Tick.
-/
import Derived.Test.YtniogmefbjfoaaaGreatTa
namespace Go.Proofs.YtniogmefbjfoaaaGreat
set_option linter.unusedSimpArgs false
set_option linter.unusedVariables false
set_option linter.unusedSectionVars false
open Go.RowKit Go.Maps

theorem tick1_n (now : Int) : ∀ (l : List Int) (s : Tck), (l.foldl (tick1 now) s).m.n = s.m.n ∧ (l.foldl (tick1 now) s).m.i = s.m.i
  | [], s => ⟨rfl, rfl⟩
  | n :: l, s => by
    rw [List.foldl_cons]
    obtain ⟨h1, h2⟩ := tick1_n now l (tick1 now s n)
    rw [h1, h2]
    unfold tick1
    split <;> exact ⟨rfl, rfl⟩
def TickL (now : Int) (m : En) (w w1 : World) (E C : List Nat) (x : Nat) (rb fb : Nat) (rp cp : Int → Nat) (lo k : Nat) (W : World) : Prop :=
  ∃ (st : Tck) (pv : Value) (ps : List Pm), st = (m.nodes.take k).foldl (tick1 now) ⟨m, []⟩ ∧ EnM W (rgB lo W ++ (w.heap.size :: (w.heap.size + 1) :: E)) C x st.m rb fb rp cp ∧ BoxAt W (w.heap.size + 1) #[pv, .slice none 0 0, .slice none 0 0] 52 ∧ BoxAt W w.heap.size #[.slice none 0 0, .slice none 0 0, .slice none 0 0] 52 ∧ PmG lo W pv ps ∧ ps.map Pm.x = st.ps ∧ ps.length ≤ 8 * k ∧ Gr ((w.heap.size + 1) :: C) w1 W
theorem Tr.more16 {C C' D : List Nat} {X W : World} (h : Tr C C' X W) : Tr (C ++ D) (C' ++ D) X W := ⟨h.g.mono' (fun i hi => List.mem_append_left _ hi), fun i hi => by
  rcases List.mem_append.1 hi with h1 | h1
  · rcases h.n i h1 with h2 | h2
    · exact .inl (List.mem_append_left _ h2)
    · exact .inr h2
  · exact .inl (List.mem_append_right _ h1)⟩
theorem EnM.rgb {X W : World} {E C : List Nat} {x : Nat} {m : En} {rb fb : Nat} {rp cp : Int → Nat} {B : Nat} (h : EnM X (rgB B X ++ E) C x m rb fb rp cp) (hb : Below X.heap.size X W) (hl : ∀ i ∈ E, i < X.heap.size) : EnM W (rgB B W ++ E) C x m rb fb rp cp :=
  h.more hb (fun i hi => by
    rcases List.mem_append.1 hi with hi | hi
    · rcases rgB_n (X := X) hi with h1 | h1
      · exact .inl (List.mem_append_left _ h1)
      · exact .inr h1
    · exact .inl (List.mem_append_right _ hi)) (fun i hi => by
    rcases List.mem_append.1 (h.CE i hi) with h1 | h1
    · exact List.mem_append_left _ (mem_rgB.2 ⟨(mem_rgB.1 h1).1, Nat.lt_of_lt_of_le (mem_rgB.1 h1).2 hb.size⟩)
    · exact List.mem_append_right _ h1) (fun i hi => by
    rcases List.mem_append.1 hi with hi | hi
    · exact (mem_rgB.1 hi).2
    · exact Nat.lt_of_lt_of_le (hl i hi) hb.size)
theorem tick_fin {wr X w6 w7 W : World} {E C : List Nat} {x : Nat} {m : En} {rb fb : Nat} {rp cp : Int → Nat} {lo b4 b5 : Nat} {v v6 v7 : Value} {ps ps6 : List Pm} {n : Int} {r' : Rw}
    (hE : EnM wr (rgB lo wr ++ (b4 :: b5 :: E)) C x m rb fb rp cp) (hn : m.oth n) (hb : Below wr.heap.size wr X) (h6 : Gr [rp n] X w6) (hr : RwM w6 (rgB X.heap.size w6 ++ (rgB lo X ++ (b4 :: b5 :: E))) (rp n) r')
    (hps : PmG lo wr v ps) (hp6 : PmG X.heap.size w6 v6 ps6) (h7 : w6.grownBy w7 v.ownBlock) (h7a : v7.ownBlock = v.ownBlock ∨ v7.ownBlock = some w6.heap.size) (h7o : w7.ownsRow lo 43 10 v7 (ps.length + ps6.length) (pms ps ++ pms ps6))
    (hW : Gr [b5] w7 W) (hlo : lo ≤ wr.heap.size) (hlt : ∀ i ∈ C, i < lo) (hb5 : b5 < lo) (b5C : b5 ∉ C) :
    EnM W (rgB lo W ++ (b4 :: b5 :: E)) C x (m.put n r') rb fb rp cp ∧ PmG lo W v7 (ps ++ ps6) ∧ Gr (b5 :: (ownL v ++ C)) wr W := by
  have hX := hb.size
  have h6z := h6.size
  have h7z := h7.size
  have hWz := hW.size
  have hrC := (hE.ro n hn).2
  have hvlo : ∀ i ∈ ownL v, lo ≤ i ∧ i < wr.heap.size := fun i hi => hps.row.lt i (mem_ownL.1 hi)
  have g6 : Gr [rp n] wr w6 := (Gr.of hb).trans h6
  have t7 : Tr (ownL v) (ownL v7) w6 w7 := .app h7 h7a
  have g67 : Gr (b5 :: ownL v) w6 W := (t7.g.mono' (fun i hi => List.mem_cons_of_mem _ hi)).trans (hW.mono' (by simp))
  have gW : Gr (b5 :: (ownL v ++ C)) wr W := by
    refine (g6.mono' (D := b5 :: (ownL v ++ C)) ?_).trans (g67.mono' ?_)
    · intro i hi; rw [List.mem_singleton] at hi; subst hi; simp [hrC]
    · intro i hi
      rcases List.mem_cons.1 hi with rfl | hi
      · simp
      · simp [hi]
  have hrl := hlt _ hrC
  have hr67 : W.heap[rp n]? = w6.heap[rp n]? := g67.blk _ (by omega) (fun hm => by
    rcases List.mem_cons.1 hm with h1 | h1
    · exact b5C (h1 ▸ hrC)
    · have := hvlo _ h1; omega)
  have hsub : ∀ i ∈ b5 :: ownL v, i ∈ rgB lo wr ++ (b4 :: b5 :: E) := fun i hi => by
    rcases List.mem_cons.1 hi with rfl | hi
    · simp
    · exact List.mem_append_left _ (mem_rgB.2 (hvlo i hi))
  have hrW : RwM W (rgB lo W ++ (b4 :: b5 :: E)) (rp n) r' := hr.keep ⟨g67.mono' (fun i hi => by
      rcases List.mem_append.1 (hsub i hi) with h1 | h1
      · exact List.mem_append_right _ (List.mem_append_left _ (mem_rgB.2 ⟨(mem_rgB.1 h1).1, Nat.lt_of_lt_of_le (mem_rgB.1 h1).2 hX⟩))
      · exact List.mem_append_right _ (List.mem_append_right _ h1)), fun i hi => by
      rcases List.mem_append.1 hi with h1 | h1
      · rcases rgB_n (X := w6) h1 with h2 | h2
        · rcases rgB_n (X := X) h2 with h3 | h3
          · exact .inl (List.mem_append_right _ (List.mem_append_left _ h3))
          · exact .inl (List.mem_append_left _ (mem_rgB.2 ⟨h3, (mem_rgB.1 h2).2⟩))
        · exact .inr h2
      · exact .inl (List.mem_append_right _ (List.mem_append_right _ h1))⟩ hr67
  have eW : EnM W (rgB lo W ++ (b4 :: b5 :: E)) C x (m.put n r') rb fb rp cp := hE.setRowT hn ⟨gW.mono' (fun i hi => by
      rcases List.mem_cons.1 hi with rfl | hi
      · simp
      rcases List.mem_append.1 hi with hi | hi
      · exact List.mem_append_left _ (mem_rgB.2 (hvlo i hi))
      · exact hE.CE i hi), fun i hi => by
      rcases List.mem_append.1 hi with h1 | h1
      · rcases rgB_n (X := wr) h1 with h2 | h2
        · exact .inl (List.mem_append_left _ h2)
        · exact .inr h2
      · exact .inl (List.mem_append_right _ h1)⟩ (fun i hi hne => by
      have h1 := hlt i hi
      rw [g67.blk i (by omega) (fun hm => by
        rcases List.mem_cons.1 hm with rfl | h2
        · exact b5C hi
        · have := hvlo _ h2; omega), g6.blk i (by omega) (fun hm => hne (List.mem_singleton.1 hm))]) (fun i hi => by
      rcases List.mem_append.1 (hE.CE i hi) with h1 | h1
      · have := hlt i hi; have := (mem_rgB.1 h1).1; omega
      · exact List.mem_append_right _ h1) (fun i hi => by
      rcases List.mem_append.1 hi with h1 | h1
      · exact (mem_rgB.1 h1).2
      · exact Nat.lt_of_lt_of_le (hE.ltE i (List.mem_append_right _ h1)) gW.size) hrW
  have p7 : PmG lo w7 v7 (ps ++ ps6) := ⟨by rw [List.length_append, pms_app]; exact h7o, fun p hp => by
    rcases List.mem_append.1 hp with h1 | h1
    · have h2 := ((hps.gr g6 (by intro i hi; rw [List.mem_singleton] at hi; subst hi; exact hlt _ hrC)).el p h1).tr t7
      exact h2
    · exact (((hp6.el p h1).re (D := ownL v) (fun i hi => .inr (.inl (by have := hvlo i hi; omega)))).tr t7).lo (by omega)⟩
  exact ⟨eW, p7.gr hW (by intro i hi; rw [List.mem_singleton] at hi; subst hi; exact hb5), gW⟩
section
variable {E C : List Nat} {x : Nat} {m : En} {rb fb : Nat} {rp cp : Int → Nat}
set_option maxRecDepth 100000 in
set_option maxHeartbeats 8000000 in
theorem tick_s (w : World) (h : EnM w E C x m rb fb rp cp) (now : Int) (now0 : 0 ≤ now) (now1 : now ≤ 18446744073709551615) :
    Calls Tryz.prog 14 #[.pointer (some ⟨x, 0, none⟩), .int .u64 now] w (RetTk w E C x rb fb rp cp (m.tick now)) := by
  have HE := hide h
  haveI := h.bx
  have hxl := h.bx.lt
  haveI : LtN x w.heap.size := ⟨hxl⟩
  have hCC : ∀ j ∈ C, j < w.heap.size := fun j hj => h.ltE j (h.CE j hj)
  have HCC := hide hCC
  have TN := hide (fun W (h : EnM W E C x m rb fb rp cp) => nodes16_s W h)
  have hnl := nodes_len m
  clear h hCC
  go_enter Tryz.func14, Tryz.ntmps14
  go_wp2_with (go_at_call 19; (with_reducible refine (TN.out _ (HE.out.below blw)).mono ?_); rintro e w1 ⟨v1, rfl, ho1, hb1⟩; haveI : Stp _ w1 := ⟨hb1⟩; obtain ⟨NA, nc, rfl, _, _⟩ := own_slice ho1; have HO1 := hide ho1; have z1 : w.heap.size + 1 < w1.heap.size := BoxAt.lt (w := w1) (n := w.heap.size + 1) inferInstance; clear ho1 hb1)
  have HNR : Hid (RO w1 ((w.heap.size + 1) :: C) 1 NA m.nodes.length (ics m.nodes)) := hide (.own HO1.out (fun j hj => by
    simp only [World.size_alloc]
    rcases List.mem_cons.1 hj with rfl | hj
    · omega
    · have := HCC.out j hj; omega))
  obtain ⟨lo, hlo⟩ : ∃ lo, lo = w1.heap.size := ⟨_, rfl⟩
  haveI : LtN (w.heap.size + 1) lo := ⟨by omega⟩
  haveI : LtN w.heap.size lo := ⟨by omega⟩
  have HLO := hide hlo
  clear hlo
  go_loopw [12] (fun j wr => ∃ k : Nat, k ≤ m.nodes.length ∧ j = .int .i64 k ∧ TickL now m w w1 E C x rb fb rp cp lo k wr) (fun j _ => m.nodes.length - (intOf j).toNat)
  case atStart =>
    refine ⟨0, Nat.zero_le _, rfl, ⟨m, []⟩, _, [], rfl, ?_, inferInstance, inferInstance, PmG.nil _ _, rfl, Nat.le_refl _, Gr.refl _ _⟩
    rw [show rgB lo w1 = [] by rw [HLO.out]; exact rgB_top _, List.nil_append]
    exact HE.out.more (W := w1) blw (fun j hj => by
      rcases List.mem_cons.1 hj with rfl | hj
      · exact .inr (Nat.le_refl _)
      rcases List.mem_cons.1 hj with rfl | hj
      · exact .inr (by omega)
      · exact .inl hj) (fun j hj => List.mem_cons_of_mem _ (List.mem_cons_of_mem _ (HE.out.CE j hj))) (fun j hj => by
      rcases List.mem_cons.1 hj with rfl | hj
      · omega
      rcases List.mem_cons.1 hj with rfl | hj
      · omega
      · have := HE.out.ltE j hj; omega)
  case round =>
    obtain ⟨k, hk, rfl, st, pv, ps, hst, hE, hb5, hb4, hps, hmp, hpl, hG⟩ := hrel
    obtain ⟨PA, pc, rfl, _, _⟩ := own_slice hps.row
    haveI := hb5
    haveI := hb4
    haveI bxr := hE.bx
    have HER := hide hE
    have HPS := hide hps
    have HMP := hide hmp
    have HG := hide hG
    have HST := hide hst
    have zr : w1.heap.size ≤ wr.heap.size := hG.size
    have zlo : lo ≤ wr.heap.size := by rw [HLO.out]; exact zr
    clear hE hps hmp hG hst
    by_cases hlt : k < m.nodes.length
    · have hRn := (HNR.out.tr (.of HG.out)).1
      obtain ⟨b, off, n, rfl, hb, hn, g1⟩ := Reads.atI hRn hlt
      haveI : CellAt wr b (off + k) (.int .i64 n) := ⟨hb, g1⟩
      have hnm : n ∈ m.nodes := List.mem_of_getElem? hn
      have hom : m.oth n := (isR_iff.1 (List.mem_filter.1 hnm).2).1
      have hnn : st.m.n = m.n := by rw [HST.out]; exact (tick1_n now _ _).1
      have hos : st.m.oth n := by unfold En.oth at hom ⊢; rw [hnn]; exact hom
      haveI := HER.out.row hos
      obtain ⟨⟨hok, A2, c2, ds, hbr, hds, hmap, hcl⟩, hrC⟩ := HER.out.ro n hos
      haveI := hbr
      have hrlt := HCC.out _ hrC
      haveI : LtN (rp n) w.heap.size := ⟨hrlt⟩
      haveI : LtN (rp n) lo := ⟨by have := HLO.out; omega⟩
      have HN := hide hn
      have HOS := hide hos
      have HOK := hide hok
      have HRC := hide hrC
      have i0 : (0 : Int) ≤ (k : Int) := by omega
      have i1 : (k : Int) < (m.nodes.length : Int) := by omega
      have st0 := hok.s0
      have st1 := hok.s1
      have HFK : Hid ((m.nodes.take (k + 1)).foldl (tick1 now) ⟨m, []⟩ = tick1 now st n) := hide (by rw [take_succ_of hn, List.foldl_append, ← HST.out]; rfl)
      clear hRn hb hn g1 hnm hom hos hok hds hmap hcl hrC
      by_cases hc : (st.m.rw n).st ≤ now ∧ 2 ≤ now - (st.m.rw n).st
      · have e1 : decide ((st.m.rw n).st ≤ now) = true := decide_eq_true hc.1
        have hw : IntKind.u64.wrap (now - (st.m.rw n).st) = now - (st.m.rw n).st := IntWalk.u64_in _ (by omega)
        have e2 : decide (2 ≤ now - (st.m.rw n).st) = true := decide_eq_true hc.2
        have HTI : Hid (tick1 now st n = ⟨st.m.put n ((st.m.rw n).dueR now 0), st.ps ++ st.m.due n (st.m.rw n) 0⟩) := hide (by unfold tick1; rw [if_pos hc])
        have HDU : Hid (∀ W, Below wr.heap.size wr W → Calls Tryz.prog 40 #[.pointer (some ⟨x, 0, none⟩), .int .u64 now, .int .i64 n, .pointer (some ⟨rp n, 0, none⟩), .int .u64 0] W (RetDueP W (rgB lo W ++ (w.heap.size :: (w.heap.size + 1) :: E)) (rp n) (st.m.due n (st.m.rw n) 0) ((st.m.rw n).dueR now 0))) := hide (fun W hW => due_s W (HER.out.rgb hW (fun j hj => HER.out.ltE j (List.mem_append_right _ hj))) n HOS.out now 0 now0 now1)
        have HPO : Hid (∀ X W : World, Gr [rp n] X W → X.ownsRow lo 43 10 (.slice PA ps.length pc) ps.length (pms ps) → W.ownsRow lo 43 10 (.slice PA ps.length pc) ps.length (pms ps)) := hide (fun X W hg hX => own_same hX (fun j hj => hg.blk j (hX.lt j hj).2 (fun hm => by rw [List.mem_singleton] at hm; have := (hX.lt j hj).1; have := HLO.out; omega)))
        clear hc
        go_upto_region 7 with fail
        refine wp_region_held_drew (S := fun _ => True) (by kernel_rfl) trivial (fun hS => ?_)
        refine wpAnyH_take (i := 0) (v := .pointer (some ⟨w.heap.size + 1, 0, none⟩)) rfl (by kernel_rfl) (by kernel_rfl) (by kernel_rfl) (fun _ _ _ h => h) (Or.inl ⟨by rfl, ?_⟩) hS ?_
        · intro w' hSw
          go_simp
        simp only [Act.put, List.setIfInBounds_toArray, List.set_cons_zero, List.set_cons_succ]
        refine wpAnyH_take (i := 2) (v := .pointer (some ⟨x, 0, none⟩)) rfl (by kernel_rfl) (by kernel_rfl) (by kernel_rfl) (fun _ _ _ h => h) (Or.inl ⟨by rfl, ?_⟩) hS ?_
        · intro w' hSw
          go_simp
        simp only [Act.put, List.setIfInBounds_toArray, List.set_cons_zero, List.set_cons_succ]
        refine wpAnyH_take (i := 3) (v := .int .u64 now) rfl (by kernel_rfl) (by kernel_rfl) (by kernel_rfl) (fun _ _ _ h => h) (Or.inl ⟨by rfl, ?_⟩) hS ?_
        · intro w' hSw
          go_simp
        simp only [Act.put, List.setIfInBounds_toArray, List.set_cons_zero, List.set_cons_succ]
        refine wpAnyH_take (i := 4) (v := .int .i64 n) rfl (by kernel_rfl) (by kernel_rfl) (by kernel_rfl) (fun _ _ _ h => h) (Or.inl ⟨by rfl, ?_⟩) hS ?_
        · intro w' hSw
          go_simp
        simp only [Act.put, List.setIfInBounds_toArray, List.set_cons_zero, List.set_cons_succ]
        refine wpAnyH_take (i := 5) (v := .pointer (some ⟨rp n, 0, none⟩)) rfl (by kernel_rfl) (by kernel_rfl) (by kernel_rfl) (fun _ _ _ h => h) (Or.inl ⟨by rfl, ?_⟩) hS ?_
        · intro w' hSw
          go_simp
        simp only [Act.put, List.setIfInBounds_toArray, List.set_cons_zero, List.set_cons_succ]
        refine wpAnyH_ready (rs := [1, 6]) (by kernel_rfl) (by simp) ?_
        refine AllReadyH.cons rfl (fun K hK => ?_) (AllReadyH.cons rfl (fun K hK => ?_) AllReadyH.nil)
        · go_simp
          refine hK.out _ _ trivial (fun hS => ?_)
          clear hK K
          (try simp only [Act.put, List.setIfInBounds_toArray, List.set_cons_zero, List.set_cons_succ])
          refine wpAnyH_ready (rs := [6]) (by kernel_rfl) (by simp) ?_
          refine AllReadyH.cons rfl (fun K hK => ?_) AllReadyH.nil
          go_simp
          refine (HDU.out _ blw).mono ?_
          rintro e w6 ⟨v6, ps6, rfl, hp6, hm6, hr6, hg6⟩
          haveI : StpG (rp n) _ w6 := ⟨hg6.grow⟩
          have HP6 := hide hp6
          have HM6 := hide hm6
          have HR6 := hide hr6
          have HG6 := hide hg6
          refine hK.out _ _ trivial (fun hS => ?_)
          have zw6 : lo ≤ w6.heap.size := Nat.le_trans zlo (Nat.le_trans (by simp) hg6.size)
          obtain ⟨A6, c6, rfl, _, _⟩ := own_slice hp6.row
          have hl6 : ps6.length ≤ 8 := by
            have h1 := congrArg List.length hm6
            rw [List.length_map] at h1
            have h2 := dueK_len st.m n (st.m.rw n) 0 (st.m.rw n).due
            have h3 : (st.m.rw n).due ≤ 8 := by unfold Rw.due; omega
            unfold En.due at h1
            omega
          clear hp6 hm6 hr6 hg6
          clear hK K
          (try simp only [Act.put, List.setIfInBounds_toArray, List.set_cons_zero, List.set_cons_succ])
          refine wpAnyH_ready (rs := [7]) (by kernel_rfl) (by simp) ?_
          refine AllReadyH.cons rfl (fun K hK => ?_) AllReadyH.nil
          (refine step_append_x Tryz.okPm rfl (.tmp 38) (.tmp 43) rfl lo (.slice PA ps.length pc) ps.length (pms ps) ps6.length (pms ps6) ?_ ?_ ?_ ?_ ?_ ?_ ?_ ?_; go_must ((focus (first | rfl | (simp [Act.eval, Act.put]; done))); (focus (exact HPO.out _ _ HG6.out (own_tc HPS.out.row))); (focus (refine ⟨_, _, by first | rfl | (simp [Act.eval, Act.put]; done), ?_⟩; exact Reads.of_own HP6.out.row)); (focus (exact pms_one _)); (focus (unfold maxLen; omega)); (focus omega); (focus (first | omega | (simp; done) | (simp; omega) | exact blw.size | exact BoxAt.lt (n := w.heap.size) inferInstance)); intro v7 w7 ho7 hg7 ha7; obtain ⟨A7, c7, rfl, _, _⟩ := own_slice ho7; haveI : StpB lo _ w7 := ⟨grown_belowT hg7 (Nat.le_trans zlo HG6.out.size) (fun q hq => (HPS.out.row.lt q hq).1)⟩; have O7 := hide ho7; have HG7 := hide hg7; have HA7 := hide ha7; refine hK.out _ _ trivial (fun hS => ?_); clear ho7 hg7 ha7))
          clear hK K
          (try simp only [Act.put, List.setIfInBounds_toArray, List.set_cons_zero, List.set_cons_succ])
          refine wpAnyH_take (i := 8) (v := .pointer (some ⟨w.heap.size + 1, 0, none⟩)) rfl (by kernel_rfl) (by kernel_rfl) (by kernel_rfl) (fun _ _ _ h => h) (Or.inl ⟨by rfl, ?_⟩) hS ?_
          · intro w' hSw
            go_simp
          simp only [Act.put, List.setIfInBounds_toArray, List.set_cons_zero, List.set_cons_succ]
          refine wpAnyH_ready (rs := [9]) (by kernel_rfl) (by simp) ?_
          refine AllReadyH.cons rfl (fun K hK => ?_) AllReadyH.nil
          go_simp
          refine hK.out _ _ trivial (fun hS => ?_)
          clear hK K
          (try simp only [Act.put, List.setIfInBounds_toArray, List.set_cons_zero, List.set_cons_succ])
          refine wpAnyH_done (by kernel_rfl) ?_ _
          clear hS
          go_wp2_with fail
          go_roundw
          case rel =>
            obtain ⟨f1, f2, f3⟩ := tick_fin HER.out HOS.out (by exact blw) HG6.out HR6.out HPS.out HP6.out HG7.out HA7.out O7.out (Gr.set (m := w.heap.size + 1) _ 0 _ (List.mem_singleton.2 rfl)) zlo (fun i hi => by have := HCC.out i hi; have := HLO.out; omega) (by have := HLO.out; omega) (fun hm => by have := HCC.out _ hm; omega)
            refine ⟨k + 1, by omega, by go_num, _, _, ps ++ ps6, HFK.out.symm, by rw [HTI.out]; exact f1, inferInstance, inferInstance, f2, by rw [HTI.out, List.map_append, HMP.out, HM6.out], by rw [List.length_append]; omega, ?_⟩
            refine ((HG.out.mono' (D := (w.heap.size + 1) :: (ownL (.slice PA ps.length pc) ++ C)) (fun i hi => ?_)).trans f3).less (fun i hi => ?_)
            · rcases List.mem_cons.1 hi with rfl | hi
              · simp
              · simp [hi]
            · rcases List.mem_cons.1 hi with rfl | hi
              · simp
              rcases List.mem_append.1 hi with hi | hi
              · exact .inr (by have := (HPS.out.row.lt i (mem_ownL.1 hi)).1; have := HLO.out; omega)
              · exact .inl (List.mem_cons_of_mem _ hi)
          case measure => simp [intOf]; omega
        · go_simp
          refine (HDU.out _ blw).mono ?_
          rintro e w6 ⟨v6, ps6, rfl, hp6, hm6, hr6, hg6⟩
          haveI : StpG (rp n) _ w6 := ⟨hg6.grow⟩
          have HP6 := hide hp6
          have HM6 := hide hm6
          have HR6 := hide hr6
          have HG6 := hide hg6
          refine hK.out _ _ trivial (fun hS => ?_)
          have zw6 : lo ≤ w6.heap.size := Nat.le_trans zlo (Nat.le_trans (by simp) hg6.size)
          obtain ⟨A6, c6, rfl, _, _⟩ := own_slice hp6.row
          have hl6 : ps6.length ≤ 8 := by
            have h1 := congrArg List.length hm6
            rw [List.length_map] at h1
            have h2 := dueK_len st.m n (st.m.rw n) 0 (st.m.rw n).due
            have h3 : (st.m.rw n).due ≤ 8 := by unfold Rw.due; omega
            unfold En.due at h1
            omega
          clear hp6 hm6 hr6 hg6
          clear hK K
          (try simp only [Act.put, List.setIfInBounds_toArray, List.set_cons_zero, List.set_cons_succ])
          refine wpAnyH_ready (rs := [1]) (by kernel_rfl) (by simp) ?_
          refine AllReadyH.cons rfl (fun K hK => ?_) AllReadyH.nil
          go_simp
          refine hK.out _ _ trivial (fun hS => ?_)
          clear hK K
          (try simp only [Act.put, List.setIfInBounds_toArray, List.set_cons_zero, List.set_cons_succ])
          refine wpAnyH_ready (rs := [7]) (by kernel_rfl) (by simp) ?_
          refine AllReadyH.cons rfl (fun K hK => ?_) AllReadyH.nil
          (refine step_append_x Tryz.okPm rfl (.tmp 38) (.tmp 43) rfl lo (.slice PA ps.length pc) ps.length (pms ps) ps6.length (pms ps6) ?_ ?_ ?_ ?_ ?_ ?_ ?_ ?_; go_must ((focus (first | rfl | (simp [Act.eval, Act.put]; done))); (focus (exact HPO.out _ _ HG6.out (own_tc HPS.out.row))); (focus (refine ⟨_, _, by first | rfl | (simp [Act.eval, Act.put]; done), ?_⟩; exact Reads.of_own HP6.out.row)); (focus (exact pms_one _)); (focus (unfold maxLen; omega)); (focus omega); (focus (first | omega | (simp; done) | (simp; omega) | exact blw.size | exact BoxAt.lt (n := w.heap.size) inferInstance)); intro v7 w7 ho7 hg7 ha7; obtain ⟨A7, c7, rfl, _, _⟩ := own_slice ho7; haveI : StpB lo _ w7 := ⟨grown_belowT hg7 (Nat.le_trans zlo HG6.out.size) (fun q hq => (HPS.out.row.lt q hq).1)⟩; have O7 := hide ho7; have HG7 := hide hg7; have HA7 := hide ha7; refine hK.out _ _ trivial (fun hS => ?_); clear ho7 hg7 ha7))
          clear hK K
          (try simp only [Act.put, List.setIfInBounds_toArray, List.set_cons_zero, List.set_cons_succ])
          refine wpAnyH_take (i := 8) (v := .pointer (some ⟨w.heap.size + 1, 0, none⟩)) rfl (by kernel_rfl) (by kernel_rfl) (by kernel_rfl) (fun _ _ _ h => h) (Or.inl ⟨by rfl, ?_⟩) hS ?_
          · intro w' hSw
            go_simp
          simp only [Act.put, List.setIfInBounds_toArray, List.set_cons_zero, List.set_cons_succ]
          refine wpAnyH_ready (rs := [9]) (by kernel_rfl) (by simp) ?_
          refine AllReadyH.cons rfl (fun K hK => ?_) AllReadyH.nil
          go_simp
          refine hK.out _ _ trivial (fun hS => ?_)
          clear hK K
          (try simp only [Act.put, List.setIfInBounds_toArray, List.set_cons_zero, List.set_cons_succ])
          refine wpAnyH_done (by kernel_rfl) ?_ _
          clear hS
          go_wp2_with fail
          go_roundw
          case rel =>
            obtain ⟨f1, f2, f3⟩ := tick_fin HER.out HOS.out (by exact blw) HG6.out HR6.out HPS.out HP6.out HG7.out HA7.out O7.out (Gr.set (m := w.heap.size + 1) _ 0 _ (List.mem_singleton.2 rfl)) zlo (fun i hi => by have := HCC.out i hi; have := HLO.out; omega) (by have := HLO.out; omega) (fun hm => by have := HCC.out _ hm; omega)
            refine ⟨k + 1, by omega, by go_num, _, _, ps ++ ps6, HFK.out.symm, by rw [HTI.out]; exact f1, inferInstance, inferInstance, f2, by rw [HTI.out, List.map_append, HMP.out, HM6.out], by rw [List.length_append]; omega, ?_⟩
            refine ((HG.out.mono' (D := (w.heap.size + 1) :: (ownL (.slice PA ps.length pc) ++ C)) (fun i hi => ?_)).trans f3).less (fun i hi => ?_)
            · rcases List.mem_cons.1 hi with rfl | hi
              · simp
              · simp [hi]
            · rcases List.mem_cons.1 hi with rfl | hi
              · simp
              rcases List.mem_append.1 hi with hi | hi
              · exact .inr (by have := (HPS.out.row.lt i (mem_ownL.1 hi)).1; have := HLO.out; omega)
              · exact .inl (List.mem_cons_of_mem _ hi)
          case measure => simp [intOf]; omega
      · have HTI : Hid (tick1 now st n = st) := hide (by unfold tick1; rw [if_neg hc])
        have fin : ∀ W, W = wr → (∃ k' : Nat, k' ≤ m.nodes.length ∧ (.int .i64 ((k : Int) + 1) : Value) = .int .i64 k' ∧ TickL now m w w1 E C x rb fb rp cp lo k' W) := fun W hW => by
          subst hW
          exact ⟨k + 1, by omega, by go_num, st, _, ps, by rw [HFK.out, HTI.out], HER.out, inferInstance, inferInstance, HPS.out, HMP.out, by omega, HG.out⟩
        have FIN := hide fin
        clear fin
        by_cases hc1 : (st.m.rw n).st ≤ now
        · have e1 : decide ((st.m.rw n).st ≤ now) = true := decide_eq_true hc1
          have hw : IntKind.u64.wrap (now - (st.m.rw n).st) = now - (st.m.rw n).st := IntWalk.u64_in _ (by omega)
          have e2 : decide (2 ≤ now - (st.m.rw n).st) = false := decide_eq_false (fun h => hc ⟨hc1, h⟩)
          clear hc hc1
          go_wp2_with fail
          go_roundw
          case rel => exact FIN.out _ rfl
          case measure => simp [intOf]; omega
        · have e1 : decide ((st.m.rw n).st ≤ now) = false := decide_eq_false hc1
          clear hc hc1
          go_wp2_with fail
          go_roundw
          case rel => exact FIN.out _ rfl
          case measure => simp [intOf]; omega
    · have hke : k = m.nodes.length := by omega
      subst hke
      go_wp2_with fail
      refine bodyPost_ret (v := .agg #[.slice PA ps.length pc, .slice none 0 0, .slice none 0 0]) (by simp [results, Tryz.results14, go_sem]) rfl ?_
      have HT : Hid (m.tick now = (st.m, ⟨st.ps, [], []⟩)) := hide (by unfold En.tick; rw [HST.out, List.take_length])
      have HF : Hid (∀ W : World, Gr [w.heap.size] wr W → RetTk w E C x rb fb rp cp (st.m, ⟨st.ps, [], []⟩) (.returned (.agg #[.slice PA ps.length pc, .slice none 0 0, .slice none 0 0])) W) := hide (fun W hW => by
        have p1 := HPS.out.gr hW (by intro i hi; rw [List.mem_singleton] at hi; subst hi; exact LtN.h)
        have hwlo : w.heap.size ≤ lo := by have := HLO.out; omega
        have e1 : EnM W (rgB lo W ++ E) C x st.m rb fb rp cp := HER.out.keep ⟨hW.mono' (by simp), fun i hi => by
          rcases List.mem_append.1 hi with h1 | h1
          · rcases rgB_n (X := wr) h1 with h2 | h2
            · exact .inl (List.mem_append_left _ h2)
            · exact .inr h2
          · exact .inl (List.mem_append_right _ (List.mem_cons_of_mem _ (List.mem_cons_of_mem _ h1)))⟩ (fun i hi => hW.blk i (HER.out.ltE i (HER.out.CE i hi)) (fun hm => by rw [List.mem_singleton] at hm; subst hm; have := HCC.out _ hi; omega)) (fun i hi => List.mem_append_right _ (HE.out.CE i hi)) (fun i hi => by
          rcases List.mem_append.1 hi with h1 | h1
          · exact (mem_rgB.1 h1).2
          · exact Nat.lt_of_lt_of_le (HE.out.ltE i h1) (by have := hW.size; omega))
        refine ⟨_, lo, rfl, AnsI.lo (AnsM.i ⟨_, ps, _, [], _, rfl, p1, HMP.out, .nil _ _, rfl, World.ownsRow_nil _ _ _ _⟩) hwlo, hwlo, e1, ?_⟩
        have g1 : Gr (w.heap.size :: (w.heap.size + 1) :: C) w w1 := .of blw
        have g2 : Gr (w.heap.size :: (w.heap.size + 1) :: C) w1 wr := HG.out.mono' (fun i hi => by
          rcases List.mem_cons.1 hi with rfl | hi
          · simp
          · simp [hi])
        have g3 : Gr (w.heap.size :: (w.heap.size + 1) :: C) wr W := hW.mono' (fun i hi => by rw [List.mem_singleton] at hi; subst hi; simp)
        exact ((g1.trans g2).trans g3).less (fun i hi => by
          rcases List.mem_cons.1 hi with rfl | hi
          · exact .inr (Nat.le_refl _)
          rcases List.mem_cons.1 hi with rfl | hi
          · exact .inr (by omega)
          · exact .inl hi))
      rw [HT.out]
      exact HF.out _ (((Gr.set (m := w.heap.size) _ 0 _ (by simp)).trans (Gr.set (m := w.heap.size) _ 1 _ (by simp))).trans (Gr.set (m := w.heap.size) _ 2 _ (by simp)))
end
end Go.Proofs.YtniogmefbjfoaaaGreat

namespace Go.Proofs.YtniogmefbjfoaaaGreat
set_option linter.unusedSimpArgs false
set_option linter.unusedVariables false
set_option linter.unusedSectionVars false
open Go.RowKit Go.Maps

def RetSn (w : World) (E C : List Nat) (x : Nat) (rb fb : Nat) (rp cp : Int → Nat) (r : En × An × Int) (e : Ending) (W' : World) : Prop := ∃ v B0, e = .returned (.tuple #[v, .int .i64 r.2.2]) ∧ AnsI w.heap.size B0 W' v r.2.1 ∧ w.heap.size ≤ B0 ∧ EnM W' (rgB B0 W' ++ E) C x r.1 rb fb rp cp ∧ Gr C w W'
theorem tens_at {k : Nat} (h : k < 10) : tens[k]? = some ((k : Int) + 1) := by
  unfold tens
  rw [List.getElem?_map, List.getElem?_range h]
  rfl
theorem sends_succ (m : En) (now : Int) (body : List Int) (dsts : List Int) {k : Nat} (h : k < 10) : m.sends now body dsts (k + 1) = send1 now body dsts (m.sends now body dsts k) ((k : Int) + 1) := by
  unfold En.sends
  rw [take_succ_of (tens_at h), List.foldl_append]
  rfl
theorem send1_n (now : Int) (body : List Int) (dsts : List Int) (s : Snd) (n : Int) : (send1 now body dsts s n).m.n = s.m.n ∧ (send1 now body dsts s n).m.i = s.m.i ∧ (send1 now body dsts s n).fl.length ≤ s.fl.length + 1 ∧ (send1 now body dsts s n).hs.length ≤ s.hs.length + 1 := by
  unfold send1
  split
  · split
    · exact ⟨rfl, rfl, by simp, by simp⟩
    · refine ⟨rfl, rfl, by simp, ?_⟩
      simp only
      split <;> simp
  · exact ⟨rfl, rfl, by simp, by simp⟩
theorem sends_n (m : En) (now : Int) (body : List Int) (dsts : List Int) : ∀ k, k ≤ 10 → (m.sends now body dsts k).m.n = m.n ∧ (m.sends now body dsts k).m.i = m.i ∧ (m.sends now body dsts k).fl.length ≤ k ∧ (m.sends now body dsts k).hs.length ≤ k
  | 0, _ => ⟨rfl, rfl, by simp [En.sends], by simp [En.sends]⟩
  | k + 1, h => by
    obtain ⟨h1, h2, h3, h4⟩ := sends_n m now body dsts k (by omega)
    rw [sends_succ _ _ _ _ (by omega)]
    obtain ⟨g1, g2, g3, g4⟩ := send1_n now body dsts (m.sends now body dsts k) ((k : Int) + 1)
    exact ⟨by rw [g1, h1], by rw [g2, h2], by omega, by omega⟩
/-- while Send goes through the nodes -/
structure SnL (w : World) (E C : List Nat) (x : Nat) (rb fb : Nat) (rp cp : Int → Nat) (b8 b12 : Nat) (s : Snd) (hv fv : Value) (W : World) : Prop where
  e : EnM W (ownL hv ++ (ownL fv ++ (b8 :: b12 :: E))) C x s.m rb fb rp cp
  h : W.ownsRow (b12 + 1) 93 4 hv s.hs.length (hcs s.hs)
  f : W.ownsRow (b12 + 1) 3 1 fv s.fl.length (ics s.fl)
  d : ∀ i ∈ ownL hv, i ∉ ownL fv
  g : Gr C w W
  z : w.heap.size ≤ b8 ∧ b8 < b12 ∧ b12 < W.heap.size
section
variable {w : World} {E C : List Nat} {x : Nat} {rb fb : Nat} {rp cp : Int → Nat} {b8 b12 : Nat} {s : Snd} {hv fv : Value} {X W : World}
theorem SnL.hlt (h : SnL w E C x rb fb rp cp b8 b12 s hv fv X) : ∀ i ∈ ownL hv, b12 + 1 ≤ i ∧ i < X.heap.size := fun i hi => h.h.lt i (mem_ownL.1 hi)
theorem SnL.flt (h : SnL w E C x rb fb rp cp b8 b12 s hv fv X) : ∀ i ∈ ownL fv, b12 + 1 ≤ i ∧ i < X.heap.size := fun i hi => h.f.lt i (mem_ownL.1 hi)
theorem SnL.below (h : SnL w E C x rb fb rp cp b8 b12 s hv fv X) (hb : Below X.heap.size X W) : SnL w E C x rb fb rp cp b8 b12 s hv fv W :=
  ⟨h.e.below hb, own_below h.h hb (Nat.le_refl _), own_below h.f hb (Nat.le_refl _), h.d, h.g.trans (.of hb), h.z.1, h.z.2.1, Nat.lt_of_lt_of_le h.z.2.2 hb.size⟩
/-- a node whose row is full is told -/
theorem SnL.full (h : SnL w E C x rb fb rp cp b8 b12 s hv fv X) (hC : ∀ i ∈ C, i < w.heap.size) {X6 w7 : World} (hb : Below X.heap.size X X6) {fv' : Value} (n : Int) (h7o : w7.ownsRow (b12 + 1) 3 1 fv' (s.fl.length + 1) (ics s.fl ++ ics [n])) (h7 : X6.grownBy w7 fv.ownBlock) (h7a : fv'.ownBlock = fv.ownBlock ∨ fv'.ownBlock = some X6.heap.size) (hW : Gr [b12] w7 W) :
    SnL w E C x rb fb rp cp b8 b12 { s with fl := s.fl ++ [n] } hv fv' W := by
  have hz := hb.size
  have h7z := h7.size
  have g : Gr (b12 :: ownL fv) X W := ((Gr.of hb).trans (Gr.grown h7 (fun k hk => List.mem_cons_of_mem _ (mem_ownL.2 hk)))).trans (hW.mono' (by simp))
  have hnew : ∀ i ∈ ownL fv', i ∈ ownL fv ∨ X.heap.size ≤ i := fun i hi => by
    rw [mem_ownL] at hi ⊢
    rcases h7a with h1 | h1
    · rw [h1] at hi; exact .inl hi
    · rw [h1] at hi; injection hi with hi; exact .inr (by omega)
  have hCs : ∀ i ∈ C, i ∉ b12 :: ownL fv := fun i hi hm => by
    have h1 := hC i hi
    have h2 := h.z
    rcases List.mem_cons.1 hm with rfl | hm
    · omega
    · have := h.flt i hm; omega
  have hfo : W.ownsRow (b12 + 1) 3 1 fv' (s.fl.length + 1) (ics s.fl ++ ics [n]) := own_same h7o (fun i hi => hW.blk i (h7o.lt i hi).2 (fun hm => by rw [List.mem_singleton] at hm; have := (h7o.lt i hi).1; omega))
  refine ⟨h.e.keep ⟨g.mono' (fun i hi => ?_), fun i hi => ?_⟩ (fun i hi => g.blk i (h.e.ltE i (h.e.CE i hi)) (hCs i hi)) (fun i hi => ?_) (fun i hi => ?_), ?_, ?_, fun i hi hm => ?_, ?_, h.z.1, h.z.2.1, Nat.lt_of_lt_of_le h.z.2.2 g.size⟩
  · rcases List.mem_cons.1 hi with rfl | hi
    · simp
    · simp [hi]
  · rcases List.mem_append.1 hi with hi | hi
    · simp [hi]
    rcases List.mem_append.1 hi with hi | hi
    · rcases hnew i hi with h1 | h1
      · simp [h1]
      · exact .inr h1
    · exact .inl (List.mem_append_right _ (List.mem_append_right _ hi))
  · have h1 := h.e.CE i hi
    rcases List.mem_append.1 h1 with h1 | h1
    · exact List.mem_append_left _ h1
    rcases List.mem_append.1 h1 with h1 | h1
    · exact absurd (List.mem_cons_of_mem _ h1) (hCs i hi)
    · exact List.mem_append_right _ (List.mem_append_right _ h1)
  · rcases List.mem_append.1 hi with hi | hi
    · exact Nat.lt_of_lt_of_le (h.hlt i hi).2 g.size
    rcases List.mem_append.1 hi with hi | hi
    · exact (hfo.lt i (mem_ownL.1 hi)).2
    · exact Nat.lt_of_lt_of_le (h.e.ltE i (List.mem_append_right _ (List.mem_append_right _ hi))) g.size
  · exact own_same h.h (fun i hi => g.blk i (h.h.lt i hi).2 (fun hm => by
      rcases List.mem_cons.1 hm with rfl | hm
      · have := (h.h.lt _ hi).1; omega
      · exact h.d i (mem_ownL.2 hi) hm))
  · rw [List.length_append, ics_app]
    exact hfo
  · rcases hnew i hm with h1 | h1
    · exact h.d i hi h1
    · have := (h.hlt i hi).2; omega
  · exact ((h.g.mono' (D := C ++ (b12 :: ownL fv)) (fun i hi => List.mem_append_left _ hi)).trans (g.mono' (fun i hi => List.mem_append_right _ hi))).less (fun i hi => by
      rcases List.mem_append.1 hi with hi | hi
      · exact .inl hi
      · refine .inr ?_
        have h2 := h.z
        rcases List.mem_cons.1 hi with rfl | hi
        · omega
        · have := h.flt i hi; omega)
/-- a row is pushed to -/
theorem SnL.push (h : SnL w E C x rb fb rp cp b8 b12 s hv fv X) (hC : ∀ i ∈ C, i < w.heap.size) {n : Int} (hn : s.m.oth n) {W3 : World} (hb : Below X.heap.size X W3) {B : Nat} (hB : X.heap.size ≤ B) {A : Option Addr} {c : Nat} {ds : List Bd} (hN : BdsN W3 B A ds) {hv' : Value} {hs' : List Hd} (hnew : ∀ i ∈ ownL hv', i ∈ ownL hv ∨ W3.heap.size ≤ i) (g3 : Gr (rp n :: ownL hv) W3 W)
    (hrow : W.ownsRow (b12 + 1) 93 4 hv' hs'.length (hcs hs')) {r' : Rw} (hok : RwOk r') (hbx : BoxAt W (rp n) #[.int .u64 r'.cn, .bool r'.rl, .int .u64 r'.ba, .slice A r'.bx.length c, .int .u64 r'.ak, .int .u64 r'.st] 70) (hm : ds.map Bd.bs = r'.bx) (hc : r'.bx.length ≤ c) :
    SnL w E C x rb fb rp cp b8 b12 ⟨s.m.put n r', s.fl, hs'⟩ hv' fv W := by
  have hz := hb.size
  have h3z := g3.size
  have hrC := (h.e.ro n hn).2
  have hrlt := hC _ hrC
  have hzz := h.z
  have g : Gr (rp n :: ownL hv) X W := (Gr.of hb).trans g3
  have hCs : ∀ i ∈ C, i ≠ rp n → i ∉ rp n :: ownL hv := fun i hi hne hm => by
    have h1 := hC i hi
    rcases List.mem_cons.1 hm with e | hm
    · exact hne e
    · have := h.hlt i hm; omega
  have t3 : Tr (ownL hv ++ (ownL fv ++ (b8 :: b12 :: E))) (ownL hv' ++ (ownL fv ++ (b8 :: b12 :: E))) W3 W := ⟨g3.mono' (fun i hi => by
    rcases List.mem_cons.1 hi with rfl | hi
    · exact h.e.CE _ hrC
    · exact List.mem_append_left _ hi), fun i hi => by
    rcases List.mem_append.1 hi with hi | hi
    · rcases hnew i hi with h1 | h1
      · exact .inl (List.mem_append_left _ h1)
      · exact .inr h1
    · exact .inl (List.mem_append_right _ hi)⟩
  have t : Tr (ownL hv ++ (ownL fv ++ (b8 :: b12 :: E))) (ownL hv' ++ (ownL fv ++ (b8 :: b12 :: E))) X W := (Tr.bel hb).trans t3
  refine ⟨h.e.setRowT hn t (fun i hi hne => g.blk i (h.e.ltE i (h.e.CE i hi)) (hCs i hi hne)) (fun i hi => ?_) (fun i hi => ?_) ⟨hok, A, c, ds, hbx, ?_, hm, hc⟩, hrow, ?_, fun i hi hm => ?_, ?_, h.z.1, h.z.2.1, Nat.lt_of_lt_of_le h.z.2.2 g.size⟩
  · have h1 := h.e.CE i hi
    rcases List.mem_append.1 h1 with h1 | h1
    · have := h.hlt i h1; have := hC i hi; omega
    · exact List.mem_append_right _ h1
  · rcases List.mem_append.1 hi with hi | hi
    · exact (hrow.lt i (mem_ownL.1 hi)).2
    · exact Nat.lt_of_lt_of_le (h.e.ltE i (List.mem_append_right _ hi)) g.size
  · exact Bds.tr (hN.ro (fun i hi => Nat.lt_of_lt_of_le (h.e.ltE i hi) hB)) t3
  · exact own_same h.f (fun i hi => g.blk i (h.f.lt i hi).2 (fun hm => by
      rcases List.mem_cons.1 hm with rfl | hm
      · have := (h.f.lt _ hi).1; omega
      · exact h.d i hm (mem_ownL.2 hi)))
  · rcases hnew i hi with h1 | h1
    · exact h.d i h1 hm
    · have := (h.flt i hm).2; omega
  · exact ((h.g.mono' (D := C ++ ownL hv) (fun i hi => List.mem_append_left _ hi)).trans (g.mono' (fun i hi => by
      rcases List.mem_cons.1 hi with rfl | hi
      · exact List.mem_append_left _ hrC
      · exact List.mem_append_right _ hi))).less (fun i hi => by
      rcases List.mem_append.1 hi with hi | hi
      · exact .inl hi
      · refine .inr ?_
        have := h.hlt i hi; omega)
end
end Go.Proofs.YtniogmefbjfoaaaGreat
