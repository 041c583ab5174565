/-
  Layer 16, the document's: contract: Tick.
-/
import Derived.Test.YtniogmefbjfoaaaGreatR13
namespace Go.Proofs.YtniogmefbjfoaaaGreat
set_option linter.unusedSimpArgs false
set_option linter.unusedVariables false
set_option linter.unusedSectionVars false
open Go.RowKit Go.Maps

theorem RfM.re {W : World} {E E' : List Nat} {x b c : Nat} {m : En} (h : RfM W E x b c m) (hE : ∀ i ∈ E', i ∈ E ∨ W.heap.size ≤ i) (hb : b ∈ E') (hl : ∀ i ∈ E', i < W.heap.size) : RfM W E' x b c m := h.keep ⟨Gr.refl _ _, hE⟩ rfl hb hl
theorem RfM.to {w W : World} {E : List Nat} {x b c : Nat} {m : En} (h : RfM w E x b c m) (hb : Below w.heap.size w W) : RfM W (rgB w.heap.size W ++ E) x b c m := h.keep ⟨.of hb, fun i hi => by
    rcases List.mem_append.1 hi with h1 | h1
    · exact .inr (mem_rgB.1 h1).1
    · exact .inl h1⟩ (hb.block b h.fz.lt) (List.mem_append_right _ h.bE) (fun i hi => by
    rcases List.mem_append.1 hi with h1 | h1
    · exact (mem_rgB.1 h1).2
    · exact Nat.lt_of_lt_of_le (h.ltE i h1) hb.size)
/-- new blocks are written -/
theorem RfM.free {X W : World} {E D : List Nat} {x b c B : Nat} {m : En} (h : RfM X (rgB B X ++ E) x b c m) (hE : ∀ i ∈ E, i < B) (hbE : b ∈ E) (g : Gr D X W) (hD : ∀ i ∈ D, B ≤ i) : RfM W (rgB B W ++ E) x b c m :=
  h.keep ⟨g.less (fun i hi => by
    by_cases h1 : i < X.heap.size
    · exact .inl (List.mem_append_left _ (mem_rgB.2 ⟨hD i hi, h1⟩))
    · exact .inr (by omega)), fun i hi => by
    rcases List.mem_append.1 hi with h1 | h1
    · rcases rgB_n (X := X) h1 with h2 | h2
      · exact .inl (List.mem_append_left _ h2)
      · exact .inr h2
    · exact .inl (List.mem_append_right _ h1)⟩ (g.blk b h.fz.lt (fun hm => by have := hD b hm; have := hE b hbE; omega)) (List.mem_append_right _ hbE) (fun i hi => by
    rcases List.mem_append.1 hi with h1 | h1
    · exact (mem_rgB.1 h1).2
    · exact Nat.lt_of_lt_of_le (h.ltE i (List.mem_append_right _ h1)) g.size)
theorem RfM.off {W : World} {E D : List Nat} {x b c : Nat} {m : En} (h : RfM W (D ++ E) x b c m) (hb : b ∈ E) : RfM W E x b c m := h.re (fun i hi => .inl (List.mem_append_right _ hi)) hb (fun i hi => h.ltE i (List.mem_append_right _ hi))
theorem rgB_set {B : Nat} {W : World} {p : Addr} {v : Value} : rgB B (W.setCell p v) = rgB B W := by unfold rgB; rw [World.size_setCell]
theorem nodesJ_lt {m : En} {j : Nat} {n : Int} (h : n ∈ m.nodesJ j) : n < j := by
  unfold En.nodesJ at h
  have h1 := (List.mem_filter.1 h).1
  unfold tens at h1
  rw [← List.map_take, List.mem_map] at h1
  obtain ⟨k, hk, rfl⟩ := h1
  rw [List.take_range, List.mem_range] at hk
  omega
theorem tick1_rw {now : Int} {s : Tck} {n k : Int} (h : k ≠ n) : (tick1 now s n).m.rw k = s.m.rw k := by
  unfold tick1
  split
  · simp [En.put, h]
  · rfl
theorem tick_rw {now : Int} {k : Int} : ∀ (l : List Int) (s : Tck), k ∉ l → (l.foldl (tick1 now) s).m.rw k = s.m.rw k
  | [], _, _ => rfl
  | n :: l, s, h => by
    rw [List.foldl_cons, tick_rw l _ (fun h1 => h (List.mem_cons_of_mem _ h1)), tick1_rw (fun e => h (by rw [e]; exact List.mem_cons_self))]
theorem tick1_cm {now : Int} {s : Tck} {n : Int} : (tick1 now s n).m.cm = s.m.cm := by
  unfold tick1
  split <;> rfl
theorem put_self {m : En} {n : Int} : m.put n (m.rw n) = m := by
  unfold En.put
  cases m
  congr 1
  funext k
  by_cases h : k = n <;> simp [h]
theorem tick1_nil {now : Int} {s : Tck} {n : Int} (h : (s.m.rw n).bx.length = 0) : tick1 now s n = s := by
  unfold tick1
  split
  · have e0 : (s.m.rw n).due = 0 := by unfold Rw.due; omega
    have e1 : (s.m.rw n).dueR now 0 = s.m.rw n := by unfold Rw.dueR Rw.stK; rw [e0]; simp
    have e2 : s.m.due n (s.m.rw n) 0 = [] := by unfold En.due En.dueK; rw [e0]; simp
    rw [e1, e2, put_self, List.append_nil]
  · rfl
theorem dueR_now {r : Rw} {now : Int} (h0 : 0 ≤ r.ba) (h : 0 < r.bx.length) : r.dueR now 0 = { r with st := now } := by
  unfold Rw.dueR Rw.stK
  have e : (List.range r.due).any (fun j => decide (0 < r.ba + 1 + j)) = true := by
    rw [List.any_eq_true]
    exact ⟨0, List.mem_range.2 (by unfold Rw.due; omega), by simp; omega⟩
  rw [e]
  rfl
end Go.Proofs.YtniogmefbjfoaaaGreat

namespace Go.Proofs.YtniogmefbjfoaaaGreat
set_option linter.unusedSimpArgs false
set_option linter.unusedVariables false
set_option linter.unusedSectionVars false
open Go.RowKit Go.Maps

theorem PmG.cat {lo B : Nat} {X W : World} {v v6 v' : Value} {ps ps6 : List Pm} (hps : PmG lo X v ps) (hp6 : PmG B X v6 ps6) (hB : ∀ i ∈ ownL v, i < B) (hl : lo ≤ B) (h7 : X.grownBy W v.ownBlock) (h7a : v'.ownBlock = v.ownBlock ∨ v'.ownBlock = some X.heap.size) (h7o : W.ownsRow lo 43 10 v' (ps.length + ps6.length) (pms ps ++ pms ps6)) : PmG lo W v' (ps ++ ps6) := by
  have t7 : Tr (ownL v) (ownL v') X W := .app h7 h7a
  exact ⟨by rw [List.length_append, pms_app]; exact h7o, fun p hp => by
    rcases List.mem_append.1 hp with h1 | h1
    · exact (hps.el p h1).tr t7
    · exact (((hp6.el p h1).re (D := ownL v) (fun i hi => .inr (.inl (hB i hi)))).tr t7).lo hl⟩
def TickR (now : Int) (m : En) (w : World) (E : List Nat) (x b c j : Nat) (W : World) : Prop :=
  ∃ (st : Tck) (pv : Value) (ps : List Pm), st = (m.nodesJ j).foldl (tick1 now) ⟨m, []⟩ ∧ RfM W (rgB w.heap.size W ++ E) x b c st.m ∧ BoxAt W (w.heap.size + 1) #[pv, .slice none 0 0, .slice none 0 0] 52 ∧ BoxAt W w.heap.size #[.slice none 0 0, .slice none 0 0, .slice none 0 0] 52 ∧ PmG (w.heap.size + 1 + 1) W pv ps ∧ ps.map Pm.x = st.ps ∧ ps.length ≤ 8 * j ∧ Gr [b] w W
section
variable {E : List Nat} {x b c : Nat} {m : En}
set_option maxRecDepth 100000 in
set_option maxHeartbeats 8000000 in
theorem tick16r_s (w : World) (h : RfM w E x b c m) (now : Int) (now0 : 0 ≤ now) (now1 : now ≤ 18446744073709551615) :
    Calls Tryz.prog 29 #[.pointer (some ⟨x, 0, none⟩), .int .u64 now] w fun e w' => ∃ v, e = .returned v ∧ AnsM w.heap.size w' v (m.tick now).2 ∧ RfM w' E x b c (m.tick now).1 ∧ Gr [b] w w' := by
  have HE := hide h
  haveI := h.bx
  haveI : LtN x w.heap.size := ⟨h.bx.lt⟩
  have hbl := h.fz.lt
  haveI : LtN b w.heap.size := ⟨hbl⟩
  have HbE := hide h.bE
  have HLT := hide h.ltE
  clear h
  go_enter Tryz.func29, Tryz.ntmps29
  go_wp2_with fail
  go_loopw [6] (fun i wr => ∃ j : Nat, 1 ≤ j ∧ j ≤ 11 ∧ i = .int .i64 j ∧ TickR now m w E x b c j wr) (fun i _ => 11 - (intOf i).toNat)
  case atStart =>
    refine ⟨1, by omega, by omega, rfl, ⟨m, []⟩, _, [], rfl, HE.out.to blw, inferInstance, inferInstance, PmG.nil _ _, rfl, by simp, .of blw⟩
  case round =>
    obtain ⟨j, hj1, hj, rfl, st, pv, ps, hst, hM, hb5, hb4, hps, hmp, hpl, hG⟩ := hrel
    obtain ⟨PA, pc, rfl, _, _⟩ := own_slice hps.row
    haveI := hb5
    haveI := hb4
    haveI := hM.bx
    haveI := hM.fz
    have hzr := hb5.lt
    have HM := hide hM
    have HPS := hide hps
    have HMP := hide hmp
    have HG := hide hG
    have HST := hide hst
    have hnn : st.m.n = m.n := by rw [hst]; exact (tick1_n now _ _).1
    have hrw : st.m.rw j = m.rw j := by rw [hst]; exact tick_rw _ _ (fun hm => by have := nodesJ_lt hm; omega)
    have hrr : st.m.rwR j = m.rwR j := by
      unfold En.rwR
      rw [hrw]
      by_cases ho : m.oth j
      · rw [if_pos ho, if_pos (show st.m.oth j by unfold En.oth at ho ⊢; rw [hnn]; exact ho)]
      · rw [if_neg ho, if_neg (show ¬ st.m.oth j by unfold En.oth at ho ⊢; rw [hnn]; exact ho)]
    clear hM hps hmp hG hst
    by_cases hlt : j ≤ 10
    · have e1 : decide ((j : Int) ≤ 10) = true := decide_eq_true (by omega)
      have e1n : decide (j ≤ 10) = true := decide_eq_true hlt
      obtain ⟨hok, A, c', ds, h9, hds, hmap, hcl⟩ := HM.out.ro j (by omega)
      rw [hrr] at h9 hok
      have hc1 := h9.c1
      have hc3 := h9.c3
      have hc5 := h9.c5
      rw [rwR_rl] at hc1
      haveI := hc1
      have i0 : (0 : Int) ≤ (j : Int) := by omega
      have i1 : (j : Int) < 11 := by omega
      have HNJ := hide (nodesJ_succ (m := m) hj1 hlt)
      clear hds hmap hcl h9
      cases hR : m.isR j with
      | false =>
        rw [hR] at hc1
        haveI := hc1
        have HR := hide hR
        have HNJ2 := hide (show m.nodesJ (j + 1) = m.nodesJ j by rw [HNJ.out, hR]; simp)
        clear hR hc1 hc3 hc5 hok hrr hrw
        go_wp2_with fail
        go_roundw
        case rel => exact ⟨j + 1, by omega, by omega, by go_num, st, _, ps, by rw [HNJ2.out]; exact HST.out, HM.out, inferInstance, inferInstance, HPS.out, HMP.out, by omega, HG.out⟩
        case measure => simp [intOf]; omega
      | true =>
        rw [hR] at hc1
        haveI := hc1
        have ho : m.oth j := (isR_iff.1 hR).1
        rw [rwR_oth ho] at hc3 hc5 hok
        haveI := hc3
        haveI := hc5
        have HO : Hid (st.m.oth j) := hide (by unfold En.oth at ho ⊢; rw [hnn]; exact ho)
        have HFK : Hid ((m.nodesJ (j + 1)).foldl (tick1 now) ⟨m, []⟩ = tick1 now st j) := hide (by rw [HNJ.out, hR, if_pos rfl, List.foldl_append, ← HST.out]; rfl)
        have HRW := hide hrw
        have HOK := hide hok
        have st0 := hok.s0
        have st1 := hok.s1
        clear hR hc1 hc3 hc5 hok hrr hrw ho hnn
        by_cases hlen : (m.rw j).bx.length = 0
        · have d1 : decide ((0 : Int) < ((m.rw j).bx.length : Int)) = false := decide_eq_false (by omega)
          have d1n : decide (0 < (m.rw j).bx.length) = false := decide_eq_false (by omega)
          have HTN := hide (tick1_nil (now := now) (s := st) (n := j) (by rw [HRW.out]; exact hlen))
          clear hlen
          go_wp2_with fail
          go_roundw
          case rel => exact ⟨j + 1, by omega, by omega, by go_num, st, _, ps, by rw [HFK.out, HTN.out], HM.out, inferInstance, inferInstance, HPS.out, HMP.out, by omega, HG.out⟩
          case measure => simp [intOf]; omega
        · have d1 : decide ((0 : Int) < ((m.rw j).bx.length : Int)) = true := decide_eq_true (by omega)
          have d1n : decide (0 < (m.rw j).bx.length) = true := decide_eq_true (by omega)
          have HLN := hide (show 0 < (m.rw j).bx.length by omega)
          clear hlen
          by_cases hc : (m.rw j).st ≤ now ∧ 2 ≤ now - (m.rw j).st
          · have d2 : decide ((m.rw j).st ≤ now) = true := decide_eq_true hc.1
            have hw : IntKind.u64.wrap (now - (m.rw j).st) = now - (m.rw j).st := IntWalk.u64_in _ (by omega)
            have d3 : decide (2 ≤ now - (m.rw j).st) = true := decide_eq_true hc.2
            have HTI : Hid (tick1 now st j = ⟨st.m.put j { st.m.rw j with st := now }, st.ps ++ st.m.due j (st.m.rw j) 0⟩) := hide (by
              unfold tick1
              rw [HRW.out, if_pos hc, dueR_now HOK.out.b0 HLN.out])
            clear hc
            have hl6x := fun (ps6 : List Pm) (hm6 : ps6.map Pm.x = st.m.due j (st.m.rw j) 0) => (show ps6.length ≤ 8 by
              have h1 := congrArg List.length hm6
              rw [List.length_map] at h1
              have h2 := dueK_len st.m j (st.m.rw j) 0 (st.m.rw j).due
              have h3 : (st.m.rw j).due ≤ 8 := by unfold Rw.due; omega
              unfold En.due at h1
              omega)
            have HL6 := hide hl6x
            clear hl6x
            have TDu : Hid (∀ W, Below wr.heap.size wr W → Calls Tryz.prog 52 #[.pointer (some ⟨x, 0, none⟩), .int .i64 j, .int .u64 0] W fun e w' => ∃ v ps, e = .returned v ∧ PmG W.heap.size w' v ps ∧ ps.map Pm.x = st.m.due j (st.m.rw j) 0 ∧ Below W.heap.size W w') := hide (fun W hW => due16r_s W (HM.out.below hW) j HO.out 0)
            go_upto_region 7 with fail
            refine wp_region_held_drew (S := fun _ => True) (by kernel_rfl) trivial (fun hS => ?_)
            refine wpAnyH_take (i := 0) (v := .pointer (some ⟨w.heap.size + 1, 0, none⟩)) rfl (by kernel_rfl) (by kernel_rfl) (by kernel_rfl) (fun _ _ _ h => h) (Or.inl ⟨by rfl, ?_⟩) hS ?_
            · intro w' hSw
              go_simp
            simp only [Act.put, List.setIfInBounds_toArray, List.set_cons_zero, List.set_cons_succ]
            refine wpAnyH_take (i := 2) (v := .pointer (some ⟨x, 0, none⟩)) rfl (by kernel_rfl) (by kernel_rfl) (by kernel_rfl) (fun _ _ _ h => h) (Or.inl ⟨by rfl, ?_⟩) hS ?_
            · intro w' hSw
              go_simp
            simp only [Act.put, List.setIfInBounds_toArray, List.set_cons_zero, List.set_cons_succ]
            refine wpAnyH_take (i := 3) (v := .int .i64 j) rfl (by kernel_rfl) (by kernel_rfl) (by kernel_rfl) (fun _ _ _ h => h) (Or.inl ⟨by rfl, ?_⟩) hS ?_
            · intro w' hSw
              go_simp
            simp only [Act.put, List.setIfInBounds_toArray, List.set_cons_zero, List.set_cons_succ]
            refine wpAnyH_ready (rs := [1, 4]) (by kernel_rfl) (by simp) ?_
            refine AllReadyH.cons rfl (fun K hK => ?_) (AllReadyH.cons rfl (fun K hK => ?_) AllReadyH.nil)
            · go_simp
              refine hK.out _ _ hS (fun hS => ?_)
              clear hK K
              (try simp only [Act.put, List.setIfInBounds_toArray, List.set_cons_zero, List.set_cons_succ])
              refine wpAnyH_ready (rs := [4]) (by kernel_rfl) (by simp) ?_
              refine AllReadyH.cons rfl (fun K hK => ?_) AllReadyH.nil
              go_simp
              refine (TDu.out _ blw).mono ?_
              rintro e w6 ⟨v6, ps6, rfl, hp6, hm6, hb6⟩
              haveI : Stp _ w6 := ⟨hb6⟩
              have zw6 : w.heap.size + 1 + 1 ≤ w6.heap.size := Nat.le_trans (show w.heap.size + 1 + 1 ≤ wr.heap.size by omega) (Blw.size (a := wr) inferInstance)
              have hl6 := HL6.out ps6 hm6
              obtain ⟨A6, c6, rfl, _, _⟩ := own_slice hp6.row
              have HP6 := hide hp6
              have HM6 := hide hm6
              refine hK.out _ _ hS (fun hS => ?_)
              clear hp6 hm6 hb6
              clear hK K
              (try simp only [Act.put, List.setIfInBounds_toArray, List.set_cons_zero, List.set_cons_succ])
              refine wpAnyH_ready (rs := [5]) (by kernel_rfl) (by simp) ?_
              refine AllReadyH.cons rfl (fun K hK => ?_) AllReadyH.nil
              (refine step_append_x Tryz.okPm rfl (.tmp 49) (.tmp 52) rfl (w.heap.size + 1 + 1) (.slice PA ps.length pc) ps.length (pms ps) ps6.length (pms ps6) ?_ ?_ ?_ ?_ ?_ ?_ ?_ ?_; go_must ((focus (first | rfl | (simp [Act.eval, Act.put]; done))); (focus (exact own_tc HPS.out.row)); (focus (refine ⟨_, _, by first | rfl | (simp [Act.eval, Act.put]; done), ?_⟩; exact Reads.of_own (own_tc HP6.out.row))); (focus (exact pms_one _)); (focus (unfold maxLen; omega)); (focus omega); (focus (first | omega | (simp; done) | (simp; omega) | exact blw.size | exact BoxAt.lt (n := w.heap.size) inferInstance)); intro v7 w7 ho7 hg7 ha7; haveI : StpB (w.heap.size + 1 + 1) _ w7 := ⟨grown_belowT hg7 (Nat.le_trans (show w.heap.size + 1 + 1 ≤ wr.heap.size by omega) (Blw.size (a := wr) inferInstance)) (fun q hq => (HPS.out.row.lt q hq).1)⟩; obtain ⟨A7, c7, rfl, _, _⟩ := own_slice ho7; have O7 := hide (PmG.cat (HPS.out.step blw) (HP6.out.step blw) (fun i hi => Nat.lt_of_lt_of_le (HPS.out.row.lt i (mem_ownL.1 hi)).2 (Blw.size (a := wr) inferInstance)) (Nat.le_trans (show w.heap.size + 1 + 1 ≤ wr.heap.size by omega) (Blw.size (a := wr) inferInstance)) hg7 ha7 ho7); have HG7 := hide ((Gr.of (C := ownL (.slice PA ps.length pc)) (blw (a := wr))).trans (Gr.grown hg7 (fun k hk => mem_ownL.2 hk))); refine hK.out _ _ hS (fun hS => ?_); clear ho7 hg7 ha7))
              clear hK K
              (try simp only [Act.put, List.setIfInBounds_toArray, List.set_cons_zero, List.set_cons_succ])
              refine wpAnyH_take (i := 6) (v := .pointer (some ⟨w.heap.size + 1, 0, none⟩)) rfl (by kernel_rfl) (by kernel_rfl) (by kernel_rfl) (fun _ _ _ h => h) (Or.inl ⟨by rfl, ?_⟩) hS ?_
              · intro w' hSw
                go_simp
              simp only [Act.put, List.setIfInBounds_toArray, List.set_cons_zero, List.set_cons_succ]
              refine wpAnyH_ready (rs := [7]) (by kernel_rfl) (by simp) ?_
              refine AllReadyH.cons rfl (fun K hK => ?_) AllReadyH.nil
              go_simp
              refine hK.out _ _ hS (fun hS => ?_)
              clear hK K
              (try simp only [Act.put, List.setIfInBounds_toArray, List.set_cons_zero, List.set_cons_succ])
              refine wpAnyH_done (by kernel_rfl) ?_ _
              clear hS
              go_wp2_with fail
              go_roundw
              case rel =>
                have g1 : Gr ((w.heap.size + 1) :: ownL (.slice PA ps.length pc)) wr (w7.setCell ⟨w.heap.size + 1, 0, none⟩ (.slice A7 (ps.length + ps6.length) c7)) := (HG7.out.mono' (fun i hi => List.mem_cons_of_mem _ hi)).trans (Gr.set (m := w.heap.size + 1) _ 0 _ List.mem_cons_self)
                have g1D : ∀ i ∈ (w.heap.size + 1) :: ownL (.slice PA ps.length pc), w.heap.size ≤ i := fun i hi => by
                  rcases List.mem_cons.1 hi with rfl | hi
                  · omega
                  · have := (HPS.out.row.lt i (mem_ownL.1 hi)).1; omega
                obtain ⟨f1, f2⟩ := (HM.out.free HLT.out HbE.out g1 g1D).setSt (k := j) HO.out now now0 now1
                refine ⟨j + 1, by omega, by omega, by go_num, _, _, ps ++ ps6, HFK.out.symm, ?_, inferInstance, inferInstance, ?_, by rw [HTI.out, List.map_append, HMP.out, HM6.out], by rw [List.length_append]; omega, ?_⟩
                · rw [HTI.out, rgB_set]; exact f1
                · exact (O7.out.gr (C := [w.heap.size + 1]) (Gr.set (m := w.heap.size + 1) _ 0 _ (by simp)) (by simp)).gr f2 (by simp; omega)
                · refine ((HG.out.mono' (D := b :: (w.heap.size + 1) :: ownL (.slice PA ps.length pc)) (by simp)).trans ((g1.mono' (fun i hi => List.mem_cons_of_mem _ hi)).trans (f2.mono' (by simp)))).less (fun i hi => ?_)
                  rcases List.mem_cons.1 hi with rfl | hi
                  · exact .inl (by simp)
                  · exact .inr (g1D i hi)
              case measure => simp [intOf]; omega
            · go_simp
              refine (TDu.out _ blw).mono ?_
              rintro e w6 ⟨v6, ps6, rfl, hp6, hm6, hb6⟩
              haveI : Stp _ w6 := ⟨hb6⟩
              have zw6 : w.heap.size + 1 + 1 ≤ w6.heap.size := Nat.le_trans (show w.heap.size + 1 + 1 ≤ wr.heap.size by omega) (Blw.size (a := wr) inferInstance)
              have hl6 := HL6.out ps6 hm6
              obtain ⟨A6, c6, rfl, _, _⟩ := own_slice hp6.row
              have HP6 := hide hp6
              have HM6 := hide hm6
              refine hK.out _ _ hS (fun hS => ?_)
              clear hp6 hm6 hb6
              clear hK K
              (try simp only [Act.put, List.setIfInBounds_toArray, List.set_cons_zero, List.set_cons_succ])
              refine wpAnyH_ready (rs := [1]) (by kernel_rfl) (by simp) ?_
              refine AllReadyH.cons rfl (fun K hK => ?_) AllReadyH.nil
              go_simp
              refine hK.out _ _ hS (fun hS => ?_)
              clear hK K
              (try simp only [Act.put, List.setIfInBounds_toArray, List.set_cons_zero, List.set_cons_succ])
              refine wpAnyH_ready (rs := [5]) (by kernel_rfl) (by simp) ?_
              refine AllReadyH.cons rfl (fun K hK => ?_) AllReadyH.nil
              (refine step_append_x Tryz.okPm rfl (.tmp 49) (.tmp 52) rfl (w.heap.size + 1 + 1) (.slice PA ps.length pc) ps.length (pms ps) ps6.length (pms ps6) ?_ ?_ ?_ ?_ ?_ ?_ ?_ ?_; go_must ((focus (first | rfl | (simp [Act.eval, Act.put]; done))); (focus (exact own_tc HPS.out.row)); (focus (refine ⟨_, _, by first | rfl | (simp [Act.eval, Act.put]; done), ?_⟩; exact Reads.of_own (own_tc HP6.out.row))); (focus (exact pms_one _)); (focus (unfold maxLen; omega)); (focus omega); (focus (first | omega | (simp; done) | (simp; omega) | exact blw.size | exact BoxAt.lt (n := w.heap.size) inferInstance)); intro v7 w7 ho7 hg7 ha7; haveI : StpB (w.heap.size + 1 + 1) _ w7 := ⟨grown_belowT hg7 (Nat.le_trans (show w.heap.size + 1 + 1 ≤ wr.heap.size by omega) (Blw.size (a := wr) inferInstance)) (fun q hq => (HPS.out.row.lt q hq).1)⟩; obtain ⟨A7, c7, rfl, _, _⟩ := own_slice ho7; have O7 := hide (PmG.cat (HPS.out.step blw) (HP6.out.step blw) (fun i hi => Nat.lt_of_lt_of_le (HPS.out.row.lt i (mem_ownL.1 hi)).2 (Blw.size (a := wr) inferInstance)) (Nat.le_trans (show w.heap.size + 1 + 1 ≤ wr.heap.size by omega) (Blw.size (a := wr) inferInstance)) hg7 ha7 ho7); have HG7 := hide ((Gr.of (C := ownL (.slice PA ps.length pc)) (blw (a := wr))).trans (Gr.grown hg7 (fun k hk => mem_ownL.2 hk))); refine hK.out _ _ hS (fun hS => ?_); clear ho7 hg7 ha7))
              clear hK K
              (try simp only [Act.put, List.setIfInBounds_toArray, List.set_cons_zero, List.set_cons_succ])
              refine wpAnyH_take (i := 6) (v := .pointer (some ⟨w.heap.size + 1, 0, none⟩)) rfl (by kernel_rfl) (by kernel_rfl) (by kernel_rfl) (fun _ _ _ h => h) (Or.inl ⟨by rfl, ?_⟩) hS ?_
              · intro w' hSw
                go_simp
              simp only [Act.put, List.setIfInBounds_toArray, List.set_cons_zero, List.set_cons_succ]
              refine wpAnyH_ready (rs := [7]) (by kernel_rfl) (by simp) ?_
              refine AllReadyH.cons rfl (fun K hK => ?_) AllReadyH.nil
              go_simp
              refine hK.out _ _ hS (fun hS => ?_)
              clear hK K
              (try simp only [Act.put, List.setIfInBounds_toArray, List.set_cons_zero, List.set_cons_succ])
              refine wpAnyH_done (by kernel_rfl) ?_ _
              clear hS
              go_wp2_with fail
              go_roundw
              case rel =>
                have g1 : Gr ((w.heap.size + 1) :: ownL (.slice PA ps.length pc)) wr (w7.setCell ⟨w.heap.size + 1, 0, none⟩ (.slice A7 (ps.length + ps6.length) c7)) := (HG7.out.mono' (fun i hi => List.mem_cons_of_mem _ hi)).trans (Gr.set (m := w.heap.size + 1) _ 0 _ List.mem_cons_self)
                have g1D : ∀ i ∈ (w.heap.size + 1) :: ownL (.slice PA ps.length pc), w.heap.size ≤ i := fun i hi => by
                  rcases List.mem_cons.1 hi with rfl | hi
                  · omega
                  · have := (HPS.out.row.lt i (mem_ownL.1 hi)).1; omega
                obtain ⟨f1, f2⟩ := (HM.out.free HLT.out HbE.out g1 g1D).setSt (k := j) HO.out now now0 now1
                refine ⟨j + 1, by omega, by omega, by go_num, _, _, ps ++ ps6, HFK.out.symm, ?_, inferInstance, inferInstance, ?_, by rw [HTI.out, List.map_append, HMP.out, HM6.out], by rw [List.length_append]; omega, ?_⟩
                · rw [HTI.out, rgB_set]; exact f1
                · exact (O7.out.gr (C := [w.heap.size + 1]) (Gr.set (m := w.heap.size + 1) _ 0 _ (by simp)) (by simp)).gr f2 (by simp; omega)
                · refine ((HG.out.mono' (D := b :: (w.heap.size + 1) :: ownL (.slice PA ps.length pc)) (by simp)).trans ((g1.mono' (fun i hi => List.mem_cons_of_mem _ hi)).trans (f2.mono' (by simp)))).less (fun i hi => ?_)
                  rcases List.mem_cons.1 hi with rfl | hi
                  · exact .inl (by simp)
                  · exact .inr (g1D i hi)
              case measure => simp [intOf]; omega
          · have HTI : Hid (tick1 now st j = st) := hide (by unfold tick1; rw [HRW.out, if_neg hc])
            by_cases hc1 : (m.rw j).st ≤ now
            · have d2 : decide ((m.rw j).st ≤ now) = true := decide_eq_true hc1
              have hw : IntKind.u64.wrap (now - (m.rw j).st) = now - (m.rw j).st := IntWalk.u64_in _ (by omega)
              have d3 : decide (2 ≤ now - (m.rw j).st) = false := decide_eq_false (fun h => hc ⟨hc1, h⟩)
              clear hc hc1
              go_wp2_with fail
              go_roundw
              case rel => exact ⟨j + 1, by omega, by omega, by go_num, st, _, ps, by rw [HFK.out, HTI.out], HM.out, inferInstance, inferInstance, HPS.out, HMP.out, by omega, HG.out⟩
              case measure => simp [intOf]; omega
            · have d2 : decide ((m.rw j).st ≤ now) = false := decide_eq_false hc1
              clear hc hc1
              go_wp2_with fail
              go_roundw
              case rel => exact ⟨j + 1, by omega, by omega, by go_num, st, _, ps, by rw [HFK.out, HTI.out], HM.out, inferInstance, inferInstance, HPS.out, HMP.out, by omega, HG.out⟩
              case measure => simp [intOf]; omega
    · have hke : j = 11 := by omega
      subst hke
      have HT : Hid (m.tick now = (st.m, ⟨st.ps, [], []⟩)) := hide (by unfold En.tick; rw [HST.out]; rfl)
      go_wp2_with fail
      refine bodyPost_ret (v := .agg #[.slice PA ps.length pc, .slice none 0 0, .slice none 0 0]) (by simp [results, Tryz.results29, go_sem]) rfl ?_
      have hg : ∀ W : World, Gr [w.heap.size] wr W → ∃ v, Ending.returned (.agg #[.slice PA ps.length pc, .slice none 0 0, .slice none 0 0]) = .returned v ∧ AnsM w.heap.size W v (m.tick now).2 ∧ RfM W E x b c (m.tick now).1 ∧ Gr [b] w W := fun W hW => by
        rw [HT.out]
        refine ⟨_, rfl, ⟨_, ps, _, [], _, rfl, (HPS.out.gr hW (by simp; omega)).lo (by omega), HMP.out, .nil _ _, rfl, World.ownsRow_nil _ _ _ _⟩, (HM.out.free HLT.out HbE.out hW (by simp)).off HbE.out, ?_⟩
        exact ((HG.out.mono' (D := [b, w.heap.size]) (by simp)).trans (hW.mono' (by simp))).less (fun i hi => by
          simp at hi
          rcases hi with rfl | rfl
          · exact .inl (by simp)
          · exact .inr (Nat.le_refl _))
      exact hg _ (((Gr.set (m := w.heap.size) _ 0 _ (by simp)).trans (Gr.set (m := w.heap.size) _ 1 _ (by simp))).trans (Gr.set (m := w.heap.size) _ 2 _ (by simp)))
end
end Go.Proofs.YtniogmefbjfoaaaGreat

namespace Go.Proofs.YtniogmefbjfoaaaGreat
set_option linter.unusedSimpArgs false
set_option linter.unusedVariables false
set_option linter.unusedSectionVars false
open Go.RowKit Go.Maps

theorem take7_s (g s : Int) (h0 : 0 ≤ s) (h1 : s ≤ 18446744073709551615) (w : World) : Calls Tryz.prog 73 #[rcvV g, .int .u64 s] w fun e w' => e = .returned (.tuple #[rcvV (nextG g s), .bool (nextB g s)]) ∧ Below w.heap.size w w' := by
  have TC := hide (fun W => count7_b s W)
  by_cases a1 : 0 < s
  · have b1 : decide (0 < s) = true := decide_eq_true a1
    by_cases a2 : s < 34359738368
    · rw [decide_eq_true a2] at TC
      have hw : IntKind.u64.wrap (s - 1) = s - 1 := IntWalk.u64_in _ (by omega)
      by_cases a3 : g = s - 1
      · have H : Hid (nextB g s = true) := hide (by unfold nextB; rw [decide_eq_true (by omega : s - 1 = g), decide_eq_false (by omega), decide_eq_false (by omega)]; rfl)
        have b3 : (g == s - 1) = true := by simpa using a3
        clear a1 a2 a3
        go_enter Tryz.func73, Tryz.ntmps73
        go_wp2_with (go_at_call 18; (with_reducible refine (TC.out _).mono ?_); rintro e w1 ⟨rfl, hb1⟩; haveI : Stp _ w1 := ⟨hb1⟩; clear hb1)
        refine bodyPost_ret (v := .tuple #[rcvV s, .bool true]) (by simp [results, Tryz.results73, go_sem]) rfl ?_
        exact ⟨by unfold nextG; rw [H.out]; rfl, blw⟩
      · have H : Hid (nextB g s = false) := hide (by unfold nextB; rw [decide_eq_false (by omega : ¬ s - 1 = g)]; simp)
        have b3 : (g == s - 1) = false := beq_eq_false_iff_ne.2 a3
        clear a1 a2 a3
        go_enter Tryz.func73, Tryz.ntmps73
        go_wp2_with (go_at_call 18; (with_reducible refine (TC.out _).mono ?_); rintro e w1 ⟨rfl, hb1⟩; haveI : Stp _ w1 := ⟨hb1⟩; clear hb1)
        refine bodyPost_ret (v := .tuple #[rcvV g, .bool false]) (by simp [results, Tryz.results73, go_sem]) rfl ?_
        exact ⟨by unfold nextG; rw [H.out]; rfl, blw⟩
    · rw [decide_eq_false a2] at TC
      have H : Hid (nextB g s = false) := hide (by unfold nextB; rw [decide_eq_true (by omega : 34359738367 < s)]; simp)
      clear a1 a2
      go_enter Tryz.func73, Tryz.ntmps73
      go_wp2_with (go_at_call 18; (with_reducible refine (TC.out _).mono ?_); rintro e w1 ⟨rfl, hb1⟩; haveI : Stp _ w1 := ⟨hb1⟩; clear hb1)
      refine bodyPost_ret (v := .tuple #[rcvV g, .bool false]) (by simp [results, Tryz.results73, go_sem]) rfl ?_
      exact ⟨by unfold nextG; rw [H.out]; rfl, blw⟩
  · have b1 : decide (0 < s) = false := decide_eq_false a1
    have H : Hid (nextB g s = false) := hide (by unfold nextB; rw [decide_eq_true (by omega : s = 0)]; rfl)
    clear a1
    go_enter Tryz.func73, Tryz.ntmps73
    go_wp2_with fail
    refine bodyPost_ret (v := .tuple #[rcvV g, .bool false]) (by simp [results, Tryz.results73, go_sem]) rfl ?_
    exact ⟨by unfold nextG; rw [H.out]; rfl, blw⟩
theorem own_box1 {W : World} {q k base : Nat} {cs : Array Value} {t : TypeId} (h : BoxAt W q cs t) (hk : cs.size = k) (hb : base ≤ q) : W.ownsRow base t k (.slice (some ⟨q, 0, none⟩) 1 1) 1 cs.toList :=
  ⟨by simp [hk], .inr ⟨q, 1, cs, rfl, hb, h.eq, Nat.le_refl _, by unfold maxLen; omega, by rw [hk, Nat.one_mul], List.take_of_length_le (by simp [hk])⟩⟩
/-- is it an old one's? -/
def oldB (cm : Cm) (i c : Int) : Bool := decide (i < cm.i) || (decide (i = cm.i) && decide (c < cm.c))
def comeC (cm : Cm) (i c : Int) : Cm := if i = cm.i ∧ c = cm.c then cm else ⟨i, c, 0⟩
def textA (m : En) (k : Nat) (i : Int) (c : Cm) (nx : Bool) (bs : List Int) : An := ⟨[⟨3, m.n, m.i, 8, [⟨k, c.c, c.g, i⟩], [], 0, 0, 0, []⟩], if nx then [(((k : Int), i), bs)] else [], []⟩
theorem takeData_ref {m : En} {k : Nat} {i : Int} {h : Hd} {bs : List Int} (hi : 1 ≤ i) : m.takeData k i h bs = if oldB (m.cmR k) i h.c then (m, an0) else
    ({ m with cm := fun j => if j = k then some { comeC (m.cmR k) i h.c with g := nextG (comeC (m.cmR k) i h.c).g h.s } else m.cm j }, textA m k i { comeC (m.cmR k) i h.c with g := nextG (comeC (m.cmR k) i h.c).g h.s } (nextB (comeC (m.cmR k) i h.c).g h.s) bs) := by
  have key : ∀ C : Cm, (if (!decide (h.s = 0) && (!decide (34359738367 < h.s) && decide (h.s - 1 = C.g))) = true then { C with g := h.s } else C) = { C with g := nextG C.g h.s } := fun C => by
    unfold nextG nextB
    split <;> rfl
  unfold En.takeData oldB comeC textA En.cmR
  cases hc : m.cm k with
  | none =>
    simp only [Option.getD_none]
    have e1 : decide (i < 0) = false := decide_eq_false (by omega)
    have e2 : decide (i = 0) = false := decide_eq_false (by omega)
    have e3 : ¬ (i = 0 ∧ h.c = 0) := by omega
    rw [e1, e2, if_neg e3]
    simp only [Bool.false_and, Bool.or_self, Bool.false_eq_true, if_false]
    rw [key ⟨i, h.c, 0⟩]
    rfl
  | some c =>
    simp only [Option.getD_some]
    split
    · rfl
    · rw [key (if i = c.i ∧ h.c = c.c then c else ⟨i, h.c, 0⟩)]
      rfl
end Go.Proofs.YtniogmefbjfoaaaGreat

namespace Go.Proofs.YtniogmefbjfoaaaGreat
set_option linter.unusedSimpArgs false
set_option linter.unusedVariables false
set_option linter.unusedSectionVars false
open Go.RowKit Go.Maps

section
variable {E : List Nat} {x b c : Nat} {m : En}
def RetTxr (w : World) (E : List Nat) (x b c : Nat) (r : En × An) (e : Ending) (W : World) : Prop := ∃ v, e = .returned v ∧ AnsM w.heap.size W v r.2 ∧ RfM W E x b c r.1 ∧ Gr [b] w W
/-- the row is told: what came is C, what next is nx -/
theorem text_fin {w W : World} (h : RfM w E x b c m) {k : Nat} (hk : k < 11) (hk1 : 1 ≤ k) (t : W9 b k w W) (hf : FrzAt W b) {C : Cm} (hC : 1 ≤ C.i) (c0 : ∀ j v, j < 6 → CellAt w b (k * 9 + j) v → CellAt W b (k * 9 + j) v)
    (c6 : CellAt W b (k * 9 + 6) (.int .u64 C.i)) (c7 : CellAt W b (k * 9 + 7) (.int .u64 C.c)) (c8 : CellAt W b (k * 9 + 8) (.int .u64 C.g)) : RfM W E x b c { m with cm := fun j => if j = k then some C else m.cm j } := by
  have hkk : ∀ k' : Nat, k' ≠ k → ((k' : Nat) : Int) ≠ (k : Int) := fun k' e => by omega
  refine h.set (k := k) hk t hf rfl rfl ?_ (fun k' _ e => ⟨rfl, by unfold En.cmR; simp only; rw [if_neg (hkk k' e)]⟩) (fun j cc hj => ?_)
  · obtain ⟨hok, A, c', ds, h9, hds, hmap, hcl⟩ := h.ro k hk
    have e : En.cmR { m with cm := fun j => if j = (k : Int) then some C else m.cm j } k = C := by unfold En.cmR; simp
    have e2 : En.rwR { m with cm := fun j => if j = (k : Int) then some C else m.cm j } k = m.rwR k := rfl
    rw [e, e2]
    exact ⟨hok, A, c', ds, ⟨c0 0 _ (by omega) h9.c0, c0 1 _ (by omega) h9.c1, c0 2 _ (by omega) h9.c2, c0 3 _ (by omega) h9.c3, c0 4 _ (by omega) h9.c4, c0 5 _ (by omega) h9.c5, c6, c7, c8⟩, hds.tr (.of (t.gr.mono' (fun i hi => by rw [List.mem_singleton] at hi; subst hi; exact h.bE))), hmap, hcl⟩
  · simp only at hj
    split at hj
    · injection hj with hj; subst hj; exact hC
    · exact h.cm _ _ hj
instance (priority := low) W9.stpB (b k B : Nat) (X Y W : World) [s : StpB B Y W] [h : W9 b k X Y] [l : LtN b B] [e : LeN X.heap.size B] : W9 b k X W :=
  ⟨⟨s.h.os.trans h.gr.os, s.h.tape.trans h.gr.tape, s.h.output.trans h.gr.out, Nat.le_trans h.gr.size s.h.size, fun i hi hn => (s.h.block i (Nat.lt_of_lt_of_le hi e.h)).trans (h.gr.blk i hi hn)⟩, fun o u ho hx => (s.h.cell (p := ⟨b, o, none⟩) l.h).trans (h.o o u ho hx)⟩
/-- an answer with an ack -/
theorem ans_ack {W : World} {base hb q : Nat} {n i : Int} {d : Hd} {bv : Value} {cs : List Cb} (h1 : BoxAt W hb #[.int .i64 d.d, .int .u64 d.c, .int .u64 d.s, .int .u64 d.i] 93) (h2 : BoxAt W q #[.int .i64 3, .int .i64 n, .int .u64 i, .int .i64 8, .slice (some ⟨hb, 0, none⟩) 1 1, .slice none 0 0, .int .i64 0, .int .u64 0, .int .u64 0, .slice none 0 0] 43) (hne : hb ≠ q) (l1 : base ≤ hb) (l2 : base ≤ q) (hc : CbG base W bv cs) :
    AnsM base W (.agg #[.slice (some ⟨q, 0, none⟩) 1 1, bv, .slice none 0 0]) ⟨[⟨3, n, i, 8, [d], [], 0, 0, 0, []⟩], cs.map Cb.pl, []⟩ := by
  haveI := h1
  refine ⟨_, [⟨⟨3, n, i, 8, [d], [], 0, 0, 0, []⟩, some ⟨hb, 0, none⟩, 1, none, 0⟩], _, cs, _, rfl, ⟨own_box1 h2 rfl l2, fun p hp => ?_⟩, rfl, hc, rfl, World.ownsRow_nil _ _ _ _⟩
  rw [List.mem_singleton] at hp
  subst hp
  refine ⟨⟨reads_hd1x W hb d, fun _ a ha hm => ?_⟩, .nil _ _ _ _, fun a ha => ?_, (fun a ha => by cases ha), rfl, NF.box h1, NF.zero _ _⟩
  · injection ha with ha
    subst ha
    have h3 := mem_ownL.1 hm
    simp [Value.ownBlock] at h3
    exact hne h3.symm
  · injection ha with ha
    subst ha
    exact l1
set_option maxRecDepth 100000 in
set_option maxHeartbeats 16000000 in
theorem text_o1 (w : World) (h : RfM w E x b c m) (pk : Int) (k : Nat) (hk1 : 1 ≤ k) (hk : k ≤ 10) (i : Int) (hi : 1 ≤ i) (hp : Int) (HA : Option Addr) (hn hcp : Nat) (BA : Option Addr) (bcp : Nat) (bs : List Int) (an ai sq : Int) (PA : Option Addr) (pn pcp : Nat) (d : Hd) (s0 : 0 ≤ d.s) (s1 : d.s ≤ 18446744073709551615) (hB : RO w E 1 BA bs.length (bcs bs)) (hbl : bs.length ≤ 1000000) (hA : i < (m.cmR k).i) :
    Calls Tryz.prog 49 #[.pointer (some ⟨x, 0, none⟩), .agg #[.int .i64 pk, .int .i64 k, .int .u64 i, .int .i64 hp, .slice HA hn hcp, .slice BA bs.length bcp, .int .i64 an, .int .u64 ai, .int .u64 sq, .slice PA pn pcp], .agg #[.int .i64 d.d, .int .u64 d.c, .int .u64 d.s, .int .u64 d.i]] w (RetTxr w E x b c (m.takeData k i d bs)) := by
  have HRES := hide (takeData_ref (m := m) (k := k) (i := i) (h := d) (bs := bs) hi)
  generalize m.takeData k i d bs = RES at HRES
  have HE := hide h
  have HBR : Hid (∀ W, Gr [b] w W → Reads W W.heap.size 1 BA bs.length (bcs bs)) := hide (fun W hW => (hB.tr (C' := E) (.of (hW.mono' (fun i hi => by rw [List.mem_singleton] at hi; subst hi; exact h.bE)))).1)
  haveI := h.bx
  haveI := h.fz
  haveI : LtN x w.heap.size := ⟨h.bx.lt⟩
  haveI : LtN b w.heap.size := ⟨h.fz.lt⟩
  haveI : NeN x b := ⟨fun e => h.xE (by rw [e]; exact h.bE)⟩
  obtain ⟨hok, A, c', ds, h9, hds, hmap, hcl⟩ := h.ro k (by omega)
  haveI := h9.c0
  haveI := h9.c1
  haveI := h9.c2
  haveI := h9.c3
  haveI := h9.c4
  haveI := h9.c5
  haveI := h9.c6
  haveI := h9.c7
  haveI := h9.c8
  have hun : ∀ b : Bool, (some undef = some (Value.bool b)) = False := fun b => by simp [undef]
  have i0 : (0 : Int) ≤ (k : Int) := by omega
  have i1 : (k : Int) < 11 := by omega
  clear h h9 hds hmap hcl hok hB
  have HO : Hid (oldB (m.cmR k) i d.c = true) := hide (by unfold oldB; rw [decide_eq_true hA]; rfl)
  have d1 : decide (i < (m.cmR k).i) = true := decide_eq_true hA
  clear hA
  go_enter Tryz.func49, Tryz.ntmps49
  go_upto_region 1 with fail
  go_quiet (fail)
  go_upto_region 2 with fail
  go_quiet (fail)
  go_wp2_with fail
  refine bodyPost_ret (v := nilA) (by simp [results, Tryz.results49, go_sem]) rfl ?_
  rw [HRES.out, HO.out]
  exact ⟨_, rfl, .nil _ _, HE.out.below blw, .of blw⟩
set_option maxRecDepth 100000 in
set_option maxHeartbeats 16000000 in
theorem text_o2 (w : World) (h : RfM w E x b c m) (pk : Int) (k : Nat) (hk1 : 1 ≤ k) (hk : k ≤ 10) (i : Int) (hi : 1 ≤ i) (hp : Int) (HA : Option Addr) (hn hcp : Nat) (BA : Option Addr) (bcp : Nat) (bs : List Int) (an ai sq : Int) (PA : Option Addr) (pn pcp : Nat) (d : Hd) (s0 : 0 ≤ d.s) (s1 : d.s ≤ 18446744073709551615) (hB : RO w E 1 BA bs.length (bcs bs)) (hbl : bs.length ≤ 1000000) (hI : i = (m.cmR k).i) (hc : d.c < (m.cmR k).c) :
    Calls Tryz.prog 49 #[.pointer (some ⟨x, 0, none⟩), .agg #[.int .i64 pk, .int .i64 k, .int .u64 i, .int .i64 hp, .slice HA hn hcp, .slice BA bs.length bcp, .int .i64 an, .int .u64 ai, .int .u64 sq, .slice PA pn pcp], .agg #[.int .i64 d.d, .int .u64 d.c, .int .u64 d.s, .int .u64 d.i]] w (RetTxr w E x b c (m.takeData k i d bs)) := by
  have HRES := hide (takeData_ref (m := m) (k := k) (i := i) (h := d) (bs := bs) hi)
  generalize m.takeData k i d bs = RES at HRES
  have HE := hide h
  have HBR : Hid (∀ W, Gr [b] w W → Reads W W.heap.size 1 BA bs.length (bcs bs)) := hide (fun W hW => (hB.tr (C' := E) (.of (hW.mono' (fun i hi => by rw [List.mem_singleton] at hi; subst hi; exact h.bE)))).1)
  haveI := h.bx
  haveI := h.fz
  haveI : LtN x w.heap.size := ⟨h.bx.lt⟩
  haveI : LtN b w.heap.size := ⟨h.fz.lt⟩
  haveI : NeN x b := ⟨fun e => h.xE (by rw [e]; exact h.bE)⟩
  obtain ⟨hok, A, c', ds, h9, hds, hmap, hcl⟩ := h.ro k (by omega)
  haveI := h9.c0
  haveI := h9.c1
  haveI := h9.c2
  haveI := h9.c3
  haveI := h9.c4
  haveI := h9.c5
  haveI := h9.c6
  haveI := h9.c7
  haveI := h9.c8
  have hun : ∀ b : Bool, (some undef = some (Value.bool b)) = False := fun b => by simp [undef]
  have i0 : (0 : Int) ≤ (k : Int) := by omega
  have i1 : (k : Int) < 11 := by omega
  clear h h9 hds hmap hcl hok hB
  have d1 : decide (i < (m.cmR k).i) = false := decide_eq_false (by omega)
  have d2 : (i == (m.cmR k).i) = true := by simpa using hI
  have d3 : decide (d.c < (m.cmR k).c) = true := decide_eq_true hc
  have HO : Hid (oldB (m.cmR k) i d.c = true) := hide (by unfold oldB; rw [d3, decide_eq_true hI]; simp)
  clear hI hc
  go_enter Tryz.func49, Tryz.ntmps49
  go_upto_region 1 with fail
  go_quiet (fail)
  go_upto_region 2 with fail
  go_quiet (fail)
  go_wp2_with fail
  refine bodyPost_ret (v := nilA) (by simp [results, Tryz.results49, go_sem]) rfl ?_
  rw [HRES.out, HO.out]
  exact ⟨_, rfl, .nil _ _, HE.out.below blw, .of blw⟩
end
end Go.Proofs.YtniogmefbjfoaaaGreat

namespace Go.Proofs.YtniogmefbjfoaaaGreat
set_option linter.unusedSimpArgs false
set_option linter.unusedVariables false
set_option linter.unusedSectionVars false
open Go.RowKit Go.Maps

theorem bd_fin {W6 W : World} {B lo q b1 b2 b3 c : Nat} {A : Option Addr} {bs : List Int} (h : OwnB W6 B (.slice A bs.length c) bs) (t : Tr [b1, b2, b3, q] [b1, b2, b3, q] W6 W) (h1 : b1 < B) (h2 : b2 < B) (h3 : b3 < B) (hq : W6.heap.size ≤ q) (hl : lo ≤ B) : BdP lo W (ownL (.slice (some ⟨q, 0, none⟩) 1 1)) ⟨A, c, bs⟩ := by
  have k1 : BdP B W6 [b1, b2, b3, q] ⟨A, c, bs⟩ := (BdP.own h (E := []) (fun i hi => by cases hi) B (Nat.le_refl _)).re (fun i hi => by
    simp at hi
    rcases hi with rfl | rfl | rfl | rfl
    · exact .inr (.inl h1)
    · exact .inr (.inl h2)
    · exact .inr (.inl h3)
    · exact .inr (.inr hq))
  have k2 := (k1.tr t).re (D := ownL (.slice (some ⟨q, 0, none⟩) 1 1)) (fun i hi => by
    have h4 := mem_ownL.1 hi
    simp [Value.ownBlock] at h4
    exact .inl (by simp [h4]))
  exact ⟨k2.r, fun a ha => Nat.le_trans hl (k2.n a ha), k2.f⟩
theorem cb_fin {W6 W : World} {B lo q b1 b2 b3 c : Nat} {n i : Int} {A : Option Addr} {bs : List Int} (hb : BoxAt W q #[.int .i64 n, .int .u64 i, .slice A bs.length c] 58) (h : OwnB W6 B (.slice A bs.length c) bs) (t : Tr [b1, b2, b3, q] [b1, b2, b3, q] W6 W) (h1 : b1 < B) (h2 : b2 < B) (h3 : b3 < B) (hq : W6.heap.size ≤ q) (hl : lo ≤ B) (hlq : lo ≤ q) : CbG lo W (.slice (some ⟨q, 0, none⟩) 1 1) [⟨n, i, ⟨A, c, bs⟩⟩] :=
  ⟨own_box1 hb rfl hlq, fun x hx => by
    rw [List.mem_singleton] at hx
    subst hx
    exact bd_fin h t h1 h2 h3 hq hl⟩
end Go.Proofs.YtniogmefbjfoaaaGreat
