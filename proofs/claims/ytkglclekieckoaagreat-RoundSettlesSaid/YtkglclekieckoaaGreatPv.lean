/-
  Layer 9: contract: the closure of proposal.View that brings a client.
-/
import Derived.Test.YtkglclekieckoaaGreatPp
import Derived.Test.YtkglclekieckoaaGreatCopy4
import Derived.Test.YtkglclekieckoaaGreatMap
import Derived.DeepKeys4
import Derived.StillTailTactics
namespace Go.Proofs.YtkglclekieckoaaGreat
set_option linter.unusedSimpArgs false
set_option linter.unusedVariables false
set_option linter.unusedSectionVars false
open Go.RowKit Go.Maps

/-- a life as a key -/
def pcv (p : Pr) : Value := .agg #[.int .i64 p.1, .int .u64 p.2]
theorem pcv_inj {p q : Pr} : pcv p = pcv q ↔ p = q := by
  constructor
  · intro h
    simp [pcv] at h
    exact Prod.ext h.1 h.2
  · rintro rfl; rfl
theorem Tryz.rowP : (25 : TypeId) < Tryz.prog.types.size := of_decide_eq_true (by kernel_rfl)
theorem Tryz.wideP : (match Tryz.prog.underlying 25 with | some (.array _ _) | some (.struct _) => true | _ => false) = true := by rw [Tryz.underlying25]
set_option maxRecDepth 100000 in
theorem Tryz.lawP : Keyed Tryz.prog 25 := Keyed.of_law (deep_law_laid Tryz.laidOut (m := 2) (by omega) Tryz.rowP (by kernel_rfl) Tryz.wideP)
set_option maxRecDepth 100000 in
theorem Tryz.keyTypeP : Tryz.prog.keyType 25 = true := by kernel_rfl
theorem wf_i64 {a : Int} (h : -9223372036854775808 ≤ a ∧ a ≤ 9223372036854775807) : (Lit.int .i64 a).wf = true := by
  simp [Lit.wf, IntKind.min, IntKind.max, IntKind.signed, IntKind.bits]; omega
theorem wf_u64 {a : Int} (h : 0 ≤ a ∧ a ≤ 18446744073709551615) : (Lit.int .u64 a).wf = true := by
  simp [Lit.wf, IntKind.min, IntKind.max, IntKind.signed, IntKind.bits]; omega
set_option maxRecDepth 100000 in
theorem keyP {p : Pr} (hw : wfP p) : ∃ kl, keyOf Tryz.prog 25 (pcv p) = some kl := by
  obtain ⟨h1, h2, h3, h4⟩ := hw
  have hs : ∃ m, Tryz.prog.types.size = m + 1 := ⟨Tryz.prog.types.size - 1, (Nat.succ_pred_eq_of_pos (Nat.lt_of_le_of_lt (Nat.zero_le _) Tryz.rowP)).symm⟩
  obtain ⟨m, hm⟩ := hs
  have w1 := wf_i64 ⟨h1, h2⟩
  have w2 := wf_u64 ⟨h3, h4⟩
  have hc : Tryz.prog.cellsOf 25 = 2 := by kernel_rfl
  have c1 : Tryz.prog.cellsOf 3 = 1 := by kernel_rfl
  have c2 : Tryz.prog.cellsOf 22 = 1 := by kernel_rfl
  refine ⟨.string (keyBytes [.int .i64 p.1, .int .u64 p.2]), ?_⟩
  have e : Tryz.prog.keyLits (Tryz.prog.types.size + 1) 25 [.int .i64 p.1, .int .u64 p.2] = some [.int .i64 p.1, .int .u64 p.2] := by
    rw [hm]
    simp [Program.keyLits, Tryz.underlying25, Tryz.underlying3, Tryz.underlying22, hc, c1, c2, w1, w2]
  have hf : (pcv p).formed Tryz.prog 25 = true := by simp [Value.formed, pcv, Tryz.underlying25, hc]
  unfold keyOf
  rw [Tryz.underlying25]
  simp only [Tryz.keyTypeP, hf, Bool.and_self, if_true]
  show (Tryz.prog.keyLits (Tryz.prog.types.size + 1) 25 [.int .i64 p.1, .int .u64 p.2]).map _ = _
  rw [e]; rfl
theorem zeroU (w : World) : (zeroValue 22).run Tryz.prog w = .ok (.int .u64 0) w := by kernel_rfl
/-- the starts that have been told -/
noncomputable def stF (L : List (Pr × Int)) : Value → Option Value := L.foldl (fun f x => putF f (pcv x.1) (.int .u64 x.2)) (fun _ => none)
theorem stF_snoc (L : List (Pr × Int)) (p : Pr) (u : Int) : stF (L ++ [(p, u)]) = putF (stF L) (pcv p) (.int .u64 u) := by unfold stF; rw [List.foldl_append]; rfl
/-- the last one that is told of a life -/
def lookL (L : List (Pr × Int)) (p : Pr) : Int := ((L.reverse.find? (fun x => decide (x.1 = p))).map (·.2)).getD 0
theorem stF_look : ∀ (L : List (Pr × Int)) (p : Pr), (stF L (pcv p)).getD (.int .u64 0) = .int .u64 (lookL L p) := by
  intro L p
  have key : stF L (pcv p) = (L.reverse.find? (fun x => decide (x.1 = p))).map (fun x => .int .u64 x.2) := by
    induction hL : L.reverse generalizing L with
    | nil => have : L = [] := by simpa using hL
             subst this; rfl
    | cons x M ih =>
      have : L = M.reverse ++ [x] := by rw [← List.reverse_reverse L, hL]; simp
      subst this
      obtain ⟨q, u⟩ := x
      rw [stF_snoc, List.find?_cons]
      by_cases he : q = p
      · subst he; simp [putF_same]
      · rw [putF_other _ _ (fun h => he (pcv_inj.1 h).symm), ih M.reverse (by simp)]
        simp [he]
  unfold lookL
  rw [key]
  cases L.reverse.find? (fun x => decide (x.1 = p)) <;> rfl
/-- while clients are brought -/
structure VB (w : World) (bm t4 t5 : Nat) (v : Value) (Lm : List (Pr × Int)) (La : List Pr) (W : World) : Prop where
  k2 : BoxAt W w.heap.size #[.int .u64 0, .int .i64 0, .int .u64 0, .slice none 0 0, .slice none 0 0] 36
  k4 : BoxAt W t4 #[.map (some bm)] 102
  k5 : BoxAt W t5 #[v] 27
  mp : MapF W 25 bm Lm.length (stF Lm)
  oa : OwnP W (t5 + 1) v La
  hB : Below w.heap.size w W
  h1 : w.heap.size < bm
  h2 : bm < t4
  h3 : t4 < t5
/-- all other boxes stay -/
def Kq (bm t5 : Nat) (v : Value) (W W' : World) : Prop := ∀ (k : Nat) (cs : Array Value) (t : TypeId), k ≠ bm → k ≠ t5 → v.ownBlock ≠ some k → BoxAt W k cs t → BoxAt W' k cs t
section
variable {w W W' : World} {bm t4 t5 : Nat} {v v' : Value} {Lm : List (Pr × Int)} {La : List Pr}
theorem VB.below (h : VB w bm t4 t5 v Lm La W) (hb : Below W.heap.size W W') : VB w bm t4 t5 v Lm La W' := by
  obtain ⟨k2, k4, k5, mp, oa, hB, h1, h2, h3⟩ := h
  exact ⟨k2.step hb, k4.step hb, k5.step hb, mp.step hb, own_below oa hb (Nat.le_refl _), below_step hB hb, h1, h2, h3⟩
theorem BoxAt.gr {n : Nat} {cs : Array Value} {t : TypeId} {r : Option Nat} (h : BoxAt W n cs t) (hg : W.grownBy W' r) (hn : r ≠ some n) : BoxAt W' n cs t := ⟨by rw [hg.block n h.lt (fun e => hn e.symm)]; exact h.eq⟩
theorem VB.putM (h : VB w bm t4 t5 v Lm La W) {p : Pr} {u : Int} (hg : W.grownBy W' (some bm)) (hm : MapF W' 25 bm (Lm.length + 1) (putF (stF Lm) (pcv p) (.int .u64 u))) : VB w bm t4 t5 v (Lm ++ [(p, u)]) La W' := by
  obtain ⟨k2, k4, k5, mp, oa, hB, h1, h2, h3⟩ := h
  refine ⟨k2.grown hg (by omega), k4.grown hg (by omega), k5.grown hg (by omega), ?_, own_grown oa hg (by omega), hB.trans (grown_to_below hg (by omega) hB.size), h1, h2, h3⟩
  rw [stF_snoc, List.length_append]; exact hm
theorem VB.app (h : VB w bm t4 t5 v Lm La W) {p : Pr} (ho : W'.ownsRow (t5 + 1) 25 2 v' (La.length + 1) (pcs La ++ pcs [p])) (hg : W.grownBy W' v.ownBlock) :
    BoxAt W' t5 #[v] 27 ∧ VB w bm t4 t5 v' Lm (La ++ [p]) (W'.setCell ⟨t5, 0, none⟩ v') := by
  obtain ⟨k2, k4, k5, mp, oa, hB, h1, h2, h3⟩ := h
  have hk := k5.lt
  have hlo : ∀ k, v.ownBlock = some k → t5 + 1 ≤ k := fun k hk => (oa.lt k hk).1
  have ne : ∀ n, n ≤ t5 → v.ownBlock ≠ some n := fun n hn e => by have := hlo n e; omega
  have k5' := k5.gr hg (ne t5 (Nat.le_refl _))
  have hgs := grown_setCell W' t5 0 v'
  refine ⟨k5', ⟨(k2.gr hg (ne _ (by omega))).set (by omega), (k4.gr hg (ne _ (by omega))).set (by omega), ⟨setCell_block _ _ _ _ _ _ k5'.eq⟩, ?_, ?_, ?_, h1, h2, h3⟩⟩
  · exact (mp.kept hg (fun e => ne bm (by omega) e.symm)).kept hgs (by simp; omega)
  · rw [OwnP, List.length_append, pcs_app]; exact own_grown ho hgs (by omega)
  · exact (hB.grown hg hB.size (fun k hk => by have := hlo k hk; omega)).trans (grown_to_below hgs (by omega) (by have := hB.size; have := hg.size; omega))
end
set_option maxRecDepth 100000 in
set_option maxHeartbeats 1000000 in
theorem bring_s (w W : World) (bm t4 t5 k : Nat) (v : Value) (Lm : List (Pr × Int)) (La : List Pr) (x : Pp) (p : Pr) (u : Int) (h : VB w bm t4 t5 v Lm La W) (hc : Sl w x.CA x.cs) (hu : Ul w x.UA x.us) (hp : x.cs[k]? = some p) (hq : x.us[k]? = some u) (hw : wfP p) (hL : Lm.length ≤ 1000) (hLa : La.length ≤ 1000) :
    Calls Tryz.prog 39 #[.agg #[.int .i64 x.n, .int .u64 x.i, .int .u64 x.rd, .slice x.SA x.ss.length x.sc, .slice x.CA x.cs.length x.cc, .slice x.UA x.us.length x.uc, .int .i64 k], .pointer (some ⟨t4, 0, none⟩), .pointer (some ⟨t5, 0, none⟩)] W
      fun e W' => e = .returned (.tuple #[]) ∧ ∃ v', VB w bm t4 t5 v' (Lm ++ [(p, u)]) (La ++ [p]) W' ∧ Kq bm t5 v W W' ∧ (v'.ownBlock = v.ownBlock ∨ ∃ r, v'.ownBlock = some r ∧ W.heap.size ≤ r) := by
  obtain ⟨n, i, rd, SA, sc, ss, CA, cc, cs, UA, uc, us⟩ := x
  simp only at hc hu hp hq ⊢
  have hkc : k < cs.length := (List.getElem?_eq_some_iff.1 hp).1
  have hku : k < us.length := (List.getElem?_eq_some_iff.1 hq).1
  have hBs := h.hB.size
  obtain ⟨b, off, p', rfl, hb, hp', g1, g2⟩ := (Reads.below hc h.hB).at2 hkc
  rw [hp] at hp'
  injection hp' with hp'
  subst hp'
  obtain ⟨b', off', u', rfl, hb', hq', g3⟩ := (Reads.below hu h.hB).atU hku
  rw [hq] at hq'
  injection hq' with hq'
  subst hq'
  obtain ⟨pn, pi⟩ := p
  simp only at g1 g2
  obtain ⟨kl, hkey⟩ := keyP hw
  haveI : InW b W := ⟨by omega⟩
  haveI : InW b' W := ⟨by omega⟩
  have i1 : (k : Int) < (cs.length : Int) := by omega
  have i2 : (k : Int) < (us.length : Int) := by omega
  have H1 := h.below (below_alloc W (.cells #[.int .i64 n, .int .u64 i, .int .u64 rd, .slice SA ss.length sc, .slice (some ⟨b, off, none⟩) cs.length cc, .slice (some ⟨b', off', none⟩) us.length uc, .int .i64 k] 104))
  have pb := boxTop W #[.int .i64 n, .int .u64 i, .int .u64 rd, .slice SA ss.length sc, .slice (some ⟨b, off, none⟩) cs.length cc, .slice (some ⟨b', off', none⟩) us.length uc, .int .i64 k] 104
  have HB := hide h.hB
  have e1 := h.h1
  have e2 := h.h2
  have e3 := h.h3
  have e5 := h.k5.lt
  have hlo : ∀ k, v.ownBlock = some k → t5 + 1 ≤ k := fun k hk => (h.oa.lt k hk).1
  have hhi : ∀ k, v.ownBlock = some k → k < W.heap.size := fun k hk => (h.oa.lt k hk).2
  have HLO := hide hlo
  have HHI := hide hhi
  have hKq : Hid (∀ W1, Below W.heap.size W W1 → ∀ W2, W1.grownBy W2 (some bm) → Kq bm t5 v W W2) := hide (fun W1 hb1 W2 hg2 a cs t a1 a2 a3 a4 => (a4.step hb1).grown hg2 a1)
  clear hc hu hp hq hkc hku h hlo hhi
  obtain ⟨W1, hW1⟩ : ∃ W1, W1 = (W.alloc (.cells #[.int .i64 n, .int .u64 i, .int .u64 rd, .slice SA ss.length sc, .slice (some ⟨b, off, none⟩) cs.length cc, .slice (some ⟨b', off', none⟩) us.length uc, .int .i64 k] 104)).drew := ⟨_, rfl⟩
  have bW1 : Below W.heap.size W W1 := by rw [hW1]; exact (below_alloc W _).drew
  have HV1 : VB w bm t4 t5 v Lm La W1 := by rw [hW1]; exact H1.below (Below.refl _ _).drew
  have pb1 : BoxAt W1 W.heap.size #[.int .i64 n, .int .u64 i, .int .u64 rd, .slice SA ss.length sc, .slice (some ⟨b, off, none⟩) cs.length cc, .slice (some ⟨b', off', none⟩) us.length uc, .int .i64 k] 104 := by rw [hW1]; exact ⟨pb.eq⟩
  have s1 : W1.heap.size = W.heap.size + 1 := by rw [hW1]; simp
  have g1' : W1.cell? ⟨b, off + k * 2, none⟩ = some (.int .i64 pn) := (bW1.cell (p := ⟨b, off + k * 2, none⟩) (by show b < _; omega)).trans g1
  have g2' : W1.cell? ⟨b, off + k * 2 + 1, none⟩ = some (.int .u64 pi) := (bW1.cell (p := ⟨b, off + k * 2 + 1, none⟩) (by show b < _; omega)).trans g2
  have g3' : W1.cell? ⟨b', off' + k, none⟩ = some (.int .u64 u) := (bW1.cell (p := ⟨b', off' + k, none⟩) (by show b' < _; omega)).trans g3
  haveI := HV1.k4
  haveI := HV1.k5
  haveI := pb1
  haveI : InW b W1 := ⟨by omega⟩
  haveI : InW b' W1 := ⟨by omega⟩
  have HP1 := hide HV1
  have HKq := hide (fun W2 (h2 : W1.grownBy W2 (some bm)) => hKq.out W1 bW1 W2 h2)
  have HW1 := hide hW1
  have q1 : W.heap.size ≤ W1.heap.size := by omega
  clear s1
  clear H1 pb g1 g2 g3 hKq HV1 hW1
  go_enter Tryz.func39, Tryz.ntmps39
  go_wp2_with fail
  (refine wp_still_w 15 (by kernel_rfl) (by kernel_rfl) W1 HW1.out ?_; simp only [List.take_succ_cons, List.take_zero, List.drop_succ_cons, List.drop_zero]; (repeat still_step); refine wpStill_nil ?_)
  go_wp2_with (at_mapUpdate; go_must (refine wpList_store_f (by rfl) (.tmp 4) (.tmp 11) (.tmp 18) (by rfl) Tryz.lawP Tryz.underlying102 (by rfl) (by rfl) (by rfl) HP1.out.mp (by unfold maxLen; omega) hkey ?_); intro w2 hm2 hg2)
  have HV2 := HP1.out.putM (p := (pn, pi)) hg2 hm2
  have HK2 := HKq.out w2 hg2
  have hs2 := hg2.size
  have pb2 := pb1.grown hg2 (show W.heap.size ≠ bm by omega)
  have HV3 : VB w bm t4 t5 v (Lm ++ [(pn, pi, u)].map (fun x => ((x.1, x.2.1), x.2.2))) La w2.drew := HV2.below (Below.refl _ _).drew
  have pb3 : BoxAt w2.drew W.heap.size #[.int .i64 n, .int .u64 i, .int .u64 rd, .slice SA ss.length sc, .slice (some ⟨b, off, none⟩) cs.length cc, .slice (some ⟨b', off', none⟩) us.length uc, .int .i64 k] 104 := ⟨pb2.eq⟩
  have HK3 : Kq bm t5 v W w2.drew := fun a cs t a1 a2 a3 a4 => (HK2 a cs t a1 a2 a3 a4).step (Below.refl _ _).drew
  have g1'' : w2.cell? ⟨b, off + k * 2, none⟩ = some (.int .i64 pn) := (Below.cell (p := ⟨b, off + k * 2, none⟩) (grown_to_below hg2 (show w.heap.size ≤ bm by omega) (by omega)) hb).trans g1'
  have g2'' : w2.cell? ⟨b, off + k * 2 + 1, none⟩ = some (.int .u64 pi) := (Below.cell (p := ⟨b, off + k * 2 + 1, none⟩) (grown_to_below hg2 (show w.heap.size ≤ bm by omega) (by omega)) hb).trans g2'
  haveI : BoxAt w2.drew t5 #[v] 27 := HV3.k5
  haveI : BoxAt w2 t5 #[v] 27 := HV2.k5
  haveI := pb3
  haveI := pb2
  haveI : InW b w2 := ⟨by omega⟩
  haveI : InW t5 w2 := ⟨by omega⟩
  haveI : InW W.heap.size w2 := ⟨pb2.lt⟩
  have HP3 := hide HV3
  have HK3 := hide HK3
  obtain ⟨VA, vc, rfl, _, _⟩ := own_slice HV3.oa
  have q3 : t5 < w2.heap.size := by omega
  have q4 : W.heap.size ≤ w2.heap.size := by omega
  have HB3 := hide (HP3.out.below (below_alloc w2.drew (bx pn pi)))
  clear hm2 hg2 HV2 HK2 HV3 pb2 HP1 HKq g1' g2' g3' bW1 pb1 q1 hs2 HW1
  go_region_law (refine step_append_any _ Tryz.okP (by rfl) (.tmp 19) (.tmp 27) (by rfl) (t5 + 1) (.slice VA La.length vc) La.length (pcs La) (by simp [Act.eval, Act.put]) (HP3.out.oa.alloc _) (w2.heap.size + 1) (some ⟨w2.heap.size, 0, none⟩) 1 1 (pcs [(pn, pi)]) (by simp [Act.eval, Act.put]) (reads_one w2.drew pn pi) (pc_one _) (by unfold maxLen; omega) (by omega) (by simp; omega) ?_; intro v5 w5 ho5 hg5 hn5 ha5; obtain ⟨A5, c5, rfl, _, _⟩ := own_slice ho5; obtain ⟨k5, V5⟩ := HB3.out.app ho5 hg5; haveI := k5)
  all_goals
    go_wp2
    go_end0
    refine ⟨rfl, _, V5, fun a cs t a1 a2 a3 a4 => ?_, ?_⟩
    · have q3 := (HK3.out a cs t a1 a2 a3 a4).step (below_alloc w2.drew (bx pn pi))
      exact (q3.gr hg5 a3).set a2
    · rcases ha5 with h | h
      · exact .inl h
      · exact .inr ⟨_, h, by simp; omega⟩
end Go.Proofs.YtkglclekieckoaaGreat
