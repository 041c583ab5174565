/-
  Layer 9's reference: contract: Copy.
-/
import Derived.Test.YtdmjopokclljlaaGreatPpP
import Derived.Test.YtdmjopokclljlaaGreatCopy4
namespace Go.Proofs.YtdmjopokclljlaaGreat
set_option linter.unusedSimpArgs false
set_option linter.unusedVariables false
set_option linter.unusedSectionVars false
open Go.RowKit

/-- while a proposal is copied -/
structure CP (w : World) (n i rd : Int) (a b c : Value) (W : World) : Prop where
  k0 : BoxAt W w.heap.size #[.int .i64 n, .int .u64 i, .int .u64 rd, a, b, c] 43
  k1 : BoxAt W (w.heap.size + 1) #[.int .i64 0, .int .u64 0, .int .u64 0, .slice none 0 0, .slice none 0 0, .slice none 0 0] 43
  hB : Below w.heap.size w W
  sz : w.heap.size + 1 < W.heap.size
section
variable {w W W' : World} {n i rd : Int} {a b c : Value}
theorem CP.app (h : CP w n i rd a b c W) {o : Obj} (hg : (W.alloc o).grownBy W' (some W.heap.size)) : CP w n i rd a b c W' := by
  have hs := h.sz
  exact ⟨(h.k0.alloc' o).grown hg (by omega), (h.k1.alloc' o).grown hg (by omega), (below_step h.hB (below_alloc W o)).grown hg (by simp; omega) (fun k hk => by injection hk; omega), by have := hg.size; simp at this; omega⟩
theorem CP.set3 (h : CP w n i rd a b c W) (v : Value) : CP w n i rd v b c (W.setCell ⟨w.heap.size, 3, none⟩ v) :=
  ⟨⟨setCell_block _ _ _ _ _ _ h.k0.eq⟩, h.k1.set (by omega), h.hB.trans (grown_to_below (grown_setCell _ _ _ _) (Nat.le_refl _) h.hB.size), by have := (grown_setCell W w.heap.size 3 v).size; have := h.sz; omega⟩
theorem CP.set4 (h : CP w n i rd a b c W) (v : Value) : CP w n i rd a v c (W.setCell ⟨w.heap.size, 4, none⟩ v) :=
  ⟨⟨setCell_block _ _ _ _ _ _ h.k0.eq⟩, h.k1.set (by omega), h.hB.trans (grown_to_below (grown_setCell _ _ _ _) (Nat.le_refl _) h.hB.size), by have := (grown_setCell W w.heap.size 4 v).size; have := h.sz; omega⟩
theorem CP.set5 (h : CP w n i rd a b c W) (v : Value) : CP w n i rd a b v (W.setCell ⟨w.heap.size, 5, none⟩ v) :=
  ⟨⟨setCell_block _ _ _ _ _ _ h.k0.eq⟩, h.k1.set (by omega), h.hB.trans (grown_to_below (grown_setCell _ _ _ _) (Nat.le_refl _) h.hB.size), by have := (grown_setCell W w.heap.size 5 v).size; have := h.sz; omega⟩
/-- a row of our own stays while another one is laid behind -/
theorem own_next {e : TypeId} {k m base : Nat} {v : Value} {xs : List Value} (h : W.ownsRow base e k v m xs) {o : Obj} (hg : (W.alloc o).grownBy W' (some W.heap.size)) : W'.ownsRow base e k v m xs :=
  own_apart (own_below h (below_alloc W o) (Nat.le_refl _)) hg (apart2 h)
end
/-- a proposal in new memory -/
def RetPc (w : World) (x : Pp) (e : Ending) (w' : World) : Prop := ∃ S s C c U u, e = .returned (x.at S s C c U u).v ∧ Pp.Ok w' (x.at S s C c U u) ∧ Below w.heap.size w w'
set_option maxRecDepth 100000 in
set_option maxHeartbeats 2000000 in
theorem refPCopy_s (x : Pp) (w : World) (h : x.Ok w) : Calls Tryz.prog 14 #[x.v] w (RetPc w x) := by
  obtain ⟨h1, h2, h3, h4, h5, h6⟩ := h
  obtain ⟨n, i, rd, SA, sc, ss, CA, cc, cs, UA, uc, us⟩ := x
  simp only at h1 h2 h3 h4 h5 h6
  have V0 : CP w n i rd (.slice SA ss.length sc) (.slice CA cs.length cc) (.slice UA us.length uc) ((w.alloc (bxP n i rd SA ss.length sc CA cs.length cc UA us.length uc)).alloc (bxP 0 0 0 none 0 0 none 0 0 none 0 0)) := by
    refine ⟨(boxTop w _ _).alloc' _, ?_, (by repeat (first | exact Below.refl _ _ | assumption | refine bel_al ?_ _ | refine bel_gw ?_ _ _ | refine bel_drew ?_ | refine bel_drewN ?_ _)), by simp⟩
    have := boxTop (w.alloc (bxP n i rd SA ss.length sc CA cs.length cc UA us.length uc)) #[.int .i64 0, .int .u64 0, .int .u64 0, .slice none 0 0, .slice none 0 0, .slice none 0 0] 43
    rw [World.size_alloc] at this
    exact this
  have HS := hide h1
  have HC := hide h3
  have HU := hide h5
  clear h1 h3 h5
  unfold Pp.v RetPc
  simp only [Pp.at, Pp.v]
  go_enter Tryz.func14, Tryz.ntmps14
  go_wp2_with (first
    | (at_builtin; (refine wpList_append_any _ Tryz.okP (by rfl) (.tmp 3) (.tmp 5) (by rfl) (w.heap.size + 1 + 1) (.slice (some ⟨w.heap.size + 1 + 1, 0, none⟩) 0 0) 0 [] (by rfl) (own_emptyP' _ (w.heap.size + 1 + 1) (by simp)) w.heap.size SA ss.length sc (pcs ss) (by rfl) (Reads.below HS.out (below_step V0.hB (below_alloc _ _))) (pc_one _) (by unfold maxLen; omega) (by omega) (by simp) ?_); intro v1 w1 ho hg hn ha; go_must (rw [Nat.zero_add, List.nil_append] at ho; have V1 := V0.app (o := .cells #[] 24) (W' := w1) (by rw [show ((w.alloc (bxP n i rd SA ss.length sc CA cs.length cc UA us.length uc)).alloc (bxP 0 0 0 none 0 0 none 0 0 none 0 0)).heap.size = w.heap.size + 1 + 1 by simp]; exact hg)); obtain ⟨A1, c1, rfl, _, _⟩ := own_slice ho; have S1 := V1.set3 (.slice A1 ss.length c1); have O1 := own_grown ho (grown_setCell w1 w.heap.size 3 (.slice A1 ss.length c1)) (by omega); haveI := V1.k0; haveI := S1.k0; haveI := S1.k1; clear ho hg hn ha)
    | (at_builtin; (refine wpList_append_any _ Tryz.okP (by rfl) (.tmp 8) (.tmp 10) (by rfl) w1.heap.size (.slice (some ⟨w1.heap.size, 0, none⟩) 0 0) 0 [] (by rfl) (own_emptyP' _ w1.heap.size (by simp [World.setCell])) w.heap.size CA cs.length cc (pcs cs) (by rfl) (Reads.below HC.out (below_step S1.hB (below_alloc _ _))) (pc_one _) (by unfold maxLen; omega) (by omega) (by simp [World.setCell]) ?_); intro v2 w2 ho hg hn ha; go_must (rw [Nat.zero_add, List.nil_append] at ho; have hg' : ((w1.setCell ⟨w.heap.size, 3, none⟩ (.slice A1 ss.length c1)).alloc (.cells #[] 24)).grownBy w2 (some (w1.setCell ⟨w.heap.size, 3, none⟩ (.slice A1 ss.length c1)).heap.size) := (by rw [show (w1.setCell ⟨w.heap.size, 3, none⟩ (.slice A1 ss.length c1)).heap.size = w1.heap.size by simp [World.setCell]]; exact hg)); have V2 := S1.app hg'; have P1 := own_next O1 hg'; obtain ⟨A2, c2, rfl, _, _⟩ := own_slice ho; have S2 := V2.set4 (.slice A2 cs.length c2); have hzz := V1.sz; have O2 := own_grown ho (grown_setCell w2 w.heap.size 4 (.slice A2 cs.length c2)) (by omega); have O12 := own_grown P1 (grown_setCell w2 w.heap.size 4 (.slice A2 cs.length c2)) (by omega); haveI := V2.k0; haveI := S2.k0; haveI := S2.k1; clear ho hg hn ha hg' P1 O1 S1)
    | (at_builtin; (refine wpList_append_any _ Tryz.okU (by rfl) (.tmp 13) (.tmp 15) (by rfl) w2.heap.size (.slice (some ⟨w2.heap.size, 0, none⟩) 0 0) 0 [] (by rfl) (own_emptyU' _ w2.heap.size (by simp [World.setCell])) w.heap.size UA us.length uc (ucs us) (by rfl) (Reads.below HU.out (below_step S2.hB (below_alloc _ _))) (uc_one _) (by unfold maxLen; omega) (by omega) (by simp [World.setCell]) ?_); intro v3 w3 ho hg hn ha; go_must (rw [Nat.zero_add, List.nil_append] at ho; have hg' : ((w2.setCell ⟨w.heap.size, 4, none⟩ (.slice A2 cs.length c2)).alloc (.cells #[] 22)).grownBy w3 (some (w2.setCell ⟨w.heap.size, 4, none⟩ (.slice A2 cs.length c2)).heap.size) := (by rw [show (w2.setCell ⟨w.heap.size, 4, none⟩ (.slice A2 cs.length c2)).heap.size = w2.heap.size by simp [World.setCell]]; exact hg)); have V3 := S2.app hg'; have P1 := own_next O12 hg'; have P2 := own_next O2 hg'; obtain ⟨A3, c3, rfl, _, _⟩ := own_slice ho; have S3 := V3.set5 (.slice A3 us.length c3); have hzz2 := V2.sz; have O3 := own_grown ho (grown_setCell w3 w.heap.size 5 (.slice A3 us.length c3)) (by omega); have O13 := own_grown P1 (grown_setCell w3 w.heap.size 5 (.slice A3 us.length c3)) (by omega); have O23 := own_grown P2 (grown_setCell w3 w.heap.size 5 (.slice A3 us.length c3)) (by omega); haveI := V3.k0; haveI := V3.k1; haveI := S3.k0; haveI := S3.k1; obtain ⟨k6, g6⟩ := set6 S3.k1 (.int .i64 n) (.int .u64 i) (.int .u64 rd) (.slice A1 ss.length c1) (.slice A2 cs.length c2) (.slice A3 us.length c3); have R1 := hide (own_grown O13 g6 (by omega)); have R2 := hide (own_grown O23 g6 (by omega)); have R3 := hide (own_grown O3 g6 (by omega)); have HB6 := hide (S3.hB.trans (grown_to_below g6 (by omega) S3.hB.size)); clear ho hg hn ha hg' P1 P2 O12 O2 S2 O13 O23 O3 g6))
  generalize ((((((w3.setCell ⟨w.heap.size, 5, none⟩ (.slice A3 us.length c3)).setCell ⟨w.heap.size + 1, 0, none⟩ (.int .i64 n)).setCell ⟨w.heap.size + 1, 1, none⟩ (.int .u64 i)).setCell ⟨w.heap.size + 1, 2, none⟩ (.int .u64 rd)).setCell ⟨w.heap.size + 1, 3, none⟩ (.slice A1 ss.length c1)).setCell ⟨w.heap.size + 1, 4, none⟩ (.slice A2 cs.length c2)).setCell ⟨w.heap.size + 1, 5, none⟩ (.slice A3 us.length c3) = W6 at k6 R1 R2 R3 HB6 ⊢
  haveI := k6
  refine bodyPost_ret (v := PpV n i rd A1 ss.length c1 A2 cs.length c2 A3 us.length c3) (by simp [results, Tryz.results14, go_sem]) rfl ?_
  exact ⟨A1, c1, A2, c2, A3, c3, rfl, ⟨Reads.of_own R1.out, h2, Reads.of_own R2.out, h4, Reads.of_own R3.out, h6⟩, HB6.out⟩
end Go.Proofs.YtdmjopokclljlaaGreat
