/-
  Contracts: slices.Clone at clients, registry.taken, there, lives.
-/
import Derived.Test.YtfddiklhjkjipaaGreatReg
namespace Go.Proofs.YtfddiklhjkjipaaGreat
set_option linter.unusedSimpArgs false
set_option linter.unusedVariables false
set_option linter.unusedSectionVars false
open Go.RowKit Go.Sort Go.Lib

def RetC (w : World) (l : List Cl) (e : Ending) (w' : World) : Prop := ∃ v, e = .returned v ∧ OwnC w' w.heap.size v l ∧ Below w.heap.size w w'
theorem own_emptyC (w : World) : (w.alloc (.cells #[] 48)).ownsRow w.heap.size 48 6 (.slice (some ⟨w.heap.size, 0, none⟩) 0 0) 0 [] := World.ownsRow_lit w #[] 0 (Nat.le_refl _) (by unfold maxLen; omega) rfl
theorem reads_oneC (w : World) (x : Cl) (n : Nat) (h : w.heap.size = n) : Reads (w.alloc (bxC x)) (n + 1) 6 (some ⟨n, 0, none⟩) 1 (ccs [x]) := by
  subst h
  have := Reads.of_own (World.ownsRow_lit (base := 0) (e := 48) (size := 6) w #[.int .i64 x.n, .int .u64 x.i, .int .u64 x.cid, .int .u64 x.rnd, .int .u64 x.heard, .bool x.gone] 1 (Nat.zero_le _) (by unfold maxLen; omega) rfl)
  simpa [ccs, cc] using this
theorem reads_oneP (w : World) (a b : Int) (n : Nat) (h : w.heap.size = n) : Reads (w.alloc (bx a b)) (n + 1) 2 (some ⟨n, 0, none⟩) 1 (pcs [(a, b)]) := by
  subst h
  have := Reads.of_own (World.ownsRow_lit (base := 0) (e := 25) (size := 2) w #[.int .i64 a, .int .u64 b] 1 (Nat.zero_le _) (by unfold maxLen; omega) rfl)
  simpa [pcs, pc] using this

set_option maxHeartbeats 400000 in
theorem cloneC_s (A : Option Addr) (c : Nat) (l : List Cl) (w : World) (hR : Cll w A l) (hn : l.length ≤ 1000000) :
    Calls Tryz.prog 113 #[.slice A l.length c] w (RetC w l) := by
  cases A with
  | none =>
    have h0 : l.length = 0 := by
      rcases Nat.eq_zero_or_pos l.length with h | h
      · exact h
      · obtain ⟨_, _, h', _⟩ := hR.2 h; cases h'
    have hl : l = [] := List.eq_nil_of_length_eq_zero h0
    subst hl
    clear hR h0
    have hnil : ∀ W c, (binOp .eql 28 (.slice none 0 c) (.slice none 0 0)).run Tryz.prog W = .ok (.bool true) W := fun W c => Lib.run_eql_slice_nil W 28 48 none 0 c 0 0 Tryz.underlying28
    rw [show ([] : List Cl).length = 0 from rfl]
    go_enter Tryz.func113, Tryz.ntmps113
    go_wp2
    go_ret
    exact ⟨_, rfl, World.ownsRow_nil _ _ _ _, Below.refl _ _⟩
  | some ad =>
    have hnil : ∀ W, (binOp .eql 28 (.slice (some ad) l.length c) (.slice none 0 0)).run Tryz.prog W = .ok (.bool false) W := fun W => Lib.run_eql_slice_nil W 28 48 (some ad) l.length c 0 0 Tryz.underlying28
    go_enter Tryz.func113, Tryz.ntmps113
    go_wp2_with (at_builtin; go_must (refine wpList_append_any _ Tryz.okC (by rfl) (.tmp 5) (.tmp 6) (by rfl) w.heap.size (.slice (some ⟨w.heap.size, 0, none⟩) 0 0) 0 [] (by rfl) (own_emptyC w) w.heap.size (some ad) l.length c (ccs l) (by rfl) (Reads.alloc hR (Nat.le_refl _) _) (cc_one l) (by unfold maxLen; omega) (by omega) (by simp) ?_); intro v1 w1 hown1 hg1 hnil1 hat1)
    go_ret
    rw [Nat.zero_add, List.nil_append] at hown1
    exact ⟨_, rfl, hown1, (below_alloc w _).grown hg1 (by simp) (by simp [Value.ownBlock])⟩

/-- one that may be, or one without clients -/
def takenR (l : List Cl) : List Cl := if mayR l = true then l else []
theorem takenR_len (l : List Cl) : (takenR l).length ≤ 6 := by
  unfold takenR
  split
  · rename_i h; unfold mayR at h; simp at h; exact h.2
  · simp
/-- a registry is handed back, in new memory -/
def RetR7 (w : World) (l : List Cl) (e : Ending) (w' : World) : Prop := ∃ v, e = .returned (.agg #[v]) ∧ OwnC w' w.heap.size v l ∧ Below w.heap.size w w'
set_option maxHeartbeats 400000 in
theorem taken_s (A : Option Addr) (c : Nat) (l : List Cl) (w : World) (h : Cll w A l) (hn : l.length ≤ 1000000) :
    Calls Tryz.prog 115 #[.agg #[.slice A l.length c]] w (RetR7 w (takenR l)) := by
  have h1 : Cll ((w.alloc (bxR A l.length c)).alloc (bxR none 0 0)) A l := (h.step (below_alloc _ _)).step (below_alloc _ _)
  have b1 : Below w.heap.size w ((w.alloc (bxR A l.length c)).alloc (bxR none 0 0)) := below_step (below_alloc _ _) (below_alloc _ _)
  clear h
  go_enter Tryz.func115, Tryz.ntmps115
  go_wp2_with fail
  with_reducible refine (regMay_b A c l _ h1 hn).mono ?_
  rintro e w1 ⟨rfl, hb⟩
  have c0 : w1.cell? ⟨w.heap.size, 0, none⟩ = some (.slice A l.length c) := (hb.cell (p := ⟨w.heap.size, 0, none⟩) (by simp; omega)).trans (by simp)
  have c1 : w1.cell? ⟨w.heap.size + 1, 0, none⟩ = some (.slice none 0 0) := (hb.cell (p := ⟨w.heap.size + 1, 0, none⟩) (by simp)).trans (by simp)
  have f1 : w1.frozen? ⟨w.heap.size + 1, 0, none⟩ = false := (hb.frozen (p := ⟨w.heap.size + 1, 0, none⟩) (by simp)).trans (by simp)
  have hsz := hb.size
  simp at hsz
  replace h1 := h1.step hb
  replace b1 := below_step b1 hb
  clear hb
  cases hm : mayR l
  · have HT := hide (show takenR l = [] by simp [takenR, hm])
    go_wp2
    refine bodyPost_ret (v := .agg #[.slice none 0 0]) (by simp [results, Tryz.results115, go_sem, c1]) rfl ?_
    rw [HT.out]
    exact ⟨_, rfl, World.ownsRow_nil _ _ _ _, b1.setCell (by simp) _⟩
  · have HT := hide (show takenR l = l by simp [takenR, hm])
    go_wp2_with fail
    with_reducible refine (cloneC_s A c l w1 h1 hn).mono ?_
    rintro e w2 ⟨v, rfl, hown, hb⟩
    obtain ⟨A2, c2, rfl, _, _⟩ := own_slice hown
    have d1 : w2.cell? ⟨w.heap.size + 1, 0, none⟩ = some (.slice none 0 0) := (hb.cell (p := ⟨w.heap.size + 1, 0, none⟩) (by simp; omega)).trans c1
    have g1 : w2.frozen? ⟨w.heap.size + 1, 0, none⟩ = false := (hb.frozen (p := ⟨w.heap.size + 1, 0, none⟩) (by simp; omega)).trans f1
    have hs2 := hb.size
    have HO := hide hown
    have b2 := below_step b1 hb
    clear hown hb c0 c1 f1 h1
    go_wp2
    refine bodyPost_ret (v := .agg #[.slice A2 l.length c2]) (by simp [results, Tryz.results115, go_sem, d1]) rfl ?_
    rw [HT.out]
    refine ⟨_, rfl, ?_, b2.setCell (by simp) _⟩
    exact own_base (ownsRow_setCell_below HO.out (a := ⟨w.heap.size + 1, 0, none⟩) (by simp; omega) _) (by omega)

set_option maxHeartbeats 400000 in
theorem there_b (x : Cl) (w : World) : Calls Tryz.prog 116 #[.agg #[.int .i64 x.n, .int .u64 x.i, .int .u64 x.cid, .int .u64 x.rnd, .int .u64 x.heard, .bool x.gone]] w (RetB7 w (!x.gone)) := by
  go_enter Tryz.func116, Tryz.ntmps116
  go_wp2
  go_ret
  exact ⟨rfl, below_alloc _ _⟩

def livesL (l : List Cl) : List (Int × Int) := l.map fun c => (c.n, c.i)
def RetP (w : World) (l : List (Int × Int)) (e : Ending) (w' : World) : Prop := ∃ A c, e = .returned (.slice A l.length c) ∧ w'.ownsRow w.heap.size 25 2 (.slice A l.length c) l.length (pcs l) ∧ Below w.heap.size w w'
set_option maxHeartbeats 1000000 in
theorem lives7_s (A : Option Addr) (c : Nat) (l : List Cl) (w : World) (h : Cll w A l) (hn : l.length ≤ 1000000) :
    Calls Tryz.prog 162 #[.slice A l.length c] w (RetP w (livesL l)) := by
  have HS := hide h
  clear h
  go_enter Tryz.func162, Tryz.ntmps162
  go_wp2
  go_loopw [3, 8] (fun v i wr => ∃ (k : Nat) (L : List (Int × Int)), k ≤ l.length ∧ i = .int .i64 k ∧ L = livesL (l.take k) ∧ wr.ownsRow w.heap.size 25 2 v L.length (pcs L) ∧ Below w.heap.size w wr) (fun _ i _ => l.length - (intOf i).toNat)
  case atStart => exact ⟨0, [], Nat.zero_le _, rfl, rfl, World.ownsRow_nil _ _ _ _, Below.refl _ _⟩
  case round =>
    obtain ⟨k, L, hk, rfl, hL, hown, hbw⟩ := hrel
    have hLl : L.length ≤ k := by rw [hL, livesL, List.length_map, List.length_take]; omega
    have HL := hide hL
    have HO := hide hown
    have hsz := hbw.size
    clear hL hown
    by_cases hlt : k < l.length
    · obtain ⟨b1, off, x, rfl, hb, hp, hx⟩ := (Reads.below HS.out hbw).atC hlt
      obtain ⟨g0, g1, g2, g3, g4, g5⟩ := hx
      have HST := hide (show livesL (l.take (k + 1)) = L ++ [(x.n, x.i)] by rw [take_succ_of hp, livesL, List.map_append, HL.out]; rfl)
      clear hp
      go_wp2_with (at_builtin; go_must (refine wpList_append_any _ Tryz.okP (by rfl) (.tmp 12) (.tmp 15) (by rfl) w.heap.size _ _ (pcs L) (by rfl) ((HO.out.alloc _).alloc _) (wr.heap.size + 1 + 1) (some ⟨wr.heap.size + 1, 0, none⟩) 1 1 (pcs [(x.n, x.i)]) (by rfl) (reads_oneP _ x.n x.i (wr.heap.size + 1) (by simp)) (pc_one _) (by unfold maxLen; omega) (by omega) (by simp; omega) ?_); intro v1 w4 hown1 hg1 hnil1 hat1)
      go_roundw
      case rel =>
        refine ⟨k + 1, L ++ [(x.n, x.i)], by omega, by go_num, HST.out.symm, ?_, ?_⟩
        · rw [List.length_append, pcs_app]; exact hown1
        · exact ((hbw.alloc hsz _).alloc (by simp; omega) _).grown hg1 (by simp; omega) (fun g hg => (HO.out.lt g hg).1)
      case measure => simp [intOf]; omega
    · have H := hide (show livesL l = L by rw [HL.out, List.take_of_length_le (by omega)])
      have hown := HO.out
      obtain ⟨A2, c2, rfl, _, _⟩ := own_slice hown
      go_wp2
      go_ret
      rw [H.out]
      exact ⟨A2, c2, rfl, hown, hbw⟩

end Go.Proofs.YtfddiklhjkjipaaGreat
