/-
  Contracts: registry.who at each closure that is handed to it.
-/
import Derived.Test.YtkglclekieckoaaGreatGone
namespace Go.Proofs.YtkglclekieckoaaGreat
set_option linter.unusedSimpArgs false
set_option linter.unusedVariables false
set_option linter.unusedSectionVars false
open Go.RowKit Go.Sort Go.Lib

def raiB (x : Cl) : Bool := !x.gone && (x.cid == 18446744073709551615)
set_option maxRecDepth 100000 in
set_option maxHeartbeats 400000 in
theorem raise1_b (x : Cl) (w : World) :
    Calls Tryz.prog 99 #[.agg #[.int .i64 x.n, .int .u64 x.i, .int .u64 x.cid, .int .u64 x.rnd, .int .u64 x.heard, .bool x.gone]] w (RetB7 w (raiB x)) := by
  obtain ⟨xn, xi, xc, xr, xh, xg⟩ := x
  cases xg
  · have H := hide (show raiB ⟨xn, xi, xc, xr, xh, false⟩ = (xc == 18446744073709551615) by simp [raiB])
    go_enter Tryz.func99, Tryz.ntmps99
    go_wp2
    go_ret
    exact ⟨ret_b (by rw [H.out]), below_alloc _ _⟩
  · have H := hide (show raiB ⟨xn, xi, xc, xr, xh, true⟩ = false by simp [raiB])
    go_enter Tryz.func99, Tryz.ntmps99
    go_wp2
    go_ret
    exact ⟨ret_b H.out.symm, below_alloc _ _⟩
def RetW (w : World) (l : List Cl) (e : Ending) (w' : World) : Prop :=
  ∃ A c, e = .returned (.slice A l.length c) ∧ OwnC w' w.heap.size (.slice A l.length c) l ∧ Below w.heap.size w w'

set_option maxRecDepth 100000 in
set_option maxHeartbeats 4000000 in
theorem who_there (A : Option Addr) (c : Nat) (l : List Cl) (st : Cl → Bool) (w : World) (h : Cll w A l) (hn : l.length ≤ 1000000)
    (hF : ∀ (x : Cl) (W : World), Below w.heap.size w W → Calls Tryz.prog 69 #[.agg #[.int .i64 x.n, .int .u64 x.i, .int .u64 x.cid, .int .u64 x.rnd, .int .u64 x.heard, .bool x.gone]] W (RetB7 W (st x))) :
    Calls Tryz.prog 67 #[.agg #[.slice A l.length c], .func (.func 69) #[] #[]] w (RetW w (l.filter st)) := by
  have HS := hide h
  have HF := hide hF
  clear h hF
  go_enter Tryz.func67, Tryz.ntmps67
  go_wp2
  go_loopw [5, 11] (fun v i wr => ∃ (k : Nat) (L : List Cl), k ≤ l.length ∧ i = .int .i64 k ∧ L = (l.take k).filter st ∧ OwnC wr w.heap.size v L ∧ Below w.heap.size w wr) (fun _ i _ => l.length - (intOf i).toNat)
  case atStart => exact ⟨0, [], Nat.zero_le _, rfl, rfl, World.ownsRow_nil _ _ _ _, below_alloc _ _⟩
  case round =>
    obtain ⟨k, L, hk, rfl, hL, hown, hbw⟩ := hrel
    have hLl : L.length ≤ k := by
      rw [hL]
      have h1 := List.length_filter_le st (l.take k)
      rw [List.length_take] at h1; omega
    have HL := hide hL
    have HO := hide hown
    have hsz := hbw.size
    clear hL hown
    by_cases hlt : k < l.length
    · obtain ⟨b1, off, x, rfl, hb, hp, hx⟩ := (Reads.below HS.out hbw).atC hlt
      obtain ⟨xn, xi, xc, xr, xh, xg⟩ := x
      obtain ⟨g0, g1, g2, g3, g4, g5⟩ := hx
      simp only at g0 g1 g2 g3 g4 g5
      have HST := hide (show (l.take (k + 1)).filter st = L ++ (if st ⟨xn, xi, xc, xr, xh, xg⟩ = true then [⟨xn, xi, xc, xr, xh, xg⟩] else []) by
        rw [take_succ_of hp, List.filter_append, HL.out]
        by_cases hq : st ⟨xn, xi, xc, xr, xh, xg⟩ = true <;> simp [hq])
      clear hp
      go_wp2_with fail
      with_reducible refine (HF.out ⟨xn, xi, xc, xr, xh, xg⟩ _ (hbw.alloc (by omega) _)).mono ?_
      rintro e w3 ⟨rfl, hb3⟩
      have k0 := (hb3.cell (p := ⟨wr.heap.size, 0, none⟩) (by simp)).trans (show (wr.alloc (bxC ⟨xn, xi, xc, xr, xh, xg⟩)).cell? _ = some (.int .i64 xn) by simp)
      have k1 := (hb3.cell (p := ⟨wr.heap.size, 1, none⟩) (by simp)).trans (show (wr.alloc (bxC ⟨xn, xi, xc, xr, xh, xg⟩)).cell? _ = some (.int .u64 xi) by simp)
      have k2 := (hb3.cell (p := ⟨wr.heap.size, 2, none⟩) (by simp)).trans (show (wr.alloc (bxC ⟨xn, xi, xc, xr, xh, xg⟩)).cell? _ = some (.int .u64 xc) by simp)
      have k3 := (hb3.cell (p := ⟨wr.heap.size, 3, none⟩) (by simp)).trans (show (wr.alloc (bxC ⟨xn, xi, xc, xr, xh, xg⟩)).cell? _ = some (.int .u64 xr) by simp)
      have k4 := (hb3.cell (p := ⟨wr.heap.size, 4, none⟩) (by simp)).trans (show (wr.alloc (bxC ⟨xn, xi, xc, xr, xh, xg⟩)).cell? _ = some (.int .u64 xh) by simp)
      have k5 := (hb3.cell (p := ⟨wr.heap.size, 5, none⟩) (by simp)).trans (show (wr.alloc (bxC ⟨xn, xi, xc, xr, xh, xg⟩)).cell? _ = some (.bool xg) by simp)
      have hbz3 : Below wr.heap.size wr w3 := (below_alloc _ _).trans (hb3.mono (by simp))
      have hs3 := hbz3.size
      have HO3 := hide (own_below HO.out hbz3 (Nat.le_refl _))
      have hbw3 := below_step hbw hbz3
      clear hb3 g0 g1 g2 g3 g4 g5
      cases hst : st ⟨xn, xi, xc, xr, xh, xg⟩
      · have HE := hide hst
        go_wp2
        go_roundw
        case rel => exact ⟨k + 1, L, by omega, by go_num, by rw [HST.out, HE.out]; simp, HO3.out, hbw3⟩
        case measure => simp [intOf]; omega
      · have HE := hide hst
        go_wp2_with (at_builtin; go_must (refine wpList_append_any _ Tryz.okC (by rfl) (.tmp 18) (.tmp 20) (by rfl) w.heap.size _ _ (ccs L) (by rfl) (HO3.out.alloc _) (w3.heap.size + 1) (some ⟨w3.heap.size, 0, none⟩) 1 1 (ccs [⟨xn, xi, xc, xr, xh, xg⟩]) (by rfl) (reads_oneC w3 ⟨xn, xi, xc, xr, xh, xg⟩ _ rfl) (cc_one _) (by unfold maxLen; omega) (by omega) (by simp; omega) ?_); intro v1 w4 hown1 hg1 hnil1 hat1)
        go_roundw
        case rel =>
          refine ⟨k + 1, L ++ [⟨xn, xi, xc, xr, xh, xg⟩], by omega, by go_num, by rw [HST.out, HE.out]; simp, ?_, ?_⟩
          · rw [OwnC, List.length_append, ccs_app]; exact hown1
          · exact (hbw3.alloc (by omega) _).grown hg1 (by simp; omega) (fun g hg => (HO3.out.lt g hg).1)
        case measure => simp [intOf]; omega
    · have H := hide (show l.filter st = L by rw [HL.out, List.take_of_length_le (by omega)])
      have hown := HO.out
      obtain ⟨A2, c2, rfl, _, _⟩ := own_slice hown
      go_wp2
      go_ret
      rw [H.out]
      exact ⟨A2, c2, rfl, hown, hbw⟩

set_option maxRecDepth 100000 in
set_option maxHeartbeats 4000000 in
theorem who_raise (A : Option Addr) (c : Nat) (l : List Cl) (st : Cl → Bool) (w : World) (h : Cll w A l) (hn : l.length ≤ 1000000)
    (hF : ∀ (x : Cl) (W : World), Below w.heap.size w W → Calls Tryz.prog 99 #[.agg #[.int .i64 x.n, .int .u64 x.i, .int .u64 x.cid, .int .u64 x.rnd, .int .u64 x.heard, .bool x.gone]] W (RetB7 W (st x))) :
    Calls Tryz.prog 67 #[.agg #[.slice A l.length c], .func (.func 99) #[] #[]] w (RetW w (l.filter st)) := by
  have HS := hide h
  have HF := hide hF
  clear h hF
  go_enter Tryz.func67, Tryz.ntmps67
  go_wp2
  go_loopw [5, 11] (fun v i wr => ∃ (k : Nat) (L : List Cl), k ≤ l.length ∧ i = .int .i64 k ∧ L = (l.take k).filter st ∧ OwnC wr w.heap.size v L ∧ Below w.heap.size w wr) (fun _ i _ => l.length - (intOf i).toNat)
  case atStart => exact ⟨0, [], Nat.zero_le _, rfl, rfl, World.ownsRow_nil _ _ _ _, below_alloc _ _⟩
  case round =>
    obtain ⟨k, L, hk, rfl, hL, hown, hbw⟩ := hrel
    have hLl : L.length ≤ k := by
      rw [hL]
      have h1 := List.length_filter_le st (l.take k)
      rw [List.length_take] at h1; omega
    have HL := hide hL
    have HO := hide hown
    have hsz := hbw.size
    clear hL hown
    by_cases hlt : k < l.length
    · obtain ⟨b1, off, x, rfl, hb, hp, hx⟩ := (Reads.below HS.out hbw).atC hlt
      obtain ⟨xn, xi, xc, xr, xh, xg⟩ := x
      obtain ⟨g0, g1, g2, g3, g4, g5⟩ := hx
      simp only at g0 g1 g2 g3 g4 g5
      have HST := hide (show (l.take (k + 1)).filter st = L ++ (if st ⟨xn, xi, xc, xr, xh, xg⟩ = true then [⟨xn, xi, xc, xr, xh, xg⟩] else []) by
        rw [take_succ_of hp, List.filter_append, HL.out]
        by_cases hq : st ⟨xn, xi, xc, xr, xh, xg⟩ = true <;> simp [hq])
      clear hp
      go_wp2_with fail
      with_reducible refine (HF.out ⟨xn, xi, xc, xr, xh, xg⟩ _ (hbw.alloc (by omega) _)).mono ?_
      rintro e w3 ⟨rfl, hb3⟩
      have k0 := (hb3.cell (p := ⟨wr.heap.size, 0, none⟩) (by simp)).trans (show (wr.alloc (bxC ⟨xn, xi, xc, xr, xh, xg⟩)).cell? _ = some (.int .i64 xn) by simp)
      have k1 := (hb3.cell (p := ⟨wr.heap.size, 1, none⟩) (by simp)).trans (show (wr.alloc (bxC ⟨xn, xi, xc, xr, xh, xg⟩)).cell? _ = some (.int .u64 xi) by simp)
      have k2 := (hb3.cell (p := ⟨wr.heap.size, 2, none⟩) (by simp)).trans (show (wr.alloc (bxC ⟨xn, xi, xc, xr, xh, xg⟩)).cell? _ = some (.int .u64 xc) by simp)
      have k3 := (hb3.cell (p := ⟨wr.heap.size, 3, none⟩) (by simp)).trans (show (wr.alloc (bxC ⟨xn, xi, xc, xr, xh, xg⟩)).cell? _ = some (.int .u64 xr) by simp)
      have k4 := (hb3.cell (p := ⟨wr.heap.size, 4, none⟩) (by simp)).trans (show (wr.alloc (bxC ⟨xn, xi, xc, xr, xh, xg⟩)).cell? _ = some (.int .u64 xh) by simp)
      have k5 := (hb3.cell (p := ⟨wr.heap.size, 5, none⟩) (by simp)).trans (show (wr.alloc (bxC ⟨xn, xi, xc, xr, xh, xg⟩)).cell? _ = some (.bool xg) by simp)
      have hbz3 : Below wr.heap.size wr w3 := (below_alloc _ _).trans (hb3.mono (by simp))
      have hs3 := hbz3.size
      have HO3 := hide (own_below HO.out hbz3 (Nat.le_refl _))
      have hbw3 := below_step hbw hbz3
      clear hb3 g0 g1 g2 g3 g4 g5
      cases hst : st ⟨xn, xi, xc, xr, xh, xg⟩
      · have HE := hide hst
        go_wp2
        go_roundw
        case rel => exact ⟨k + 1, L, by omega, by go_num, by rw [HST.out, HE.out]; simp, HO3.out, hbw3⟩
        case measure => simp [intOf]; omega
      · have HE := hide hst
        go_wp2_with (at_builtin; go_must (refine wpList_append_any _ Tryz.okC (by rfl) (.tmp 18) (.tmp 20) (by rfl) w.heap.size _ _ (ccs L) (by rfl) (HO3.out.alloc _) (w3.heap.size + 1) (some ⟨w3.heap.size, 0, none⟩) 1 1 (ccs [⟨xn, xi, xc, xr, xh, xg⟩]) (by rfl) (reads_oneC w3 ⟨xn, xi, xc, xr, xh, xg⟩ _ rfl) (cc_one _) (by unfold maxLen; omega) (by omega) (by simp; omega) ?_); intro v1 w4 hown1 hg1 hnil1 hat1)
        go_roundw
        case rel =>
          refine ⟨k + 1, L ++ [⟨xn, xi, xc, xr, xh, xg⟩], by omega, by go_num, by rw [HST.out, HE.out]; simp, ?_, ?_⟩
          · rw [OwnC, List.length_append, ccs_app]; exact hown1
          · exact (hbw3.alloc (by omega) _).grown hg1 (by simp; omega) (fun g hg => (HO3.out.lt g hg).1)
        case measure => simp [intOf]; omega
    · have H := hide (show l.filter st = L by rw [HL.out, List.take_of_length_le (by omega)])
      have hown := HO.out
      obtain ⟨A2, c2, rfl, _, _⟩ := own_slice hown
      go_wp2
      go_ret
      rw [H.out]
      exact ⟨A2, c2, rfl, hown, hbw⟩

end Go.Proofs.YtkglclekieckoaaGreat
