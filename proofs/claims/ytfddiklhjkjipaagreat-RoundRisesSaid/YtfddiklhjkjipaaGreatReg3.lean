/-
  Contracts: registry.look, registry.Lives.
-/
import Derived.Test.YtfddiklhjkjipaaGreatWho
namespace Go.Proofs.YtfddiklhjkjipaaGreat
set_option linter.unusedSimpArgs false
set_option linter.unusedVariables false
set_option linter.unusedSectionVars false
open Go.RowKit Go.Sort Go.Lib

abbrev bxK (x : Cl) (k : Int) : Obj := .cells #[.int .i64 x.n, .int .u64 x.i, .int .u64 x.cid, .int .u64 x.rnd, .int .u64 x.heard, .bool x.gone, .int .i64 k] 226
def noC : Cl := ⟨0, 0, 0, 0, 0, false⟩
abbrev vK (x : Cl) (k : Int) : Value := .agg #[.int .i64 x.n, .int .u64 x.i, .int .u64 x.cid, .int .u64 x.rnd, .int .u64 x.heard, .bool x.gone, .int .i64 k]
/-- where the client of a node lies first -/
inductive Found (l : List Cl) (a : Int) : Option (Nat × Cl) → Prop
  | yes (k : Nat) (x : Cl) (h : l[k]? = some x) (hn : x.n = a) (hf : ∀ y ∈ l.take k, y.n ≠ a) : Found l a (some (k, x))
  | no (hf : ∀ y ∈ l, y.n ≠ a) : Found l a none
def kV : Option (Nat × Cl) → Value
  | some (k, x) => .tuple #[vK x k, .bool true]
  | none => .tuple #[vK noC 0, .bool false]
def RetK (w : World) (l : List Cl) (a : Int) (e : Ending) (w' : World) : Prop := ∃ f, Found l a f ∧ e = .returned (kV f) ∧ Below w.heap.size w w'
set_option maxHeartbeats 2000000 in
theorem look_s (A : Option Addr) (c : Nat) (l : List Cl) (a : Int) (w : World) (h : Cll w A l) (hn : l.length ≤ 1000000) :
    Calls Tryz.prog 169 #[.agg #[.slice A l.length c], .int .i64 a] w (RetK w l a) := by
  have h1 : Cll ((w.alloc (bxR A l.length c)).alloc (bxK noC 0)) A l := (h.step (below_alloc _ _)).step (below_alloc _ _)
  have hB : Below w.heap.size w ((w.alloc (bxR A l.length c)).alloc (bxK noC 0)) := below_step (below_alloc _ _) (below_alloc _ _)
  have HS := hide h1
  clear h h1
  go_enter Tryz.func169, Tryz.ntmps169
  go_wp2
  go_loopw [11] (fun i wr => ∃ k : Nat, k ≤ l.length ∧ i = .int .i64 k ∧ (∀ y ∈ l.take k, y.n ≠ a) ∧ Below (w.heap.size + 2) ((w.alloc (bxR A l.length c)).alloc (bxK noC 0)) wr) (fun i _ => l.length - (intOf i).toNat)
  case atStart => exact ⟨0, Nat.zero_le _, rfl, by simp, Below.refl _ _⟩
  case round =>
    obtain ⟨k, hk, rfl, hf, hbw⟩ := hrel
    have HN := hide hf
    clear hf
    have hsz := hbw.size
    simp at hsz
    have hbW : Below w.heap.size w wr := hB.trans (hbw.mono (by omega))
    have key : ∀ j v, ((w.alloc (bxR A l.length c)).alloc (bxK noC 0)).cell? ⟨w.heap.size + 1, j, none⟩ = some v → wr.cell? ⟨w.heap.size + 1, j, none⟩ = some v := fun j v hv => (hbw.cell (p := ⟨w.heap.size + 1, j, none⟩) (by simp)).trans hv
    have q0 := key 0 _ (by simp; rfl)
    have q1 := key 1 _ (by simp; rfl)
    have q2 := key 2 _ (by simp; rfl)
    have q3 := key 3 _ (by simp; rfl)
    have q4 := key 4 _ (by simp; rfl)
    have q5 := key 5 _ (by simp; rfl)
    have q6 := key 6 _ (by simp; rfl)
    have qf : ∀ j, wr.frozen? ⟨w.heap.size + 1, j, none⟩ = false := fun j => (hbw.frozen (p := ⟨w.heap.size + 1, j, none⟩) (by simp)).trans (by simp)
    clear key
    by_cases hlt : k < l.length
    · have hRw : Reads wr wr.heap.size 6 A l.length (ccs l) := (Reads.below HS.out (hbw.mono (by simp))).more (by simp; omega)
      obtain ⟨b, off, x, rfl, hb, hp, hx⟩ := hRw.atC hlt
      obtain ⟨xn, xi, xc, xr, xh, xg⟩ := x
      obtain ⟨g0, g1, g2, g3, g4, g5⟩ := hx
      simp only at g0 g1 g2 g3 g4 g5
      have HP := hide hp
      clear hp hRw
      by_cases ha : xn = a
      · subst ha
        have hz : w.heap.size + 1 < wr.heap.size := by omega
        have hq0 : (wr.alloc (.cells #[.int .i64 xn, .int .u64 xi, .int .u64 xc, .int .u64 xr, .int .u64 xh, .bool xg] 48)).cell? ⟨w.heap.size + 1, 0, none⟩ = _ := cell_old (p := ⟨w.heap.size + 1, 0, none⟩) hz q0
        have hq1 : (wr.alloc (.cells #[.int .i64 xn, .int .u64 xi, .int .u64 xc, .int .u64 xr, .int .u64 xh, .bool xg] 48)).cell? ⟨w.heap.size + 1, 1, none⟩ = _ := cell_old (p := ⟨w.heap.size + 1, 1, none⟩) hz q1
        have hq2 : (wr.alloc (.cells #[.int .i64 xn, .int .u64 xi, .int .u64 xc, .int .u64 xr, .int .u64 xh, .bool xg] 48)).cell? ⟨w.heap.size + 1, 2, none⟩ = _ := cell_old (p := ⟨w.heap.size + 1, 2, none⟩) hz q2
        have hq3 : (wr.alloc (.cells #[.int .i64 xn, .int .u64 xi, .int .u64 xc, .int .u64 xr, .int .u64 xh, .bool xg] 48)).cell? ⟨w.heap.size + 1, 3, none⟩ = _ := cell_old (p := ⟨w.heap.size + 1, 3, none⟩) hz q3
        have hq4 : (wr.alloc (.cells #[.int .i64 xn, .int .u64 xi, .int .u64 xc, .int .u64 xr, .int .u64 xh, .bool xg] 48)).cell? ⟨w.heap.size + 1, 4, none⟩ = _ := cell_old (p := ⟨w.heap.size + 1, 4, none⟩) hz q4
        have hq5 : (wr.alloc (.cells #[.int .i64 xn, .int .u64 xi, .int .u64 xc, .int .u64 xr, .int .u64 xh, .bool xg] 48)).cell? ⟨w.heap.size + 1, 5, none⟩ = _ := cell_old (p := ⟨w.heap.size + 1, 5, none⟩) hz q5
        have hq6 : (wr.alloc (.cells #[.int .i64 xn, .int .u64 xi, .int .u64 xc, .int .u64 xr, .int .u64 xh, .bool xg] 48)).cell? ⟨w.heap.size + 1, 6, none⟩ = _ := cell_old (p := ⟨w.heap.size + 1, 6, none⟩) hz q6
        have qf0 := qf 0
        have hf0 : (wr.alloc (.cells #[.int .i64 xn, .int .u64 xi, .int .u64 xc, .int .u64 xr, .int .u64 xh, .bool xg] 48)).frozen? ⟨w.heap.size + 1, 0, none⟩ = false := ((below_alloc wr _).frozen (p := ⟨w.heap.size + 1, 0, none⟩) hz).trans (qf 0)
        have qf1 := qf 1
        have hf1 : (wr.alloc (.cells #[.int .i64 xn, .int .u64 xi, .int .u64 xc, .int .u64 xr, .int .u64 xh, .bool xg] 48)).frozen? ⟨w.heap.size + 1, 1, none⟩ = false := ((below_alloc wr _).frozen (p := ⟨w.heap.size + 1, 1, none⟩) hz).trans (qf 1)
        have qf2 := qf 2
        have hf2 : (wr.alloc (.cells #[.int .i64 xn, .int .u64 xi, .int .u64 xc, .int .u64 xr, .int .u64 xh, .bool xg] 48)).frozen? ⟨w.heap.size + 1, 2, none⟩ = false := ((below_alloc wr _).frozen (p := ⟨w.heap.size + 1, 2, none⟩) hz).trans (qf 2)
        have qf3 := qf 3
        have hf3 : (wr.alloc (.cells #[.int .i64 xn, .int .u64 xi, .int .u64 xc, .int .u64 xr, .int .u64 xh, .bool xg] 48)).frozen? ⟨w.heap.size + 1, 3, none⟩ = false := ((below_alloc wr _).frozen (p := ⟨w.heap.size + 1, 3, none⟩) hz).trans (qf 3)
        have qf4 := qf 4
        have hf4 : (wr.alloc (.cells #[.int .i64 xn, .int .u64 xi, .int .u64 xc, .int .u64 xr, .int .u64 xh, .bool xg] 48)).frozen? ⟨w.heap.size + 1, 4, none⟩ = false := ((below_alloc wr _).frozen (p := ⟨w.heap.size + 1, 4, none⟩) hz).trans (qf 4)
        have qf5 := qf 5
        have hf5 : (wr.alloc (.cells #[.int .i64 xn, .int .u64 xi, .int .u64 xc, .int .u64 xr, .int .u64 xh, .bool xg] 48)).frozen? ⟨w.heap.size + 1, 5, none⟩ = false := ((below_alloc wr _).frozen (p := ⟨w.heap.size + 1, 5, none⟩) hz).trans (qf 5)
        have qf6 := qf 6
        have hf6 : (wr.alloc (.cells #[.int .i64 xn, .int .u64 xi, .int .u64 xc, .int .u64 xr, .int .u64 xh, .bool xg] 48)).frozen? ⟨w.heap.size + 1, 6, none⟩ = false := ((below_alloc wr _).frozen (p := ⟨w.heap.size + 1, 6, none⟩) hz).trans (qf 6)
        clear qf
        go_wp2
        refine bodyPost_ret (v := kV (some (k, ⟨xn, xi, xc, xr, xh, xg⟩))) (by simp [results, Tryz.results169, go_sem, kV, hz, q0, q1, q2, q3, q4, q5, q6]) rfl ?_
        refine ⟨_, .yes k _ HP.out rfl HN.out, rfl, ?_⟩
        exact (((((((hbW.setCell (by simp) _).setCell (by simp) _).setCell (by simp) _).setCell (by simp) _).setCell (by simp) _).setCell (by simp) _).setCell (by simp) _).alloc (by simp; omega) _
      · have ha' : (xn == a) = false := by simpa using ha
        go_wp2
        go_roundw
        case rel =>
          refine ⟨k + 1, by omega, by go_num, ?_, hbw.alloc (by omega) _⟩
          intro y hy
          rw [take_succ_of HP.out, List.mem_append] at hy
          rcases hy with hy | hy
          · exact HN.out y hy
          · simp at hy; subst hy; exact ha
        case measure => simp [intOf]; omega
    · have qf0 := qf 0
      have qf1 := qf 1
      have qf2 := qf 2
      have qf3 := qf 3
      have qf4 := qf 4
      have qf5 := qf 5
      have qf6 := qf 6
      clear qf
      have hno := hide (show Found l a none from .no (by have := HN.out; rwa [List.take_of_length_le (by omega)] at this))
      go_wp2
      refine bodyPost_ret (v := kV none) (by simp [results, Tryz.results169, go_sem, kV, vK, noC, q0, q1, q2, q3, q4, q5, q6]) rfl ?_
      refine ⟨_, hno.out, rfl, ?_⟩
      exact (((((((hbW.setCell (by simp) _).setCell (by simp) _).setCell (by simp) _).setCell (by simp) _).setCell (by simp) _).setCell (by simp) _).setCell (by simp) _)

set_option maxHeartbeats 2000000 in
theorem regLives_s (A : Option Addr) (c : Nat) (l : List Cl) (w : World) (h : Cll w A l) (hn : l.length ≤ 1000000) :
    Calls Tryz.prog 90 #[.agg #[.slice A l.length c]] w (RetP w (livesL ((takenR l).filter (fun x => !x.gone)))) := by
  have h1 : Cll (w.alloc (bxR A l.length c)) A l := h.step (below_alloc _ _)
  have hB : Below w.heap.size w (w.alloc (bxR A l.length c)) := below_alloc _ _
  clear h
  have T := hide (taken_s A c l _ h1 hn)
  have hml := takenR_len l
  generalize takenR l = m at T hml ⊢
  obtain ⟨L, hL⟩ : ∃ L, L = m.filter (fun x => !x.gone) := ⟨_, rfl⟩
  have hl2 : L.length ≤ m.length := by rw [hL]; exact List.length_filter_le _ _
  rw [← hL]
  have HL := hide hL
  clear hL
  go_enter Tryz.func90, Tryz.ntmps90
  go_wp2_with fail
  with_reducible refine T.out.mono ?_
  rintro e w1 ⟨v, rfl, hown, hb⟩
  obtain ⟨RA, RC, rfl, hrc, _⟩ := own_slice hown
  replace hB := below_step hB hb
  have hc : Cll w1 RA m := Reads.of_own hown
  clear hb hown h1
  go_wp2_with fail
  with_reducible refine (who_there RA RC m (fun x => !x.gone) w1 hc (by omega) (fun x W _ => there_b x W)).mono ?_
  rw [← HL.out]
  rintro e w2 ⟨A2, c2, rfl, hown2, hb⟩
  replace hB := below_step hB hb
  have hc2 : Cll w2 A2 L := Reads.of_own hown2
  clear hb hown2 hc
  go_wp2_with fail
  with_reducible refine (lives7_s A2 c2 L w2 hc2 (by omega)).mono ?_
  rintro e w3 ⟨A3, c3, rfl, hown3, hb⟩
  go_wp2
  go_ret
  exact ⟨A3, c3, rfl, own_base hown3 hB.size, below_step hB hb⟩

end Go.Proofs.YtfddiklhjkjipaaGreat
