/-
  Contracts: registry.look, registry.Lives.
-/
import Derived.Test.YtkglclekieckoaaGreatWho
import Derived.Test.YtkglclekieckoaaGreatBase
namespace Go.Proofs.YtkglclekieckoaaGreat
set_option linter.unusedSimpArgs false
set_option linter.unusedVariables false
set_option linter.unusedSectionVars false
open Go.RowKit Go.Sort Go.Lib

def noC : Cl := ⟨0, 0, 0, 0, 0, false⟩
abbrev vK (x : Cl) (k : Int) : Value := .agg #[.int .i64 x.n, .int .u64 x.i, .int .u64 x.cid, .int .u64 x.rnd, .int .u64 x.heard, .bool x.gone, .int .i64 k]
/-- where the client of a node lies first -/
inductive Found (l : List Cl) (a : Int) : Option (Nat × Cl) → Prop
  | yes (k : Nat) (x : Cl) (h : l[k]? = some x) (hn : x.n = a) (hf : ∀ y ∈ l.take k, y.n ≠ a) : Found l a (some (k, x))
  | no (hf : ∀ y ∈ l, y.n ≠ a) : Found l a none
def kV : Option (Nat × Cl) → Value
  | some (k, x) => .tuple #[vK x k, .bool true]
  | none => .tuple #[vK noC 0, .bool false]
def RetK (w : World) (l : List Cl) (a : Int) (e : Ending) (w' : World) : Prop := ∃ f, Found l a f ∧ e = .returned (kV f) ∧ Below w.heap.size w w'
set_option maxHeartbeats 2000000 in
theorem regLives_s (A : Option Addr) (c : Nat) (l : List Cl) (w : World) (h : Cll w A l) (hn : l.length ≤ 1000000) :
    Calls Tryz.prog 76 #[.agg #[.slice A l.length c]] w (RetP w (livesL ((takenR l).filter (fun x => !x.gone)))) := by
  have h1 : Cll (w.alloc (bxR A l.length c)) A l := h.step (below_alloc _ _)
  have hB : Below w.heap.size w (w.alloc (bxR A l.length c)) := below_alloc _ _
  clear h
  have T := hide (taken_s A c l _ h1 hn)
  have hml := takenR_len l
  generalize takenR l = m at T hml ⊢
  obtain ⟨L, hL⟩ : ∃ L, L = m.filter (fun x => !x.gone) := ⟨_, rfl⟩
  have hl2 : L.length ≤ m.length := by rw [hL]; exact List.length_filter_le _ _
  rw [← hL]
  have HL := hide hL
  clear hL
  go_enter Tryz.func76, Tryz.ntmps76
  go_wp2_with fail
  with_reducible refine T.out.mono ?_
  rintro e w1 ⟨v, rfl, hown, hb⟩
  obtain ⟨RA, RC, rfl, hrc, _⟩ := own_slice hown
  replace hB := below_step hB hb
  have hc : Cll w1 RA m := Reads.of_own hown
  clear hb hown h1
  go_wp2_with fail
  with_reducible refine (who_there RA RC m (fun x => !x.gone) w1 hc (by omega) (fun x W _ => there_b x W)).mono ?_
  rw [← HL.out]
  rintro e w2 ⟨A2, c2, rfl, hown2, hb⟩
  replace hB := below_step hB hb
  have hc2 : Cll w2 A2 L := Reads.of_own hown2
  clear hb hown2 hc
  go_wp2_with fail
  with_reducible refine (lives7_s A2 c2 L w2 hc2 (by omega)).mono ?_
  rintro e w3 ⟨A3, c3, rfl, hown3, hb⟩
  go_wp2
  go_ret
  exact ⟨A3, c3, rfl, own_base hown3 hB.size, below_step hB hb⟩

end Go.Proofs.YtkglclekieckoaaGreat

namespace Go.Proofs.YtkglclekieckoaaGreat
set_option linter.unusedSimpArgs false
set_option linter.unusedVariables false
set_option linter.unusedSectionVars false
open Go.RowKit Go.Sort Go.Lib

theorem froz_old {w : World} {o : Obj} {p : Addr} (h : p.block < w.heap.size) (hf : w.frozen? p = false) : (w.alloc o).frozen? p = false := ((below_alloc w o).frozen h).trans hf
theorem froz_top (w : World) (cs : Array Value) (t : TypeId) (n j : Nat) (hn : n = w.heap.size) : (w.alloc (.cells cs t)).frozen? ⟨n, j, none⟩ = false := by subst hn; simp
def RetD (w : World) (l : List Cl) (b : Bool) (e : Ending) (w' : World) : Prop :=
  ∃ v, e = .returned (.tuple #[.agg #[v], .bool b]) ∧ OwnC w' w.heap.size v l ∧ Below w.heap.size w w'
abbrev bxI (a : Int) : Obj := .cells #[.int .i64 a] 3
/-- the client of a node that is there -/
def findR (l : List Cl) (a : Int) : Option Cl := l.find? fun x => x.n == a && !x.gone
def fV : Option Cl → Value
  | some x => .tuple #[.agg #[.int .i64 x.n, .int .u64 x.i, .int .u64 x.cid, .int .u64 x.rnd, .int .u64 x.heard, .bool x.gone], .bool true]
  | none => .tuple #[.agg #[.int .i64 0, .int .u64 0, .int .u64 0, .int .u64 0, .int .u64 0, .bool false], .bool false]
/-- of the clients of one node there is one at most -/
def oneEach (l : List Cl) : Prop := l.Pairwise fun x y => x.n ≠ y.n
theorem find_yes {l : List Cl} {a : Int} {k : Nat} {x : Cl} (h : l[k]? = some x) (hn : x.n = a) (hg : x.gone = false) (hf : ∀ y ∈ l.take k, y.n ≠ a) : findR l a = some x := by
  unfold findR
  rw [List.find?_eq_some_iff_getElem]
  obtain ⟨hk, rfl⟩ := List.getElem?_eq_some_iff.1 h
  refine ⟨by simp [hn, hg], k, hk, rfl, fun j hj => ?_⟩
  have := hf l[j] (by rw [List.mem_take_iff_getElem]; exact ⟨j, by omega, rfl⟩)
  simp [this]
theorem find_gone {l : List Cl} (ho : oneEach l) {a : Int} {k : Nat} {x : Cl} (h : l[k]? = some x) (hn : x.n = a) (hg : x.gone = true) : findR l a = none := by
  unfold findR
  rw [List.find?_eq_none]
  intro y hy
  obtain ⟨hk, rfl⟩ := List.getElem?_eq_some_iff.1 h
  obtain ⟨j, hj, rfl⟩ := List.getElem_of_mem hy
  by_cases e : j = k
  · subst e; simp [hg]
  · have : l[j].n ≠ a := by
      rcases Nat.lt_or_gt_of_ne e with hlt | hlt
      · rw [← hn]; exact List.pairwise_iff_getElem.1 ho j k hj hk hlt
      · rw [← hn]; exact fun e => List.pairwise_iff_getElem.1 ho k j hk hj hlt e.symm
    simp [this]
theorem find_no {l : List Cl} {a : Int} (hf : ∀ y ∈ l, y.n ≠ a) : findR l a = none := by
  unfold findR
  rw [List.find?_eq_none]
  intro y hy
  simp [hf y hy]
theorem mayR_each {l : List Cl} (h : mayR l = true) : oneEach l := by
  have h2 : ∀ k, k < l.length → okR l k = true := by
    unfold mayR at h
    rw [Bool.and_eq_true, List.all_eq_true] at h
    intro k hk; exact h.1 k (List.mem_range.2 hk)
  have h3 : ∀ k, k + 1 < l.length → (l.getD k default).n < (l.getD (k + 1) default).n := by
    intro k hk
    have := h2 (k + 1) hk
    unfold okR at this
    rw [Bool.and_eq_true, Bool.or_eq_true] at this
    rcases this.2 with h | h
    · simp at h
    · simpa using h
  have h4 : ∀ j k, j < k → k < l.length → (l.getD j default).n < (l.getD k default).n := by
    intro j k
    induction k with
    | zero => intro h; omega
    | succ k ih =>
      intro hj hk
      have := h3 k hk
      rcases Nat.lt_or_eq_of_le (Nat.lt_succ_iff.1 hj) with h | h
      · have := ih h (by omega); omega
      · subst h; exact this
  refine List.pairwise_iff_getElem.2 fun j k hj hk hlt => ?_
  have := h4 j k hlt hk
  simp [List.getD, hj, hk] at this
  omega
theorem taken_each (l : List Cl) : oneEach (takenR l) := by
  unfold takenR
  split
  · exact mayR_each ‹_›
  · exact List.Pairwise.nil
def RetF (w : World) (f : Option Cl) (e : Ending) (w' : World) : Prop := e = .returned (fV f) ∧ Below w.heap.size w w'
end Go.Proofs.YtkglclekieckoaaGreat
