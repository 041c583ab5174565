/-
  Rows of lives that a call owns: stores, beginnings, clear, and the library's sort by proc.Compare, as laws on the list that the row holds.
-/
import Derived.Test.YtniogmefbjfoaaaGreatCmp
import Derived.Test.YtniogmefbjfoaaaGreatLay
import Derived.Lib.SlicesCompact
import Derived.Lib.SliceRun
import Derived.Lib.AppendZeros
namespace Go.Proofs.YtniogmefbjfoaaaGreat
set_option linter.unusedSimpArgs false
set_option linter.unusedVariables false
set_option linter.unusedSectionVars false
open Go.RowKit Go.Sort Go.Lib

theorem pcs_get {l : List (Int × Int)} {i : Nat} {p : Int × Int} (h : l[i]? = some p) : (pcs l)[i * 2]? = some (.int .i64 p.1) ∧ (pcs l)[i * 2 + 1]? = some (.int .u64 p.2) := by
  constructor
  · have := flat_get pc_len l i 0 p h (by omega)
    rw [Nat.add_zero] at this
    rw [pcs, this]; rfl
  · rw [pcs, flat_get pc_len l i 1 p h (by omega)]; rfl
theorem pcs_set : ∀ (l : List (Int × Int)) (i : Nat) (a b : Int), ((pcs l).set (i * 2) (.int .i64 a)).set (i * 2 + 1) (.int .u64 b) = pcs (l.set i (a, b)) := by
  intro l
  induction l with
  | nil => intro i a b; simp [pcs]
  | cons x l ih =>
    intro i a b
    cases i with
    | zero => simp [pcs, pc]
    | succ i =>
      have := ih i a b
      rw [List.set_cons_succ]
      show _ = pc x ++ pcs (l.set i (a, b))
      rw [← this]
      show ((Value.int .i64 x.1 :: Value.int .u64 x.2 :: pcs l).set _ _).set _ _ = Value.int .i64 x.1 :: Value.int .u64 x.2 :: _
      rw [show (i + 1) * 2 = i * 2 + 1 + 1 by omega, List.set_cons_succ, List.set_cons_succ, List.set_cons_succ, List.set_cons_succ]
      rfl

section
variable {w : World} {base : Nat} {g n cap : Nat} {l : List (Int × Int)}
abbrev OwnP (w : World) (base : Nat) (v : Value) (l : List (Int × Int)) : Prop := w.ownsRow base 24 2 v l.length (pcs l)
theorem own_len {v : Value} (h : w.ownsRow base 24 2 v n (pcs l)) : n = l.length := by have := h.1; rw [pcs_len] at this; omega
theorem own_at2 (h : w.ownsRow base 24 2 (.slice (some ⟨g, 0, none⟩) n cap) n (pcs l)) {i : Nat} {p : Int × Int} (hp : l[i]? = some p) :
    w.cell? ⟨g, i * 2, none⟩ = some (.int .i64 p.1) ∧ w.cell? ⟨g, i * 2 + 1, none⟩ = some (.int .u64 p.2) := by
  have hl : i < l.length := (List.getElem?_eq_some_iff.1 hp).1
  have hn := own_len h
  obtain ⟨h1, h2⟩ := pcs_get hp
  rw [h.cellAt _ (by omega), h.cellAt _ (by omega)]
  exact ⟨h1, h2⟩
theorem own_set2 (h : w.ownsRow base 24 2 (.slice (some ⟨g, 0, none⟩) n cap) n (pcs l)) (i : Nat) (a b : Int) :
    ((w.setCell ⟨g, i * 2, none⟩ (.int .i64 a)).setCell ⟨g, i * 2 + 1, none⟩ (.int .u64 b)).ownsRow base 24 2 (.slice (some ⟨g, 0, none⟩) n cap) n (pcs (l.set i (a, b))) ∧
    w.grownBy ((w.setCell ⟨g, i * 2, none⟩ (.int .i64 a)).setCell ⟨g, i * 2 + 1, none⟩ (.int .u64 b)) (some g) := by
  obtain ⟨h1, g1⟩ := h.stored (i * 2) (.int .i64 a)
  obtain ⟨h2, g2⟩ := h1.stored (i * 2 + 1) (.int .u64 b)
  rw [pcs_set] at h2
  exact ⟨h2, g1.trans g2⟩
end

/-- the beginning of an owned row -/
theorem own_take {w : World} {base : Nat} {e : TypeId} {k g n cap m : Nat} {xs : List Value} (h : w.ownsRow base e k (.slice (some ⟨g, 0, none⟩) n cap) n xs) (hm : m ≤ n) :
    w.ownsRow base e k (.slice (some ⟨g, 0, none⟩) m cap) m (xs.take (m * k)) := by
  rcases h.2 with ⟨h', _⟩ | ⟨g', cap', cur, h', hb, hg, hnc, hcm, hcs, htake⟩
  · simp at h'
  · simp only [Value.slice.injEq, Option.some.injEq, Addr.mk.injEq, and_true, true_and] at h'
    obtain ⟨rfl, rfl⟩ := h'
    have hmn : m * k ≤ n * k := Nat.mul_le_mul_right k hm
    refine ⟨by rw [List.length_take, h.1]; omega, .inr ⟨g, cap, cur, rfl, hb, hg, by omega, hcm, hcs, ?_⟩⟩
    rw [← htake, List.take_take]; congr 1; omega
/-- cells stored behind the beginning leave it as it was -/
theorem own_setCells {e : TypeId} {k base g n cap : Nat} : ∀ (vs : List Value) (o : Nat) (w : World) (xs : List Value), w.ownsRow base e k (.slice (some ⟨g, 0, none⟩) n cap) n xs → n * k ≤ o →
    (w.setCells g o vs).ownsRow base e k (.slice (some ⟨g, 0, none⟩) n cap) n xs ∧ w.grownBy (w.setCells g o vs) (some g) := by
  intro vs
  induction vs with
  | nil => intro o w xs h _; exact ⟨h, World.grownBy.refl _ _⟩
  | cons v vs ih =>
    intro o w xs h ho
    obtain ⟨h1, g1⟩ := h.stored o v
    rw [List.set_eq_of_length_le (by have := h.1; omega)] at h1
    obtain ⟨h2, g2⟩ := ih (o + 1) _ xs h1 (by omega)
    exact ⟨h2, g1.trans g2⟩
/-- 'clear' on a slice of whatever cells: some cells are stored there -/
theorem run_clear_cells {P : Program} (w : World) (t e ty : TypeId) (z : Value) (ht : P.underlying t = some (.slice e)) (hv : ∀ w, (zeroValue e).run P w = .ok z w) (h1 : ∀ u ∈ z.cells.toList, u.oneCell' = true) (hz : 0 < z.cells.size) (b o n c : Nat)
    (hc : ∀ j, j < n * z.cells.size → (w.cell? ⟨b, o + j, none⟩).isSome = true) (hf : ∀ j, j < n * z.cells.size → w.frozen? ⟨b, o + j, none⟩ = false) :
    (Builtin.clear_ #[t] ty #[.slice (some ⟨b, o, none⟩) n c]).run P w = .ok (.tuple #[]) (w.setCells b o (Builtin.zeroCells z.cells n).toList) := by
  have hs := size_zeroCells z.cells n
  have hone : ∀ v ∈ (Builtin.zeroCells z.cells n).toList, v.oneCell' = true := by
    intro v hv
    simp [Builtin.zeroCells] at hv
    obtain ⟨i, hi, rfl⟩ := hv
    have hlt : i % z.cells.size < z.cells.size := Nat.mod_lt _ hz
    apply h1
    simp [hlt]
  have hst := run_storeCells_cells (P := P) b o (Builtin.zeroCells z.cells n).toList 0 w (by simpa [hs] using hc) (by simpa [hs] using hf) hone
  simp only [Nat.add_zero] at hst
  rcases Nat.eq_zero_or_pos n with h0 | h0
  · subst h0
    have : (Builtin.zeroCells z.cells 0).toList = [] := by simp [Builtin.zeroCells]
    rw [this]
    simp [Builtin.clear_, run_underlying ht, World.setCells]
  · obtain ⟨m, rfl⟩ : ∃ m, n = m + 1 := ⟨n - 1, by omega⟩
    simp [Builtin.clear_, run_underlying ht, hv, hst]

/-! ### the sort -/
end Go.Proofs.YtniogmefbjfoaaaGreat

namespace Go.Proofs.YtniogmefbjfoaaaGreat
set_option linter.unusedSimpArgs false
set_option linter.unusedVariables false
set_option linter.unusedSectionVars false
open Go.RowKit Go.Sort Go.Lib

theorem get!_of {l : List (Int × Int)} {i : Nat} (h : i < l.length) : l[i]? = some (l.toArray[i]!) := by simp [h]
theorem get!_arr {d : Array (Int × Int)} {i : Nat} (h : i < d.size) : d.toList[i]? = some (d[i]!) := by simp [h]
theorem compact_short {l : List (Int × Int)} (h : l.length < 2) : compact l = l := compact_all l fun j hj => keeps_lt_one _ j (by omega)

/-- one life in a new block -/
theorem reads_one (w : World) (a b : Int) : Reads (w.alloc (.cells #[.int .i64 a, .int .u64 b] 24)) (w.heap.size + 1) 2 (some ⟨w.heap.size, 0, none⟩) 1 (pcs [(a, b)]) := by
  have := Reads.of_own (World.ownsRow_lit (base := 0) (e := 24) (size := 2) w #[.int .i64 a, .int .u64 b] 1 (Nat.zero_le _) (by unfold maxLen; omega) rfl)
  simpa [pcs, pc] using this
theorem own_empty (w : World) : (w.alloc (.cells #[] 24)).ownsRow w.heap.size 24 2 (.slice (some ⟨w.heap.size, 0, none⟩) 0 0) 0 [] := World.ownsRow_lit w #[] 0 (Nat.le_refl _) (by unfold maxLen; omega) rfl
theorem compact_len (l : List (Int × Int)) : (compact l).length ≤ l.length := by
  unfold compact compactUpTo
  rw [List.length_map]
  exact Nat.le_trans (List.length_filter_le _ _) (by simp)
end Go.Proofs.YtniogmefbjfoaaaGreat

namespace Go.Proofs.YtniogmefbjfoaaaGreat
set_option linter.unusedSimpArgs false
set_option linter.unusedVariables false
set_option linter.unusedSectionVars false
open Go.Sort Go.Lib

abbrev Pr : Type := Int × Int
def ltP (x y : Pr) : Prop := x.1 < y.1 ∨ x.1 = y.1 ∧ x.2 < y.2
instance (x y : Pr) : Decidable (ltP x y) := by unfold ltP; infer_instance
theorem ltP_irrefl (x : Pr) : ¬ ltP x x := by unfold ltP; omega
theorem ltP_trans {x y z : Pr} (h : ltP x y) (k : ltP y z) : ltP x z := by unfold ltP at *; omega
theorem ltP_asymm {x y : Pr} (h : ltP x y) : ¬ ltP y x := by unfold ltP at *; omega
theorem ltP_tri (x y : Pr) : ltP x y ∨ x = y ∨ ltP y x := by
  obtain ⟨a, b⟩ := x; obtain ⟨c, d⟩ := y
  unfold ltP; simp; omega
theorem cmpP_zero (x y : Pr) : cmpP x y = 0 ↔ x = y := by
  obtain ⟨a, b⟩ := x; obtain ⟨c, d⟩ := y
  unfold cmpP cmpI
  by_cases h1 : a < c <;> by_cases h2 : c < a <;> by_cases h3 : b < d <;> by_cases h4 : d < b <;> simp [h1, h2, h3, h4] <;> omega
theorem cmpP_neg (x y : Pr) : cmpP y x = - cmpP x y := by
  obtain ⟨a, b⟩ := x; obtain ⟨c, d⟩ := y
  unfold cmpP cmpI
  by_cases h1 : a < c <;> by_cases h2 : c < a <;> by_cases h3 : b < d <;> by_cases h4 : d < b <;> simp [h1, h2, h3, h4] <;> omega
theorem cmpP_one (x y : Pr) : cmpP x y = -1 ∨ cmpP x y = 0 ∨ cmpP x y = 1 := by
  obtain ⟨a, b⟩ := x; obtain ⟨c, d⟩ := y
  unfold cmpP cmpI
  by_cases h1 : a < c <;> by_cases h2 : c < a <;> by_cases h3 : b < d <;> by_cases h4 : d < b <;> simp [h1, h2, h3, h4]

/-- strictly rising -/
def SS (l : List Pr) : Prop := l.Pairwise ltP
theorem ss_ext : ∀ {l m : List Pr}, SS l → SS m → (∀ x, x ∈ l ↔ x ∈ m) → l = m := by
  intro l
  induction l with
  | nil =>
    intro m _ _ h
    cases m with
    | nil => rfl
    | cons y m => exact absurd ((h y).2 (by simp)) (by simp)
  | cons x l ih =>
    intro m hl hm h
    cases m with
    | nil => exact absurd ((h x).1 (by simp)) (by simp)
    | cons y m =>
      obtain ⟨hx, hl'⟩ := List.pairwise_cons.1 hl
      obtain ⟨hy, hm'⟩ := List.pairwise_cons.1 hm
      have e : x = y := by
        rcases ltP_tri x y with a | a | a
        · have := (h x).1 (by simp)
          rcases List.mem_cons.1 this with b | b
          · exact b
          · exact absurd (hy x b) (ltP_asymm a)
        · exact a
        · have := (h y).2 (by simp)
          rcases List.mem_cons.1 this with b | b
          · exact b.symm
          · exact absurd (hx y b) (ltP_asymm a)
      subst e
      rw [ih hl' hm' fun z => ?_]
      constructor
      · intro hz
        rcases List.mem_cons.1 ((h z).1 (List.mem_cons_of_mem _ hz)) with b | b
        · subst b; exact absurd (hx z hz) (ltP_irrefl z)
        · exact b
      · intro hz
        rcases List.mem_cons.1 ((h z).2 (List.mem_cons_of_mem _ hz)) with b | b
        · subst b; exact absurd (hy z hz) (ltP_irrefl z)
        · exact b

theorem compactUpTo_ss (d : Array Pr) (hs : ∀ i j, i < j → j < d.size → ¬ ltP d[j]! d[i]!) : ∀ m, m ≤ d.size →
    SS (compactUpTo d m) ∧ (∀ x, x ∈ compactUpTo d m ↔ ∃ j, j < m ∧ d[j]! = x) := by
  intro m
  induction m with
  | zero => intro _; exact ⟨by simp [compactUpTo, SS], by simp [compactUpTo]⟩
  | succ m ih =>
    intro hm
    obtain ⟨h1, h2⟩ := ih (by omega)
    rw [compactUpTo_succ]
    by_cases hk : keeps d m = true
    · rw [if_pos hk]
      refine ⟨?_, ?_⟩
      · unfold SS
        rw [List.pairwise_append]
        refine ⟨h1, by simp, ?_⟩
        intro a ha b hb
        simp at hb; subst hb
        obtain ⟨j, hj, rfl⟩ := (h2 a).1 ha
        have hm0 : 0 < m := by omega
        have hne : d[m]! ≠ d[m - 1]! := by
          simp [keeps] at hk
          rcases hk with h0 | h0
          · omega
          · exact h0
        have hlast : ltP d[m - 1]! d[m]! := by
          rcases ltP_tri d[m - 1]! d[m]! with a | a | a
          · exact a
          · exact absurd a.symm hne
          · exact absurd a (hs (m - 1) m (by omega) (by omega))
        by_cases e : j = m - 1
        · subst e; exact hlast
        · rcases ltP_tri d[j]! d[m - 1]! with a | a | a
          · exact ltP_trans a hlast
          · rw [a]; exact hlast
          · exact absurd a (hs j (m - 1) (by omega) (by omega))
      · intro x
        rw [List.mem_append, h2 x]
        simp only [List.mem_singleton]
        constructor
        · rintro (⟨j, hj, rfl⟩ | rfl)
          · exact ⟨j, by omega, rfl⟩
          · exact ⟨m, by omega, rfl⟩
        · rintro ⟨j, hj, rfl⟩
          by_cases e : j = m
          · subst e; exact .inr rfl
          · exact .inl ⟨j, by omega, rfl⟩
    · rw [if_neg hk, List.append_nil]
      refine ⟨h1, fun x => ?_⟩
      rw [h2 x]
      have hm0 : m ≠ 0 ∧ d[m]! = d[m - 1]! := by
        simp [keeps] at hk
        exact hk
      constructor
      · rintro ⟨j, hj, rfl⟩; exact ⟨j, by omega, rfl⟩
      · rintro ⟨j, hj, rfl⟩
        by_cases e : j = m
        · subst e; exact ⟨j - 1, by omega, hm0.2.symm⟩
        · exact ⟨j, by omega, rfl⟩

end Go.Proofs.YtniogmefbjfoaaaGreat

namespace Go.Proofs.YtniogmefbjfoaaaGreat
set_option linter.unusedSimpArgs false
set_option linter.unusedVariables false
set_option linter.unusedSectionVars false
open Go.RowKit Go.Sort Go.Lib

/-- a list of lives where it lies: its address, its capacity, its lives -/
structure Sv where
  A : Option Addr
  c : Nat
  l : List (Int × Int)
  deriving Inhabited
def Sv.v (x : Sv) : Value := .slice x.A x.l.length x.c
def svs (xs : List Sv) : List Value := xs.map Sv.v
def Sv.ok (w : World) (B : Nat) (x : Sv) : Prop := Reads w B 2 x.A x.l.length (pcs x.l)
theorem Sv.ok_below {w w' : World} {B : Nat} {x : Sv} (h : x.ok w B) (hb : Below B w w') : x.ok w' B := Reads.below h hb
theorem svs_len (xs : List Sv) : (svs xs).length = xs.length * 1 := by simp [svs]
theorem Reads.atS {w : World} {B : Nat} {A : Option Addr} {n k : Nat} {xs : List Sv} (h : Reads w B 1 A n (svs xs)) (hk : k < n) :
    ∃ b off x, A = some ⟨b, off, none⟩ ∧ b < B ∧ xs[k]? = some x ∧ w.cell? ⟨b, off + k, none⟩ = some (.slice x.A x.l.length x.c) := by
  obtain ⟨b, off, rfl, hb, hc⟩ := h.2 (by omega)
  have hl : k < xs.length := by have := h.1; rw [svs_len] at this; omega
  exact ⟨b, off, xs[k], rfl, hb, List.getElem?_eq_getElem hl, hc k _ (by simp [svs, hl, Sv.v])⟩

def hvB (xs : List Sv) : Bool := xs.any (fun x => decide (300 < x.l.length)) || decide (20 < xs.length)

def flatS (xs : List Sv) : List (Int × Int) := xs.flatMap Sv.l
theorem flatS_take {xs : List Sv} {k : Nat} {x : Sv} (h : xs[k]? = some x) : flatS (xs.take (k + 1)) = flatS (xs.take k) ++ x.l := by
  rw [take_succ_of h]; simp [flatS]
theorem flatS_le (xs : List Sv) (k : Nat) : (flatS (xs.take k)).length ≤ (flatS xs).length := by
  have : flatS xs = flatS (xs.take k) ++ flatS (xs.drop k) := by
    unfold flatS; rw [← List.flatMap_append, List.take_append_drop]
  rw [this, List.length_append]; omega

end Go.Proofs.YtniogmefbjfoaaaGreat
