/-
  The library's sort by a function on rows that a call owns, at elements of any number of cells: a sorted list with the same elements.
-/
import Derived.Test.YtkglclekieckoaaGreatBase
import Derived.Test.YtkglclekieckoaaGreatLay
import Derived.Test.YtkglclekieckoaaGreatReg5
import Derived.Lib.AppendZeros
namespace Go.Proofs.YtkglclekieckoaaGreat
set_option linter.unusedSimpArgs false
set_option linter.unusedVariables false
set_option linter.unusedSectionVars false
open Go.RowKit Go.Sort Go.Lib

section
variable {α : Type} [Inhabited α] {enc : α → List Value} {k : Nat}
omit [Inhabited α] in
theorem ownK_len {w : World} {base n : Nat} {e : TypeId} {v : Value} {l : List α} (hk : ∀ x, (enc x).length = k) (hk0 : 0 < k) (h : w.ownsRow base e k v n (l.flatMap enc)) : n = l.length := by
  have h1 := h.1
  rw [flat_length hk] at h1
  exact (Nat.eq_of_mul_eq_mul_right hk0 h1).symm
theorem flatK_eq (hk : ∀ x, (enc x).length = k) (hk0 : 0 < k) (l : List α) {j : Nat} (hj : j < l.length * k) : (l.flatMap enc)[j]? = some ((flatK enc k l.toArray)[j]!) := by
  have hi : j / k < l.length := Nat.div_lt_of_lt_mul (by rw [Nat.mul_comm]; exact hj)
  have hm : j % k < k := Nat.mod_lt _ hk0
  have hp : l[j / k]? = some l[j / k] := List.getElem?_eq_getElem hi
  have h1 := flat_get hk l (j / k) (j % k) _ hp hm
  rw [show j / k * k + j % k = j by rw [Nat.mul_comm]; exact Nat.div_add_mod j k] at h1
  rw [h1, get_flatK _ _ _ _ (by simpa using hj)]
  have h2 : j % k < (enc l[j / k]).length := by rw [hk]; exact hm
  simp [hi, h2]
theorem holds_of_ownK {w : World} {base g n cap : Nat} {e : TypeId} {l : List α} (hk : ∀ x, (enc x).length = k) (hk0 : 0 < k) (h : w.ownsRow base e k (.slice (some ⟨g, 0, none⟩) n cap) n (l.flatMap enc)) : HoldsK enc k w g 0 l.toArray := by
  intro j hj
  have hn := ownK_len hk hk0 h
  have hj' : j < l.length * k := by simpa using hj
  rw [Nat.zero_add, h.cellAt _ (by rw [hn]; exact hj'), h.frozenAt]
  exact ⟨flatK_eq hk hk0 l hj', rfl⟩
theorem own_of_sortK {w : World} {base g n cap : Nat} {e : TypeId} {l l' : List α} (hk : ∀ x, (enc x).length = k) (hk0 : 0 < k) (h : w.ownsRow base e k (.slice (some ⟨g, 0, none⟩) n cap) n (l.flatMap enc)) (hl : l'.length = l.length) (m : Nat) (os : Array Obj) :
    (sortWorldK enc k w g 0 m l'.toArray os).ownsRow base e k (.slice (some ⟨g, 0, none⟩) n cap) n (l'.flatMap enc) ∧ w.grownBy (sortWorldK enc k w g 0 m l'.toArray os) (some g) := by
  have hn := ownK_len hk hk0 h
  rcases h.2 with ⟨h', _⟩ | ⟨g', cap', cur, h', hb, hg, hnc, hcm, hcs, htake⟩
  · simp at h'
  · simp only [Value.slice.injEq, Option.some.injEq, Addr.mk.injEq, and_true, true_and] at h'
    obtain ⟨rfl, rfl⟩ := h'
    have hlt : g < w.heap.size := by
      rcases Nat.lt_or_ge g w.heap.size with hlt | hge
      · exact hlt
      · rw [Array.getElem?_eq_none hge] at hg; cases hg
    have hheap : (sortWorldK enc k w g 0 m l'.toArray os).heap[g]? = some (.cells (putCells id 0 (flatK enc k l'.toArray) cur) e (0, 0)) := by
      unfold sortWorldK
      rw [heap_grow_old _ _ (by simpa [putRowK, putRow, mapBlock, ahead] using hlt)]
      simp [putRowK, putRow, mapBlock, Array.getElem?_modify, hg, onCells]
    have hmul := Nat.mul_le_mul_right k hnc
    refine ⟨⟨by rw [flat_length hk, hl, hn], .inr ⟨g, cap, _, rfl, hb, hheap, hnc, hcm, by simpa [putCells] using hcs, ?_⟩⟩, ⟨rfl, rfl, rfl, ?_, ?_⟩⟩
    · apply List.ext_getElem?
      intro j
      rw [List.getElem?_take]
      split
      · rename_i hj
        have hj' : j < l'.length * k := by rw [hl, ← hn]; exact hj
        have hjc : j < cur.size := by omega
        rw [flatK_eq hk hk0 l' hj']
        simp only [putCells, Array.getElem?_toList, Array.getElem?_mapIdx, Array.getElem?_eq_getElem hjc, Option.map_some]
        rw [if_pos (by simpa using hj'), Nat.sub_zero, id]
      · rename_i hj
        rw [List.getElem?_eq_none (by rw [flat_length hk, hl, ← hn]; omega)]
    · simp [sortWorldK, grow, putRowK, putRow, mapBlock]
    · intro q hq hne
      unfold sortWorldK
      rw [heap_grow_old _ _ (by simpa [putRowK, putRow, mapBlock, ahead] using hq)]
      have : g ≠ q := fun e => hne (by rw [e])
      simp [putRowK, putRow, mapBlock, Array.getElem?_modify, this]
/-- what the sort leaves: the same elements, none less than one ahead of it -/
theorem sorted_of {lt : α → α → Bool} {l : List α} {d' : Array α} (hp : PermIn 0 l.toArray.size l.toArray d') (hs : SortedIn lt 0 l.toArray.size d') : d'.toList.Perm l ∧ d'.toList.Pairwise fun x y => lt y x = false := by
  obtain ⟨hsz, _, hperm⟩ := hp
  have e1 : d'.extract 0 l.toArray.size = d' := by rw [← hsz]; exact Array.extract_size
  rw [e1, Array.extract_size] at hperm
  refine ⟨hperm, ?_⟩
  rw [List.pairwise_iff_getElem]
  intro i j hi hj hij
  have hi' : i < d'.size := by simpa using hi
  have hj' : j < d'.size := by simpa using hj
  have := hs i j (Nat.zero_le _) hij (by omega)
  rw [getElem!_pos d' j hj', getElem!_pos d' i hi'] at this
  simpa using this
end
end Go.Proofs.YtkglclekieckoaaGreat

namespace Go.Proofs.YtkglclekieckoaaGreat
set_option linter.unusedSimpArgs false
set_option linter.unusedVariables false
set_option linter.unusedSectionVars false
open Go.RowKit Go.Sort Go.Lib

/-- a list of clients where it lies -/
structure Svc where
  A : Option Addr
  c : Nat
  l : List Cl
  deriving Inhabited
def Svc.v (x : Svc) : Value := .slice x.A x.l.length x.c
def svcs (xs : List Svc) : List Value := xs.map Svc.v
theorem svcs_len (xs : List Svc) : (svcs xs).length = xs.length * 1 := by simp [svcs]
theorem Reads.atSc {w : World} {B : Nat} {A : Option Addr} {n k : Nat} {xs : List Svc} (h : Reads w B 1 A n (svcs xs)) (hk : k < n) :
    ∃ b off x, A = some ⟨b, off, none⟩ ∧ b < B ∧ xs[k]? = some x ∧ w.cell? ⟨b, off + k, none⟩ = some (.slice x.A x.l.length x.c) := by
  obtain ⟨b, off, rfl, hb, hc⟩ := h.2 (by omega)
  have hl : k < xs.length := by have := h.1; rw [svcs_len] at this; omega
  exact ⟨b, off, xs[k], rfl, hb, List.getElem?_eq_getElem hl, hc k _ (by simp [svcs, hl, Svc.v])⟩

def flatC (xs : List Svc) : List Cl := xs.flatMap Svc.l
theorem flatC_take {xs : List Svc} {k : Nat} {x : Svc} (h : xs[k]? = some x) : flatC (xs.take (k + 1)) = flatC (xs.take k) ++ x.l := by
  rw [take_succ_of h]; simp [flatC]
theorem flatC_le (xs : List Svc) (k : Nat) : (flatC (xs.take k)).length ≤ (flatC xs).length := by
  have : flatC xs = flatC (xs.take k) ++ flatC (xs.drop k) := by
    unfold flatC; rw [← List.flatMap_append, List.take_append_drop]
  rw [this, List.length_append]; omega

/-! ### the sort -/
def cmpC (x y : Cl) : Int := cmpP (x.n, x.i) (y.n, y.i)
theorem cmpC_lt (x y : Cl) : ltOf cmpC x y = decide (x.n < y.n ∨ x.n = y.n ∧ x.i < y.i) := by
  have := befB_cmp x.n x.i y.n y.i
  unfold befB at this
  exact this.symm
theorem cmpC_swo : SWO (ltOf cmpC) where
  irrefl x := by rw [cmpC_lt]; simp
  trans x y z h1 h2 := by rw [cmpC_lt] at *; simp at *; omega
  ntrans x y z h1 h2 := by rw [cmpC_lt] at *; simp at *; omega
/-- the clients of lists, in their order -/
def RetJ (w : World) (l : List Cl) (e : Ending) (w' : World) : Prop := ∃ l' v, l'.Perm l ∧ (l'.Pairwise fun x y => ltOf cmpC y x = false) ∧ e = .returned v ∧ OwnC w' w.heap.size v l' ∧ Below w.heap.size w w'
end Go.Proofs.YtkglclekieckoaaGreat

namespace Go.Proofs.YtkglclekieckoaaGreat
set_option linter.unusedSimpArgs false
set_option linter.unusedVariables false
set_option linter.unusedSectionVars false
open Go.RowKit Go.Sort Go.Lib

/-- rising nodes -/
def rising (l : List Cl) : Prop := l.Pairwise fun x y => x.n < y.n
theorem mayR_rising {l : List Cl} (h : mayR l = true) : rising l := by
  have h2 : ∀ k, k < l.length → okR l k = true := by
    unfold mayR at h
    rw [Bool.and_eq_true, List.all_eq_true] at h
    intro k hk; exact h.1 k (List.mem_range.2 hk)
  have h3 : ∀ k, k + 1 < l.length → (l.getD k default).n < (l.getD (k + 1) default).n := by
    intro k hk
    have := h2 (k + 1) hk
    unfold okR at this
    rw [Bool.and_eq_true, Bool.or_eq_true] at this
    rcases this.2 with h | h
    · simp at h
    · simpa using h
  have h4 : ∀ j k, j < k → k < l.length → (l.getD j default).n < (l.getD k default).n := by
    intro j k
    induction k with
    | zero => intro h; omega
    | succ k ih =>
      intro hj hk
      have := h3 k hk
      rcases Nat.lt_or_eq_of_le (Nat.lt_succ_iff.1 hj) with h | h
      · have := ih h (by omega); omega
      · subst h; exact this
  refine List.pairwise_iff_getElem.2 fun j k hj hk hlt => ?_
  have := h4 j k hlt hk
  simpa [List.getD, hj, hk] using this
theorem taken_rising (l : List Cl) : rising (takenR l) := by
  unfold takenR
  split
  · exact mayR_rising ‹_›
  · exact List.Pairwise.nil

/-- a client put where it belongs -/
def insR (c : Cl) (l : List Cl) : List Cl := l.filter (fun x => decide (x.n < c.n)) ++ c :: l.filter (fun x => decide (c.n < x.n))
theorem insR_rising {c : Cl} {l : List Cl} (h : rising l) : rising (insR c l) := by
  unfold insR rising
  refine List.pairwise_append.2 ⟨h.filter _, List.pairwise_cons.2 ⟨?_, h.filter _⟩, ?_⟩
  · intro y hy; simpa using (List.mem_filter.1 hy).2
  · intro x hx y hy
    have h1 : x.n < c.n := by simpa using (List.mem_filter.1 hx).2
    rcases List.mem_cons.1 hy with rfl | hy
    · exact h1
    · have h2 : c.n < y.n := by simpa using (List.mem_filter.1 hy).2
      omega
theorem insR_perm {c : Cl} {l : List Cl} (hne : ∀ x ∈ l, x.n ≠ c.n) : (insR c l).Perm (l ++ [c]) := by
  unfold insR
  have h1 : l.filter (fun x => decide (c.n < x.n)) = l.filter (fun x => !decide (x.n < c.n)) := by
    apply List.filter_congr
    intro x hx
    have := hne x hx
    by_cases h : x.n < c.n
    · simp [h]; omega
    · simp [h]; omega
  rw [h1]
  refine (List.perm_middle).trans ?_
  refine List.Perm.trans (List.Perm.cons c (List.filter_append_perm _ l)) ?_
  exact (List.perm_append_comm (l₁ := [c]) (l₂ := l))
theorem insR_eq {c : Cl} {l l' : List Cl} (hr : rising l) (hne : ∀ x ∈ l, x.n ≠ c.n) (hp : l'.Perm (l ++ [c])) (hs : l'.Pairwise fun x y => ltOf cmpC y x = false) : l' = insR c l := by
  have hp' := hp.trans (insR_perm hne).symm
  have hri := insR_rising (c := c) hr
  have hs' : (insR c l).Pairwise fun x y => ltOf cmpC y x = false := hri.imp fun {x y} h => by rw [cmpC_lt]; simp; omega
  refine List.Perm.eq_of_pairwise (le := fun x y => ltOf cmpC y x = false) ?_ hs hs' hp'
  intro x y hx hy h1 h2
  have hx' : x ∈ insR c l := hp'.mem_iff.1 hx
  have hn : x.n = y.n := by rw [cmpC_lt] at h1 h2; simp at h1 h2; omega
  obtain ⟨i, hi, rfl⟩ := List.getElem_of_mem hx'
  obtain ⟨j, hj, rfl⟩ := List.getElem_of_mem hy
  rcases Nat.lt_trichotomy i j with h | h | h
  · have := List.pairwise_iff_getElem.1 hri i j hi hj h; omega
  · subst h; rfl
  · have := List.pairwise_iff_getElem.1 hri j i hj hi h; omega

def okN (kind n i : Int) : Bool := (kind == 1 || kind == 3) && mayB n i
def lessR (m : List Cl) (n : Int) : List Cl := m.filter fun x => !(x.n == n)
theorem less_rising {m : List Cl} (h : rising m) (n : Int) : rising (lessR m n) := h.filter _
theorem less_ne (m : List Cl) (n : Int) : ∀ x ∈ lessR m n, x.n ≠ n := by
  intro x hx; simpa [lessR] using (List.mem_filter.1 hx).2
/-- what hearing a client comes to -/
def hearR (m : List Cl) (now sn si kind n i rnd cid : Int) (set : List (Int × Int)) : List Cl × Int :=
  if okN kind n i = false then (m, 0) else
  match m.find? (fun x => x.n == n) with
  | some x =>
    if i < x.i then (m, 0) else
    if x.i ≠ i then (insR ⟨n, i, cid, rnd, now, false⟩ (lessR m n), 3) else
    (m.map fun y => if y.n = n then ⟨n, i, max x.cid cid, max x.rnd rnd, now, false⟩ else y, if x.gone then 3 else if decide (x.cid < cid) || (decide (cid = x.cid) && !nobB set sn si) then 2 else 1)
  | none => if 6 ≤ m.length then (m, 0) else (insR ⟨n, i, cid, rnd, now, false⟩ (lessR m n), 3)
theorem found_find {m : List Cl} {a : Int} {k : Nat} {x : Cl} (h : m[k]? = some x) (hn : x.n = a) (hf : ∀ y ∈ m.take k, y.n ≠ a) : m.find? (fun x => x.n == a) = some x := by
  rw [List.find?_eq_some_iff_getElem]
  obtain ⟨hk, rfl⟩ := List.getElem?_eq_some_iff.1 h
  refine ⟨by simp [hn], k, hk, rfl, fun j hj => ?_⟩
  have := hf m[j] (by rw [List.mem_take_iff_getElem]; exact ⟨j, by omega, rfl⟩)
  simp [this]
theorem found_none {m : List Cl} {a : Int} (hf : ∀ y ∈ m, y.n ≠ a) : m.find? (fun x => x.n == a) = none := by
  rw [List.find?_eq_none]; intro y hy; simp [hf y hy]
theorem set_map {m : List Cl} (hr : rising m) {a : Int} {k : Nat} {x z : Cl} (h : m[k]? = some x) (hn : x.n = a) : (m.map fun y => if y.n = a then z else y) = m.set k z := by
  apply List.ext_getElem?
  intro j
  obtain ⟨hk, rfl⟩ := List.getElem?_eq_some_iff.1 h
  rw [List.getElem?_map, List.getElem?_set]
  by_cases hjk : k = j
  · subst hjk; simp [hk, hn]
  · rw [if_neg hjk]
    rcases Nat.lt_or_ge j m.length with hj | hj
    · rw [List.getElem?_eq_getElem hj]
      have : m[j].n ≠ a := by
        rcases Nat.lt_or_gt_of_ne hjk with hlt | hlt
        · have := List.pairwise_iff_getElem.1 hr k j hk hj hlt; omega
        · have := List.pairwise_iff_getElem.1 hr j k hj hk hlt; omega
      simp [this]
    · rw [List.getElem?_eq_none hj]; rfl

theorem reads_two (W : World) (u v : Value) (t : TypeId) (g : Nat) (hg : g = W.heap.size) : Reads (W.alloc (.cells #[u, v] t)) (W.alloc (.cells #[u, v] t)).heap.size 1 (some ⟨g, 0, none⟩) 2 [u, v] := by
  subst hg
  refine ⟨rfl, fun _ => ⟨_, 0, rfl, by simp, fun j x hx => ?_⟩⟩
  rw [Nat.zero_add, World.cell?_alloc_new]
  simpa using hx
theorem Cll_one (W : World) (x : Cl) : Cll (W.alloc (bxC x)) (some ⟨W.heap.size, 0, none⟩) [x] := by
  have := reads_oneC W x W.heap.size rfl
  rw [Cll, World.size_alloc]; exact this
theorem size_gwe (w : World) (d : Nat) (os : Array Obj) : (gw w d os).heap.size = w.heap.size + os.size := by simp [gw]
@[go_sem] theorem cell?_set_ne (w : World) (g o n i : Nat) (v : Value) (h : ¬ n = g) : (w.setCell ⟨g, o, none⟩ v).cell? ⟨n, i, none⟩ = w.cell? ⟨n, i, none⟩ := by
  have h' : ¬ g = n := fun e => h e.symm
  unfold World.setCell World.cell?
  simp [Array.getElem?_modify, h']
theorem own_setC6 {w : World} {base g n cap : Nat} {l : List Cl} (h : w.ownsRow base 48 6 (.slice (some ⟨g, 0, none⟩) n cap) n (ccs l)) {i : Nat} {x : Cl} (y : Cl) (hx : l[i]? = some x) :
    ((((((w.setCell ⟨g, i * 6, none⟩ (.int .i64 y.n)).setCell ⟨g, i * 6 + 1, none⟩ (.int .u64 y.i)).setCell ⟨g, i * 6 + 2, none⟩ (.int .u64 y.cid)).setCell ⟨g, i * 6 + 3, none⟩ (.int .u64 y.rnd)).setCell ⟨g, i * 6 + 4, none⟩ (.int .u64 y.heard)).setCell ⟨g, i * 6 + 5, none⟩ (.bool y.gone)).ownsRow base 48 6 (.slice (some ⟨g, 0, none⟩) n cap) n (ccs (l.set i y)) ∧
    w.grownBy ((((((w.setCell ⟨g, i * 6, none⟩ (.int .i64 y.n)).setCell ⟨g, i * 6 + 1, none⟩ (.int .u64 y.i)).setCell ⟨g, i * 6 + 2, none⟩ (.int .u64 y.cid)).setCell ⟨g, i * 6 + 3, none⟩ (.int .u64 y.rnd)).setCell ⟨g, i * 6 + 4, none⟩ (.int .u64 y.heard)).setCell ⟨g, i * 6 + 5, none⟩ (.bool y.gone)) (some g) := by
  have hi := (List.getElem?_eq_some_iff.1 hx).1
  have hs : ∀ (l : List Cl) (z : Cl), i < l.length → (l.set i z)[i]? = some z := fun l z h => by simp [h]
  obtain ⟨h0, g0⟩ := own_setC h (i := i) 0 (y := { x with n := y.n }) (v := .int .i64 y.n) hx (by omega) rfl
  obtain ⟨h1, g1⟩ := own_setC h0 (i := i) 1 (y := { x with n := y.n, i := y.i }) (v := .int .u64 y.i) (hs _ _ hi) (by omega) rfl
  obtain ⟨h2, g2⟩ := own_setC h1 (i := i) 2 (y := { x with n := y.n, i := y.i, cid := y.cid }) (v := .int .u64 y.cid) (hs _ _ (by simpa using hi)) (by omega) rfl
  obtain ⟨h3, g3⟩ := own_setC h2 (i := i) 3 (y := { x with n := y.n, i := y.i, cid := y.cid, rnd := y.rnd }) (v := .int .u64 y.rnd) (hs _ _ (by simpa using hi)) (by omega) rfl
  obtain ⟨h4, g4⟩ := own_setC h3 (i := i) 4 (y := { x with n := y.n, i := y.i, cid := y.cid, rnd := y.rnd, heard := y.heard }) (v := .int .u64 y.heard) (hs _ _ (by simpa using hi)) (by omega) rfl
  obtain ⟨h5, g5⟩ := own_setC h4 (i := i) 5 (y := y) (v := .bool y.gone) (hs _ _ (by simpa using hi)) (by omega) rfl
  rw [List.set_set, List.set_set, List.set_set, List.set_set, List.set_set] at h5
  exact ⟨h5, g0.trans (g1.trans (g2.trans (g3.trans (g4.trans g5))))⟩
abbrev bxN7 (kind n i rnd cid : Int) (v5 v6 v7 v8 v9 v10 : Value) : Obj := .cells #[.int .i64 kind, .int .i64 n, .int .u64 i, .int .u64 rnd, .int .u64 cid, v5, v6, v7, v8, v9, v10] 115
def RetH (w : World) (r : List Cl × Int) (e : Ending) (w' : World) : Prop := ∃ v, e = .returned (.tuple #[.agg #[v], .int .i64 r.2]) ∧ OwnC w' w.heap.size v r.1 ∧ Below w.heap.size w w'
end Go.Proofs.YtkglclekieckoaaGreat
