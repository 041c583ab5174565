/-
  Words for slices in memory, and the append law, over any program; nothing of this text depends on the translated code.
-/
import Derived.Test.YtniogmefbjfoaaaGreatRows
import Derived.WalkKit
import Derived.WalkSpells
import Derived.WalkLawsBesides
import Derived.Deep.QuietTactic
import Derived.BigQuiet
import Derived.Sort.Grow
import Derived.Laws.StructEq
import Derived.Maps.AppendAt
import Derived.Deep.AppendLies
import Derived.RegionTactic
import Derived.OwnWalk
import Derived.Deep.LoopGhost
import Derived.Deep.RegionHeld3
import Derived.Deep.RegionWith
import Derived.Deep.DeepCutAuto
namespace Go.Proofs.YtniogmefbjfoaaaGreat
set_option linter.unusedSimpArgs false
set_option linter.unusedVariables false
set_option linter.unusedSectionVars false
open Go.RowKit

theorem hide {p : Prop} (h : p) : Hid p := h
theorem ret_i {k : IntKind} {a b : Int} (h : a = b) : Ending.returned (.int k a) = .returned (.int k b) := by rw [h]
theorem ret_b {a b : Bool} (h : a = b) : Ending.returned (.bool a) = .returned (.bool b) := by rw [h]

/-! ### a slice that reads as a list of cells, nil let in -/

/-- the slice '.slice A n c' holds the cells xs, k cells an element, and lies below block B -/
def Reads (w : World) (B k : Nat) (A : Option Addr) (n : Nat) (xs : List Value) : Prop :=
  xs.length = n * k ∧ (0 < n → ∃ b off, A = some ⟨b, off, none⟩ ∧ b < B ∧ ∀ j u, xs[j]? = some u → w.cell? ⟨b, off + j, none⟩ = some u)

section
variable {w w' : World} {B B' k n : Nat} {A : Option Addr} {xs : List Value}
theorem Reads.none_ : Reads w B k A 0 [] := ⟨by simp, fun h => absurd h (by omega)⟩
theorem Reads.keep (h : Reads w B k A n xs) (hk : ∀ p : Addr, p.block < B → w'.cell? p = w.cell? p) : Reads w' B k A n xs :=
  ⟨h.1, fun hn => by
    obtain ⟨b, off, e, hb, hc⟩ := h.2 hn
    exact ⟨b, off, e, hb, fun j u hu => (hk _ hb).trans (hc j u hu)⟩⟩
theorem Reads.more (h : Reads w B k A n xs) (hB : B ≤ B') : Reads w B' k A n xs :=
  ⟨h.1, fun hn => by
    obtain ⟨b, off, e, hb, hc⟩ := h.2 hn
    exact ⟨b, off, e, by omega, hc⟩⟩
theorem Reads.below (h : Reads w B k A n xs) (hb : Below B w w') : Reads w' B k A n xs := h.keep fun _ hp => hb.cell hp
theorem Reads.drewN (h : Reads w B k A n xs) (q : Nat) : Reads (w.drewN q) B k A n xs := h
theorem Reads.alloc (h : Reads w B k A n xs) (hB : B ≤ w.heap.size) (o : Obj) : Reads (w.alloc o) B k A n xs := h.keep fun p hp => World.cell?_alloc_lt w o p (by omega)
theorem Reads.grown (h : Reads w B k A n xs) {row : Option Nat} (hg : w.grownBy w' row) (hB : B ≤ w.heap.size) (hr : ∀ g, row = some g → B ≤ g) : Reads w' B k A n xs :=
  h.keep fun p hp => World.cell?_of_block (hg.block p.block (by omega) (fun e => by have := hr _ e.symm; omega))
theorem Reads.lt (h : Reads w B k A n xs) {i j : Nat} {u : Value} (hi : i < n) (hu : xs[i * k + j]? = some u) : ∃ b off, A = some ⟨b, off, none⟩ ∧ b < B ∧ w.cell? ⟨b, off + (i * k + j), none⟩ = some u := by
  obtain ⟨b, off, e, hb, hc⟩ := h.2 (by omega)
  exact ⟨b, off, e, hb, hc _ u hu⟩
/-- a slice of its end -/
theorem Reads.cut (h : Reads w B k A n xs) {m cap : Nat} (hm : m ≤ n) (hc : n ≤ cap) :
    Reads w B k (if cap = m then A else A.map (·.add (m * k))) (n - m) (xs.drop (m * k)) := by
  refine ⟨by rw [List.length_drop, h.1, Nat.sub_mul], fun hn => ?_⟩
  obtain ⟨b, off, rfl, hb, hcell⟩ := h.2 (by omega)
  rw [if_neg (by omega)]
  refine ⟨b, off + m * k, ?_, hb, fun j u hu => ?_⟩
  · simp only [Option.map_some, Addr.add]
    split
    · rename_i h0; rw [h0]; rfl
    · rfl
  · rw [Nat.add_assoc]
    exact hcell _ u (by rw [← hu, List.getElem?_drop])
theorem Reads.cut_some {b off : Nat} (h : Reads w B k (some ⟨b, off, none⟩) n xs) {m : Nat} (hm : m ≤ n) : Reads w B k (some ⟨b, off + m * k, none⟩) (n - m) (xs.drop (m * k)) := by
  refine ⟨by rw [List.length_drop, h.1, Nat.sub_mul], fun hn => ?_⟩
  obtain ⟨b', off', he, hb, hcell⟩ := h.2 (by omega)
  injection he with he
  injection he with h1 h2
  subst h1 h2
  refine ⟨b, off + m * k, rfl, hb, fun j u hu => ?_⟩
  rw [Nat.add_assoc]
  exact hcell _ u (by rw [← hu, List.getElem?_drop])
/-- a slice of its beginning -/
theorem Reads.head (h : Reads w B k A n xs) {m : Nat} (hm : m ≤ n) : Reads w B k A m (xs.take (m * k)) := by
  refine ⟨by rw [List.length_take, h.1]; have := Nat.mul_le_mul_right k hm; omega, fun hn => ?_⟩
  obtain ⟨b, off, rfl, hb, hcell⟩ := h.2 (by omega)
  refine ⟨b, off, rfl, hb, fun j u hu => hcell j u ?_⟩
  rw [List.getElem?_take] at hu
  split at hu
  · exact hu
  · cases hu
theorem Reads.of_own {base : Nat} {e : TypeId} {c : Nat} (h : w.ownsRow base e k (.slice A n c) n xs) : Reads w w.heap.size k A n xs := by
  refine ⟨h.1, fun hn => ?_⟩
  obtain ⟨g, cap, hv, _, hlt⟩ := h.form hn
  have hA : A = some ⟨g, 0, none⟩ := by injection hv
  subst hA
  refine ⟨g, 0, rfl, hlt, fun j u hu => ?_⟩
  have := h.cells (g := g) rfl j u hu
  rw [Nat.zero_add]
  unfold Addr.add at this
  split at this
  · rename_i h0; subst h0; exact this
  · simpa using this
end

/-- what an owned row's value is: a slice -/
theorem own_slice {w : World} {base : Nat} {e : TypeId} {k n : Nat} {v : Value} {xs : List Value} (h : w.ownsRow base e k v n xs) : ∃ A c, v = .slice A n c ∧ n ≤ c ∧ c ≤ maxLen := by
  rcases h.2 with ⟨rfl, rfl⟩ | ⟨g, cap, cur, rfl, _, _, hn, hm, _⟩
  · exact ⟨none, 0, rfl, Nat.le_refl _, by unfold maxLen; omega⟩
  · exact ⟨_, cap, rfl, hn, hm⟩

/-- an owned row that lies below what has been kept -/
theorem own_below {w w' : World} {B base : Nat} {e : TypeId} {k n : Nat} {v : Value} {xs : List Value} (h : w.ownsRow base e k v n xs) (hb : Below B w w') (hB : w.heap.size ≤ B) : w'.ownsRow base e k v n xs := by
  refine ⟨h.1, h.2.imp id ?_⟩
  rintro ⟨g, cap, cur, rfl, hbase, hg, h1, h2, h3, h4⟩
  refine ⟨g, cap, cur, rfl, hbase, ?_, h1, h2, h3, h4⟩
  rw [hb.block g ?_]; exact hg
  have : g < w.heap.size := by
    rcases Nat.lt_or_ge g w.heap.size with hlt | hge
    · exact hlt
    · rw [Array.getElem?_eq_none hge] at hg; cases hg
  omega
theorem own_base {w : World} {base base' : Nat} {e : TypeId} {k n : Nat} {v : Value} {xs : List Value} (h : w.ownsRow base e k v n xs) (hb : base' ≤ base) : w.ownsRow base' e k v n xs := by
  refine ⟨h.1, h.2.imp id ?_⟩
  rintro ⟨g, cap, cur, rfl, hbase, h1⟩
  exact ⟨g, cap, cur, rfl, by omega, h1⟩
theorem own_drewN {w : World} {base : Nat} {e : TypeId} {k n : Nat} {v : Value} {xs : List Value} (h : w.ownsRow base e k v n xs) (q : Nat) : (w.drewN q).ownsRow base e k v n xs := h

theorem below_drewN {B : Nat} {a w : World} (h : Below B a w) (n : Nat) : Below B a (w.drewN n) := ⟨h.os, h.tape, h.output, h.size, h.block⟩
/-- all that was there when the call began is kept over two steps -/
theorem below_step {w w1 w2 : World} (h : Below w.heap.size w w1) (h2 : Below w1.heap.size w1 w2) : Below w.heap.size w w2 := h.trans (h2.mono h.size)
theorem below_alloc (w : World) (o : Obj) : Below w.heap.size w (w.alloc o) := (Below.refl _ _).alloc (Nat.le_refl _) o

theorem cell_top (w : World) (cs : Array Value) (t : TypeId) (n j : Nat) (v : Value) (hn : n = w.heap.size) (hv : cs[j]? = some v) : (w.alloc (.cells cs t)).cell? ⟨n, j, none⟩ = some v := by
  subst hn
  have h := heap_alloc_new w (.cells cs t)
  unfold World.cell?
  simp only [h]
  simp [hv]
theorem cell_old {w : World} {o : Obj} {p : Addr} {v : Value} (h : p.block < w.heap.size) (hv : w.cell? p = some v) : (w.alloc o).cell? p = some v := by
  rw [World.cell?_alloc_lt _ _ _ h]; exact hv

/-! ### lists of data, each element so many cells -/

section
variable {α : Type} {enc : α → List Value} {k : Nat}
theorem flat_length (hk : ∀ x, (enc x).length = k) (l : List α) : (l.flatMap enc).length = l.length * k := by
  induction l with
  | nil => simp
  | cons x l ih => rw [List.flatMap_cons, List.length_append, ih, hk, List.length_cons, Nat.succ_mul, Nat.add_comm]
theorem flat_get (hk : ∀ x, (enc x).length = k) : ∀ (l : List α) (i j : Nat) (x : α), l[i]? = some x → j < k → (l.flatMap enc)[i * k + j]? = (enc x)[j]? := by
  intro l
  induction l with
  | nil => intro i j x h; simp at h
  | cons y l ih =>
    intro i j x h hj
    rw [List.flatMap_cons]
    cases i with
    | zero =>
      simp at h; subst h
      rw [Nat.zero_mul, Nat.zero_add, List.getElem?_append_left (by rw [hk]; exact hj)]
    | succ i =>
      simp at h
      rw [List.getElem?_append_right (by rw [hk, Nat.succ_mul]; omega), hk, ← ih i j x h hj]
      congr 1
      rw [Nat.succ_mul]; omega
theorem flat_take (hk : ∀ x, (enc x).length = k) : ∀ (l : List α) (m : Nat), (l.flatMap enc).take (m * k) = (l.take m).flatMap enc := by
  intro l
  induction l with
  | nil => intro m; simp
  | cons y l ih =>
    intro m
    cases m with
    | zero => simp
    | succ m =>
      rw [List.flatMap_cons, List.take_succ_cons, List.flatMap_cons, Nat.succ_mul, Nat.add_comm, List.take_append, hk, ← ih m]
      rw [List.take_of_length_le (by rw [hk]; omega), show k + m * k - k = m * k by omega]
theorem flat_drop (hk : ∀ x, (enc x).length = k) : ∀ (l : List α) (m : Nat), (l.flatMap enc).drop (m * k) = (l.drop m).flatMap enc := by
  intro l
  induction l with
  | nil => intro m; simp
  | cons y l ih =>
    intro m
    cases m with
    | zero => simp
    | succ m =>
      rw [List.flatMap_cons, List.drop_succ_cons, Nat.succ_mul, Nat.add_comm, List.drop_append, hk, ← ih m]
      rw [List.drop_eq_nil_of_le (by rw [hk]; omega), show k + m * k - k = m * k by omega]
      simp
end

/-! ### a list of lives in memory -/
def wfP (p : Int × Int) : Prop := -9223372036854775808 ≤ p.1 ∧ p.1 ≤ 9223372036854775807 ∧ 0 ≤ p.2 ∧ p.2 ≤ 18446744073709551615
def pc (p : Int × Int) : List Value := [.int .i64 p.1, .int .u64 p.2]
def pcs (l : List (Int × Int)) : List Value := l.flatMap pc
theorem pc_len (p : Int × Int) : (pc p).length = 2 := rfl
theorem pc_one (l : List (Int × Int)) : ∀ u ∈ pcs l, u.oneCell' = true := by
  intro u hu
  obtain ⟨p, _, hp⟩ := List.mem_flatMap.1 hu
  simp [pc] at hp
  rcases hp with rfl | rfl <;> rfl
theorem pcs_app (l m : List (Int × Int)) : pcs (l ++ m) = pcs l ++ pcs m := List.flatMap_append
theorem pcs_len (l : List (Int × Int)) : (pcs l).length = l.length * 2 := flat_length pc_len l
theorem Reads.at2 {w : World} {B : Nat} {A : Option Addr} {n k : Nat} {l : List (Int × Int)} (h : Reads w B 2 A n (pcs l)) (hk : k < n) :
    ∃ b off p, A = some ⟨b, off, none⟩ ∧ b < B ∧ l[k]? = some p ∧ w.cell? ⟨b, off + k * 2, none⟩ = some (.int .i64 p.1) ∧ w.cell? ⟨b, off + k * 2 + 1, none⟩ = some (.int .u64 p.2) := by
  obtain ⟨b, off, rfl, hb, hc⟩ := h.2 (by omega)
  have hl : k < l.length := by have := h.1; rw [pcs_len] at this; omega
  have hp : l[k]? = some l[k] := List.getElem?_eq_getElem hl
  refine ⟨b, off, l[k], rfl, hb, hp, ?_, ?_⟩
  · exact hc (k * 2 + 0) _ (by rw [pcs, flat_get pc_len l k 0 _ hp (by omega)]; rfl)
  · rw [Nat.add_assoc]; exact hc (k * 2 + 1) _ (by rw [pcs, flat_get pc_len l k 1 _ hp (by omega)]; rfl)

/-! ### what is known of an element's type -/

structure ElemOk (P : Program) (t e : TypeId) (k bytes : Nat) : Prop where
  ht : P.underlying t = some (.slice e)
  hi : ∃ i z, P.info? e = some i ∧ i.zero = some z ∧ i.size = k ∧ i.bytes = bytes ∧ z.cells.size = k
  hk : 0 < k
theorem elemOk_of {P : Program} {t e : TypeId} {k bytes : Nat} (z : Value) (ht : P.underlying t = some (.slice e)) (hi : (P.info? e).map (fun i => (i.zero, i.size, i.bytes)) = some (some z, k, bytes)) (hz : z.cells.size = k) (hk : 0 < k) : ElemOk P t e k bytes := by
  refine ⟨ht, ?_, hk⟩
  obtain ⟨i0, h0, h1, h2, h3⟩ := info_parts hi
  exact ⟨i0, z, h0, h1, h2, h3, hz⟩

section
variable {P : Program} (w : World)
theorem run_append_of_nil (base : Nat) (t ty e : TypeId) (i : TypeInfo) (size : Nat) (ht : P.underlying t = some (.slice e)) (hi : P.info? e = some i)
    (v : Value) (n : Nat) (xs : List Value) (hown : w.ownsRow base e size v n xs) (c : Nat) : (Builtin.append_ #[t, t] ty #[v, .slice none 0 c]).run P w = .ok v w := by
  rcases hown.2 with ⟨rfl, rfl⟩ | ⟨g, cap, cur, rfl, _, _, hnc, _⟩
  · simp [Builtin.append_, run_underlying ht, sizeOf, typeInfo, hi, Builtin.lenOf, Builtin.firstCells]
  · simp [Builtin.append_, run_underlying ht, sizeOf, typeInfo, hi, Builtin.lenOf, Builtin.firstCells, hnc, storeCells]

theorem run_append_any {t e : TypeId} {k bytes : Nat} (E : ElemOk P t e k bytes) (ty : TypeId) (base : Nat)
    (v : Value) (n : Nat) (xs : List Value) (hown : w.ownsRow base e k v n xs)
    (B : Nat) (A : Option Addr) (m c : Nat) (news : List Value) (hr : Reads w B k A m news) (h1 : ∀ u ∈ news, u.oneCell' = true)
    (h63 : n + m ≤ maxLen) (hbytes : (n + m) * bytes ≤ 140737488355328) (hbase : base ≤ w.heap.size) :
    ∃ v' w', (Builtin.append_ #[t, t] ty #[v, .slice A m c]).run P w = .ok v' w' ∧ w'.ownsRow base e k v' (n + m) (xs ++ news) ∧ w.grownBy w' v.ownBlock ∧
      (v' = .slice none 0 0 ↔ v = .slice none 0 0 ∧ m = 0) ∧ (v'.ownBlock = v.ownBlock ∨ v'.ownBlock = some w.heap.size) := by
  obtain ⟨i, z, hi, hz, hsize, hby, hzs⟩ := E.hi
  rcases Nat.eq_zero_or_pos m with hm | hm
  · subst hm
    have hn : news = [] := List.eq_nil_of_length_eq_zero (by simpa using hr.1)
    subst hn
    rcases A with _ | ad
    · exact ⟨v, w, run_append_of_nil w base t ty e i k E.ht hi v n xs hown c, by simpa using hown, World.grownBy.refl w _, by simp, .inl rfl⟩
    · exact run_append_own_at (P := P) w base t ty e i z k bytes E.ht hi hz hsize hby hzs E.hk v n xs hown ad 0 c [] (by simp) (by simp) h1 h63 hbytes hbase
  · obtain ⟨b, off, rfl, _, hc⟩ := hr.2 hm
    refine run_append_own_at (P := P) w base t ty e i z k bytes E.ht hi hz hsize hby hzs E.hk v n xs hown ⟨b, off, none⟩ m c news hr.1 (fun j u hu => ?_) h1 h63 hbytes hbase
    unfold Addr.add
    split
    · rename_i h0; subst h0; exact hc 0 u hu
    · exact hc j u hu

theorem wp_append_any {o : Oper} {a : Act} {K : Act → World → Prop} {Q : Exit → Act → World → Prop} {t e : TypeId} {k bytes : Nat} (E : ElemOk P t e k bytes) (s x : Operand)
    (ho : o.op = .call { callee := .builtin .append, args := #[s, x], argTypes := #[t, t] }) (base : Nat)
    (v : Value) (n : Nat) (xs : List Value) (hs : a.eval s = v) (hown : w.ownsRow base e k v n xs)
    (B : Nat) (A : Option Addr) (m c : Nat) (news : List Value) (hx : a.eval x = .slice A m c) (hr : Reads w B k A m news) (h1 : ∀ u ∈ news, u.oneCell' = true)
    (h63 : n + m ≤ maxLen) (hbytes : (n + m) * bytes ≤ 140737488355328) (hbase : base ≤ w.heap.size)
    (h : ∀ v' w', w'.ownsRow base e k v' (n + m) (xs ++ news) → w.grownBy w' v.ownBlock → (v' = .slice none 0 0 ↔ v = .slice none 0 0 ∧ m = 0) → (v'.ownBlock = v.ownBlock ∨ v'.ownBlock = some w.heap.size) → K (a.put o.dst v') w') : o.wp P a w K Q := by
  obtain ⟨v', w', hrun, h2, h3, h5, h4⟩ := run_append_any (P := P) w E o.type base v n xs hown B A m c news hr h1 h63 hbytes hbase
  unfold Oper.wp execOp
  simp only [ho, resolve, invoke, builtin, Sem.run_bind, Sem.run_pure, Result.andThen_ok, List.map_toArray, List.map_cons, List.map_nil, hs, hx, hrun]
  exact h v' w' h2 h3 h5 h4

/-- append onto a row of the call's own (or nil), the source nil, empty or not: at a list of operations -/
theorem wpList_append_any {ops : Array Oper} {rest : List Oper} {o : Oper} {a : Act} {Q : Exit → Act → World → Prop} {t e : TypeId} {k bytes : Nat} (E : ElemOk P t e k bytes) (hgd : o.guard = none) (s x : Operand)
    (ho : o.op = .call { callee := .builtin .append, args := #[s, x], argTypes := #[t, t] }) (base : Nat)
    (v : Value) (n : Nat) (xs : List Value) (hs : a.eval s = v) (hown : w.ownsRow base e k v n xs)
    (B : Nat) (A : Option Addr) (m c : Nat) (news : List Value) (hx : a.eval x = .slice A m c) (hr : Reads w B k A m news) (h1 : ∀ u ∈ news, u.oneCell' = true)
    (h63 : n + m ≤ maxLen) (hbytes : (n + m) * bytes ≤ 140737488355328) (hbase : base ≤ w.heap.size)
    (h : ∀ v' w', w'.ownsRow base e k v' (n + m) (xs ++ news) → w.grownBy w' v.ownBlock → (v' = .slice none 0 0 ↔ v = .slice none 0 0 ∧ m = 0) → (v'.ownBlock = v.ownBlock ∨ v'.ownBlock = some w.heap.size) → wpList P ops Q rest (a.put o.dst v') w') : wpList P ops Q (o :: rest) a w :=
  wpList_plain hgd fun _ hK => wp_append_any w E s x ho base v n xs hs hown B A m c news hx hr h1 h63 hbytes hbase fun v' w' h2 h3 h5 h4 => hK _ _ (h v' w' h2 h3 h5 h4)

/-- .. at a step of a region that draws its order -/
theorem step_append_any {ops : Array Oper} {o : Oper} {a : Act} {K : Act → World → Prop} {Q : Exit → Act → World → Prop} {R : Prop} {t e : TypeId} {k bytes : Nat} (E : ElemOk P t e k bytes) (hgd : o.guard = none) (s x : Operand)
    (ho : o.op = .call { callee := .builtin .append, args := #[s, x], argTypes := #[t, t] }) (base : Nat)
    (v : Value) (n : Nat) (xs : List Value) (hs : a.eval s = v) (hown : w.ownsRow base e k v n xs)
    (B : Nat) (A : Option Addr) (m c : Nat) (news : List Value) (hx : a.eval x = .slice A m c) (hr : Reads w B k A m news) (h1 : ∀ u ∈ news, u.oneCell' = true)
    (h63 : n + m ≤ maxLen) (hbytes : (n + m) * bytes ≤ 140737488355328) (hbase : base ≤ w.heap.size)
    (h : ∀ v' w', w'.ownsRow base e k v' (n + m) (xs ++ news) → w.grownBy w' v.ownBlock → (v' = .slice none 0 0 ↔ v = .slice none 0 0 ∧ m = 0) → (v'.ownBlock = v.ownBlock ∨ v'.ownBlock = some w.heap.size) → K (a.put o.dst v') w') :
    if Region.wanted o (yielded ops a.tmps) = true then Oper.wp P o a w K Q else R := by
  have hw : Region.wanted o (yielded ops a.tmps) = true := by simp [Region.wanted, hgd]
  rw [if_pos hw]
  exact wp_append_any w E s x ho base v n xs hs hown B A m c news hx hr h1 h63 hbytes hbase h
end

/-! ### worlds that have grown: all that was there is as it was -/

/-- w, so many draws on, with these blocks behind it -/
def gw (w : World) (d : Nat) (os : Array Obj) : World := { w with heap := w.heap ++ os, drawn := d }
structure GW where
  d : Nat
  os : Array Obj
  deriving Inhabited
theorem below_gw (w : World) (d : Nat) (os : Array Obj) : Below w.heap.size w (gw w d os) :=
  ⟨rfl, rfl, rfl, by simp [gw], fun k hk => by simp [gw, Array.getElem?_append, hk]⟩
theorem gw_of_below {w w' : World} (h : Below w.heap.size w w') : ∃ p : GW, w' = gw w p.d p.os := by
  refine ⟨⟨w'.drawn, w'.heap.extract w.heap.size w'.heap.size⟩, ?_⟩
  obtain ⟨hos, ht, ho, hs, hb⟩ := h
  obtain ⟨hp, tp, dr, o, out⟩ := w'
  simp only at hos ht ho hs hb
  subst hos ht ho
  have : hp = w.heap ++ hp.extract w.heap.size hp.size := by
    apply Array.ext_getElem?
    intro i
    rw [Array.getElem?_append]
    split
    · rename_i hi; exact hb i hi
    · rename_i hi
      rw [Array.getElem?_extract]
      rcases Nat.lt_or_ge i hp.size with h1 | h1
      · rw [if_pos (by omega)]
        congr 1; omega
      · rw [if_neg (by omega), Array.getElem?_eq_none h1]
  simp only [gw]
  rw [← this]
theorem cell_gw {w : World} {a : Addr} {v : Value} (hb : a.block < w.heap.size) (h : w.cell? a = some v) (d : Nat) (os : Array Obj) : (gw w d os).cell? a = some v := by
  rw [(below_gw w d os).cell hb]; exact h
theorem gw_gw (w : World) (d d' : Nat) (os os' : Array Obj) : gw (gw w d os) d' os' = gw w d' (os ++ os') := by simp [gw, Array.append_assoc]
theorem reads_gw {w : World} {k n : Nat} {A : Option Addr} {xs : List Value} (h : Reads w w.heap.size k A n xs) (d : Nat) (os : Array Obj) : Reads (gw w d os) w.heap.size k A n xs := h.below (below_gw w d os)
theorem size_gw (w : World) (d : Nat) (os : Array Obj) : w.heap.size ≤ (gw w d os).heap.size := (below_gw w d os).size

theorem lt_gw {w : World} {d n : Nat} {os : Array Obj} (h : n < w.heap.size) : n < (gw w d os).heap.size := Nat.lt_of_lt_of_le h (size_gw w d os)

/-- a region that draws its order, whose operations read what was there, and whose callees may lay blocks of their own: one walk of the text's order -/
theorem wp_region_gw {P : Program} {id : Nat} {Q : Exit → Act → World → Prop} {a : Act} {w : World} {l : List Oper} (hm : P.follows .mixedOrders = true) (hB : Region.lexB .any l.toArray = true)
    (h : wpQuiet P l.toArray (fun w' => ∃ p : GW, w' = gw w p.d p.os) (fun a' => ∀ w', (∃ p : GW, w' = gw w p.d p.os) → Q .normal a' w') l a) : (Code.region id l.toArray true).wp P Q a w :=
  wp_region_quiet (C := fun w' => ∃ p : GW, w' = gw w p.d p.os) hm hB ⟨⟨w.drawn + 1, #[]⟩, by simp [gw]⟩ (by simpa using h)
theorem calls_gw {P : Program} {f : FuncId} {args : Array Value} {w : World} {d : Nat} {os : Array Obj} {v : Value}
    (h : Calls P f args (gw w d os) fun e w' => e = .returned v ∧ Below (gw w d os).heap.size (gw w d os) w') : Calls P f args (gw w d os) fun e w'' => e = .returned v ∧ ∃ p : GW, w'' = gw w p.d p.os :=
  h.mono fun _ _ ⟨he, hb⟩ => ⟨he, gw_of_below (below_step (below_gw w d os) hb)⟩

end Go.Proofs.YtniogmefbjfoaaaGreat

namespace Go.Proofs.YtniogmefbjfoaaaGreat
set_option linter.unusedSimpArgs false
set_option linter.unusedVariables false
set_option linter.unusedSectionVars false
open Go.RowKit

/-- the number of blocks of a world, in the walk's own spelling -/
class Sz (w : World) (n : outParam Nat) : Prop where
  eq : w.heap.size = n
/-- block n is there -/
class InW (n : Nat) (w : World) : Prop where
  lt : n < w.heap.size
instance (priority := low) Sz.base (w : World) : Sz w w.heap.size := ⟨rfl⟩
instance Sz.alloc (w : World) (n : Nat) (o : Obj) [h : Sz w n] : Sz (w.alloc o) (n + 1) := ⟨by rw [World.size_alloc, h.eq]⟩
instance Sz.setCell (w : World) (n : Nat) (a : Addr) (v : Value) [h : Sz w n] : Sz (w.setCell a v) n := ⟨by rw [← h.eq]; simp⟩
instance Sz.drew (w : World) (n : Nat) [h : Sz w n] : Sz w.drew n := ⟨h.eq⟩
instance Sz.drewN (w : World) (n q : Nat) [h : Sz w n] : Sz (w.drewN q) n := ⟨h.eq⟩
instance InW.top (w : World) (n : Nat) (o : Obj) [h : Sz w n] : InW n (w.alloc o) := ⟨by rw [World.size_alloc, h.eq]; omega⟩
instance InW.alloc (w : World) (n : Nat) (o : Obj) [h : InW n w] : InW n (w.alloc o) := ⟨by rw [World.size_alloc]; have := h.lt; omega⟩
instance InW.gw (w : World) (n d : Nat) (os : Array Obj) [h : InW n w] : InW n (gw w d os) := ⟨lt_gw h.lt⟩
instance InW.setCell (w : World) (n : Nat) (a : Addr) (v : Value) [h : InW n w] : InW n (w.setCell a v) := ⟨by have := h.lt; simpa using this⟩
instance InW.drew (w : World) (n : Nat) [h : InW n w] : InW n w.drew := ⟨h.lt⟩
instance InW.drewN (w : World) (n q : Nat) [h : InW n w] : InW n (w.drewN q) := ⟨h.lt⟩

@[go_sem] theorem inW_lt (n : Nat) (w : World) [h : InW n w] : (n < w.heap.size) = True := eq_true h.lt
@[go_sem] theorem cell?_gw (w : World) (d : Nat) (os : Array Obj) (n i : Nat) [hn : InW n w] : (gw w d os).cell? ⟨n, i, none⟩ = w.cell? ⟨n, i, none⟩ := (below_gw w d os).cell (p := ⟨n, i, none⟩) hn.lt
@[go_sem] theorem frozen?_gw (w : World) (d : Nat) (os : Array Obj) (n i : Nat) [hn : InW n w] : (gw w d os).frozen? ⟨n, i, none⟩ = w.frozen? ⟨n, i, none⟩ := (below_gw w d os).frozen (p := ⟨n, i, none⟩) hn.lt
@[go_sem] theorem setCell_gw (w : World) (d : Nat) (os : Array Obj) (n i : Nat) (v : Value) [hn : InW n w] : (gw w d os).setCell ⟨n, i, none⟩ v = gw (w.setCell ⟨n, i, none⟩ v) d os := by
  have hn := hn.lt
  unfold World.setCell gw
  congr 1
  apply Array.ext_getElem?
  intro k
  simp only [Array.getElem?_modify, Array.getElem?_append, Array.size_modify]
  by_cases hk : k < w.heap.size
  · simp [hk]
  · simp [hk]; omega
@[go_sem] theorem cell?_al (w : World) (o : Obj) (n i : Nat) [hn : InW n w] : (w.alloc o).cell? ⟨n, i, none⟩ = w.cell? ⟨n, i, none⟩ := World.cell?_alloc_past o n i hn.lt
@[go_sem] theorem frozen?_al (w : World) (o : Obj) (n i : Nat) [hn : InW n w] : (w.alloc o).frozen? ⟨n, i, none⟩ = w.frozen? ⟨n, i, none⟩ := World.frozen?_alloc_past o n i hn.lt
@[go_sem] theorem setCell_al (w : World) (o : Obj) (n i : Nat) (v : Value) [hn : InW n w] : (w.alloc o).setCell ⟨n, i, none⟩ v = (w.setCell ⟨n, i, none⟩ v).alloc o := World.setCell_alloc_past o n i v hn.lt
@[go_sem] theorem cell?_at (w : World) (c : Array Value) (t : TypeId) (n i : Nat) [hn : Sz w n] : (w.alloc (.cells c t)).cell? ⟨n, i, none⟩ = c[i]? := World.cell?_alloc_at c t n i hn.eq.symm
@[go_sem] theorem frozen?_at (w : World) (c : Array Value) (t : TypeId) (n i : Nat) [hn : Sz w n] : (w.alloc (.cells c t)).frozen? ⟨n, i, none⟩ = false := World.frozen?_alloc_at c t n i hn.eq.symm
@[go_sem] theorem setCell_at (w : World) (c : Array Value) (t : TypeId) (n i : Nat) (v : Value) [hn : Sz w n] : (w.alloc (.cells c t)).setCell ⟨n, i, none⟩ v = w.alloc (.cells (c.setIfInBounds i v) t) := World.setCell_alloc_at c t n i v hn.eq.symm
@[go_sem] theorem gw_drew (w : World) (d : Nat) (os : Array Obj) : (gw w d os).drew = gw w (d + 1) os := rfl

theorem bel_al {a w : World} (h : Below a.heap.size a w) (o : Obj) : Below a.heap.size a (w.alloc o) := h.alloc h.size o
theorem bel_gw {a w : World} (h : Below a.heap.size a w) (d : Nat) (os : Array Obj) : Below a.heap.size a (gw w d os) := below_step h (below_gw w d os)
theorem bel_drew {a w : World} (h : Below a.heap.size a w) : Below a.heap.size a w.drew := h.drew
theorem bel_drewN {a w : World} (h : Below a.heap.size a w) (n : Nat) : Below a.heap.size a (w.drewN n) := below_drewN h n
/-- a row that lies behind, while blocks ahead of it are written -/
theorem own_swap {W W' : World} {d d' : Nat} {os : Array Obj} {base : Nat} {e : TypeId} {k n : Nat} {v : Value} {xs : List Value} (h : (gw W d os).ownsRow base e k v n xs) (hs : W'.heap.size = W.heap.size) (hb : W.heap.size ≤ base) : (gw W' d' os).ownsRow base e k v n xs := by
  refine ⟨h.1, h.2.imp id ?_⟩
  rintro ⟨g, cap, cur, rfl, hbase, hg, h1⟩
  refine ⟨g, cap, cur, rfl, hbase, ?_, h1⟩
  rw [← hg]
  simp only [gw, Array.getElem?_append, hs]
  rw [if_neg (by omega), if_neg (by omega)]
theorem gw_more {W w' : World} {d : Nat} {os : Array Obj} (h : Below (gw W d os).heap.size (gw W d os) w') : ∃ p : GW, w' = gw W p.d p.os := by
  obtain ⟨⟨d', os'⟩, rfl⟩ := gw_of_below h
  exact ⟨⟨d', os ++ os'⟩, gw_gw _ _ _ _ _⟩
theorem gw_more1 {W w' : World} {d : Nat} {os : Array Obj} {o : Obj} (h : Below ((gw W d os).alloc o).heap.size ((gw W d os).alloc o) w') : ∃ p : GW, w' = gw W p.d p.os := gw_of_below (below_step (bel_al (below_gw W d os) o) h)
end Go.Proofs.YtniogmefbjfoaaaGreat

namespace Go.Proofs.YtniogmefbjfoaaaGreat
set_option linter.unusedSimpArgs false
set_option linter.unusedVariables false
set_option linter.unusedSectionVars false
open Go.RowKit

def bcs (l : List Int) : List Value := l.map (Value.int .u8)
theorem bcs_len (l : List Int) : (bcs l).length = l.length * 1 := by simp [bcs]
theorem bcs_app (l m : List Int) : bcs (l ++ m) = bcs l ++ bcs m := List.map_append
theorem bcs_one (l : List Int) : ∀ u ∈ bcs l, u.oneCell' = true := by
  intro u hu
  obtain ⟨p, _, rfl⟩ := List.mem_map.1 hu
  rfl
theorem bcs_take (l : List Int) (n : Nat) : (bcs l).take (n * 1) = bcs (l.take n) := by rw [Nat.mul_one, bcs, ← List.map_take]; rfl
theorem bcs_drop (l : List Int) (n : Nat) : (bcs l).drop (n * 1) = bcs (l.drop n) := by rw [Nat.mul_one, bcs, ← List.map_drop]; rfl
theorem bcs_inj {l m : List Int} (h : bcs l = bcs m) : l = m := by
  induction l generalizing m with
  | nil => cases m with
    | nil => rfl
    | cons y m => simp [bcs] at h
  | cons x l ih => cases m with
    | nil => simp [bcs] at h
    | cons y m =>
      simp only [bcs, List.map_cons, List.cons.injEq, Value.int.injEq, true_and] at h
      rw [h.1, ih h.2]
theorem Reads.atB {w : World} {B : Nat} {A : Option Addr} {n k : Nat} {xs : List Int} (h : Reads w B 1 A n (bcs xs)) (hk : k < n) :
    ∃ b off x, A = some ⟨b, off, none⟩ ∧ b < B ∧ xs[k]? = some x ∧ w.cell? ⟨b, off + k, none⟩ = some (.int .u8 x) := by
  obtain ⟨b, off, rfl, hb, hc⟩ := h.2 (by omega)
  have hl : k < xs.length := by have := h.1; rw [bcs_len] at this; omega
  exact ⟨b, off, xs[k], rfl, hb, List.getElem?_eq_getElem hl, hc k _ (by simp [bcs, hl])⟩
/-- bytes fit -/
def bOK (l : List Int) : Prop := ∀ b ∈ l, 0 ≤ b ∧ b < 256
theorem bOK.app {l m : List Int} (h : bOK l) (k : bOK m) : bOK (l ++ m) := fun b hb => (List.mem_append.1 hb).elim (h b) (k b)
theorem bOK.drop {l : List Int} (h : bOK l) (n : Nat) : bOK (l.drop n) := fun b hb => h b (List.mem_of_mem_drop hb)
theorem bOK.get {l : List Int} (h : bOK l) {k : Nat} {x : Int} (hx : l[k]? = some x) : 0 ≤ x ∧ x < 256 := h x (List.mem_of_getElem? hx)
theorem bOK.nil : bOK [] := fun b hb => by simp at hb

/-! ### short numbers -/
def uintF : Nat → Int → List Int
  | 0, x => [x]
  | f + 1, x => if x < 128 then [x] else (x % 128 + 128) :: uintF f (x / 128)
/-- a number's bytes, seven bits each, the lowest first -/
def uintB (x : Int) : List Int := uintF 9 x
/-- reading on at place i, with x read so far: the number and how many bytes it has; none: 0 bytes -/
def numGo : Nat → Int → List Int → Int × Nat
  | _, _, [] => (0, 0)
  | i, x, c :: cs =>
    if i = 9 ∧ 1 < c then (0, 0)
    else if c < 128 then (if c = 0 ∧ 0 < i then (0, 0) else (x + c % 128 * 128 ^ i, i + 1))
    else numGo (i + 1) (x + c % 128 * 128 ^ i) cs
theorem uintF_pos (f : Nat) (x : Int) : 0 < (uintF f x).length := by
  cases f with
  | zero => simp [uintF]
  | succ f => rw [uintF]; split <;> simp
theorem uintF_len : ∀ (f : Nat) (x : Int), (uintF f x).length ≤ f + 1 := by
  intro f
  induction f with
  | zero => intro x; simp [uintF]
  | succ f ih => intro x; rw [uintF]; split <;> simp; exact ih _
theorem uintB_pos (x : Int) : 0 < (uintB x).length := uintF_pos 9 x
theorem uintB_len (x : Int) : (uintB x).length ≤ 10 := uintF_len 9 x
theorem div_lt_pow {x : Int} {f : Nat} (h : x < 128 ^ (f + 1) * 2) : x / 128 < 128 ^ f * 2 := by
  rw [Int.pow_succ] at h
  generalize (128 : Int) ^ f = p at h ⊢
  omega
theorem uintF_ok : ∀ (f : Nat) (x : Int), 0 ≤ x → x < 128 ^ f * 2 → bOK (uintF f x) := by
  intro f
  induction f with
  | zero => intro x h0 h b hb; simp [uintF] at hb; subst hb; simp at h; omega
  | succ f ih =>
    intro x h0 h b hb
    rw [uintF] at hb
    split at hb
    · simp at hb; omega
    · rcases List.mem_cons.1 hb with rfl | hb
      · omega
      · exact ih (x / 128) (by omega) (div_lt_pow h) b hb
theorem uintB_ok (x : Int) (h0 : 0 ≤ x) (h : x ≤ 18446744073709551615) : bOK (uintB x) := uintF_ok 9 x h0 (by omega)
theorem numGo_uintF : ∀ (f i : Nat) (x y : Int) (rest : List Int), i + f = 9 → 0 ≤ y → y < 128 ^ f * 2 → (0 < i → 0 < y) → numGo i x (uintF f y ++ rest) = (x + y * 128 ^ i, i + (uintF f y).length) := by
  intro f
  induction f with
  | zero =>
    intro i x y rest hi hy0 hy h0
    simp at hy
    simp only [uintF, List.cons_append, numGo]
    rw [if_neg (by omega), if_pos (by omega), if_neg (by intro h; have := h0 h.2; omega)]
    rw [Int.emod_eq_of_lt hy0 (by omega)]
    rfl
  | succ f ih =>
    intro i x y rest hi hy0 hy h0
    rw [uintF]
    by_cases h : y < 128
    · rw [if_pos h]
      simp only [List.cons_append, numGo]
      rw [if_neg (by omega), if_pos h, if_neg (by intro h'; have := h0 h'.2; omega), Int.emod_eq_of_lt hy0 h]
      rfl
    · rw [if_neg h]
      simp only [List.cons_append, numGo]
      rw [if_neg (by omega), if_neg (by omega), ih (i + 1) _ (y / 128) rest (by omega) (by omega) (div_lt_pow hy) (by omega)]
      refine Prod.ext ?_ ?_
      · show x + (y % 128 + 128) % 128 * 128 ^ i + y / 128 * 128 ^ (i + 1) = x + y * 128 ^ i
        have e1 : (y % 128 + 128) % 128 = y % 128 := by omega
        have e2 : y * 128 ^ i = y % 128 * 128 ^ i + y / 128 * 128 ^ (i + 1) := by
          rw [Int.pow_succ, Int.mul_comm (128 ^ i) 128, ← Int.mul_assoc, ← Int.add_mul]
          congr 1; omega
        rw [e1, e2]; omega
      · show i + 1 + _ = i + _
        simp; omega
theorem numGo_uintB (y : Int) (rest : List Int) (h0 : 0 ≤ y) (h : y ≤ 18446744073709551615) : numGo 0 0 (uintB y ++ rest) = (y, (uintB y).length) := by
  have := numGo_uintF 9 0 0 y rest rfl h0 (by omega) (by omega)
  simpa [uintB] using this
/-- what is read has at most that many bytes -/
theorem numGo_le : ∀ (bs : List Int) (i : Nat) (x : Int), (numGo i x bs).2 ≤ i + bs.length := by
  intro bs
  induction bs with
  | nil => intro i x; simp [numGo]
  | cons c cs ih =>
    intro i x
    rw [numGo]
    split
    · simp
    · split
      · split
        · simp
        · simp <;> omega
      · have := ih (i + 1) (x + c % 128 * 128 ^ i)
        simp <;> omega

end Go.Proofs.YtniogmefbjfoaaaGreat
