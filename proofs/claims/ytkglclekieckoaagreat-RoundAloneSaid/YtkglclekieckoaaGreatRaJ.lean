/-
  RoundAlone: what holds while the region of Renew's call runs, in whatever order.
-/
import Derived.Test.YtkglclekieckoaaGreatAw8
import Derived.Test.YtkglclekieckoaaGreatMn3
import Derived.Test.YtkglclekieckoaaGreatRi
namespace Go.Proofs.YtkglclekieckoaaGreat
set_option linter.unusedSimpArgs false
set_option linter.unusedVariables false
set_option linter.unusedSectionVars false
open Go.RowKit

theorem grRowA {C : List Nat} (X : World) {m : Nat} (cs : Array Value) (h : m ∈ C) : Gr C X (X.setRow m cs) := ⟨rfl, rfl, rfl, by rw [setRow_size]; exact Nat.le_refl _, fun j _ hc => setRow_other _ _ _ _ (fun e => hc (by rw [e]; exact h))⟩
abbrev raC (node cid seen : Int) : Cl := ⟨node, 1, cid, seen, 0, false⟩
abbrev raR (node cid seen : Int) : Ag × Tu := renewP (newA 2 3) [(2, 3)] [raC node cid seen]
/-- what an operation has left -/
def RF (B : Nat) (D : List Nat) (node cid seen : Int) (j : Nat) (T : Array Value) (W : World) : Prop := match j with
  | 0 => T[29]? = some (.agg #[.int .i64 2, .int .u64 3])
  | 1 => ∃ a : Ag, T[30]? = some a.v ∧ a.br = newA 2 3 ∧ @Ag.Ok (avo D) W a
  | 2 => T[31]? = some (.agg #[.int .i64 2, .int .u64 3])
  | 3 => ∃ k, T[32]? = some (.slice (some ⟨k, 0, none⟩) 1 1) ∧ BoxAt W k #[.int .i64 2, .int .u64 3] 25
  | 4 => T[33]? = some (.int .i64 node)
  | 5 => T[34]? = some (.agg #[.int .i64 node, .int .u64 1])
  | 6 => T[35]? = some (.int .u64 cid)
  | 7 => T[36]? = some (.int .u64 seen)
  | 8 => T[37]? = some (.agg #[.int .i64 node, .int .u64 1, .int .u64 cid, .int .u64 seen, .int .u64 0, .bool false])
  | 9 => ∃ k, T[38]? = some (.slice (some ⟨k, 0, none⟩) 1 1) ∧ BoxAt W k #[.int .i64 node, .int .u64 1, .int .u64 cid, .int .u64 seen, .int .u64 0, .bool false] 48
  | 10 => ∃ k, T[39]? = some (.agg #[.slice (some ⟨k, 0, none⟩) 1 1]) ∧ BoxAt W k #[.int .i64 node, .int .u64 1, .int .u64 cid, .int .u64 seen, .int .u64 0, .bool false] 48
  | 11 => ∃ (b : Ag) (u : Tu), T[40]? = some (.tuple #[b.v, u.v]) ∧ b.br = (raR node cid seen).1 ∧ u.br = (raR node cid seen).2 ∧ @Tu.Ok (avo D) W u
  | 12 => ∃ (b : Ag) (u : Tu), T[28]? = some (.tuple #[b.v, u.v]) ∧ b.br = (raR node cid seen).1 ∧ u.br = (raR node cid seen).2 ∧ @Tu.Ok (avo D) W u
  | 13 => ∃ b : Ag, T[41]? = some b.v ∧ b.br = (raR node cid seen).1
  | 14 => ∃ u : Tu, T[42]? = some u.v ∧ u.br = (raR node cid seen).2 ∧ @Tu.Ok (avo D) W u
  | 15 => ∃ n cs, T[8]? = some (.pointer (some ⟨n, 0, none⟩)) ∧ B ≤ n ∧ n ∈ D ∧ BoxAt W n cs 38 ∧ cs.size = 14
  | 16 => ∃ n cs, T[9]? = some (.pointer (some ⟨n, 0, none⟩)) ∧ B ≤ n ∧ n ∈ D ∧ BoxAt W n cs 43 ∧ cs.size = 14
  | 17 => ∃ (n : Nat) (b : Ag), T[8]? = some (.pointer (some ⟨n, 0, none⟩)) ∧ B ≤ n ∧ n ∈ D ∧ BoxAt W n b.cs 38 ∧ b.br = (raR node cid seen).1
  | 18 => ∃ (n : Nat) (u : Tu), T[9]? = some (.pointer (some ⟨n, 0, none⟩)) ∧ B ≤ n ∧ n ∈ D ∧ BoxAt W n u.cs 43 ∧ u.br = (raR node cid seen).2 ∧ @Tu.Ok (avo D) W u
  | _ => True
/-- the slots that it reads -/
def rslot (j : Nat) : Nat := match j with
  | 0 => 29 | 1 => 30 | 2 => 31 | 3 => 32 | 4 => 33 | 5 => 34 | 6 => 35 | 7 => 36 | 8 => 37 | 9 => 38 | 10 => 39 | 11 => 40 | 12 => 28 | 13 => 41 | 14 => 42 | 15 => 8 | 16 => 9 | 17 => 8 | 18 => 9 | _ => 1000
theorem RF.put {B : Nat} {D D' : List Nat} {node cid seen : Int} {j d : Nat} {T : Array Value} {W W' : World} {v : Value} (h : RF B D node cid seen j T W) (hd : d ≠ rslot j) (hb : Below W.heap.size W W') (ht : Tr D D' W W') (hs : ∀ i ∈ D, i ∈ D') : RF B D' node cid seen j (T.setIfInBounds d v) W' := by
  have hT : ∀ k, k = rslot j → (T.setIfInBounds d v)[k]? = T[k]? := fun k hk => Array.getElem?_setIfInBounds_ne (by rw [hk]; exact hd)
  have hx : ∀ n cs t, BoxAt W n cs t → BoxAt W' n cs t := fun n cs t k => ⟨by rw [hb.block n k.lt]; exact k.eq⟩
  match j, h, hT with
  | 0, h, hT => exact (hT 29 rfl).trans h
  | 1, ⟨a, h1, h2, h3⟩, hT => exact ⟨a, (hT 30 rfl).trans h1, h2, h3.over ht⟩
  | 2, h, hT => exact (hT 31 rfl).trans h
  | 3, ⟨k, h1, h2⟩, hT => exact ⟨k, (hT 32 rfl).trans h1, hx _ _ _ h2⟩
  | 4, h, hT => exact (hT 33 rfl).trans h
  | 5, h, hT => exact (hT 34 rfl).trans h
  | 6, h, hT => exact (hT 35 rfl).trans h
  | 7, h, hT => exact (hT 36 rfl).trans h
  | 8, h, hT => exact (hT 37 rfl).trans h
  | 9, ⟨k, h1, h2⟩, hT => exact ⟨k, (hT 38 rfl).trans h1, hx _ _ _ h2⟩
  | 10, ⟨k, h1, h2⟩, hT => exact ⟨k, (hT 39 rfl).trans h1, hx _ _ _ h2⟩
  | 11, ⟨b, u, h1, h2, h3, h4⟩, hT => exact ⟨b, u, (hT 40 rfl).trans h1, h2, h3, h4.over ht⟩
  | 12, ⟨b, u, h1, h2, h3, h4⟩, hT => exact ⟨b, u, (hT 28 rfl).trans h1, h2, h3, h4.over ht⟩
  | 13, ⟨b, h1, h2⟩, hT => exact ⟨b, (hT 41 rfl).trans h1, h2⟩
  | 14, ⟨u, h1, h2, h3⟩, hT => exact ⟨u, (hT 42 rfl).trans h1, h2, h3.over ht⟩
  | 15, ⟨n, cs, h1, h2, hn, h3, h4⟩, hT => exact ⟨n, cs, (hT 8 rfl).trans h1, h2, hs n hn, hx _ _ _ h3, h4⟩
  | 16, ⟨n, cs, h1, h2, hn, h3, h4⟩, hT => exact ⟨n, cs, (hT 9 rfl).trans h1, h2, hs n hn, hx _ _ _ h3, h4⟩
  | 17, ⟨n, b, h1, h2, hn, h3, h4⟩, hT => exact ⟨n, b, (hT 8 rfl).trans h1, h2, hs n hn, hx _ _ _ h3, h4⟩
  | 18, ⟨n, u, h1, h2, hn, h3, h4, h5⟩, hT => exact ⟨n, u, (hT 9 rfl).trans h1, h2, hs n hn, hx _ _ _ h3, h4, h5.over ht⟩
  | k + 19, _, _ => trivial
/-- a variable of the region's own is written -/
theorem RF.row {B : Nat} {D : List Nat} {node cid seen : Int} {j m : Nat} {T : Array Value} {W : World} {cs : Array Value} {t : TypeId} {new : Array Value} (h : RF B D node cid seen j T W) (hmD : m ∈ D) (hbm : BoxAt W m cs t) (ht : t = 38 ∧ j ≠ 15 ∧ j ≠ 17 ∨ t = 43 ∧ j ≠ 16 ∧ j ≠ 18) : RF B D node cid seen j T (W.setRow m new) := by
  have hx : ∀ n cs' t', BoxAt W n cs' t' → t' ≠ t → BoxAt (W.setRow m new) n cs' t' := fun n cs' t' k e => ⟨by
    rw [setRow_other _ _ _ _ (fun e' => e (by
      have h1 := k.eq
      rw [e', hbm.eq] at h1
      injection h1 with h1
      injection h1 with _ h1
      exact h1.symm))]
    exact k.eq⟩
  have htr : Tr D D W (W.setRow m new) := .of (grRowA W new hmD)
  have tP : (25 : TypeId) ≠ t := by rcases ht with ⟨e, _⟩ | ⟨e, _⟩ <;> subst e <;> decide
  have tC : (48 : TypeId) ≠ t := by rcases ht with ⟨e, _⟩ | ⟨e, _⟩ <;> subst e <;> decide
  match j, h, ht with
  | 0, h, _ => exact h
  | 1, ⟨a, h1, h2, h3⟩, _ => exact ⟨a, h1, h2, h3.over htr⟩
  | 2, h, _ => exact h
  | 3, ⟨k, h1, h2⟩, _ => exact ⟨k, h1, hx _ _ _ h2 tP⟩
  | 4, h, _ => exact h
  | 5, h, _ => exact h
  | 6, h, _ => exact h
  | 7, h, _ => exact h
  | 8, h, _ => exact h
  | 9, ⟨k, h1, h2⟩, _ => exact ⟨k, h1, hx _ _ _ h2 tC⟩
  | 10, ⟨k, h1, h2⟩, _ => exact ⟨k, h1, hx _ _ _ h2 tC⟩
  | 11, ⟨b, u, h1, h2, h3, h4⟩, _ => exact ⟨b, u, h1, h2, h3, h4.over htr⟩
  | 12, ⟨b, u, h1, h2, h3, h4⟩, _ => exact ⟨b, u, h1, h2, h3, h4.over htr⟩
  | 13, h, _ => exact h
  | 14, ⟨u, h1, h2, h3⟩, _ => exact ⟨u, h1, h2, h3.over htr⟩
  | 15, ⟨n, cs, h1, h2, hn, h3, h4⟩, ht =>
    rcases ht with ⟨_, e, _⟩ | ⟨e, _⟩
    · exact absurd rfl e
    · exact ⟨n, cs, h1, h2, hn, hx _ _ _ h3 (by rw [e]; decide), h4⟩
  | 16, ⟨n, cs, h1, h2, hn, h3, h4⟩, ht =>
    rcases ht with ⟨e, _⟩ | ⟨_, e, _⟩
    · exact ⟨n, cs, h1, h2, hn, hx _ _ _ h3 (by rw [e]; decide), h4⟩
    · exact absurd rfl e
  | 17, ⟨n, b, h1, h2, hn, h3, h4⟩, ht =>
    rcases ht with ⟨_, _, e⟩ | ⟨e, _⟩
    · exact absurd rfl e
    · exact ⟨n, b, h1, h2, hn, hx _ _ _ h3 (by rw [e]; decide), h4⟩
  | 18, ⟨n, u, h1, h2, hn, h3, h4, h5⟩, ht =>
    rcases ht with ⟨e, _⟩ | ⟨_, _, e⟩
    · exact ⟨n, u, h1, h2, hn, hx _ _ _ h3 (by rw [e]; decide), h4, h5.over htr⟩
    · exact absurd rfl e
  | k + 19, _, _ => trivial
/-- while the region runs -/
structure RJ (w : World) (g : Nat) (T0 : Array Value) (node cid seen : Int) (D : List Nat) (L : Array Bool) (a : Act) (W : World) : Prop where
  ls : L.size = 19
  sz : a.tmps.size = 92
  df : a.defers = []
  keep : ∀ j, j ≠ 8 → j ≠ 9 → (j < 28 ∨ 42 < j) → a.tmps[j]? = T0[j]?
  bx : BoxAt W g #[.int .i64 2, .int .u64 3] 25
  bel : Below w.heap.size w W
  dl : ∀ i ∈ D, i < W.heap.size
  o17 : L.getD 17 false = true → L.getD 15 false = true
  o18 : L.getD 18 false = true → L.getD 16 false = true
  f : ∀ j, L.getD j false = true → RF w.heap.size D node cid seen j a.tmps W
end Go.Proofs.YtkglclekieckoaaGreat
