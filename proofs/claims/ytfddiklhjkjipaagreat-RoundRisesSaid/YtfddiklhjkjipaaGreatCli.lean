/-
  Clients of a registry in memory: words, loads, stores, equality.
-/
import Derived.Test.YtfddiklhjkjipaaGreatCmp
import Derived.Test.YtfddiklhjkjipaaGreatOpen
namespace Go.Proofs.YtfddiklhjkjipaaGreat
set_option linter.unusedSimpArgs false
set_option linter.unusedVariables false
set_option linter.unusedSectionVars false
open Go.RowKit Go.Sort Go.Lib

/-- a client: its life, its numbers, whether it is gone -/
structure Cl where
  n : Int
  i : Int
  cid : Int
  rnd : Int
  heard : Int
  gone : Bool
  deriving Inhabited, DecidableEq
def cc (c : Cl) : List Value := [.int .i64 c.n, .int .u64 c.i, .int .u64 c.cid, .int .u64 c.rnd, .int .u64 c.heard, .bool c.gone]
def ccs (l : List Cl) : List Value := l.flatMap cc
theorem cc_len (c : Cl) : (cc c).length = 6 := rfl
theorem cc_one (l : List Cl) : ∀ u ∈ ccs l, u.oneCell' = true := by
  intro u hu
  obtain ⟨p, _, hp⟩ := List.mem_flatMap.1 hu
  simp [cc] at hp
  rcases hp with rfl | rfl | rfl | rfl | rfl | rfl <;> rfl
theorem ccs_app (l m : List Cl) : ccs (l ++ m) = ccs l ++ ccs m := List.flatMap_append
theorem ccs_len (l : List Cl) : (ccs l).length = l.length * 6 := flat_length cc_len l
theorem ccs_get {l : List Cl} {i : Nat} {x : Cl} (h : l[i]? = some x) (j : Nat) (hj : j < 6) : (ccs l)[i * 6 + j]? = (cc x)[j]? := flat_get cc_len l i j x h hj
/-- the six cells of a client at an address -/
structure AtC (w : World) (b o : Nat) (x : Cl) : Prop where
  h0 : w.cell? ⟨b, o, none⟩ = some (.int .i64 x.n)
  h1 : w.cell? ⟨b, o + 1, none⟩ = some (.int .u64 x.i)
  h2 : w.cell? ⟨b, o + 2, none⟩ = some (.int .u64 x.cid)
  h3 : w.cell? ⟨b, o + 3, none⟩ = some (.int .u64 x.rnd)
  h4 : w.cell? ⟨b, o + 4, none⟩ = some (.int .u64 x.heard)
  h5 : w.cell? ⟨b, o + 5, none⟩ = some (.bool x.gone)
theorem Reads.atC {w : World} {B : Nat} {A : Option Addr} {n k : Nat} {l : List Cl} (h : Reads w B 6 A n (ccs l)) (hk : k < n) :
    ∃ b off x, A = some ⟨b, off, none⟩ ∧ b < B ∧ l[k]? = some x ∧ AtC w b (off + k * 6) x := by
  obtain ⟨b, off, rfl, hb, hc⟩ := h.2 (by omega)
  have hl : k < l.length := by have := h.1; rw [ccs_len] at this; omega
  have hp : l[k]? = some l[k] := List.getElem?_eq_getElem hl
  have key : ∀ j (hj : j < 6), w.cell? ⟨b, off + k * 6 + j, none⟩ = (cc l[k])[j]? := by
    intro j hj
    have hx : (cc l[k])[j]? = some ((cc l[k])[j]'(by rw [cc_len]; exact hj)) := List.getElem?_eq_getElem _
    rw [Nat.add_assoc, hx]
    exact hc (k * 6 + j) _ (by rw [ccs_get hp j hj, hx])
  exact ⟨b, off, l[k], rfl, hb, hp, key 0 (by omega), key 1 (by omega), key 2 (by omega), key 3 (by omega), key 4 (by omega), key 5 (by omega)⟩
def Cll (w : World) (A : Option Addr) (l : List Cl) : Prop := Reads w w.heap.size 6 A l.length (ccs l)
theorem Cll.step {w w' : World} {A : Option Addr} {l : List Cl} (h : Cll w A l) (hb : Below w.heap.size w w') : Cll w' A l := (Reads.below h hb).more hb.size
abbrev OwnC (w : World) (base : Nat) (v : Value) (l : List Cl) : Prop := w.ownsRow base 48 6 v l.length (ccs l)
theorem Tryz.okC : ElemOk Tryz.prog 28 48 6 48 := elemOk_of (.agg #[.int .i64 0, .int .u64 0, .int .u64 0, .int .u64 0, .int .u64 0, .bool false]) Tryz.underlying28 (by kernel_rfl) rfl (by omega)

/-! ### '==' on clients -/
theorem Tryz.stoodC : Tryz.prog.stoodInHeld 48 = false := by kernel_rfl
theorem Tryz.guardC : Tryz.prog.eqGuardType Tryz.prog.depth 48 = false := by kernel_rfl
theorem Tryz.stoodC0 : Tryz.prog.stoodInHeld 25 = false := by kernel_rfl
def eqC (x y : Cl) : Bool := decide (x = y)
set_option maxHeartbeats 2000000 in
theorem equalInC (a b c d e a' b' c' d' e' : Int) (f f' : Bool) (w : World) : (Op.equalIn 10000 48 (.agg #[.int .i64 a, .int .u64 b, .int .u64 c, .int .u64 d, .int .u64 e, .bool f]) (.agg #[.int .i64 a', .int .u64 b', .int .u64 c', .int .u64 d', .int .u64 e', .bool f'])).run Tryz.prog w = .ok (eqC ⟨a, b, c, d, e, f⟩ ⟨a', b', c', d', e', f'⟩) w := by
  have hu := Tryz.underlying48
  have hs := Tryz.stoodC
  have hs0 := Tryz.stoodC0
  unfold eqC
  by_cases h1 : a = a'
  · by_cases h2 : b = b'
    · by_cases h3 : c = c'
      · by_cases h4 : d = d'
        · by_cases h5 : e = e'
          · by_cases h6 : f = f'
            · simp [go_sem, hs, hs0, h1, h2, h3, h4, h5, h6]
            · simp [go_sem, hs, hs0, h1, h2, h3, h4, h5, h6]
          · simp [go_sem, hs, hs0, h1, h2, h3, h4, h5]
        · simp [go_sem, hs, hs0, h1, h2, h3, h4]
      · simp [go_sem, hs, hs0, h1, h2, h3]
    · simp [go_sem, hs, hs0, h1, h2]
  · simp [go_sem, hs, hs0, h1]
@[go_sem ↓] theorem eqlC (a b c d e a' b' c' d' e' : Int) (f f' : Bool) (w : World) : (binOp .eql 48 (.agg #[.int .i64 a, .int .u64 b, .int .u64 c, .int .u64 d, .int .u64 e, .bool f]) (.agg #[.int .i64 a', .int .u64 b', .int .u64 c', .int .u64 d', .int .u64 e', .bool f'])).run Tryz.prog w = .ok (.bool (eqC ⟨a, b, c, d, e, f⟩ ⟨a', b', c', d', e', f'⟩)) w := by
  rw [run_eql_struct, equalInC]; rfl
@[go_sem ↓] theorem neqC (a b c d e a' b' c' d' e' : Int) (f f' : Bool) (w : World) : (binOp .neq 48 (.agg #[.int .i64 a, .int .u64 b, .int .u64 c, .int .u64 d, .int .u64 e, .bool f]) (.agg #[.int .i64 a', .int .u64 b', .int .u64 c', .int .u64 d', .int .u64 e', .bool f'])).run Tryz.prog w = .ok (.bool (!eqC ⟨a, b, c, d, e, f⟩ ⟨a', b', c', d', e', f'⟩)) w := by
  rw [run_neq_struct, equalInC]; rfl
@[go_sem ↓] theorem eqGuardC (op : BinOp) (x y : Operand) (xs ys : Array Value) (w : World) : (eqGuard op 48 x y (.agg xs) (.agg ys)).run Tryz.prog w = .ok () w := run_eqGuard_agg w op _ x y xs ys Tryz.guardC

end Go.Proofs.YtfddiklhjkjipaaGreat
