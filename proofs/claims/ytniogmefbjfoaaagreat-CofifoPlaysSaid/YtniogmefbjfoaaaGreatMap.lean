/-
  Maps whose elements read as themselves: what lies at each key. Contracts of the operations on them, for walks and for regions that draw their order.
-/
import Derived.Test.YtniogmefbjfoaaaGreatBase
import Derived.Maps.OwnSet
import Derived.StillTailTactics
namespace Go.Proofs.YtniogmefbjfoaaaGreat
set_option linter.unusedSimpArgs false
set_option linter.unusedVariables false
set_option linter.unusedSectionVars false
open Go.RowKit Go.Maps

/-- a region whose operations but the last ones only read, in a world with a name -/
theorem wp_still_w {P : Program} {id : Nat} {Q : Exit → Act → World → Prop} {a : Act} {w : World} {l : List Oper} (n : Nat) (hm : P.follows .mixedOrders = true) (hB : Region.lexTailB .any l.toArray n = true) (W : World) (hw : W = w.drew)
    (h : wpStill P l.toArray W (fun a' => wpList P l.toArray Q (l.drop n) a' W) (l.take n) a) : (Code.region id l.toArray true).wp P Q a w := by
  subst hw; exact wp_region_still_tail n hm hB h
/-- an element reads as itself -/
def heldE (v : Value) : Option (DataW Value × List MemPlace) := some (.held v, [])
/-- block b is a map of at most n entries, keys of type k; f tells what lies at a key -/
def MapF (w : World) (k : TypeId) (b n : Nat) (f : Value → Option Value) : Prop :=
  ∃ D, w.ownsMap Tryz.prog k heldE b n D ∧ ∀ key kl, keyOf Tryz.prog k key = some kl → Maps.has D kl = (f key).isSome ∧ ∀ z, D.atKey kl (.held z) = .held ((f key).getD z)
section
variable {w w' : World} {k : TypeId} {b n : Nat} {f : Value → Option Value}
theorem mapF_made (w : World) (k : TypeId) : MapF (w.alloc (.map #[] 0)) k w.heap.size 0 (fun _ => none) :=
  ⟨_, World.ownsMap_made w _ k heldE, fun _ _ _ => ⟨rfl, fun _ => rfl⟩⟩
theorem MapF.lt (h : MapF w k b n f) : b < w.heap.size := by obtain ⟨D, h1, _⟩ := h; exact h1.lt
theorem MapF.kept {row : Option Nat} (h : MapF w k b n f) (hg : w.grownBy w' row) (hne : some b ≠ row) : MapF w' k b n f := by
  obtain ⟨D, h1, h2⟩ := h; exact ⟨D, h1.kept hg hne, h2⟩
theorem MapF.step (h : MapF w k b n f) (hb : Below w.heap.size w w') : MapF w' k b n f := by
  obtain ⟨D, ⟨es, clock, h1, h3⟩, h2⟩ := h
  have hlt : b < w.heap.size := (Array.getElem?_eq_some_iff.1 h1).1
  exact ⟨D, ⟨es, clock, (hb.block b hlt).trans h1, h3⟩, h2⟩
theorem MapF.mono (h : MapF w k b n f) {n' : Nat} (hn : n ≤ n') : MapF w k b n' f := by
  obtain ⟨D, h1, h2⟩ := h; exact ⟨D, h1.mono hn, h2⟩
theorem MapF.drew (h : MapF w k b n f) : MapF w.drew k b n f := h
theorem MapF.look {t e : TypeId} (h : MapF w k b n f) (K : Keyed Tryz.prog k) (ht : Tryz.prog.underlying t = some (.map k e)) {z : Value} (hz : (zeroValue e).run Tryz.prog w = .ok z w) {key : Value} {kl : Lit} (hkey : keyOf Tryz.prog k key = some kl) :
    (Instr.lookup t (.map (some b)) key false).run Tryz.prog w = .ok ((f key).getD z) w := by
  obtain ⟨D, h1, h2⟩ := h
  obtain ⟨v, ps, hrun, hv⟩ := h1.lookup K ht hz (zd := .held z) (zp := []) rfl hkey
  unfold heldE at hv
  rw [(h2 key kl hkey).2 z] at hv
  simp only [Option.some.injEq, Prod.mk.injEq, DataW.held.injEq] at hv
  obtain ⟨rfl, _⟩ := hv
  exact hrun
theorem MapF.look_ok {t e : TypeId} (h : MapF w k b n f) (K : Keyed Tryz.prog k) (ht : Tryz.prog.underlying t = some (.map k e)) {z : Value} (hz : (zeroValue e).run Tryz.prog w = .ok z w) {key : Value} {kl : Lit} (hkey : keyOf Tryz.prog k key = some kl) :
    (Instr.lookup t (.map (some b)) key true).run Tryz.prog w = .ok (.tuple #[(f key).getD z, .bool (f key).isSome]) w := by
  obtain ⟨D, h1, h2⟩ := h
  obtain ⟨v, ps, hrun, hv⟩ := h1.look_ok K ht hz (zd := .held z) (zp := []) rfl hkey
  unfold heldE at hv
  rw [(h2 key kl hkey).2 z] at hv
  simp only [Option.some.injEq, Prod.mk.injEq, DataW.held.injEq] at hv
  obtain ⟨rfl, _⟩ := hv
  rw [(h2 key kl hkey).1] at hrun
  exact hrun
/-- what lies there behind a store -/
noncomputable def putF (f : Value → Option Value) (key v : Value) : Value → Option Value := fun x => @ite _ (x = key) (Classical.propDecidable _) (some v) (f x)
theorem putF_same (f : Value → Option Value) (key v : Value) : putF f key v key = some v := if_pos rfl
theorem putF_other (f : Value → Option Value) {key x : Value} (v : Value) (h : x ≠ key) : putF f key v x = f x := if_neg h
theorem MapF.store {t e : TypeId} (h : MapF w k b n f) (K : Keyed Tryz.prog k) (ht : Tryz.prog.underlying t = some (.map k e)) (hn : n < maxLen) {key : Value} {kl : Lit} (hkey : keyOf Tryz.prog k key = some kl) (v : Value) :
    ∃ w', (Instr.mapUpdate t (.map (some b)) key v).run Tryz.prog w = .ok () w' ∧ MapF w' k b (n + 1) (putF f key v) ∧ w.grownBy w' (some b) := by
  obtain ⟨D, h1, h2⟩ := h
  obtain ⟨w', hrun, ho, hg⟩ := h1.update K ht hn hkey (val := v) (d := .held v) (ps := []) rfl
  refine ⟨w', hrun, ⟨_, ho, fun x kx hx => ?_⟩, hg⟩
  by_cases he : x = key
  · subst he
    rw [hkey] at hx
    injection hx with hx
    subst hx
    rw [putF_same]
    exact ⟨Maps.has_put_same h1.isMap (K.key hkey) _, fun z => Maps.atKey_put_same h1.isMap (K.key hkey) _ _⟩
  · have hne : kx ≠ kl := fun e => he (K.inj hx (e ▸ hkey))
    rw [putF_other f v he, Maps.has_put_other hne, (h2 x kx hx).1]
    exact ⟨rfl, fun z => by rw [Maps.atKey_put_other hne]; exact (h2 x kx hx).2 z⟩
theorem MapF.len {t e : TypeId} (h : MapF w k b n f) (ht : Tryz.prog.underlying t = some (.map k e)) (ty : TypeId) : ∃ m : Nat, m ≤ n ∧ (Builtin.len_ #[t] ty #[.map (some b)]).run Tryz.prog w = .ok (.int .i64 m) w := by
  obtain ⟨D, h1, h2⟩ := h
  exact ⟨_, h1.size_le, h1.len ht ty⟩
end
section
variable {w : World} {ops : Array Oper} {rest : List Oper} {o : Oper} {a : Act} {k t e : TypeId} {b n : Nat} {f : Value → Option Value} {key z : Value} {kl : Lit}
theorem wp_look_f {K' : Act → World → Prop} {Q : Exit → Act → World → Prop} (m x : Operand) (hop : o.op = Op.lookup t m x false) (K : Keyed Tryz.prog k) (ht : Tryz.prog.underlying t = some (.map k e)) (hm : a.eval m = .map (some b)) (hx : a.eval x = key) (hown : MapF w k b n f) (hz : (zeroValue e).run Tryz.prog w = .ok z w) (hkey : keyOf Tryz.prog k key = some kl)
    (hK : K' (a.put o.dst ((f key).getD z)) w) : Oper.wp Tryz.prog o a w K' Q := by
  unfold Oper.wp
  simp [execOp, hop, hm, hx, hown.look K ht hz hkey, Result.andThen]
  exact hK
theorem wpList_look_f {Q : Exit → Act → World → Prop} (hg : o.guard = none) (m x : Operand) (hop : o.op = Op.lookup t m x false) (K : Keyed Tryz.prog k) (ht : Tryz.prog.underlying t = some (.map k e)) (hm : a.eval m = .map (some b)) (hx : a.eval x = key) (hown : MapF w k b n f) (hz : (zeroValue e).run Tryz.prog w = .ok z w) (hkey : keyOf Tryz.prog k key = some kl)
    (hK : wpList Tryz.prog ops Q rest (a.put o.dst ((f key).getD z)) w) : wpList Tryz.prog ops Q (o :: rest) a w :=
  wpList_plain hg fun _ hK' => wp_look_f m x hop K ht hm hx hown hz hkey (hK' _ _ hK)
theorem step_look_f {K' : Act → World → Prop} {Q : Exit → Act → World → Prop} {R : Prop} (hg : o.guard = none) (m x : Operand) (hop : o.op = Op.lookup t m x false) (K : Keyed Tryz.prog k) (ht : Tryz.prog.underlying t = some (.map k e)) (hm : a.eval m = .map (some b)) (hx : a.eval x = key) (hown : MapF w k b n f) (hz : (zeroValue e).run Tryz.prog w = .ok z w) (hkey : keyOf Tryz.prog k key = some kl)
    (hK : K' (a.put o.dst ((f key).getD z)) w) : if Region.wanted o (yielded ops a.tmps) = true then Oper.wp Tryz.prog o a w K' Q else R := by
  have hw : Region.wanted o (yielded ops a.tmps) = true := by simp [Region.wanted, hg]
  rw [if_pos hw]
  exact wp_look_f m x hop K ht hm hx hown hz hkey hK
theorem wp_store_f {K' : Act → World → Prop} {Q : Exit → Act → World → Prop} (m x y : Operand) (hop : o.op = Op.mapUpdate t m x y) (K : Keyed Tryz.prog k) (ht : Tryz.prog.underlying t = some (.map k e)) (hm : a.eval m = .map (some b)) (hx : a.eval x = key) {v : Value} (hy : a.eval y = v) (hown : MapF w k b n f) (hn : n < maxLen) (hkey : keyOf Tryz.prog k key = some kl)
    (hK : ∀ w', MapF w' k b (n + 1) (putF f key v) → w.grownBy w' (some b) → K' (a.put o.dst undef) w') : Oper.wp Tryz.prog o a w K' Q := by
  obtain ⟨w', hrun, r1, r2⟩ := hown.store K ht hn hkey v
  unfold Oper.wp
  simp [execOp, hop, hm, hx, hy, hrun, Result.andThen]
  exact hK w' r1 r2
theorem wpList_store_f {Q : Exit → Act → World → Prop} (hg : o.guard = none) (m x y : Operand) (hop : o.op = Op.mapUpdate t m x y) (K : Keyed Tryz.prog k) (ht : Tryz.prog.underlying t = some (.map k e)) (hm : a.eval m = .map (some b)) (hx : a.eval x = key) {v : Value} (hy : a.eval y = v) (hown : MapF w k b n f) (hn : n < maxLen) (hkey : keyOf Tryz.prog k key = some kl)
    (hK : ∀ w', MapF w' k b (n + 1) (putF f key v) → w.grownBy w' (some b) → wpList Tryz.prog ops Q rest (a.put o.dst undef) w') : wpList Tryz.prog ops Q (o :: rest) a w :=
  wpList_plain hg fun _ hK' => wp_store_f m x y hop K ht hm hx hy hown hn hkey fun w' h1 h2 => hK' _ _ (hK w' h1 h2)
theorem step_store_f {K' : Act → World → Prop} {Q : Exit → Act → World → Prop} {R : Prop} (hg : o.guard = none) (m x y : Operand) (hop : o.op = Op.mapUpdate t m x y) (K : Keyed Tryz.prog k) (ht : Tryz.prog.underlying t = some (.map k e)) (hm : a.eval m = .map (some b)) (hx : a.eval x = key) {v : Value} (hy : a.eval y = v) (hown : MapF w k b n f) (hn : n < maxLen) (hkey : keyOf Tryz.prog k key = some kl)
    (hK : ∀ w', MapF w' k b (n + 1) (putF f key v) → w.grownBy w' (some b) → K' (a.put o.dst undef) w') : if Region.wanted o (yielded ops a.tmps) = true then Oper.wp Tryz.prog o a w K' Q else R := by
  have hw : Region.wanted o (yielded ops a.tmps) = true := by simp [Region.wanted, hg]
  rw [if_pos hw]
  exact wp_store_f m x y hop K ht hm hx hy hown hn hkey hK
end
end Go.Proofs.YtniogmefbjfoaaaGreat
