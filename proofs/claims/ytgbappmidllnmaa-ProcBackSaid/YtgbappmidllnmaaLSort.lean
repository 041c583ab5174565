/-
  Walk: the law ProcSorts answers true at every input.
-/
import Derived.Test.YtgbappmidllnmaaHas
import Derived.Test.YtgbappmidllnmaaLAlg
namespace Go.Proofs.Ytgbappmidllnmaa
set_option linter.unusedSimpArgs false
set_option linter.unusedVariables false
set_option linter.unusedSectionVars false
open Go.RowKit Go.Sort Go.Lib

theorem set_b (A : Option Addr) (c : Nat) (l : List Pr) (w : World) (h : Sl w A l) (hn : l.length ≤ 1000000) : Calls Try.prog 58 #[.slice A l.length c] w (RetB w (setB l)) := set_any A c l w h hn
theorem refHas_b (A : Option Addr) (c : Nat) (l : List Pr) (x y : Int) (w : World) (h : Sl w A l) (hn : l.length ≤ 1000000) : Calls Try.prog 120 #[.slice A l.length c, .agg #[.int .i64 x, .int .u64 y]] w (RetB w (decide ((x, y) ∈ l))) := refHas_any A c l x y w h hn
theorem heavy_at (xs : List Sv) (cs : Array Value) (w : World) (H n : Nat) (hH : w.heap.size = H) (hl : xs.length = n) (hcs : cs.toList = svs xs) (hn : n ≤ 1000) :
    Calls Try.prog 29 #[.slice (some ⟨H, 0, none⟩) n n] (w.alloc (.cells cs 27)) (RetB w (hvB xs)) := by subst hH hl; exact heavy_lit xs cs w hcs hn
/-- a cell of an old block -/
def At (w : World) (a : Addr) (v : Value) : Prop := w.cell? a = some v ∧ a.block < w.heap.size
theorem At.step {w w' : World} {a : Addr} {v : Value} (h : At w a v) (hb : Below w.heap.size w w') : At w' a v := ⟨(hb.cell h.2).trans h.1, Nat.lt_of_lt_of_le h.2 hb.size⟩

end Go.Proofs.Ytgbappmidllnmaa
