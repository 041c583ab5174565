/-
  Contracts in one form, for chains of calls: the reference's Both and Kept; Union of two lists; what is known to be true of Equal and Same.
-/
import Derived.Test.YtgpmcpinnaggmaaSame
namespace Go.Proofs.Ytgpmcpinnaggmaa
set_option linter.unusedSimpArgs false
set_option linter.unusedVariables false
set_option linter.unusedSectionVars false
open Go.RowKit Go.Sort Go.Lib

/-- the slice at A reads as l -/
def Sl (w : World) (A : Option Addr) (l : List Pr) : Prop := Reads w w.heap.size 2 A l.length (pcs l)
theorem Sl.step {w w' : World} {A : Option Addr} {l : List Pr} (h : Sl w A l) (hb : Below w.heap.size w w') : Sl w' A l := (Reads.below h hb).more hb.size
/-- a list of lives is handed back; all that was there is kept -/
def RetS (w : World) (l : List Pr) (e : Ending) (w' : World) : Prop := ∃ A c, e = .returned (.slice A l.length c) ∧ Sl w' A l ∧ Below w.heap.size w w'
theorem retS_own {w w' : World} {base : Nat} {l : List Pr} {v : Value} (h : OwnP w' base v l) (hb : Below w.heap.size w w') : RetS w l (.returned v) w' := by
  obtain ⟨A, c, rfl, _, _⟩ := own_slice h
  exact ⟨A, c, rfl, Reads.of_own h, hb⟩

theorem sorted_s (A : Option Addr) (c : Nat) (l : List Pr) (w : World) (h : Sl w A l) (hn : l.length ≤ 1000000) : Calls Try.prog 67 #[.slice A l.length c] w (RetS w (sortedL l)) :=
  (sorted_any A c l w h hn).mono fun _ _ ⟨A', h1, h2, h3⟩ => ⟨A', _, h1, h2, h3⟩
theorem refSorted_s (A : Option Addr) (c : Nat) (l : List Pr) (w : World) (h : Sl w A l) (hn : l.length ≤ 1000000) : Calls Try.prog 69 #[.slice A l.length c] w (RetS w (sortedL l)) :=
  (refSorted_any A c l w h hn).mono fun _ _ ⟨_, h1, h2, h3⟩ => by rw [h1]; exact retS_own h2 h3
/-- a bool that is known is handed back -/
def RetB (w : World) (b : Bool) (e : Ending) (w' : World) : Prop := e = .returned (.bool b) ∧ Below w.heap.size w w'
theorem refEqual_t (A A' : Option Addr) (c c' : Nat) (a b : List Pr) (w : World) (h : Sl w A a) (h' : Sl w A' b) (hn : a.length ≤ 1000000) (he : a = b) : Calls Try.prog 55 #[.slice A a.length c, .slice A' b.length c'] w (RetB w true) :=
  (refEqual_any A A' c c' a b w h h' hn (by rw [← he]; exact hn)).mono fun _ _ ⟨h1, h2⟩ => ⟨by rw [h1]; simp [he], h2⟩

theorem refEqual_s (A A' : Option Addr) (c c' : Nat) (a b : List Pr) (w : World) (h : Sl w A a) (h' : Sl w A' b) (hn : a.length ≤ 1000000) (hm : b.length ≤ 1000000) : Calls Try.prog 55 #[.slice A a.length c, .slice A' b.length c'] w (RetB w (decide (a = b))) :=
  refEqual_any A A' c c' a b w h h' hn hm

theorem kept_step {a b : List Pr} {f : Bool} {k : Nat} {p : Pr} (h : a[k]? = some p) : (a.take (k + 1)).filter (fun p => decide (p ∈ b) == f) = (a.take k).filter (fun p => decide (p ∈ b) == f) ++ (if (decide (p ∈ b) == f) = true then [p] else []) := chosen_step h
theorem kept_eq (a b : List Pr) (f : Bool) : sortedL (a.filter fun p => decide (p ∈ b) == f) = chosenL a b f := by
  refine sortedL_eq ?_ fun x => ?_
  · exact List.Pairwise.filter _ (sortedL_ss a)
  · simp only [chosenL, List.mem_filter, mem_sortedL]

end Go.Proofs.Ytgpmcpinnaggmaa
