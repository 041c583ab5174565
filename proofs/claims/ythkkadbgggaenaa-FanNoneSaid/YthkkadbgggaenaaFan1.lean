/-
  Layer 14: ways in memory; contracts: the reference's Ask, the laws' closures.
-/
import Derived.Test.YthkkadbgggaenaaPkD
import Derived.Test.YthkkadbgggaenaaTcG
namespace Go.Proofs.Ythkkadbgggaenaa
set_option linter.unusedSimpArgs false
set_option linter.unusedVariables false
set_option linter.unusedSectionVars false
open Go.RowKit

/-- what is said of a node -/
structure Wy where
  d : Int
  h : Int
  n : Bool
  deriving Inhabited, DecidableEq
def wc (x : Wy) : List Value := [.int .i64 x.d, .int .i64 x.h, .bool x.n]
def wcs (l : List Wy) : List Value := l.flatMap wc
theorem wc_len (x : Wy) : (wc x).length = 3 := rfl
theorem wcs_len (l : List Wy) : (wcs l).length = l.length * 3 := flat_length wc_len l
theorem Reads.at3w {w : World} {B : Nat} {A : Option Addr} {n k : Nat} {l : List Wy} (h : Reads w B 3 A n (wcs l)) (hk : k < n) :
    ∃ b off p, A = some ⟨b, off, none⟩ ∧ b < B ∧ l[k]? = some p ∧ w.cell? ⟨b, off + k * 3, none⟩ = some (.int .i64 p.d) ∧ w.cell? ⟨b, off + k * 3 + 1, none⟩ = some (.int .i64 p.h) ∧ w.cell? ⟨b, off + k * 3 + 2, none⟩ = some (.bool p.n) := by
  obtain ⟨b, off, rfl, hb, hcl⟩ := h.2 (by omega)
  have hl : k < l.length := by have := h.1; rw [wcs_len] at this; omega
  have hp : l[k]? = some l[k] := List.getElem?_eq_getElem hl
  refine ⟨b, off, l[k], rfl, hb, hp, ?_, ?_, ?_⟩
  · exact hcl (k * 3 + 0) _ (by rw [wcs, flat_get wc_len l k 0 _ hp (by omega)]; rfl)
  · rw [Nat.add_assoc]; exact hcl (k * 3 + 1) _ (by rw [wcs, flat_get wc_len l k 1 _ hp (by omega)]; rfl)
  · rw [Nat.add_assoc]; exact hcl (k * 3 + 2) _ (by rw [wcs, flat_get wc_len l k 2 _ hp (by omega)]; rfl)
/-- the first that is said of a node -/
def askL : List Wy → Int → Int × Bool
  | [], _ => (0, false)
  | x :: l, d => if x.d = d then (x.h, !x.n) else askL l d
theorem ask_at : ∀ {l : List Wy} {d : Int} {k : Nat} {p : Wy}, l[k]? = some p → p.d = d → (∀ j q, j < k → l[j]? = some q → q.d ≠ d) → askL l d = (p.h, !p.n)
  | [], d, k, p, h, _, _ => by simp at h
  | x :: l, d, 0, p, h, hd, _ => by
    simp at h; subst h
    rw [askL, if_pos hd]
  | x :: l, d, k + 1, p, h, hd, hn => by
    rw [askL, if_neg (hn 0 x (by omega) rfl)]
    exact ask_at (by simpa using h) hd (fun j q hj hq => hn (j + 1) q (by omega) (by simpa using hq))
theorem ask_no : ∀ {l : List Wy} {d : Int}, (∀ x ∈ l, x.d ≠ d) → askL l d = (0, false)
  | [], _, _ => rfl
  | x :: l, d, h => by
    rw [askL, if_neg (h x (by simp))]
    exact ask_no (fun y hy => h y (by simp [hy]))
def RetAsk (w : World) (r : Int × Bool) (e : Ending) (w' : World) : Prop := e = .returned (.tuple #[.int .i64 r.1, .bool r.2]) ∧ Below w.heap.size w w'
set_option maxRecDepth 100000 in
set_option maxHeartbeats 2000000 in
theorem ask_s (A : Option Addr) (c : Nat) (l : List Wy) (d : Int) (w : World) (h : Reads w w.heap.size 3 A l.length (wcs l)) (hn : l.length ≤ 1000000) : Calls Try.prog 14 #[.slice A l.length c, .int .i64 d] w (RetAsk w (askL l d)) := by
  haveI : Src w A l.length 3 (wcs l) := ⟨h⟩
  clear h
  go_enter Try.func14, Try.ntmps14
  go_wp2
  go_loopw [6] (fun j wr => ∃ m : Nat, m ≤ l.length ∧ j = .int .i64 m ∧ Below w.heap.size w wr ∧ ∀ j q, j < m → l[j]? = some q → q.d ≠ d) (fun j _ => l.length - (intOf j).toNat)
  case atStart => exact ⟨0, Nat.zero_le _, rfl, blw, fun j q hj => by omega⟩
  case round =>
    obtain ⟨m, hm, rfl, hB, hno⟩ := hrel
    haveI : Blw w wr := ⟨hB⟩
    have HN := hide hno
    clear hno hB
    by_cases hlt : m < l.length
    · obtain ⟨b, off, p, rfl, hb, hp, g1, g2, g3⟩ := (show Reads wr w.heap.size 3 A l.length (wcs l) from srcB).at3w hlt
      have HP := hide hp
      haveI : InW b wr := ⟨Nat.lt_of_lt_of_le hb (Blw.h (a := w) (W := wr)).size⟩
      have i0 : (0 : Int) ≤ (m : Int) := by omega
      have i1 : (m : Int) < (l.length : Int) := by omega
      clear hp
      cases q1 : (p.d == d)
      · have H := hide (show ∀ j q, j < m + 1 → l[j]? = some q → q.d ≠ d from fun j q hj hq => by
          by_cases e : j = m
          · subst e
            have := HP.out.symm.trans hq
            injection this with this
            subst this
            simpa using q1
          · exact HN.out j q (by omega) hq)
        go_wp2
        go_roundw
        case rel => exact ⟨m + 1, by omega, by go_num, blw, H.out⟩
        case measure => simp [intOf]; omega
      · have H := hide (show askL l d = (p.h, !p.n) from ask_at HP.out (by simpa using q1) HN.out)
        go_wp2_with fail
        go_quiet (fail)
        go_wp2
        go_ret2
        exact ⟨by rw [H.out]; rfl, blw⟩
    · have H := hide (show askL l d = (0, false) from ask_no (fun x hx => by
        obtain ⟨j, hj, rfl⟩ := List.getElem_of_mem hx
        exact HN.out j _ (by omega) (List.getElem?_eq_getElem hj)))
      go_wp2
      go_ret2
      exact ⟨by rw [H.out]; rfl, blw⟩
end Go.Proofs.Ythkkadbgggaenaa
