/-
  Contracts in one form, for chains of calls: the reference's Both and Kept; Union of two lists; what is known to be true of Equal and Same.
-/
import Derived.Test.YtgbappmidllnmaaSame
namespace Go.Proofs.Ytgbappmidllnmaa
set_option linter.unusedSimpArgs false
set_option linter.unusedVariables false
set_option linter.unusedSectionVars false
open Go.RowKit Go.Sort Go.Lib

/-- the slice at A reads as l -/
def Sl (w : World) (A : Option Addr) (l : List Pr) : Prop := Reads w w.heap.size 2 A l.length (pcs l)
theorem Sl.step {w w' : World} {A : Option Addr} {l : List Pr} (h : Sl w A l) (hb : Below w.heap.size w w') : Sl w' A l := (Reads.below h hb).more hb.size
/-- a list of lives is handed back; all that was there is kept -/
def RetS (w : World) (l : List Pr) (e : Ending) (w' : World) : Prop := ∃ A c, e = .returned (.slice A l.length c) ∧ Sl w' A l ∧ Below w.heap.size w w'
theorem retS_own {w w' : World} {base : Nat} {l : List Pr} {v : Value} (h : OwnP w' base v l) (hb : Below w.heap.size w w') : RetS w l (.returned v) w' := by
  obtain ⟨A, c, rfl, _, _⟩ := own_slice h
  exact ⟨A, c, rfl, Reads.of_own h, hb⟩

theorem sorted_s (A : Option Addr) (c : Nat) (l : List Pr) (w : World) (h : Sl w A l) (hn : l.length ≤ 1000000) : Calls Try.prog 31 #[.slice A l.length c] w (RetS w (sortedL l)) :=
  (sorted_any A c l w h hn).mono fun _ _ ⟨A', h1, h2, h3⟩ => ⟨A', _, h1, h2, h3⟩
theorem refSorted_s (A : Option Addr) (c : Nat) (l : List Pr) (w : World) (h : Sl w A l) (hn : l.length ≤ 1000000) : Calls Try.prog 121 #[.slice A l.length c] w (RetS w (sortedL l)) :=
  (refSorted_any A c l w h hn).mono fun _ _ ⟨_, h1, h2, h3⟩ => by rw [h1]; exact retS_own h2 h3
theorem meet_s (A A' : Option Addr) (c c' : Nat) (a b : List Pr) (w : World) (h : Sl w A a) (h' : Sl w A' b) (hn : a.length ≤ 1000000) (hm : b.length ≤ 1000000) : Calls Try.prog 102 #[.slice A a.length c, .slice A' b.length c'] w (RetS w (chosenL a b true)) :=
  (meet_any A A' c c' a b w h h' hn hm).mono fun _ _ ⟨_, h1, h2, h3⟩ => by rw [h1]; exact retS_own h2 h3
/-- a bool that is known is handed back -/
def RetB (w : World) (b : Bool) (e : Ending) (w' : World) : Prop := e = .returned (.bool b) ∧ Below w.heap.size w w'
theorem refEqual_t (A A' : Option Addr) (c c' : Nat) (a b : List Pr) (w : World) (h : Sl w A a) (h' : Sl w A' b) (hn : a.length ≤ 1000000) (he : a = b) : Calls Try.prog 39 #[.slice A a.length c, .slice A' b.length c'] w (RetB w true) :=
  (refEqual_any A A' c c' a b w h h' hn (by rw [← he]; exact hn)).mono fun _ _ ⟨h1, h2⟩ => ⟨by rw [h1]; simp [he], h2⟩

theorem refEqual_s (A A' : Option Addr) (c c' : Nat) (a b : List Pr) (w : World) (h : Sl w A a) (h' : Sl w A' b) (hn : a.length ≤ 1000000) (hm : b.length ≤ 1000000) : Calls Try.prog 39 #[.slice A a.length c, .slice A' b.length c'] w (RetB w (decide (a = b))) :=
  refEqual_any A A' c c' a b w h h' hn hm

/-- layer 3's heavy at two lists, at three -/
theorem heavy_lit (xs : List Sv) (cs : Array Value) (w : World) (hcs : cs.toList = svs xs) (hn : xs.length ≤ 1000) :
    Calls Try.prog 29 #[.slice (some ⟨w.heap.size, 0, none⟩) xs.length xs.length] (w.alloc (.cells cs 27)) (RetB w (hvB xs)) := by
  have hx : Reads (w.alloc (.cells cs 27)) (w.alloc (.cells cs 27)).heap.size 1 (some ⟨w.heap.size, 0, none⟩) xs.length (svs xs) := by
    have := Reads.of_own (World.ownsRow_lit (base := 0) (e := 27) (size := 1) w cs xs.length (Nat.zero_le _) (by unfold maxLen; omega) (by rw [← Array.length_toList, hcs, svs_len]))
    rw [hcs] at this; exact this
  exact (heavy_any _ _ xs _ hx (by omega)).mono fun _ _ ⟨h1, h2⟩ => ⟨h1, by rw [← h2]; exact below_alloc _ _⟩

theorem kept_step {a b : List Pr} {f : Bool} {k : Nat} {p : Pr} (h : a[k]? = some p) : (a.take (k + 1)).filter (fun p => decide (p ∈ b) == f) = (a.take k).filter (fun p => decide (p ∈ b) == f) ++ (if (decide (p ∈ b) == f) = true then [p] else []) := chosen_step h
theorem kept_eq (a b : List Pr) (f : Bool) : sortedL (a.filter fun p => decide (p ∈ b) == f) = chosenL a b f := by
  refine sortedL_eq ?_ fun x => ?_
  · exact List.Pairwise.filter _ (sortedL_ss a)
  · simp only [chosenL, List.mem_filter, mem_sortedL]

set_option maxHeartbeats 2000000 in
theorem kept_s (A A' : Option Addr) (c c' : Nat) (a b : List Pr) (f : Bool) (w : World) (h : Sl w A a) (h' : Sl w A' b) (hn : a.length ≤ 1000000) (hm : b.length ≤ 1000000) :
    Calls Try.prog 103 #[.slice A a.length c, .slice A' b.length c', .bool f] w (RetS w (chosenL a b f)) := by
  go_enter Try.func103, Try.ntmps103
  go_wp2
  go_loopw [7, 8] (fun v i wr => ∃ (k : Nat) (L : List Pr), k ≤ a.length ∧ i = .int .i64 k ∧ L = ((a.take k).filter fun p => decide (p ∈ b) == f) ∧ OwnP wr w.heap.size v L ∧ Below w.heap.size w wr) (fun _ i _ => a.length - (intOf i).toNat)
  case atStart => exact ⟨0, [], Nat.zero_le _, rfl, by simp, World.ownsRow_nil _ _ _ _, Below.refl _ _⟩
  case round =>
    obtain ⟨k, L, hk, rfl, hL, hown, hbw⟩ := hrel
    have HL := hide hL
    have HO := hide hown
    have hfl : L.length ≤ k := by
      rw [hL]
      have h1 := List.length_filter_le (fun p => decide (p ∈ b) == f) (a.take k)
      rw [List.length_take] at h1; omega
    have hsz := hbw.size
    by_cases hlt : k < a.length
    · obtain ⟨b1, off, ⟨pn, pi⟩, rfl, hb, hp, g1, g2⟩ := (Reads.below h hbw).at2 hlt
      simp only at g1 g2
      have hst := kept_step (b := b) (f := f) hp
      rw [← hL] at hst
      have HS := hide hst
      have HH := hide h'
      clear hown hp hst hL h h'
      go_wp2_with fail
      refine (refHas_any A' c' b pn pi wr ((Reads.below HH.out hbw).more hsz) hm).mono ?_
      rintro e w1 ⟨rfl, hb1⟩
      have c0 : w1.cell? ⟨b1, off + k * 2, none⟩ = some (.int .i64 pn) := (hb1.cell (p := ⟨b1, _, none⟩) (by simp; omega)).trans g1
      have c1 : w1.cell? ⟨b1, off + k * 2 + 1, none⟩ = some (.int .u64 pi) := (hb1.cell (p := ⟨b1, _, none⟩) (by simp; omega)).trans g2
      have HO1 := hide (own_below HO.out hb1 (Nat.le_refl _))
      have hbw1 := below_step hbw hb1
      have hsz1 := hbw1.size
      generalize hg : decide ((pn, pi) ∈ b) = d at *
      cases hq : (d == f)
      · have HS2 := hide (show (a.take (k + 1)).filter (fun p => decide (p ∈ b) == f) = L by rw [HS.out]; simp [hq])
        clear hg
        go_wp2
        go_roundw
        case rel => exact ⟨k + 1, L, by omega, by go_num, HS2.out.symm, HO1.out, hbw1⟩
        case measure => simp [intOf]; omega
      · have HS2 := hide (show (a.take (k + 1)).filter (fun p => decide (p ∈ b) == f) = L ++ [(pn, pi)] by rw [HS.out]; simp [hq])
        clear hg
        go_wp2_with (at_builtin; refine wpList_append_any _ Try.okP (by rfl) (.tmp 23) (.tmp 28) (by rfl) w.heap.size _ _ (pcs L) (by rfl) (HO1.out.alloc _) (w1.heap.size + 1) (some ⟨w1.heap.size, 0, none⟩) 1 1 (pcs [(pn, pi)]) (by rfl) (reads_one w1 pn pi) (pc_one _) (by unfold maxLen; omega) (by omega) (by simp; omega) ?_; intro v1 w4 hown1 hg1 hnil1 hat1)
        go_roundw
        case rel =>
          refine ⟨k + 1, L ++ [(pn, pi)], by omega, by go_num, HS2.out.symm, ?_, ?_⟩
          · rw [OwnP, List.length_append, pcs_app]; exact hown1
          · exact (hbw1.alloc hsz1 _).grown hg1 (by simp; omega) (fun g hg => (HO1.out.lt g hg).1)
        case measure => simp [intOf]; omega
    · have hk' : k = a.length := by omega
      subst hk'
      rw [List.take_length] at hL
      subst hL
      obtain ⟨A1, c1, rfl, _, _⟩ := own_slice hown
      have hR := hide (Reads.of_own hown)
      clear hown h h'
      go_wp2_with fail
      refine (refSorted_s A1 c1 _ wr hR.out (by omega)).mono ?_
      rintro e w2 ⟨A2, c2, rfl, h2, hb2⟩
      rw [kept_eq] at h2
      rw [kept_eq]
      go_wp2
      go_ret
      exact ⟨A2, c2, rfl, h2, below_step hbw hb2⟩

end Go.Proofs.Ytgbappmidllnmaa
