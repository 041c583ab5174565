/-
  Contracts: the Reader's wide (one byte), U8, Uint, End; what a reader's step keeps.
-/
import Derived.Test.YtgpmcpinnaggmaaRdr2
namespace Go.Proofs.Ytgpmcpinnaggmaa
set_option linter.unusedSimpArgs false
set_option linter.unusedVariables false
set_option linter.unusedSectionVars false
open Go.RowKit

/-- a reader's state: what is left, and whether there was a fault -/
abbrev RS := List Int × Bool
/-- one byte is taken -/
def rU8 : RS → Int × RS
  | (b :: bs, false) => (b, (bs, false))
  | (bs, _) => (0, (bs, true))
/-- a short number is taken -/
def rUint (s : RS) : Int × RS := if (numV s.1 s.2).2 = 0 then (0, (s.1, true)) else ((numV s.1 s.2).1, (s.1.drop (numV s.1 s.2).2, false))
/-- the post of what a reader's method does -/
def RetR (g B : Nat) (w : World) (v : Value) (s : RS) (e : Ending) (w' : World) : Prop := e = .returned v ∧ Rds w' g B s.1 s.2 ∧ w.grownBy w' (some g)
theorem BoxAt.grown {w w' : World} {n g : Nat} {cs : Array Value} {t : TypeId} (h : BoxAt w n cs t) (hg : w.grownBy w' (some g)) (hn : n ≠ g) : BoxAt w' n cs t := ⟨by rw [hg.block n h.lt (fun e => hn (by injection e))]; exact h.eq⟩
theorem own_grown {w w' : World} {g base : Nat} {e : TypeId} {k n : Nat} {v : Value} {xs : List Value} (h : w.ownsRow base e k v n xs) (hg : w.grownBy w' (some g)) (hb : g < base) : w'.ownsRow base e k v n xs := by
  refine ⟨h.1, h.2.imp id ?_⟩
  rintro ⟨r, cap, cur, rfl, hbase, hr, h1⟩
  refine ⟨r, cap, cur, rfl, hbase, ?_, h1⟩
  have hlt : r < w.heap.size := (Array.getElem?_eq_some_iff.1 hr).1
  rw [hg.block r hlt (fun e => by injection e; omega)]; exact hr
theorem grown_then_below {a b c : World} {r : Option Nat} (h : a.grownBy b r) (k : Below a.heap.size b c) : a.grownBy c r :=
  ⟨k.os.trans h.os, k.tape.trans h.tape, k.output.trans h.output, Nat.le_trans h.size k.size, fun i hi hr => (k.block i hi).trans (h.block i hi hr)⟩
abbrev zero8 : List Value := [.int .u8 0, .int .u8 0, .int .u8 0, .int .u8 0, .int .u8 0, .int .u8 0, .int .u8 0, .int .u8 0]
theorem or0r {y : Int} (h0 : 0 ≤ y) (h1 : y < 256) : bits .or .u64 y 0 = y := by
  obtain ⟨n, rfl⟩ := Int.eq_ofNat_of_zero_le h0
  have e : bits .or .u64 (n : Int) ((0 : Nat) : Int) = ((n ||| 0 : Nat) : Int) := (bits_nat .u64 64 (by decide) (fun n h h' => IntWalk.u64_in _ ⟨by omega, by omega⟩) n 0 (by omega) (by omega)).2
  simpa using e
theorem or0l {y : Int} (h0 : 0 ≤ y) (h1 : y < 256) : bits .or .u64 0 y = y := by
  obtain ⟨n, rfl⟩ := Int.eq_ofNat_of_zero_le h0
  have e : bits .or .u64 ((0 : Nat) : Int) (n : Int) = ((0 ||| n : Nat) : Int) := (bits_nat .u64 64 (by decide) (fun n h h' => IntWalk.u64_in _ ⟨by omega, by omega⟩) 0 n (by omega) (by omega)).2
  simpa using e
theorem splice8 (v : Value) : (splice zero8 0 [v]).toArray = #[v, .int .u8 0, .int .u8 0, .int .u8 0, .int .u8 0, .int .u8 0, .int .u8 0, .int .u8 0] := rfl
theorem splice80 : (splice zero8 0 []).toArray = zero8.toArray := rfl
theorem szB : (Try.prog.info? 5).map (·.size) = some 1 := by kernel_rfl
theorem copy1 {w : World} {b' off n : Nat} {b : Int} (h : w.cell? ⟨b', off, none⟩ = some (.int .u8 b)) : 0 < [Value.int .u8 b].length → (some (⟨n, 0, none⟩ : Addr)) = some ⟨n, 0, none⟩ ∧ ∃ ad, (some (⟨b', off, none⟩ : Addr)) = some ad ∧ ∀ j v, [Value.int .u8 b][j]? = some v → w.cell? (ad.add j) = some v := by
  intro _
  refine ⟨rfl, _, rfl, fun j v hv => ?_⟩
  cases j with
  | zero => simp at hv; subst hv; exact h
  | succ j => simp at hv
theorem fit1 (b : Int) : 0 + [Value.int .u8 b].length ≤ zero8.length := by simp
theorem copy0 {w : World} {n : Nat} : 0 < ([] : List Value).length → (some (⟨n, 0, none⟩ : Addr)) = some ⟨n, 0, none⟩ ∧ ∃ ad, (none : Option Addr) = some ad ∧ ∀ j v, ([] : List Value)[j]? = some v → w.cell? (ad.add j) = some v := fun h => absurd h (by simp)
theorem fit0 : 0 + ([] : List Value).length ≤ zero8.length := by simp
theorem one0 : ∀ v ∈ ([] : List Value), v.oneCell' = true := by simp
theorem rU8_range {s : RS} (h : bOK s.1) : 0 ≤ (rU8 s).1 ∧ (rU8 s).1 < 256 := by
  obtain ⟨bs, bad⟩ := s
  cases bs with
  | nil => simp [rU8]
  | cons b bs => cases bad <;> simp [rU8] ; exact h b (by simp)
theorem numV_le (bs : List Int) (bad : Bool) : (numV bs bad).2 ≤ bs.length := by
  unfold numV
  split
  · simp
  · have := numGo_le bs 0 0; omega
theorem numV_bad (bs : List Int) (bad : Bool) (h : bad = true) : (numV bs bad).2 = 0 := by subst h; rfl
theorem one1 (b : Int) : ∀ v ∈ [Value.int .u8 b], v.oneCell' = true := by simp [Value.oneCell']
set_option maxRecDepth 100000 in
set_option maxHeartbeats 1000000 in
theorem wideR_s (g B : Nat) (s : RS) (w : World) (h : Rds w g B s.1 s.2) :
    Calls Try.prog 89 #[.pointer (some ⟨g, 0, none⟩), .int .i64 1] w (RetR g B w (.int .u64 (rU8 s).1) (rU8 s).2) := by
  have T : Hid (∀ W, Rds W g B s.1 s.2 → Calls Try.prog 93 #[.pointer (some ⟨g, 0, none⟩), .int .i64 1] W (RetT g B W s.1 s.2 1)) := hide (fun W (hW : Rds W g B s.1 s.2) => take_s g B s.1 s.2 1 W hW (by omega))
  have hle := h.le
  have htop := h.top
  have hne : w.heap.size ≠ g := by omega
  have p0 := boxTop w zero8.toArray 137
  replace p0 : BoxAt (w.alloc (.cells zero8.toArray 137)).drew w.heap.size zero8.toArray 137 := ⟨p0.eq⟩
  have h1 := (h.step (below_alloc w (.cells zero8.toArray 137))).step (Below.refl _ _).drew
  have hB : w.grownBy (w.alloc (.cells zero8.toArray 137)).drew (some g) := grown_below (below_alloc w _).drew
  have HOK := hide h.ok
  clear h
  obtain ⟨bs, bad⟩ := s
  by_cases hc : bad = false ∧ 1 ≤ bs.length
  · obtain ⟨rfl, hl⟩ := hc
    obtain ⟨b, bs', rfl⟩ : ∃ b bs', bs = b :: bs' := by cases bs with
      | nil => simp at hl
      | cons b bs' => exact ⟨b, bs', rfl⟩
    obtain ⟨hb0, hb1⟩ := HOK.out b (by simp)
    have o1 := or0r hb0 hb1
    have o2 := or0l hb0 hb1
    replace T : Hid (∀ W, Rds W g B (b :: bs') false → Calls Try.prog 93 #[.pointer (some ⟨g, 0, none⟩), .int .i64 1] W fun e w' => ∃ b' off, e = .returned (.slice (some ⟨b', off, none⟩) 1 1) ∧ w'.cell? ⟨b', off, none⟩ = some (.int .u8 b) ∧ Rds w' g B bs' false ∧ W.grownBy w' (some g)) := hide (fun W hW => (T.out W hW).mono (by
      rintro e w' (⟨_, _, A, rfl, hr, hd, hg, _⟩ | ⟨hh, _⟩)
      · obtain ⟨b', off, rfl, _, hc⟩ := hr.2 (by omega)
        exact ⟨b', off, rfl, hc 0 _ (by simp [bcs]), hd, hg⟩
      · simp at hh))
    have e0 : (rU8 (b :: bs', false)) = (b, (bs', false)) := rfl
    rw [e0]
    clear hl HOK e0
    have i0 : ∀ W, (Instr.index 137 (.agg #[.int .u8 b, .int .u8 0, .int .u8 0, .int .u8 0, .int .u8 0, .int .u8 0, .int .u8 0, .int .u8 0]) (.int .i64 0)).run Try.prog W = .ok (.int .u8 b) W := fun _ => by kernel_rfl
    have i1 : ∀ W, (Instr.index 137 (.agg #[.int .u8 b, .int .u8 0, .int .u8 0, .int .u8 0, .int .u8 0, .int .u8 0, .int .u8 0, .int .u8 0]) (.int .i64 1)).run Try.prog W = .ok (.int .u8 0) W := fun _ => by kernel_rfl
    have i2 : ∀ W, (Instr.index 137 (.agg #[.int .u8 b, .int .u8 0, .int .u8 0, .int .u8 0, .int .u8 0, .int .u8 0, .int .u8 0, .int .u8 0]) (.int .i64 2)).run Try.prog W = .ok (.int .u8 0) W := fun _ => by kernel_rfl
    have i3 : ∀ W, (Instr.index 137 (.agg #[.int .u8 b, .int .u8 0, .int .u8 0, .int .u8 0, .int .u8 0, .int .u8 0, .int .u8 0, .int .u8 0]) (.int .i64 3)).run Try.prog W = .ok (.int .u8 0) W := fun _ => by kernel_rfl
    have i4 : ∀ W, (Instr.index 137 (.agg #[.int .u8 b, .int .u8 0, .int .u8 0, .int .u8 0, .int .u8 0, .int .u8 0, .int .u8 0, .int .u8 0]) (.int .i64 4)).run Try.prog W = .ok (.int .u8 0) W := fun _ => by kernel_rfl
    have i5 : ∀ W, (Instr.index 137 (.agg #[.int .u8 b, .int .u8 0, .int .u8 0, .int .u8 0, .int .u8 0, .int .u8 0, .int .u8 0, .int .u8 0]) (.int .i64 5)).run Try.prog W = .ok (.int .u8 0) W := fun _ => by kernel_rfl
    have i6 : ∀ W, (Instr.index 137 (.agg #[.int .u8 b, .int .u8 0, .int .u8 0, .int .u8 0, .int .u8 0, .int .u8 0, .int .u8 0, .int .u8 0]) (.int .i64 6)).run Try.prog W = .ok (.int .u8 0) W := fun _ => by kernel_rfl
    have i7 : ∀ W, (Instr.index 137 (.agg #[.int .u8 b, .int .u8 0, .int .u8 0, .int .u8 0, .int .u8 0, .int .u8 0, .int .u8 0, .int .u8 0]) (.int .i64 7)).run Try.prog W = .ok (.int .u8 0) W := fun _ => by kernel_rfl
    go_enter Try.func89, Try.ntmps89
    go_wp2_with fail
    go_region_law (first
      | (go_simp; go_at_call 93; (with_reducible refine (T.out _ h1).mono ?_); rintro e w2 ⟨b', off, rfl, hcl, hrd, hgr⟩; have p1 := p0.grown hgr hne; have hcp := copy1 (n := w.heap.size) hcl)
      | (refine step_copy_splice rfl (.tmp 11) (.tmp 16) 22 22 rfl 5 Try.underlying22 szB (some ⟨w.heap.size, 0, none⟩) (some ⟨b', off, none⟩) 8 8 1 1 (by simp [Act.eval, Act.put]) (by simp [Act.eval, Act.put]) w.heap.size 0 zero8 137 p1.eq [.int .u8 b] rfl hcp (fit1 b) (one1 b) w.heap.size w2 (Below.refl _ _) (Nat.le_refl _) ?_; intro w4 hg4 hb4))
    all_goals
      have e4 := hg4.out
      rw [splice8] at e4
      haveI : BoxAt w4 w.heap.size _ _ := ⟨e4⟩
      have HR := hide (hrd.below (hb4.mono hle))
      have HG := hide (grown_then_below (grown_trans hB hgr) hb4)
      clear e4 hg4 hb4 hrd hgr hcp hcl p0 p1 T h1 hB
      go_wp2
      refine wp_loop_rounds 9 ?_
      iterate 9 (rw [rounds_succ]; go_wp2)
      go_ret
      exact ⟨rfl, HR.out, HG.out⟩
  · have hc' : bad = true ∨ bs.length < 1 := by
      cases bad
      · right; simp at hc ⊢; exact hc
      · exact .inl rfl
    replace T : Hid (∀ W, Rds W g B bs bad → Calls Try.prog 93 #[.pointer (some ⟨g, 0, none⟩), .int .i64 1] W fun e w' => e = .returned (.slice none 0 0) ∧ Rds w' g B bs true ∧ W.grownBy w' (some g)) := hide (fun W hW => (T.out W hW).mono (by
      rintro e w' (⟨h1, h2, _⟩ | ⟨_, h2⟩)
      · exact absurd ⟨h1, h2⟩ hc
      · exact h2))
    have e0 : (rU8 (bs, bad)) = (0, (bs, true)) := by
      rcases hc' with rfl | hc'
      · cases bs <;> rfl
      · have : bs = [] := List.eq_nil_of_length_eq_zero (by omega)
        subst this; rfl
    rw [e0]
    have o1 : bits .or .u64 0 0 = 0 := by decide
    clear hc hc' HOK e0
    have i0 : ∀ W, (Instr.index 137 (.agg #[.int .u8 0, .int .u8 0, .int .u8 0, .int .u8 0, .int .u8 0, .int .u8 0, .int .u8 0, .int .u8 0]) (.int .i64 0)).run Try.prog W = .ok (.int .u8 0) W := fun _ => by kernel_rfl
    have i1 : ∀ W, (Instr.index 137 (.agg #[.int .u8 0, .int .u8 0, .int .u8 0, .int .u8 0, .int .u8 0, .int .u8 0, .int .u8 0, .int .u8 0]) (.int .i64 1)).run Try.prog W = .ok (.int .u8 0) W := fun _ => by kernel_rfl
    have i2 : ∀ W, (Instr.index 137 (.agg #[.int .u8 0, .int .u8 0, .int .u8 0, .int .u8 0, .int .u8 0, .int .u8 0, .int .u8 0, .int .u8 0]) (.int .i64 2)).run Try.prog W = .ok (.int .u8 0) W := fun _ => by kernel_rfl
    have i3 : ∀ W, (Instr.index 137 (.agg #[.int .u8 0, .int .u8 0, .int .u8 0, .int .u8 0, .int .u8 0, .int .u8 0, .int .u8 0, .int .u8 0]) (.int .i64 3)).run Try.prog W = .ok (.int .u8 0) W := fun _ => by kernel_rfl
    have i4 : ∀ W, (Instr.index 137 (.agg #[.int .u8 0, .int .u8 0, .int .u8 0, .int .u8 0, .int .u8 0, .int .u8 0, .int .u8 0, .int .u8 0]) (.int .i64 4)).run Try.prog W = .ok (.int .u8 0) W := fun _ => by kernel_rfl
    have i5 : ∀ W, (Instr.index 137 (.agg #[.int .u8 0, .int .u8 0, .int .u8 0, .int .u8 0, .int .u8 0, .int .u8 0, .int .u8 0, .int .u8 0]) (.int .i64 5)).run Try.prog W = .ok (.int .u8 0) W := fun _ => by kernel_rfl
    have i6 : ∀ W, (Instr.index 137 (.agg #[.int .u8 0, .int .u8 0, .int .u8 0, .int .u8 0, .int .u8 0, .int .u8 0, .int .u8 0, .int .u8 0]) (.int .i64 6)).run Try.prog W = .ok (.int .u8 0) W := fun _ => by kernel_rfl
    have i7 : ∀ W, (Instr.index 137 (.agg #[.int .u8 0, .int .u8 0, .int .u8 0, .int .u8 0, .int .u8 0, .int .u8 0, .int .u8 0, .int .u8 0]) (.int .i64 7)).run Try.prog W = .ok (.int .u8 0) W := fun _ => by kernel_rfl
    go_enter Try.func89, Try.ntmps89
    go_wp2_with fail
    go_region_law (first
      | (go_simp; go_at_call 93; (with_reducible refine (T.out _ h1).mono ?_); rintro e w2 ⟨rfl, hrd, hgr⟩; have p1 := p0.grown hgr hne)
      | (refine step_copy_splice rfl (.tmp 11) (.tmp 16) 22 22 rfl 5 Try.underlying22 szB (some ⟨w.heap.size, 0, none⟩) none 8 8 0 0 (by simp [Act.eval, Act.put]) (by simp [Act.eval, Act.put]) w.heap.size 0 zero8 137 p1.eq [] rfl copy0 fit0 one0 w.heap.size w2 (Below.refl _ _) (Nat.le_refl _) ?_; intro w4 hg4 hb4))
    all_goals
      have e4 := hg4.out
      rw [splice80] at e4
      haveI : BoxAt w4 w.heap.size _ _ := ⟨e4⟩
      have HR := hide (hrd.below (hb4.mono hle))
      have HG := hide (grown_then_below (grown_trans hB hgr) hb4)
      clear e4 hg4 hb4 hrd hgr p0 p1 T h1 hB
      go_wp2
      refine wp_loop_rounds 9 ?_
      iterate 9 (rw [rounds_succ]; go_wp2)
      go_ret
      exact ⟨rfl, HR.out, HG.out⟩
set_option maxHeartbeats 400000 in
theorem u8R_s (g B : Nat) (s : RS) (w : World) (h : Rds w g B s.1 s.2) :
    Calls Try.prog 37 #[.pointer (some ⟨g, 0, none⟩)] w (RetR g B w (.int .u8 (rU8 s).1) (rU8 s).2) := by
  have T := hide (wideR_s g B s w h)
  have hr := rU8_range h.ok
  obtain ⟨hr0, hr1⟩ := hr
  clear h
  generalize rU8 s = r at T hr0 hr1 ⊢
  obtain ⟨x, s'⟩ := r
  simp only at T hr0 hr1 ⊢
  have hx : x % 256 = x := by omega
  go_enter Try.func37, Try.ntmps37
  go_wp2_with fail
  (with_reducible refine T.out.mono ?_)
  rintro e w2 ⟨rfl, hR, hG⟩
  have HR := hide hR
  have HG := hide hG
  clear hR hG
  go_wp2
  go_ret
  exact ⟨rfl, HR.out, HG.out⟩
set_option maxHeartbeats 400000 in
theorem uintR_s (g B : Nat) (s : RS) (w : World) (h : Rds w g B s.1 s.2) (hn : s.1.length ≤ 1000000) :
    Calls Try.prog 41 #[.pointer (some ⟨g, 0, none⟩)] w (RetR g B w (.int .u64 (rUint s).1) (rUint s).2) := by
  have T := hide (number_s g B s.1 s.2 w h hn)
  have hle := numV_le s.1 s.2
  have TT := hide (fun m hm => take_s g B s.1 s.2 m w h hm)
  have hbad := numV_bad s.1 s.2
  obtain ⟨A, c, h⟩ := h
  haveI := h.boxAt
  have HF := hide h.fail
  clear h
  unfold rUint
  generalize numV s.1 s.2 = nv at T hle hbad ⊢
  obtain ⟨x, n⟩ := nv
  obtain ⟨bs, bad⟩ := s
  simp only at T hle hbad ⊢ hn HF TT
  by_cases h0 : n = 0
  · subst h0
    rw [if_pos rfl]
    go_enter Try.func41, Try.ntmps41
    go_wp2_with fail
    (with_reducible refine T.out.mono ?_)
    rintro e w2 ⟨rfl, rfl⟩
    go_wp2
    go_ret
    exact ⟨rfl, ⟨A, c, HF.out⟩, grown_setCell _ _ _ _⟩
  · rw [if_neg h0]
    have hb0 : ((n : Int) == 0) = false := by simp [h0]
    have hbf : bad = false := by
      cases bad
      · rfl
      · exact absurd (hbad rfl) h0
    subst hbf
    have TT' := hide (TT.out n (by omega))
    clear h0 HF hbad TT
    go_enter Try.func41, Try.ntmps41
    go_wp2_with fail
    (with_reducible refine T.out.mono ?_)
    rintro e w2 ⟨rfl, rfl⟩
    go_wp2_with fail
    (with_reducible refine TT'.out.mono ?_)
    rintro e w3 (⟨_, _, A', rfl, _, hR, hG, _⟩ | ⟨hh, _⟩)
    · have HR := hide hR
      have HG := hide hG
      clear hR hG T TT'
      go_wp2
      go_ret
      exact ⟨rfl, HR.out, HG.out⟩
    · simp at hh; omega
set_option maxHeartbeats 400000 in
theorem endR_s (g B : Nat) (s : RS) (w : World) (h : Rds w g B s.1 s.2) (hn : s.1.length ≤ 1000000) :
    Calls Try.prog 48 #[.pointer (some ⟨g, 0, none⟩)] w (RetR g B w (.int .i64 (if s.2 = true ∨ 0 < s.1.length then 3 else 0)) (s.1, s.2 || decide (0 < s.1.length))) := by
  obtain ⟨bs, bad⟩ := s
  have T1 := hide (left_s g B bs bad w h)
  have T2 := hide (fail_s g B bs bad w h)
  have T3 := hide (err_s g B bs bad w h)
  have T4 := hide (fun W (hW : Rds W g B bs true) => err_s g B bs true W hW)
  have HR := hide h
  clear h
  simp only at hn ⊢
  by_cases h0 : 0 < bs.length
  · rw [if_pos (.inr h0), decide_eq_true h0, Bool.or_true]
    have hd : decide ((0 : Int) < (bs.length : Int)) = true := by simp; omega
    go_enter Try.func48, Try.ntmps48
    go_wp2_with fail
    (with_reducible refine T1.out.mono ?_)
    rintro e w2 ⟨rfl, rfl⟩
    go_wp2_with fail
    (with_reducible refine T2.out.mono ?_)
    rintro e w2 ⟨rfl, hR, hG⟩
    have T5 := hide (T4.out w2 hR)
    replace HR := hide hR
    have HG := hide hG
    clear hR hG T4
    go_wp2_with fail
    (with_reducible refine T5.out.mono ?_)
    rintro e w3 ⟨rfl, rfl⟩
    go_wp2
    go_ret
    exact ⟨rfl, HR.out, HG.out⟩
  · have hd : decide ((0 : Int) < (bs.length : Int)) = false := decide_eq_false (by omega)
    rw [decide_eq_false h0, Bool.or_false]
    clear T2 T4
    cases bad
    · rw [if_neg (fun h => h.elim (fun h => Bool.noConfusion h) h0)]
      go_enter Try.func48, Try.ntmps48
      go_wp2_with fail
      (with_reducible refine T1.out.mono ?_)
      rintro e w2 ⟨rfl, rfl⟩
      go_wp2_with fail
      (with_reducible refine T3.out.mono ?_)
      rintro e w2 ⟨rfl, rfl⟩
      go_wp2
      go_ret
      exact ⟨rfl, HR.out, grown_below (Below.refl _ _)⟩
    · rw [if_pos (.inl rfl)]
      go_enter Try.func48, Try.ntmps48
      go_wp2_with fail
      (with_reducible refine T1.out.mono ?_)
      rintro e w2 ⟨rfl, rfl⟩
      go_wp2_with fail
      (with_reducible refine T3.out.mono ?_)
      rintro e w2 ⟨rfl, rfl⟩
      go_wp2
      go_ret
      exact ⟨rfl, HR.out, grown_below (Below.refl _ _)⟩
end Go.Proofs.Ytgpmcpinnaggmaa
