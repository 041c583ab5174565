/-
  Layer 8: contract: notice.Decode.
-/
import Derived.Test.YtgpmcpinnaggmaaDec
namespace Go.Proofs.Ytgpmcpinnaggmaa
set_option linter.unusedSimpArgs false
set_option linter.unusedVariables false
set_option linter.unusedSectionVars false
open Go.RowKit

set_option maxHeartbeats 1000000 in
theorem dRead13 (w W : World) (g B m nb pb : Nat) (x : Nt) (s : RS) (h : DN w g B m nb x s W) (hp : BoxAt W pb #[.func (.func 38) #[] #[.pointer (some ⟨m, 0, none⟩), .pointer (some ⟨nb, 0, none⟩)], .func (.func 40) #[] #[.pointer (some ⟨m, 0, none⟩), .pointer (some ⟨nb, 0, none⟩)], .func (.func 42) #[] #[.pointer (some ⟨m, 0, none⟩), .pointer (some ⟨nb, 0, none⟩)], .func (.func 43) #[] #[.pointer (some ⟨m, 0, none⟩), .pointer (some ⟨nb, 0, none⟩)]] 1) (hg : pb ≠ g) (hn : pb ≠ nb) :
    Calls Try.prog 47 #[.slice (some ⟨pb, 0, none⟩) 4 4] W fun e W' => e = .returned (.tuple #[]) ∧ ∃ A c, DN w g B m nb ⟨x.k, (rGet s).1.1, (rGet s).1.2, (rUint (rGet s).2).1, (rUint (rUint (rGet s).2).2).1, A, c, (rGetSet 6 (rUint (rUint (rGet s).2).2).2).1, x.vw⟩ (rGetSet 6 (rUint (rUint (rGet s).2).2).2).2 W' := by
  haveI := hp
  go_enter Try.func47, Try.ntmps47
  go_wp2
  refine wp_loop_rounds 5 ?_
  rw [rounds_succ]
  go_wp2_with (go_at_call 38; (with_reducible refine (dWho_s w W g B m nb _ _ h).mono ?_); rintro e w1 ⟨rfl, D1, k1⟩; have b1 := k1 _ _ _ hg hn hp; haveI := b1; clear k1)
  rw [rounds_succ]
  go_wp2_with (go_at_call 40; (with_reducible refine (dRound_s w w1 g B m nb _ _ D1).mono ?_); rintro e w2 ⟨rfl, D2, k2⟩; have b2 := k2 _ _ _ hg hn b1; haveI := b2; clear k2)
  rw [rounds_succ]
  go_wp2_with (go_at_call 42; (with_reducible refine (dCid_s w w2 g B m nb _ _ D2).mono ?_); rintro e w3 ⟨rfl, D3, k3⟩; have b3 := k3 _ _ _ hg hn b2; haveI := b3; clear k3)
  rw [rounds_succ]
  go_wp2_with (go_at_call 43; (with_reducible refine (dSet_s w w3 g B m nb _ _ D3).mono ?_); rintro e w4 ⟨rfl, ⟨A4, c4, D4⟩, k4⟩; have b4 := k4 _ _ _ hg hn b3; haveI := b4; clear k4)
  rw [rounds_succ]
  go_wp2
  go_end0
  exact ⟨rfl, A4, c4, D4⟩
set_option maxHeartbeats 1000000 in
theorem dRead2 (w W : World) (g B m nb pb : Nat) (x : Nt) (s : RS) (h : DN w g B m nb x s W) (hp : BoxAt W pb #[.func (.func 38) #[] #[.pointer (some ⟨m, 0, none⟩), .pointer (some ⟨nb, 0, none⟩)]] 1) (hg : pb ≠ g) (hn : pb ≠ nb) :
    Calls Try.prog 47 #[.slice (some ⟨pb, 0, none⟩) 1 1] W fun e W' => e = .returned (.tuple #[]) ∧ DN w g B m nb ⟨x.k, (rGet s).1.1, (rGet s).1.2, x.rd, x.cd, x.SA, x.sc, x.st, x.vw⟩ (rGet s).2 W' := by
  haveI := hp
  go_enter Try.func47, Try.ntmps47
  go_wp2
  refine wp_loop_rounds 2 ?_
  rw [rounds_succ]
  go_wp2_with (go_at_call 38; (with_reducible refine (dWho_s w W g B m nb _ _ h).mono ?_); rintro e w1 ⟨rfl, D1, k1⟩; have b1 := k1 _ _ _ hg hn hp; haveI := b1; clear k1)
  rw [rounds_succ]
  go_wp2
  go_end0
  exact ⟨rfl, D1⟩
set_option maxHeartbeats 1000000 in
theorem dRead4 (w W : World) (g B m nb pb : Nat) (x : Nt) (s : RS) (h : DN w g B m nb x s W) (hp : BoxAt W pb #[.func (.func 38) #[] #[.pointer (some ⟨m, 0, none⟩), .pointer (some ⟨nb, 0, none⟩)], .func (.func 42) #[] #[.pointer (some ⟨m, 0, none⟩), .pointer (some ⟨nb, 0, none⟩)], .func (.func 43) #[] #[.pointer (some ⟨m, 0, none⟩), .pointer (some ⟨nb, 0, none⟩)]] 1) (hg : pb ≠ g) (hn : pb ≠ nb) :
    Calls Try.prog 47 #[.slice (some ⟨pb, 0, none⟩) 3 3] W fun e W' => e = .returned (.tuple #[]) ∧ ∃ A c, DN w g B m nb ⟨x.k, (rGet s).1.1, (rGet s).1.2, x.rd, (rUint (rGet s).2).1, A, c, (rGetSet 6 (rUint (rGet s).2).2).1, x.vw⟩ (rGetSet 6 (rUint (rGet s).2).2).2 W' := by
  haveI := hp
  go_enter Try.func47, Try.ntmps47
  go_wp2
  refine wp_loop_rounds 4 ?_
  rw [rounds_succ]
  go_wp2_with (go_at_call 38; (with_reducible refine (dWho_s w W g B m nb _ _ h).mono ?_); rintro e w1 ⟨rfl, D1, k1⟩; have b1 := k1 _ _ _ hg hn hp; haveI := b1; clear k1)
  rw [rounds_succ]
  go_wp2_with (go_at_call 42; (with_reducible refine (dCid_s w w1 g B m nb _ _ D1).mono ?_); rintro e w2 ⟨rfl, D2, k2⟩; have b2 := k2 _ _ _ hg hn b1; haveI := b2; clear k2)
  rw [rounds_succ]
  go_wp2_with (go_at_call 43; (with_reducible refine (dSet_s w w2 g B m nb _ _ D2).mono ?_); rintro e w3 ⟨rfl, ⟨A4, c4, D4⟩, k3⟩; have b3 := k3 _ _ _ hg hn b2; haveI := b3; clear k3)
  rw [rounds_succ]
  go_wp2
  go_end0
  exact ⟨rfl, A4, c4, D4⟩
set_option maxHeartbeats 1000000 in
theorem dRead5 (w W : World) (g B m nb pb : Nat) (x : Nt) (s : RS) (h : DN w g B m nb x s W) (hp : BoxAt W pb #[.func (.func 45) #[] #[.pointer (some ⟨m, 0, none⟩), .pointer (some ⟨nb, 0, none⟩)]] 1) (hg : pb ≠ g) (hn : pb ≠ nb) :
    Calls Try.prog 47 #[.slice (some ⟨pb, 0, none⟩) 1 1] W fun e W' => e = .returned (.tuple #[]) ∧ ∃ A c A' c', DN w g B m nb ⟨x.k, x.n, x.i, x.rd, x.cd, x.SA, x.sc, x.st, ⟨(rView s).1.1.1, (rView s).1.1.2.1, (rView s).1.1.2.2, A, c, (rView s).1.2.1, A', c', (rView s).1.2.2⟩⟩ (rView s).2 W' := by
  haveI := hp
  go_enter Try.func47, Try.ntmps47
  go_wp2
  refine wp_loop_rounds 2 ?_
  rw [rounds_succ]
  go_wp2_with (go_at_call 45; (with_reducible refine (dWhole_s w W g B m nb _ _ h).mono ?_); rintro e w1 ⟨rfl, ⟨A1, c1, A2, c2, D1⟩, k1⟩; have b1 := k1 _ _ _ hg hn hp; haveI := b1; clear k1)
  rw [rounds_succ]
  go_wp2
  go_end0
  exact ⟨rfl, A1, c1, A2, c2, D1⟩
set_option maxHeartbeats 1000000 in
theorem set11 {w : World} {n : Nat} {c0 c1 c2 c3 c4 c5 c6 c7 c8 c9 c10 : Value} {t : TypeId} (k : BoxAt w n #[c0, c1, c2, c3, c4, c5, c6, c7, c8, c9, c10] t) (d0 d1 d2 d3 d4 d5 d6 d7 d8 d9 d10 : Value) :
    BoxAt (((((((((((w.setCell ⟨n, 0, none⟩ d0).setCell ⟨n, 1, none⟩ d1).setCell ⟨n, 2, none⟩ d2).setCell ⟨n, 3, none⟩ d3).setCell ⟨n, 4, none⟩ d4).setCell ⟨n, 5, none⟩ d5).setCell ⟨n, 6, none⟩ d6).setCell ⟨n, 7, none⟩ d7).setCell ⟨n, 8, none⟩ d8).setCell ⟨n, 9, none⟩ d9).setCell ⟨n, 10, none⟩ d10) n #[d0, d1, d2, d3, d4, d5, d6, d7, d8, d9, d10] t ∧ w.grownBy (((((((((((w.setCell ⟨n, 0, none⟩ d0).setCell ⟨n, 1, none⟩ d1).setCell ⟨n, 2, none⟩ d2).setCell ⟨n, 3, none⟩ d3).setCell ⟨n, 4, none⟩ d4).setCell ⟨n, 5, none⟩ d5).setCell ⟨n, 6, none⟩ d6).setCell ⟨n, 7, none⟩ d7).setCell ⟨n, 8, none⟩ d8).setCell ⟨n, 9, none⟩ d9).setCell ⟨n, 10, none⟩ d10) (some n) := by
  have h0 : BoxAt (w.setCell ⟨n, 0, none⟩ d0) n #[d0, c1, c2, c3, c4, c5, c6, c7, c8, c9, c10] t := setB1 (i := 0) (v := d0) k
  have h1 : BoxAt ((w.setCell ⟨n, 0, none⟩ d0).setCell ⟨n, 1, none⟩ d1) n #[d0, d1, c2, c3, c4, c5, c6, c7, c8, c9, c10] t := setB1 (i := 1) (v := d1) h0
  have h2 : BoxAt (((w.setCell ⟨n, 0, none⟩ d0).setCell ⟨n, 1, none⟩ d1).setCell ⟨n, 2, none⟩ d2) n #[d0, d1, d2, c3, c4, c5, c6, c7, c8, c9, c10] t := setB1 (i := 2) (v := d2) h1
  have h3 : BoxAt ((((w.setCell ⟨n, 0, none⟩ d0).setCell ⟨n, 1, none⟩ d1).setCell ⟨n, 2, none⟩ d2).setCell ⟨n, 3, none⟩ d3) n #[d0, d1, d2, d3, c4, c5, c6, c7, c8, c9, c10] t := setB1 (i := 3) (v := d3) h2
  have h4 : BoxAt (((((w.setCell ⟨n, 0, none⟩ d0).setCell ⟨n, 1, none⟩ d1).setCell ⟨n, 2, none⟩ d2).setCell ⟨n, 3, none⟩ d3).setCell ⟨n, 4, none⟩ d4) n #[d0, d1, d2, d3, d4, c5, c6, c7, c8, c9, c10] t := setB1 (i := 4) (v := d4) h3
  have h5 : BoxAt ((((((w.setCell ⟨n, 0, none⟩ d0).setCell ⟨n, 1, none⟩ d1).setCell ⟨n, 2, none⟩ d2).setCell ⟨n, 3, none⟩ d3).setCell ⟨n, 4, none⟩ d4).setCell ⟨n, 5, none⟩ d5) n #[d0, d1, d2, d3, d4, d5, c6, c7, c8, c9, c10] t := setB1 (i := 5) (v := d5) h4
  have h6 : BoxAt (((((((w.setCell ⟨n, 0, none⟩ d0).setCell ⟨n, 1, none⟩ d1).setCell ⟨n, 2, none⟩ d2).setCell ⟨n, 3, none⟩ d3).setCell ⟨n, 4, none⟩ d4).setCell ⟨n, 5, none⟩ d5).setCell ⟨n, 6, none⟩ d6) n #[d0, d1, d2, d3, d4, d5, d6, c7, c8, c9, c10] t := setB1 (i := 6) (v := d6) h5
  have h7 : BoxAt ((((((((w.setCell ⟨n, 0, none⟩ d0).setCell ⟨n, 1, none⟩ d1).setCell ⟨n, 2, none⟩ d2).setCell ⟨n, 3, none⟩ d3).setCell ⟨n, 4, none⟩ d4).setCell ⟨n, 5, none⟩ d5).setCell ⟨n, 6, none⟩ d6).setCell ⟨n, 7, none⟩ d7) n #[d0, d1, d2, d3, d4, d5, d6, d7, c8, c9, c10] t := setB1 (i := 7) (v := d7) h6
  have h8 : BoxAt (((((((((w.setCell ⟨n, 0, none⟩ d0).setCell ⟨n, 1, none⟩ d1).setCell ⟨n, 2, none⟩ d2).setCell ⟨n, 3, none⟩ d3).setCell ⟨n, 4, none⟩ d4).setCell ⟨n, 5, none⟩ d5).setCell ⟨n, 6, none⟩ d6).setCell ⟨n, 7, none⟩ d7).setCell ⟨n, 8, none⟩ d8) n #[d0, d1, d2, d3, d4, d5, d6, d7, d8, c9, c10] t := setB1 (i := 8) (v := d8) h7
  have h9 : BoxAt ((((((((((w.setCell ⟨n, 0, none⟩ d0).setCell ⟨n, 1, none⟩ d1).setCell ⟨n, 2, none⟩ d2).setCell ⟨n, 3, none⟩ d3).setCell ⟨n, 4, none⟩ d4).setCell ⟨n, 5, none⟩ d5).setCell ⟨n, 6, none⟩ d6).setCell ⟨n, 7, none⟩ d7).setCell ⟨n, 8, none⟩ d8).setCell ⟨n, 9, none⟩ d9) n #[d0, d1, d2, d3, d4, d5, d6, d7, d8, d9, c10] t := setB1 (i := 9) (v := d9) h8
  have h10 : BoxAt (((((((((((w.setCell ⟨n, 0, none⟩ d0).setCell ⟨n, 1, none⟩ d1).setCell ⟨n, 2, none⟩ d2).setCell ⟨n, 3, none⟩ d3).setCell ⟨n, 4, none⟩ d4).setCell ⟨n, 5, none⟩ d5).setCell ⟨n, 6, none⟩ d6).setCell ⟨n, 7, none⟩ d7).setCell ⟨n, 8, none⟩ d8).setCell ⟨n, 9, none⟩ d9).setCell ⟨n, 10, none⟩ d10) n #[d0, d1, d2, d3, d4, d5, d6, d7, d8, d9, d10] t := setB1 (i := 10) (v := d10) h9
  exact ⟨h10, (grown_trans (grown_trans (grown_trans (grown_trans (grown_trans (grown_trans (grown_trans (grown_trans (grown_trans (grown_trans (grown_setCell w n 0 d0) (grown_setCell (w.setCell ⟨n, 0, none⟩ d0) n 1 d1)) (grown_setCell ((w.setCell ⟨n, 0, none⟩ d0).setCell ⟨n, 1, none⟩ d1) n 2 d2)) (grown_setCell (((w.setCell ⟨n, 0, none⟩ d0).setCell ⟨n, 1, none⟩ d1).setCell ⟨n, 2, none⟩ d2) n 3 d3)) (grown_setCell ((((w.setCell ⟨n, 0, none⟩ d0).setCell ⟨n, 1, none⟩ d1).setCell ⟨n, 2, none⟩ d2).setCell ⟨n, 3, none⟩ d3) n 4 d4)) (grown_setCell (((((w.setCell ⟨n, 0, none⟩ d0).setCell ⟨n, 1, none⟩ d1).setCell ⟨n, 2, none⟩ d2).setCell ⟨n, 3, none⟩ d3).setCell ⟨n, 4, none⟩ d4) n 5 d5)) (grown_setCell ((((((w.setCell ⟨n, 0, none⟩ d0).setCell ⟨n, 1, none⟩ d1).setCell ⟨n, 2, none⟩ d2).setCell ⟨n, 3, none⟩ d3).setCell ⟨n, 4, none⟩ d4).setCell ⟨n, 5, none⟩ d5) n 6 d6)) (grown_setCell (((((((w.setCell ⟨n, 0, none⟩ d0).setCell ⟨n, 1, none⟩ d1).setCell ⟨n, 2, none⟩ d2).setCell ⟨n, 3, none⟩ d3).setCell ⟨n, 4, none⟩ d4).setCell ⟨n, 5, none⟩ d5).setCell ⟨n, 6, none⟩ d6) n 7 d7)) (grown_setCell ((((((((w.setCell ⟨n, 0, none⟩ d0).setCell ⟨n, 1, none⟩ d1).setCell ⟨n, 2, none⟩ d2).setCell ⟨n, 3, none⟩ d3).setCell ⟨n, 4, none⟩ d4).setCell ⟨n, 5, none⟩ d5).setCell ⟨n, 6, none⟩ d6).setCell ⟨n, 7, none⟩ d7) n 8 d8)) (grown_setCell (((((((((w.setCell ⟨n, 0, none⟩ d0).setCell ⟨n, 1, none⟩ d1).setCell ⟨n, 2, none⟩ d2).setCell ⟨n, 3, none⟩ d3).setCell ⟨n, 4, none⟩ d4).setCell ⟨n, 5, none⟩ d5).setCell ⟨n, 6, none⟩ d6).setCell ⟨n, 7, none⟩ d7).setCell ⟨n, 8, none⟩ d8) n 9 d9)) (grown_setCell ((((((((((w.setCell ⟨n, 0, none⟩ d0).setCell ⟨n, 1, none⟩ d1).setCell ⟨n, 2, none⟩ d2).setCell ⟨n, 3, none⟩ d3).setCell ⟨n, 4, none⟩ d4).setCell ⟨n, 5, none⟩ d5).setCell ⟨n, 6, none⟩ d6).setCell ⟨n, 7, none⟩ d7).setCell ⟨n, 8, none⟩ d8).setCell ⟨n, 9, none⟩ d9) n 10 d10))⟩
/-- a notice elsewhere -/
def Nt.at (x : Nt) (SA : Option Addr) (sc : Nat) (MA : Option Addr) (mc : Nat) (UA : Option Addr) (uc : Nat) : Nt := ⟨x.k, x.n, x.i, x.rd, x.cd, SA, sc, x.st, ⟨x.vw.r, x.vw.n, x.vw.i, MA, mc, x.vw.ms, UA, uc, x.vw.us⟩⟩
/-- a notice, in new memory, and an error's number -/
def RetN (w : World) (x : Nt) (err : Int) (e : Ending) (w' : World) : Prop := ∃ SA sc MA mc UA uc, e = .returned (.tuple #[(x.at SA sc MA mc UA uc).v, .int .i64 err]) ∧ Nt.Ok w' (x.at SA sc MA mc UA uc) ∧ Below w.heap.size w w'
/-- the end of the reading -/
def finN (x : Nt) (s : RS) : Option Nt := if s.2 = true ∨ 0 < s.1.length then none else if x.mayB = false then none else some x
def RetDec (w : World) : Option Nt → Ending → World → Prop
  | none => RetN w nt0 3
  | some x => RetN w x 0
theorem RetDec.no {w w' : World} (hb : Below w.heap.size w w') : RetDec w none (.returned (.tuple #[.agg #[.int .i64 0, .int .i64 0, .int .u64 0, .int .u64 0, .int .u64 0, .slice none 0 0, .int .u64 0, .int .i64 0, .int .u64 0, .slice none 0 0, .slice none 0 0], .int .i64 3])) w' :=
  ⟨none, 0, none, 0, none, 0, rfl, ⟨Reads.none_, by simp [Nt.at], vw0_ok w'⟩, hb⟩
set_option maxRecDepth 100000 in
set_option maxHeartbeats 4000000 in
theorem dec1 (A : Option Addr) (c : Nat) (bs : List Int) (w : World) (hr : Reads w w.heap.size 1 A bs.length (bcs bs)) (hn : bs.length ≤ 1000000) (hok : bOK bs) (s s1 s2 s3 s4 : RS) (pn pi rd cd : Int) (l : List Pr) (e1 : rGet s = ((pn, pi), s1)) (e2 : rUint s1 = (rd, s2)) (e3 : rUint s2 = (cd, s3)) (e4 : rGetSet 6 s3 = (l, s4)) (hll : l.length ≤ 1000000) (hu : rU8 (bs, false) = (1, s)) :
    Calls Try.prog 13 #[.slice A bs.length c] w (RetDec w (finN ⟨1, pn, pi, rd, cd, none, 0, l, vw0⟩ s4)) := by
  have T1 := hide (newReader_s A c bs _ ((Reads.below hr (below_alloc w (bxN 0 0 0 0 0 none 0 0 0 0 0 none 0 0 none 0 0))).more (by simp)) hn hok)
  have hl1 := rU8_len (bs, false)
  have hrg := rU8_range (s := (bs, false)) hok
  have T2 : Hid (∀ g B W, Rds W g B bs false → Calls Try.prog 37 #[.pointer (some ⟨g, 0, none⟩)] W (RetR g B W (.int .u8 1) s)) := hide (fun g B W h => by
    have := u8R_s g B (bs, false) W h
    rw [hu] at this; exact this)
  rw [hu] at hl1 hrg
  simp only at hl1 hrg
  clear hr hu
  go_enter Try.func13, Try.ntmps13
  go_wp2_with fail
  with_reducible refine T1.out.mono ?_
  rintro e w1 ⟨g, rfl, hg, hR1, hb1⟩
  have p0 := (boxTop w #[.int .i64 0, .int .i64 0, .int .u64 0, .int .u64 0, .int .u64 0, .slice none 0 0, .int .u64 0, .int .i64 0, .int .u64 0, .slice none 0 0, .slice none 0 0] 34).step hb1
  have hB1 := below_step (below_alloc w (bxN 0 0 0 0 0 none 0 0 0 0 0 none 0 0 none 0 0)) hb1
  simp only [World.size_alloc] at hg
  have hgt := hR1.top
  have hbA := below_alloc w1 (.cells #[.pointer (some ⟨g, 0, none⟩)] 64)
  have pm := boxTop w1 #[.pointer (some ⟨g, 0, none⟩)] 64
  haveI := pm
  have T3 := hide (T2.out g _ _ (hR1.step hbA))
  clear T1 T2 hb1
  go_wp2_with fail
  with_reducible refine T3.out.mono ?_
  rintro e w2 ⟨rfl, hR2, hG2⟩
  have hm2 := (pm.grown hG2 (by omega))
  have hlt2 := hm2.lt
  have D0 : DN w g w1.heap.size w1.heap.size w2.heap.size ⟨1, 0, 0, 0, 0, none, 0, [], vw0⟩ s (w2.alloc (bxN 1 0 0 0 0 none 0 0 0 0 0 none 0 0 none 0 0)) :=
    ⟨((p0.alloc' _).grown hG2 (by omega)).alloc' _, hm2.alloc' _, boxTop w2 _ _, hR2.step (below_alloc _ _), World.ownsRow_nil _ _ _ _, World.ownsRow_nil _ _ _ _, World.ownsRow_nil _ _ _ _,
      below_step ((below_step hB1 hbA).trans (grown_to_below hG2 (by omega) (by have := hB1.size; simp; omega))) (below_alloc _ _), by omega, hgt, Nat.le_refl _, hlt2, Nat.le_trans hl1 hn⟩
  have hB2 := hB1.size
  clear hR1 hR2 hG2 pm hm2 hbA hB1 p0 T3
  haveI := D0.km
  haveI : BoxAt (w2.alloc (bxN 1 0 0 0 0 none 0 0 0 0 0 none 0 0 none 0 0)) w2.heap.size #[.int .i64 1, .int .i64 0, .int .u64 0, .int .u64 0, .int .u64 0, .slice none 0 0, .int .u64 0, .int .i64 0, .int .u64 0, .slice none 0 0, .slice none 0 0] 34 := D0.kn
  have bp := boxTop (w2.alloc (bxN 1 0 0 0 0 none 0 0 0 0 0 none 0 0 none 0 0)) #[.func (.func 38) #[] #[.pointer (some ⟨w1.heap.size, 0, none⟩), .pointer (some ⟨w2.heap.size, 0, none⟩)], .func (.func 40) #[] #[.pointer (some ⟨w1.heap.size, 0, none⟩), .pointer (some ⟨w2.heap.size, 0, none⟩)], .func (.func 42) #[] #[.pointer (some ⟨w1.heap.size, 0, none⟩), .pointer (some ⟨w2.heap.size, 0, none⟩)], .func (.func 43) #[] #[.pointer (some ⟨w1.heap.size, 0, none⟩), .pointer (some ⟨w2.heap.size, 0, none⟩)]] 1
  have D0b := D0.below (below_alloc _ (.cells #[.func (.func 38) #[] #[.pointer (some ⟨w1.heap.size, 0, none⟩), .pointer (some ⟨w2.heap.size, 0, none⟩)], .func (.func 40) #[] #[.pointer (some ⟨w1.heap.size, 0, none⟩), .pointer (some ⟨w2.heap.size, 0, none⟩)], .func (.func 42) #[] #[.pointer (some ⟨w1.heap.size, 0, none⟩), .pointer (some ⟨w2.heap.size, 0, none⟩)], .func (.func 43) #[] #[.pointer (some ⟨w1.heap.size, 0, none⟩), .pointer (some ⟨w2.heap.size, 0, none⟩)]] 1))
  have T4 := hide (dRead13 w _ g _ _ _ _ _ _ D0b bp (by simp; omega) (by simp))
  simp only [World.size_alloc, e1, e2, e3, e4] at T4
  clear D0 D0b bp
  go_wp2_with fail
  with_reducible refine T4.out.mono ?_
  rintro e w4 ⟨rfl, A4, c4, D4⟩
  clear T4
  haveI := D4.km
  obtain ⟨bs4, bad4⟩ := s4
  have T5 := hide (endR_s g _ (bs4, bad4) w4 D4.rd D4.hl)
  have hcs := D4.kn
  have hok4 : Nt.Ok w4 ⟨1, pn, pi, rd, cd, A4, c4, l, vw0⟩ := ⟨Reads.of_own D4.os, by first | (show (0 : Nat) ≤ _; omega) | (show _ ≤ 1000000; simp only; omega), ⟨Reads.of_own D4.om, Reads.of_own D4.ou, by first | (show (0 : Nat) ≤ _; omega) | (show _ ≤ 1000000; simp only; omega), by first | (show (0 : Nat) ≤ _; omega) | (show _ ≤ 1000000; simp only; omega)⟩⟩
  have T6 := hide (fun W (h : Nt.Ok W ⟨1, pn, pi, rd, cd, A4, c4, l, vw0⟩) => nmay_s ⟨1, pn, pi, rd, cd, A4, c4, l, vw0⟩ W h)
  unfold Nt.v at T6
  simp only [List.length_nil] at T5 T6
  have key : (bad4 = true ∨ 0 < bs4.length) ∨ (¬ (bad4 = true ∨ 0 < bs4.length) ∧ Nt.mayB ⟨1, pn, pi, rd, cd, A4, c4, l, vw0⟩ = false) ∨ (¬ (bad4 = true ∨ 0 < bs4.length) ∧ Nt.mayB ⟨1, pn, pi, rd, cd, A4, c4, l, vw0⟩ = true) := by
    by_cases h : bad4 = true ∨ 0 < bs4.length
    · exact .inl h
    · cases h2 : Nt.mayB ⟨1, pn, pi, rd, cd, A4, c4, l, vw0⟩
      · exact .inr (.inl ⟨h, rfl⟩)
      · exact .inr (.inr ⟨h, rfl⟩)
  have HOK4 := hide hok4
  clear hok4
  rcases key with hk1 | ⟨hk1, hk2⟩ | ⟨hk1, hk2⟩
  · rw [if_pos hk1] at T5
    have HF : Hid (finN ⟨1, pn, pi, rd, cd, none, 0, l, vw0⟩ (bs4, bad4) = none) := hide (show (if bad4 = true ∨ 0 < bs4.length then none else _) = none from if_pos hk1)
    clear hk1
    go_wp2_with fail
    with_reducible refine T5.out.mono ?_
    rintro e w5 ⟨rfl, hR5, hG5⟩
    have D5 := D4.read (s' := (bs4, bad4 || decide (0 < bs4.length))) hG5 hR5 (Nat.le_refl _)
    haveI := D5.k0
    obtain ⟨k6, g6⟩ := set11 D5.k0 (.int .i64 0) (.int .i64 0) (.int .u64 0) (.int .u64 0) (.int .u64 0) (.slice none 0 0) (.int .u64 0) (.int .i64 0) (.int .u64 0) (.slice none 0 0) (.slice none 0 0)
    have HB6 := hide (D5.hB.trans (grown_to_below g6 (Nat.le_refl _) D5.hB.size))
    clear D4 D5 hR5 hG5 T5 T6
    go_wp2
    generalize ((((((((((w5.setCell ⟨w.heap.size, 0, none⟩ (.int .i64 0)).setCell ⟨w.heap.size, 1, none⟩ (.int .i64 0)).setCell ⟨w.heap.size, 2, none⟩ (.int .u64 0)).setCell ⟨w.heap.size, 3, none⟩ (.int .u64 0)).setCell ⟨w.heap.size, 4, none⟩ (.int .u64 0)).setCell ⟨w.heap.size, 5, none⟩ (.slice none 0 0)).setCell ⟨w.heap.size, 6, none⟩ (.int .u64 0)).setCell ⟨w.heap.size, 7, none⟩ (.int .i64 0)).setCell ⟨w.heap.size, 8, none⟩ (.int .u64 0)).setCell ⟨w.heap.size, 9, none⟩ (.slice none 0 0)).setCell ⟨w.heap.size, 10, none⟩ (.slice none 0 0) = W6 at k6 HB6 ⊢
    haveI := k6
    refine bodyPost_ret (v := .tuple #[.agg #[.int .i64 0, .int .i64 0, .int .u64 0, .int .u64 0, .int .u64 0, .slice none 0 0, .int .u64 0, .int .i64 0, .int .u64 0, .slice none 0 0, .slice none 0 0], .int .i64 3]) (by simp [results, Try.results13, go_sem]) rfl ?_
    rw [HF.out]
    exact RetDec.no HB6.out
  · rw [if_neg hk1] at T5
    have HF : Hid (finN ⟨1, pn, pi, rd, cd, none, 0, l, vw0⟩ (bs4, bad4) = none) := hide ((if_neg hk1).trans (if_pos hk2))
    rw [hk2] at T6
    clear hk1 hk2
    go_wp2_with fail
    with_reducible refine T5.out.mono ?_
    rintro e w5 ⟨rfl, hR5, hG5⟩
    have D5 := D4.read (s' := (bs4, bad4 || decide (0 < bs4.length))) hG5 hR5 (Nat.le_refl _)
    haveI : BoxAt w5 w2.heap.size #[.int .i64 1, .int .i64 pn, .int .u64 pi, .int .u64 rd, .int .u64 cd, .slice A4 l.length c4, .int .u64 0, .int .i64 0, .int .u64 0, .slice none 0 0, .slice none 0 0] 34 := D5.kn
    have ok5 : Nt.Ok w5 ⟨1, pn, pi, rd, cd, A4, c4, l, vw0⟩ := ⟨Reads.of_own D5.os, HOK4.out.sl, ⟨Reads.of_own D5.om, Reads.of_own D5.ou, HOK4.out.vk.ml, HOK4.out.vk.ul⟩⟩
    clear D4 hR5 hG5 T5
    go_wp2_with fail
    (with_reducible refine (T6.out _ ok5).mono ?_)
    rintro e w7 ⟨rfl, hb7⟩
    have D7 := D5.below hb7
    haveI := D7.k0
    obtain ⟨k6, g6⟩ := set11 D7.k0 (.int .i64 0) (.int .i64 0) (.int .u64 0) (.int .u64 0) (.int .u64 0) (.slice none 0 0) (.int .u64 0) (.int .i64 0) (.int .u64 0) (.slice none 0 0) (.slice none 0 0)
    have HB6 := hide (D7.hB.trans (grown_to_below g6 (Nat.le_refl _) D7.hB.size))
    clear D5 D7 T6 ok5 hb7
    go_wp2
    generalize ((((((((((w7.setCell ⟨w.heap.size, 0, none⟩ (.int .i64 0)).setCell ⟨w.heap.size, 1, none⟩ (.int .i64 0)).setCell ⟨w.heap.size, 2, none⟩ (.int .u64 0)).setCell ⟨w.heap.size, 3, none⟩ (.int .u64 0)).setCell ⟨w.heap.size, 4, none⟩ (.int .u64 0)).setCell ⟨w.heap.size, 5, none⟩ (.slice none 0 0)).setCell ⟨w.heap.size, 6, none⟩ (.int .u64 0)).setCell ⟨w.heap.size, 7, none⟩ (.int .i64 0)).setCell ⟨w.heap.size, 8, none⟩ (.int .u64 0)).setCell ⟨w.heap.size, 9, none⟩ (.slice none 0 0)).setCell ⟨w.heap.size, 10, none⟩ (.slice none 0 0) = W6 at k6 HB6 ⊢
    haveI := k6
    refine bodyPost_ret (v := .tuple #[.agg #[.int .i64 0, .int .i64 0, .int .u64 0, .int .u64 0, .int .u64 0, .slice none 0 0, .int .u64 0, .int .i64 0, .int .u64 0, .slice none 0 0, .slice none 0 0], .int .i64 3]) (by simp [results, Try.results13, go_sem]) rfl ?_
    rw [HF.out]
    exact RetDec.no HB6.out
  · rw [if_neg hk1] at T5
    have HF : Hid (finN ⟨1, pn, pi, rd, cd, none, 0, l, vw0⟩ (bs4, bad4) = some ⟨1, pn, pi, rd, cd, none, 0, l, vw0⟩) := hide ((if_neg hk1).trans (if_neg (by intro h; have h' : Nt.mayB ⟨1, pn, pi, rd, cd, A4, c4, l, vw0⟩ = false := h; rw [hk2] at h'; cases h')))
    rw [hk2] at T6
    clear hk1 hk2
    go_wp2_with fail
    with_reducible refine T5.out.mono ?_
    rintro e w5 ⟨rfl, hR5, hG5⟩
    have D5 := D4.read (s' := (bs4, bad4 || decide (0 < bs4.length))) hG5 hR5 (Nat.le_refl _)
    haveI : BoxAt w5 w2.heap.size #[.int .i64 1, .int .i64 pn, .int .u64 pi, .int .u64 rd, .int .u64 cd, .slice A4 l.length c4, .int .u64 0, .int .i64 0, .int .u64 0, .slice none 0 0, .slice none 0 0] 34 := D5.kn
    have ok5 : Nt.Ok w5 ⟨1, pn, pi, rd, cd, A4, c4, l, vw0⟩ := ⟨Reads.of_own D5.os, HOK4.out.sl, ⟨Reads.of_own D5.om, Reads.of_own D5.ou, HOK4.out.vk.ml, HOK4.out.vk.ul⟩⟩
    clear D4 hR5 hG5 T5
    go_wp2_with fail
    (with_reducible refine (T6.out _ ok5).mono ?_)
    rintro e w7 ⟨rfl, hb7⟩
    have D7 := D5.below hb7
    haveI := D7.k0
    haveI : BoxAt w7 w2.heap.size #[.int .i64 1, .int .i64 pn, .int .u64 pi, .int .u64 rd, .int .u64 cd, .slice A4 l.length c4, .int .u64 0, .int .i64 0, .int .u64 0, .slice none 0 0, .slice none 0 0] 34 := D7.kn
    obtain ⟨k6, g6⟩ := set11 D7.k0 (.int .i64 1) (.int .i64 pn) (.int .u64 pi) (.int .u64 rd) (.int .u64 cd) (.slice A4 l.length c4) (.int .u64 0) (.int .i64 0) (.int .u64 0) (.slice none 0 0) (.slice none 0 0)
    have HB6 := hide (D7.hB.trans (grown_to_below g6 (Nat.le_refl _) D7.hB.size))
    have q1 := own_grown D7.os g6 (by omega)
    have q2 := own_grown D7.om g6 (by omega)
    have q3 := own_grown D7.ou g6 (by omega)
    have HQ1 := hide q1
    have HQ2 := hide q2
    have HQ3 := hide q3
    clear D5 D7 T6 ok5 hb7 q1 q2 q3
    go_wp2
    generalize ((((((((((w7.setCell ⟨w.heap.size, 0, none⟩ (.int .i64 1)).setCell ⟨w.heap.size, 1, none⟩ (.int .i64 pn)).setCell ⟨w.heap.size, 2, none⟩ (.int .u64 pi)).setCell ⟨w.heap.size, 3, none⟩ (.int .u64 rd)).setCell ⟨w.heap.size, 4, none⟩ (.int .u64 cd)).setCell ⟨w.heap.size, 5, none⟩ (.slice A4 l.length c4)).setCell ⟨w.heap.size, 6, none⟩ (.int .u64 0)).setCell ⟨w.heap.size, 7, none⟩ (.int .i64 0)).setCell ⟨w.heap.size, 8, none⟩ (.int .u64 0)).setCell ⟨w.heap.size, 9, none⟩ (.slice none 0 0)).setCell ⟨w.heap.size, 10, none⟩ (.slice none 0 0) = W6 at k6 HB6 HQ1 HQ2 HQ3 ⊢
    haveI := k6
    refine bodyPost_ret (v := .tuple #[.agg #[.int .i64 1, .int .i64 pn, .int .u64 pi, .int .u64 rd, .int .u64 cd, .slice A4 l.length c4, .int .u64 0, .int .i64 0, .int .u64 0, .slice none 0 0, .slice none 0 0], .int .i64 0]) (by simp [results, Try.results13, go_sem]) rfl ?_
    rw [HF.out]
    exact ⟨_, _, _, _, _, _, rfl, ⟨Reads.of_own HQ1.out, HOK4.out.sl, ⟨Reads.of_own HQ2.out, Reads.of_own HQ3.out, HOK4.out.vk.ml, HOK4.out.vk.ul⟩⟩, HB6.out⟩
set_option maxRecDepth 100000 in
set_option maxHeartbeats 4000000 in
theorem dec3 (A : Option Addr) (c : Nat) (bs : List Int) (w : World) (hr : Reads w w.heap.size 1 A bs.length (bcs bs)) (hn : bs.length ≤ 1000000) (hok : bOK bs) (s s1 s2 s3 s4 : RS) (pn pi rd cd : Int) (l : List Pr) (e1 : rGet s = ((pn, pi), s1)) (e2 : rUint s1 = (rd, s2)) (e3 : rUint s2 = (cd, s3)) (e4 : rGetSet 6 s3 = (l, s4)) (hll : l.length ≤ 1000000) (hu : rU8 (bs, false) = (3, s)) :
    Calls Try.prog 13 #[.slice A bs.length c] w (RetDec w (finN ⟨3, pn, pi, rd, cd, none, 0, l, vw0⟩ s4)) := by
  have T1 := hide (newReader_s A c bs _ ((Reads.below hr (below_alloc w (bxN 0 0 0 0 0 none 0 0 0 0 0 none 0 0 none 0 0))).more (by simp)) hn hok)
  have hl1 := rU8_len (bs, false)
  have hrg := rU8_range (s := (bs, false)) hok
  have T2 : Hid (∀ g B W, Rds W g B bs false → Calls Try.prog 37 #[.pointer (some ⟨g, 0, none⟩)] W (RetR g B W (.int .u8 3) s)) := hide (fun g B W h => by
    have := u8R_s g B (bs, false) W h
    rw [hu] at this; exact this)
  rw [hu] at hl1 hrg
  simp only at hl1 hrg
  clear hr hu
  go_enter Try.func13, Try.ntmps13
  go_wp2_with fail
  with_reducible refine T1.out.mono ?_
  rintro e w1 ⟨g, rfl, hg, hR1, hb1⟩
  have p0 := (boxTop w #[.int .i64 0, .int .i64 0, .int .u64 0, .int .u64 0, .int .u64 0, .slice none 0 0, .int .u64 0, .int .i64 0, .int .u64 0, .slice none 0 0, .slice none 0 0] 34).step hb1
  have hB1 := below_step (below_alloc w (bxN 0 0 0 0 0 none 0 0 0 0 0 none 0 0 none 0 0)) hb1
  simp only [World.size_alloc] at hg
  have hgt := hR1.top
  have hbA := below_alloc w1 (.cells #[.pointer (some ⟨g, 0, none⟩)] 64)
  have pm := boxTop w1 #[.pointer (some ⟨g, 0, none⟩)] 64
  haveI := pm
  have T3 := hide (T2.out g _ _ (hR1.step hbA))
  clear T1 T2 hb1
  go_wp2_with fail
  with_reducible refine T3.out.mono ?_
  rintro e w2 ⟨rfl, hR2, hG2⟩
  have hm2 := (pm.grown hG2 (by omega))
  have hlt2 := hm2.lt
  have D0 : DN w g w1.heap.size w1.heap.size w2.heap.size ⟨3, 0, 0, 0, 0, none, 0, [], vw0⟩ s (w2.alloc (bxN 3 0 0 0 0 none 0 0 0 0 0 none 0 0 none 0 0)) :=
    ⟨((p0.alloc' _).grown hG2 (by omega)).alloc' _, hm2.alloc' _, boxTop w2 _ _, hR2.step (below_alloc _ _), World.ownsRow_nil _ _ _ _, World.ownsRow_nil _ _ _ _, World.ownsRow_nil _ _ _ _,
      below_step ((below_step hB1 hbA).trans (grown_to_below hG2 (by omega) (by have := hB1.size; simp; omega))) (below_alloc _ _), by omega, hgt, Nat.le_refl _, hlt2, Nat.le_trans hl1 hn⟩
  have hB2 := hB1.size
  clear hR1 hR2 hG2 pm hm2 hbA hB1 p0 T3
  haveI := D0.km
  haveI : BoxAt (w2.alloc (bxN 3 0 0 0 0 none 0 0 0 0 0 none 0 0 none 0 0)) w2.heap.size #[.int .i64 3, .int .i64 0, .int .u64 0, .int .u64 0, .int .u64 0, .slice none 0 0, .int .u64 0, .int .i64 0, .int .u64 0, .slice none 0 0, .slice none 0 0] 34 := D0.kn
  have bp := boxTop (w2.alloc (bxN 3 0 0 0 0 none 0 0 0 0 0 none 0 0 none 0 0)) #[.func (.func 38) #[] #[.pointer (some ⟨w1.heap.size, 0, none⟩), .pointer (some ⟨w2.heap.size, 0, none⟩)], .func (.func 40) #[] #[.pointer (some ⟨w1.heap.size, 0, none⟩), .pointer (some ⟨w2.heap.size, 0, none⟩)], .func (.func 42) #[] #[.pointer (some ⟨w1.heap.size, 0, none⟩), .pointer (some ⟨w2.heap.size, 0, none⟩)], .func (.func 43) #[] #[.pointer (some ⟨w1.heap.size, 0, none⟩), .pointer (some ⟨w2.heap.size, 0, none⟩)]] 1
  have D0b := D0.below (below_alloc _ (.cells #[.func (.func 38) #[] #[.pointer (some ⟨w1.heap.size, 0, none⟩), .pointer (some ⟨w2.heap.size, 0, none⟩)], .func (.func 40) #[] #[.pointer (some ⟨w1.heap.size, 0, none⟩), .pointer (some ⟨w2.heap.size, 0, none⟩)], .func (.func 42) #[] #[.pointer (some ⟨w1.heap.size, 0, none⟩), .pointer (some ⟨w2.heap.size, 0, none⟩)], .func (.func 43) #[] #[.pointer (some ⟨w1.heap.size, 0, none⟩), .pointer (some ⟨w2.heap.size, 0, none⟩)]] 1))
  have T4 := hide (dRead13 w _ g _ _ _ _ _ _ D0b bp (by simp; omega) (by simp))
  simp only [World.size_alloc, e1, e2, e3, e4] at T4
  clear D0 D0b bp
  go_wp2_with fail
  with_reducible refine T4.out.mono ?_
  rintro e w4 ⟨rfl, A4, c4, D4⟩
  clear T4
  haveI := D4.km
  obtain ⟨bs4, bad4⟩ := s4
  have T5 := hide (endR_s g _ (bs4, bad4) w4 D4.rd D4.hl)
  have hcs := D4.kn
  have hok4 : Nt.Ok w4 ⟨3, pn, pi, rd, cd, A4, c4, l, vw0⟩ := ⟨Reads.of_own D4.os, by first | (show (0 : Nat) ≤ _; omega) | (show _ ≤ 1000000; simp only; omega), ⟨Reads.of_own D4.om, Reads.of_own D4.ou, by first | (show (0 : Nat) ≤ _; omega) | (show _ ≤ 1000000; simp only; omega), by first | (show (0 : Nat) ≤ _; omega) | (show _ ≤ 1000000; simp only; omega)⟩⟩
  have T6 := hide (fun W (h : Nt.Ok W ⟨3, pn, pi, rd, cd, A4, c4, l, vw0⟩) => nmay_s ⟨3, pn, pi, rd, cd, A4, c4, l, vw0⟩ W h)
  unfold Nt.v at T6
  simp only [List.length_nil] at T5 T6
  have key : (bad4 = true ∨ 0 < bs4.length) ∨ (¬ (bad4 = true ∨ 0 < bs4.length) ∧ Nt.mayB ⟨3, pn, pi, rd, cd, A4, c4, l, vw0⟩ = false) ∨ (¬ (bad4 = true ∨ 0 < bs4.length) ∧ Nt.mayB ⟨3, pn, pi, rd, cd, A4, c4, l, vw0⟩ = true) := by
    by_cases h : bad4 = true ∨ 0 < bs4.length
    · exact .inl h
    · cases h2 : Nt.mayB ⟨3, pn, pi, rd, cd, A4, c4, l, vw0⟩
      · exact .inr (.inl ⟨h, rfl⟩)
      · exact .inr (.inr ⟨h, rfl⟩)
  have HOK4 := hide hok4
  clear hok4
  rcases key with hk1 | ⟨hk1, hk2⟩ | ⟨hk1, hk2⟩
  · rw [if_pos hk1] at T5
    have HF : Hid (finN ⟨3, pn, pi, rd, cd, none, 0, l, vw0⟩ (bs4, bad4) = none) := hide (show (if bad4 = true ∨ 0 < bs4.length then none else _) = none from if_pos hk1)
    clear hk1
    go_wp2_with fail
    with_reducible refine T5.out.mono ?_
    rintro e w5 ⟨rfl, hR5, hG5⟩
    have D5 := D4.read (s' := (bs4, bad4 || decide (0 < bs4.length))) hG5 hR5 (Nat.le_refl _)
    haveI := D5.k0
    obtain ⟨k6, g6⟩ := set11 D5.k0 (.int .i64 0) (.int .i64 0) (.int .u64 0) (.int .u64 0) (.int .u64 0) (.slice none 0 0) (.int .u64 0) (.int .i64 0) (.int .u64 0) (.slice none 0 0) (.slice none 0 0)
    have HB6 := hide (D5.hB.trans (grown_to_below g6 (Nat.le_refl _) D5.hB.size))
    clear D4 D5 hR5 hG5 T5 T6
    go_wp2
    generalize ((((((((((w5.setCell ⟨w.heap.size, 0, none⟩ (.int .i64 0)).setCell ⟨w.heap.size, 1, none⟩ (.int .i64 0)).setCell ⟨w.heap.size, 2, none⟩ (.int .u64 0)).setCell ⟨w.heap.size, 3, none⟩ (.int .u64 0)).setCell ⟨w.heap.size, 4, none⟩ (.int .u64 0)).setCell ⟨w.heap.size, 5, none⟩ (.slice none 0 0)).setCell ⟨w.heap.size, 6, none⟩ (.int .u64 0)).setCell ⟨w.heap.size, 7, none⟩ (.int .i64 0)).setCell ⟨w.heap.size, 8, none⟩ (.int .u64 0)).setCell ⟨w.heap.size, 9, none⟩ (.slice none 0 0)).setCell ⟨w.heap.size, 10, none⟩ (.slice none 0 0) = W6 at k6 HB6 ⊢
    haveI := k6
    refine bodyPost_ret (v := .tuple #[.agg #[.int .i64 0, .int .i64 0, .int .u64 0, .int .u64 0, .int .u64 0, .slice none 0 0, .int .u64 0, .int .i64 0, .int .u64 0, .slice none 0 0, .slice none 0 0], .int .i64 3]) (by simp [results, Try.results13, go_sem]) rfl ?_
    rw [HF.out]
    exact RetDec.no HB6.out
  · rw [if_neg hk1] at T5
    have HF : Hid (finN ⟨3, pn, pi, rd, cd, none, 0, l, vw0⟩ (bs4, bad4) = none) := hide ((if_neg hk1).trans (if_pos hk2))
    rw [hk2] at T6
    clear hk1 hk2
    go_wp2_with fail
    with_reducible refine T5.out.mono ?_
    rintro e w5 ⟨rfl, hR5, hG5⟩
    have D5 := D4.read (s' := (bs4, bad4 || decide (0 < bs4.length))) hG5 hR5 (Nat.le_refl _)
    haveI : BoxAt w5 w2.heap.size #[.int .i64 3, .int .i64 pn, .int .u64 pi, .int .u64 rd, .int .u64 cd, .slice A4 l.length c4, .int .u64 0, .int .i64 0, .int .u64 0, .slice none 0 0, .slice none 0 0] 34 := D5.kn
    have ok5 : Nt.Ok w5 ⟨3, pn, pi, rd, cd, A4, c4, l, vw0⟩ := ⟨Reads.of_own D5.os, HOK4.out.sl, ⟨Reads.of_own D5.om, Reads.of_own D5.ou, HOK4.out.vk.ml, HOK4.out.vk.ul⟩⟩
    clear D4 hR5 hG5 T5
    go_wp2_with fail
    (with_reducible refine (T6.out _ ok5).mono ?_)
    rintro e w7 ⟨rfl, hb7⟩
    have D7 := D5.below hb7
    haveI := D7.k0
    obtain ⟨k6, g6⟩ := set11 D7.k0 (.int .i64 0) (.int .i64 0) (.int .u64 0) (.int .u64 0) (.int .u64 0) (.slice none 0 0) (.int .u64 0) (.int .i64 0) (.int .u64 0) (.slice none 0 0) (.slice none 0 0)
    have HB6 := hide (D7.hB.trans (grown_to_below g6 (Nat.le_refl _) D7.hB.size))
    clear D5 D7 T6 ok5 hb7
    go_wp2
    generalize ((((((((((w7.setCell ⟨w.heap.size, 0, none⟩ (.int .i64 0)).setCell ⟨w.heap.size, 1, none⟩ (.int .i64 0)).setCell ⟨w.heap.size, 2, none⟩ (.int .u64 0)).setCell ⟨w.heap.size, 3, none⟩ (.int .u64 0)).setCell ⟨w.heap.size, 4, none⟩ (.int .u64 0)).setCell ⟨w.heap.size, 5, none⟩ (.slice none 0 0)).setCell ⟨w.heap.size, 6, none⟩ (.int .u64 0)).setCell ⟨w.heap.size, 7, none⟩ (.int .i64 0)).setCell ⟨w.heap.size, 8, none⟩ (.int .u64 0)).setCell ⟨w.heap.size, 9, none⟩ (.slice none 0 0)).setCell ⟨w.heap.size, 10, none⟩ (.slice none 0 0) = W6 at k6 HB6 ⊢
    haveI := k6
    refine bodyPost_ret (v := .tuple #[.agg #[.int .i64 0, .int .i64 0, .int .u64 0, .int .u64 0, .int .u64 0, .slice none 0 0, .int .u64 0, .int .i64 0, .int .u64 0, .slice none 0 0, .slice none 0 0], .int .i64 3]) (by simp [results, Try.results13, go_sem]) rfl ?_
    rw [HF.out]
    exact RetDec.no HB6.out
  · rw [if_neg hk1] at T5
    have HF : Hid (finN ⟨3, pn, pi, rd, cd, none, 0, l, vw0⟩ (bs4, bad4) = some ⟨3, pn, pi, rd, cd, none, 0, l, vw0⟩) := hide ((if_neg hk1).trans (if_neg (by intro h; have h' : Nt.mayB ⟨3, pn, pi, rd, cd, A4, c4, l, vw0⟩ = false := h; rw [hk2] at h'; cases h')))
    rw [hk2] at T6
    clear hk1 hk2
    go_wp2_with fail
    with_reducible refine T5.out.mono ?_
    rintro e w5 ⟨rfl, hR5, hG5⟩
    have D5 := D4.read (s' := (bs4, bad4 || decide (0 < bs4.length))) hG5 hR5 (Nat.le_refl _)
    haveI : BoxAt w5 w2.heap.size #[.int .i64 3, .int .i64 pn, .int .u64 pi, .int .u64 rd, .int .u64 cd, .slice A4 l.length c4, .int .u64 0, .int .i64 0, .int .u64 0, .slice none 0 0, .slice none 0 0] 34 := D5.kn
    have ok5 : Nt.Ok w5 ⟨3, pn, pi, rd, cd, A4, c4, l, vw0⟩ := ⟨Reads.of_own D5.os, HOK4.out.sl, ⟨Reads.of_own D5.om, Reads.of_own D5.ou, HOK4.out.vk.ml, HOK4.out.vk.ul⟩⟩
    clear D4 hR5 hG5 T5
    go_wp2_with fail
    (with_reducible refine (T6.out _ ok5).mono ?_)
    rintro e w7 ⟨rfl, hb7⟩
    have D7 := D5.below hb7
    haveI := D7.k0
    haveI : BoxAt w7 w2.heap.size #[.int .i64 3, .int .i64 pn, .int .u64 pi, .int .u64 rd, .int .u64 cd, .slice A4 l.length c4, .int .u64 0, .int .i64 0, .int .u64 0, .slice none 0 0, .slice none 0 0] 34 := D7.kn
    obtain ⟨k6, g6⟩ := set11 D7.k0 (.int .i64 3) (.int .i64 pn) (.int .u64 pi) (.int .u64 rd) (.int .u64 cd) (.slice A4 l.length c4) (.int .u64 0) (.int .i64 0) (.int .u64 0) (.slice none 0 0) (.slice none 0 0)
    have HB6 := hide (D7.hB.trans (grown_to_below g6 (Nat.le_refl _) D7.hB.size))
    have q1 := own_grown D7.os g6 (by omega)
    have q2 := own_grown D7.om g6 (by omega)
    have q3 := own_grown D7.ou g6 (by omega)
    have HQ1 := hide q1
    have HQ2 := hide q2
    have HQ3 := hide q3
    clear D5 D7 T6 ok5 hb7 q1 q2 q3
    go_wp2
    generalize ((((((((((w7.setCell ⟨w.heap.size, 0, none⟩ (.int .i64 3)).setCell ⟨w.heap.size, 1, none⟩ (.int .i64 pn)).setCell ⟨w.heap.size, 2, none⟩ (.int .u64 pi)).setCell ⟨w.heap.size, 3, none⟩ (.int .u64 rd)).setCell ⟨w.heap.size, 4, none⟩ (.int .u64 cd)).setCell ⟨w.heap.size, 5, none⟩ (.slice A4 l.length c4)).setCell ⟨w.heap.size, 6, none⟩ (.int .u64 0)).setCell ⟨w.heap.size, 7, none⟩ (.int .i64 0)).setCell ⟨w.heap.size, 8, none⟩ (.int .u64 0)).setCell ⟨w.heap.size, 9, none⟩ (.slice none 0 0)).setCell ⟨w.heap.size, 10, none⟩ (.slice none 0 0) = W6 at k6 HB6 HQ1 HQ2 HQ3 ⊢
    haveI := k6
    refine bodyPost_ret (v := .tuple #[.agg #[.int .i64 3, .int .i64 pn, .int .u64 pi, .int .u64 rd, .int .u64 cd, .slice A4 l.length c4, .int .u64 0, .int .i64 0, .int .u64 0, .slice none 0 0, .slice none 0 0], .int .i64 0]) (by simp [results, Try.results13, go_sem]) rfl ?_
    rw [HF.out]
    exact ⟨_, _, _, _, _, _, rfl, ⟨Reads.of_own HQ1.out, HOK4.out.sl, ⟨Reads.of_own HQ2.out, Reads.of_own HQ3.out, HOK4.out.vk.ml, HOK4.out.vk.ul⟩⟩, HB6.out⟩
set_option maxRecDepth 100000 in
set_option maxHeartbeats 4000000 in
theorem dec4 (A : Option Addr) (c : Nat) (bs : List Int) (w : World) (hr : Reads w w.heap.size 1 A bs.length (bcs bs)) (hn : bs.length ≤ 1000000) (hok : bOK bs) (s s1 s3 s4 : RS) (pn pi cd : Int) (l : List Pr) (e1 : rGet s = ((pn, pi), s1)) (e3 : rUint s1 = (cd, s3)) (e4 : rGetSet 6 s3 = (l, s4)) (hll : l.length ≤ 1000000) (hu : rU8 (bs, false) = (4, s)) :
    Calls Try.prog 13 #[.slice A bs.length c] w (RetDec w (finN ⟨4, pn, pi, 0, cd, none, 0, l, vw0⟩ s4)) := by
  have T1 := hide (newReader_s A c bs _ ((Reads.below hr (below_alloc w (bxN 0 0 0 0 0 none 0 0 0 0 0 none 0 0 none 0 0))).more (by simp)) hn hok)
  have hl1 := rU8_len (bs, false)
  have hrg := rU8_range (s := (bs, false)) hok
  have T2 : Hid (∀ g B W, Rds W g B bs false → Calls Try.prog 37 #[.pointer (some ⟨g, 0, none⟩)] W (RetR g B W (.int .u8 4) s)) := hide (fun g B W h => by
    have := u8R_s g B (bs, false) W h
    rw [hu] at this; exact this)
  rw [hu] at hl1 hrg
  simp only at hl1 hrg
  clear hr hu
  go_enter Try.func13, Try.ntmps13
  go_wp2_with fail
  with_reducible refine T1.out.mono ?_
  rintro e w1 ⟨g, rfl, hg, hR1, hb1⟩
  have p0 := (boxTop w #[.int .i64 0, .int .i64 0, .int .u64 0, .int .u64 0, .int .u64 0, .slice none 0 0, .int .u64 0, .int .i64 0, .int .u64 0, .slice none 0 0, .slice none 0 0] 34).step hb1
  have hB1 := below_step (below_alloc w (bxN 0 0 0 0 0 none 0 0 0 0 0 none 0 0 none 0 0)) hb1
  simp only [World.size_alloc] at hg
  have hgt := hR1.top
  have hbA := below_alloc w1 (.cells #[.pointer (some ⟨g, 0, none⟩)] 64)
  have pm := boxTop w1 #[.pointer (some ⟨g, 0, none⟩)] 64
  haveI := pm
  have T3 := hide (T2.out g _ _ (hR1.step hbA))
  clear T1 T2 hb1
  go_wp2_with fail
  with_reducible refine T3.out.mono ?_
  rintro e w2 ⟨rfl, hR2, hG2⟩
  have hm2 := (pm.grown hG2 (by omega))
  have hlt2 := hm2.lt
  have D0 : DN w g w1.heap.size w1.heap.size w2.heap.size ⟨4, 0, 0, 0, 0, none, 0, [], vw0⟩ s (w2.alloc (bxN 4 0 0 0 0 none 0 0 0 0 0 none 0 0 none 0 0)) :=
    ⟨((p0.alloc' _).grown hG2 (by omega)).alloc' _, hm2.alloc' _, boxTop w2 _ _, hR2.step (below_alloc _ _), World.ownsRow_nil _ _ _ _, World.ownsRow_nil _ _ _ _, World.ownsRow_nil _ _ _ _,
      below_step ((below_step hB1 hbA).trans (grown_to_below hG2 (by omega) (by have := hB1.size; simp; omega))) (below_alloc _ _), by omega, hgt, Nat.le_refl _, hlt2, Nat.le_trans hl1 hn⟩
  have hB2 := hB1.size
  clear hR1 hR2 hG2 pm hm2 hbA hB1 p0 T3
  haveI := D0.km
  haveI : BoxAt (w2.alloc (bxN 4 0 0 0 0 none 0 0 0 0 0 none 0 0 none 0 0)) w2.heap.size #[.int .i64 4, .int .i64 0, .int .u64 0, .int .u64 0, .int .u64 0, .slice none 0 0, .int .u64 0, .int .i64 0, .int .u64 0, .slice none 0 0, .slice none 0 0] 34 := D0.kn
  have bp := boxTop (w2.alloc (bxN 4 0 0 0 0 none 0 0 0 0 0 none 0 0 none 0 0)) #[.func (.func 38) #[] #[.pointer (some ⟨w1.heap.size, 0, none⟩), .pointer (some ⟨w2.heap.size, 0, none⟩)], .func (.func 42) #[] #[.pointer (some ⟨w1.heap.size, 0, none⟩), .pointer (some ⟨w2.heap.size, 0, none⟩)], .func (.func 43) #[] #[.pointer (some ⟨w1.heap.size, 0, none⟩), .pointer (some ⟨w2.heap.size, 0, none⟩)]] 1
  have D0b := D0.below (below_alloc _ (.cells #[.func (.func 38) #[] #[.pointer (some ⟨w1.heap.size, 0, none⟩), .pointer (some ⟨w2.heap.size, 0, none⟩)], .func (.func 42) #[] #[.pointer (some ⟨w1.heap.size, 0, none⟩), .pointer (some ⟨w2.heap.size, 0, none⟩)], .func (.func 43) #[] #[.pointer (some ⟨w1.heap.size, 0, none⟩), .pointer (some ⟨w2.heap.size, 0, none⟩)]] 1))
  have T4 := hide (dRead4 w _ g _ _ _ _ _ _ D0b bp (by simp; omega) (by simp))
  simp only [World.size_alloc, e1, e3, e4] at T4
  clear D0 D0b bp
  go_wp2_with fail
  with_reducible refine T4.out.mono ?_
  rintro e w4 ⟨rfl, A4, c4, D4⟩
  clear T4
  haveI := D4.km
  obtain ⟨bs4, bad4⟩ := s4
  have T5 := hide (endR_s g _ (bs4, bad4) w4 D4.rd D4.hl)
  have hcs := D4.kn
  have hok4 : Nt.Ok w4 ⟨4, pn, pi, 0, cd, A4, c4, l, vw0⟩ := ⟨Reads.of_own D4.os, by first | (show (0 : Nat) ≤ _; omega) | (show _ ≤ 1000000; simp only; omega), ⟨Reads.of_own D4.om, Reads.of_own D4.ou, by first | (show (0 : Nat) ≤ _; omega) | (show _ ≤ 1000000; simp only; omega), by first | (show (0 : Nat) ≤ _; omega) | (show _ ≤ 1000000; simp only; omega)⟩⟩
  have T6 := hide (fun W (h : Nt.Ok W ⟨4, pn, pi, 0, cd, A4, c4, l, vw0⟩) => nmay_s ⟨4, pn, pi, 0, cd, A4, c4, l, vw0⟩ W h)
  unfold Nt.v at T6
  simp only [List.length_nil] at T5 T6
  have key : (bad4 = true ∨ 0 < bs4.length) ∨ (¬ (bad4 = true ∨ 0 < bs4.length) ∧ Nt.mayB ⟨4, pn, pi, 0, cd, A4, c4, l, vw0⟩ = false) ∨ (¬ (bad4 = true ∨ 0 < bs4.length) ∧ Nt.mayB ⟨4, pn, pi, 0, cd, A4, c4, l, vw0⟩ = true) := by
    by_cases h : bad4 = true ∨ 0 < bs4.length
    · exact .inl h
    · cases h2 : Nt.mayB ⟨4, pn, pi, 0, cd, A4, c4, l, vw0⟩
      · exact .inr (.inl ⟨h, rfl⟩)
      · exact .inr (.inr ⟨h, rfl⟩)
  have HOK4 := hide hok4
  clear hok4
  rcases key with hk1 | ⟨hk1, hk2⟩ | ⟨hk1, hk2⟩
  · rw [if_pos hk1] at T5
    have HF : Hid (finN ⟨4, pn, pi, 0, cd, none, 0, l, vw0⟩ (bs4, bad4) = none) := hide (show (if bad4 = true ∨ 0 < bs4.length then none else _) = none from if_pos hk1)
    clear hk1
    go_wp2_with fail
    with_reducible refine T5.out.mono ?_
    rintro e w5 ⟨rfl, hR5, hG5⟩
    have D5 := D4.read (s' := (bs4, bad4 || decide (0 < bs4.length))) hG5 hR5 (Nat.le_refl _)
    haveI := D5.k0
    obtain ⟨k6, g6⟩ := set11 D5.k0 (.int .i64 0) (.int .i64 0) (.int .u64 0) (.int .u64 0) (.int .u64 0) (.slice none 0 0) (.int .u64 0) (.int .i64 0) (.int .u64 0) (.slice none 0 0) (.slice none 0 0)
    have HB6 := hide (D5.hB.trans (grown_to_below g6 (Nat.le_refl _) D5.hB.size))
    clear D4 D5 hR5 hG5 T5 T6
    go_wp2
    generalize ((((((((((w5.setCell ⟨w.heap.size, 0, none⟩ (.int .i64 0)).setCell ⟨w.heap.size, 1, none⟩ (.int .i64 0)).setCell ⟨w.heap.size, 2, none⟩ (.int .u64 0)).setCell ⟨w.heap.size, 3, none⟩ (.int .u64 0)).setCell ⟨w.heap.size, 4, none⟩ (.int .u64 0)).setCell ⟨w.heap.size, 5, none⟩ (.slice none 0 0)).setCell ⟨w.heap.size, 6, none⟩ (.int .u64 0)).setCell ⟨w.heap.size, 7, none⟩ (.int .i64 0)).setCell ⟨w.heap.size, 8, none⟩ (.int .u64 0)).setCell ⟨w.heap.size, 9, none⟩ (.slice none 0 0)).setCell ⟨w.heap.size, 10, none⟩ (.slice none 0 0) = W6 at k6 HB6 ⊢
    haveI := k6
    refine bodyPost_ret (v := .tuple #[.agg #[.int .i64 0, .int .i64 0, .int .u64 0, .int .u64 0, .int .u64 0, .slice none 0 0, .int .u64 0, .int .i64 0, .int .u64 0, .slice none 0 0, .slice none 0 0], .int .i64 3]) (by simp [results, Try.results13, go_sem]) rfl ?_
    rw [HF.out]
    exact RetDec.no HB6.out
  · rw [if_neg hk1] at T5
    have HF : Hid (finN ⟨4, pn, pi, 0, cd, none, 0, l, vw0⟩ (bs4, bad4) = none) := hide ((if_neg hk1).trans (if_pos hk2))
    rw [hk2] at T6
    clear hk1 hk2
    go_wp2_with fail
    with_reducible refine T5.out.mono ?_
    rintro e w5 ⟨rfl, hR5, hG5⟩
    have D5 := D4.read (s' := (bs4, bad4 || decide (0 < bs4.length))) hG5 hR5 (Nat.le_refl _)
    haveI : BoxAt w5 w2.heap.size #[.int .i64 4, .int .i64 pn, .int .u64 pi, .int .u64 0, .int .u64 cd, .slice A4 l.length c4, .int .u64 0, .int .i64 0, .int .u64 0, .slice none 0 0, .slice none 0 0] 34 := D5.kn
    have ok5 : Nt.Ok w5 ⟨4, pn, pi, 0, cd, A4, c4, l, vw0⟩ := ⟨Reads.of_own D5.os, HOK4.out.sl, ⟨Reads.of_own D5.om, Reads.of_own D5.ou, HOK4.out.vk.ml, HOK4.out.vk.ul⟩⟩
    clear D4 hR5 hG5 T5
    go_wp2_with fail
    (with_reducible refine (T6.out _ ok5).mono ?_)
    rintro e w7 ⟨rfl, hb7⟩
    have D7 := D5.below hb7
    haveI := D7.k0
    obtain ⟨k6, g6⟩ := set11 D7.k0 (.int .i64 0) (.int .i64 0) (.int .u64 0) (.int .u64 0) (.int .u64 0) (.slice none 0 0) (.int .u64 0) (.int .i64 0) (.int .u64 0) (.slice none 0 0) (.slice none 0 0)
    have HB6 := hide (D7.hB.trans (grown_to_below g6 (Nat.le_refl _) D7.hB.size))
    clear D5 D7 T6 ok5 hb7
    go_wp2
    generalize ((((((((((w7.setCell ⟨w.heap.size, 0, none⟩ (.int .i64 0)).setCell ⟨w.heap.size, 1, none⟩ (.int .i64 0)).setCell ⟨w.heap.size, 2, none⟩ (.int .u64 0)).setCell ⟨w.heap.size, 3, none⟩ (.int .u64 0)).setCell ⟨w.heap.size, 4, none⟩ (.int .u64 0)).setCell ⟨w.heap.size, 5, none⟩ (.slice none 0 0)).setCell ⟨w.heap.size, 6, none⟩ (.int .u64 0)).setCell ⟨w.heap.size, 7, none⟩ (.int .i64 0)).setCell ⟨w.heap.size, 8, none⟩ (.int .u64 0)).setCell ⟨w.heap.size, 9, none⟩ (.slice none 0 0)).setCell ⟨w.heap.size, 10, none⟩ (.slice none 0 0) = W6 at k6 HB6 ⊢
    haveI := k6
    refine bodyPost_ret (v := .tuple #[.agg #[.int .i64 0, .int .i64 0, .int .u64 0, .int .u64 0, .int .u64 0, .slice none 0 0, .int .u64 0, .int .i64 0, .int .u64 0, .slice none 0 0, .slice none 0 0], .int .i64 3]) (by simp [results, Try.results13, go_sem]) rfl ?_
    rw [HF.out]
    exact RetDec.no HB6.out
  · rw [if_neg hk1] at T5
    have HF : Hid (finN ⟨4, pn, pi, 0, cd, none, 0, l, vw0⟩ (bs4, bad4) = some ⟨4, pn, pi, 0, cd, none, 0, l, vw0⟩) := hide ((if_neg hk1).trans (if_neg (by intro h; have h' : Nt.mayB ⟨4, pn, pi, 0, cd, A4, c4, l, vw0⟩ = false := h; rw [hk2] at h'; cases h')))
    rw [hk2] at T6
    clear hk1 hk2
    go_wp2_with fail
    with_reducible refine T5.out.mono ?_
    rintro e w5 ⟨rfl, hR5, hG5⟩
    have D5 := D4.read (s' := (bs4, bad4 || decide (0 < bs4.length))) hG5 hR5 (Nat.le_refl _)
    haveI : BoxAt w5 w2.heap.size #[.int .i64 4, .int .i64 pn, .int .u64 pi, .int .u64 0, .int .u64 cd, .slice A4 l.length c4, .int .u64 0, .int .i64 0, .int .u64 0, .slice none 0 0, .slice none 0 0] 34 := D5.kn
    have ok5 : Nt.Ok w5 ⟨4, pn, pi, 0, cd, A4, c4, l, vw0⟩ := ⟨Reads.of_own D5.os, HOK4.out.sl, ⟨Reads.of_own D5.om, Reads.of_own D5.ou, HOK4.out.vk.ml, HOK4.out.vk.ul⟩⟩
    clear D4 hR5 hG5 T5
    go_wp2_with fail
    (with_reducible refine (T6.out _ ok5).mono ?_)
    rintro e w7 ⟨rfl, hb7⟩
    have D7 := D5.below hb7
    haveI := D7.k0
    haveI : BoxAt w7 w2.heap.size #[.int .i64 4, .int .i64 pn, .int .u64 pi, .int .u64 0, .int .u64 cd, .slice A4 l.length c4, .int .u64 0, .int .i64 0, .int .u64 0, .slice none 0 0, .slice none 0 0] 34 := D7.kn
    obtain ⟨k6, g6⟩ := set11 D7.k0 (.int .i64 4) (.int .i64 pn) (.int .u64 pi) (.int .u64 0) (.int .u64 cd) (.slice A4 l.length c4) (.int .u64 0) (.int .i64 0) (.int .u64 0) (.slice none 0 0) (.slice none 0 0)
    have HB6 := hide (D7.hB.trans (grown_to_below g6 (Nat.le_refl _) D7.hB.size))
    have q1 := own_grown D7.os g6 (by omega)
    have q2 := own_grown D7.om g6 (by omega)
    have q3 := own_grown D7.ou g6 (by omega)
    have HQ1 := hide q1
    have HQ2 := hide q2
    have HQ3 := hide q3
    clear D5 D7 T6 ok5 hb7 q1 q2 q3
    go_wp2
    generalize ((((((((((w7.setCell ⟨w.heap.size, 0, none⟩ (.int .i64 4)).setCell ⟨w.heap.size, 1, none⟩ (.int .i64 pn)).setCell ⟨w.heap.size, 2, none⟩ (.int .u64 pi)).setCell ⟨w.heap.size, 3, none⟩ (.int .u64 0)).setCell ⟨w.heap.size, 4, none⟩ (.int .u64 cd)).setCell ⟨w.heap.size, 5, none⟩ (.slice A4 l.length c4)).setCell ⟨w.heap.size, 6, none⟩ (.int .u64 0)).setCell ⟨w.heap.size, 7, none⟩ (.int .i64 0)).setCell ⟨w.heap.size, 8, none⟩ (.int .u64 0)).setCell ⟨w.heap.size, 9, none⟩ (.slice none 0 0)).setCell ⟨w.heap.size, 10, none⟩ (.slice none 0 0) = W6 at k6 HB6 HQ1 HQ2 HQ3 ⊢
    haveI := k6
    refine bodyPost_ret (v := .tuple #[.agg #[.int .i64 4, .int .i64 pn, .int .u64 pi, .int .u64 0, .int .u64 cd, .slice A4 l.length c4, .int .u64 0, .int .i64 0, .int .u64 0, .slice none 0 0, .slice none 0 0], .int .i64 0]) (by simp [results, Try.results13, go_sem]) rfl ?_
    rw [HF.out]
    exact ⟨_, _, _, _, _, _, rfl, ⟨Reads.of_own HQ1.out, HOK4.out.sl, ⟨Reads.of_own HQ2.out, Reads.of_own HQ3.out, HOK4.out.vk.ml, HOK4.out.vk.ul⟩⟩, HB6.out⟩
set_option maxRecDepth 100000 in
set_option maxHeartbeats 4000000 in
theorem dec2 (A : Option Addr) (c : Nat) (bs : List Int) (w : World) (hr : Reads w w.heap.size 1 A bs.length (bcs bs)) (hn : bs.length ≤ 1000000) (hok : bOK bs) (s s4 : RS) (pn pi : Int) (e1 : rGet s = ((pn, pi), s4)) (hu : rU8 (bs, false) = (2, s)) :
    Calls Try.prog 13 #[.slice A bs.length c] w (RetDec w (finN ⟨2, pn, pi, 0, 0, none, 0, [], vw0⟩ s4)) := by
  have T1 := hide (newReader_s A c bs _ ((Reads.below hr (below_alloc w (bxN 0 0 0 0 0 none 0 0 0 0 0 none 0 0 none 0 0))).more (by simp)) hn hok)
  have hl1 := rU8_len (bs, false)
  have hrg := rU8_range (s := (bs, false)) hok
  have T2 : Hid (∀ g B W, Rds W g B bs false → Calls Try.prog 37 #[.pointer (some ⟨g, 0, none⟩)] W (RetR g B W (.int .u8 2) s)) := hide (fun g B W h => by
    have := u8R_s g B (bs, false) W h
    rw [hu] at this; exact this)
  rw [hu] at hl1 hrg
  simp only at hl1 hrg
  clear hr hu
  go_enter Try.func13, Try.ntmps13
  go_wp2_with fail
  with_reducible refine T1.out.mono ?_
  rintro e w1 ⟨g, rfl, hg, hR1, hb1⟩
  have p0 := (boxTop w #[.int .i64 0, .int .i64 0, .int .u64 0, .int .u64 0, .int .u64 0, .slice none 0 0, .int .u64 0, .int .i64 0, .int .u64 0, .slice none 0 0, .slice none 0 0] 34).step hb1
  have hB1 := below_step (below_alloc w (bxN 0 0 0 0 0 none 0 0 0 0 0 none 0 0 none 0 0)) hb1
  simp only [World.size_alloc] at hg
  have hgt := hR1.top
  have hbA := below_alloc w1 (.cells #[.pointer (some ⟨g, 0, none⟩)] 64)
  have pm := boxTop w1 #[.pointer (some ⟨g, 0, none⟩)] 64
  haveI := pm
  have T3 := hide (T2.out g _ _ (hR1.step hbA))
  clear T1 T2 hb1
  go_wp2_with fail
  with_reducible refine T3.out.mono ?_
  rintro e w2 ⟨rfl, hR2, hG2⟩
  have hm2 := (pm.grown hG2 (by omega))
  have hlt2 := hm2.lt
  have D0 : DN w g w1.heap.size w1.heap.size w2.heap.size ⟨2, 0, 0, 0, 0, none, 0, [], vw0⟩ s (w2.alloc (bxN 2 0 0 0 0 none 0 0 0 0 0 none 0 0 none 0 0)) :=
    ⟨((p0.alloc' _).grown hG2 (by omega)).alloc' _, hm2.alloc' _, boxTop w2 _ _, hR2.step (below_alloc _ _), World.ownsRow_nil _ _ _ _, World.ownsRow_nil _ _ _ _, World.ownsRow_nil _ _ _ _,
      below_step ((below_step hB1 hbA).trans (grown_to_below hG2 (by omega) (by have := hB1.size; simp; omega))) (below_alloc _ _), by omega, hgt, Nat.le_refl _, hlt2, Nat.le_trans hl1 hn⟩
  have hB2 := hB1.size
  clear hR1 hR2 hG2 pm hm2 hbA hB1 p0 T3
  haveI := D0.km
  haveI : BoxAt (w2.alloc (bxN 2 0 0 0 0 none 0 0 0 0 0 none 0 0 none 0 0)) w2.heap.size #[.int .i64 2, .int .i64 0, .int .u64 0, .int .u64 0, .int .u64 0, .slice none 0 0, .int .u64 0, .int .i64 0, .int .u64 0, .slice none 0 0, .slice none 0 0] 34 := D0.kn
  have bp := boxTop (w2.alloc (bxN 2 0 0 0 0 none 0 0 0 0 0 none 0 0 none 0 0)) #[.func (.func 38) #[] #[.pointer (some ⟨w1.heap.size, 0, none⟩), .pointer (some ⟨w2.heap.size, 0, none⟩)]] 1
  have D0b := D0.below (below_alloc _ (.cells #[.func (.func 38) #[] #[.pointer (some ⟨w1.heap.size, 0, none⟩), .pointer (some ⟨w2.heap.size, 0, none⟩)]] 1))
  have T4 := hide (dRead2 w _ g _ _ _ _ _ _ D0b bp (by simp; omega) (by simp))
  simp only [World.size_alloc, e1] at T4
  clear D0 D0b bp
  go_wp2_with fail
  with_reducible refine T4.out.mono ?_
  rintro e w4 ⟨rfl, D4⟩
  clear T4
  haveI := D4.km
  obtain ⟨bs4, bad4⟩ := s4
  have T5 := hide (endR_s g _ (bs4, bad4) w4 D4.rd D4.hl)
  have hcs := D4.kn
  have hok4 : Nt.Ok w4 ⟨2, pn, pi, 0, 0, none, 0, [], vw0⟩ := ⟨Reads.of_own D4.os, by first | (show (0 : Nat) ≤ _; omega) | (show _ ≤ 1000000; simp only; omega), ⟨Reads.of_own D4.om, Reads.of_own D4.ou, by first | (show (0 : Nat) ≤ _; omega) | (show _ ≤ 1000000; simp only; omega), by first | (show (0 : Nat) ≤ _; omega) | (show _ ≤ 1000000; simp only; omega)⟩⟩
  have T6 := hide (fun W (h : Nt.Ok W ⟨2, pn, pi, 0, 0, none, 0, [], vw0⟩) => nmay_s ⟨2, pn, pi, 0, 0, none, 0, [], vw0⟩ W h)
  unfold Nt.v at T6
  simp only [List.length_nil] at T5 T6
  have key : (bad4 = true ∨ 0 < bs4.length) ∨ (¬ (bad4 = true ∨ 0 < bs4.length) ∧ Nt.mayB ⟨2, pn, pi, 0, 0, none, 0, [], vw0⟩ = false) ∨ (¬ (bad4 = true ∨ 0 < bs4.length) ∧ Nt.mayB ⟨2, pn, pi, 0, 0, none, 0, [], vw0⟩ = true) := by
    by_cases h : bad4 = true ∨ 0 < bs4.length
    · exact .inl h
    · cases h2 : Nt.mayB ⟨2, pn, pi, 0, 0, none, 0, [], vw0⟩
      · exact .inr (.inl ⟨h, rfl⟩)
      · exact .inr (.inr ⟨h, rfl⟩)
  have HOK4 := hide hok4
  clear hok4
  rcases key with hk1 | ⟨hk1, hk2⟩ | ⟨hk1, hk2⟩
  · rw [if_pos hk1] at T5
    have HF : Hid (finN ⟨2, pn, pi, 0, 0, none, 0, [], vw0⟩ (bs4, bad4) = none) := hide (show (if bad4 = true ∨ 0 < bs4.length then none else _) = none from if_pos hk1)
    clear hk1
    go_wp2_with fail
    with_reducible refine T5.out.mono ?_
    rintro e w5 ⟨rfl, hR5, hG5⟩
    have D5 := D4.read (s' := (bs4, bad4 || decide (0 < bs4.length))) hG5 hR5 (Nat.le_refl _)
    haveI := D5.k0
    obtain ⟨k6, g6⟩ := set11 D5.k0 (.int .i64 0) (.int .i64 0) (.int .u64 0) (.int .u64 0) (.int .u64 0) (.slice none 0 0) (.int .u64 0) (.int .i64 0) (.int .u64 0) (.slice none 0 0) (.slice none 0 0)
    have HB6 := hide (D5.hB.trans (grown_to_below g6 (Nat.le_refl _) D5.hB.size))
    clear D4 D5 hR5 hG5 T5 T6
    go_wp2
    generalize ((((((((((w5.setCell ⟨w.heap.size, 0, none⟩ (.int .i64 0)).setCell ⟨w.heap.size, 1, none⟩ (.int .i64 0)).setCell ⟨w.heap.size, 2, none⟩ (.int .u64 0)).setCell ⟨w.heap.size, 3, none⟩ (.int .u64 0)).setCell ⟨w.heap.size, 4, none⟩ (.int .u64 0)).setCell ⟨w.heap.size, 5, none⟩ (.slice none 0 0)).setCell ⟨w.heap.size, 6, none⟩ (.int .u64 0)).setCell ⟨w.heap.size, 7, none⟩ (.int .i64 0)).setCell ⟨w.heap.size, 8, none⟩ (.int .u64 0)).setCell ⟨w.heap.size, 9, none⟩ (.slice none 0 0)).setCell ⟨w.heap.size, 10, none⟩ (.slice none 0 0) = W6 at k6 HB6 ⊢
    haveI := k6
    refine bodyPost_ret (v := .tuple #[.agg #[.int .i64 0, .int .i64 0, .int .u64 0, .int .u64 0, .int .u64 0, .slice none 0 0, .int .u64 0, .int .i64 0, .int .u64 0, .slice none 0 0, .slice none 0 0], .int .i64 3]) (by simp [results, Try.results13, go_sem]) rfl ?_
    rw [HF.out]
    exact RetDec.no HB6.out
  · rw [if_neg hk1] at T5
    have HF : Hid (finN ⟨2, pn, pi, 0, 0, none, 0, [], vw0⟩ (bs4, bad4) = none) := hide ((if_neg hk1).trans (if_pos hk2))
    rw [hk2] at T6
    clear hk1 hk2
    go_wp2_with fail
    with_reducible refine T5.out.mono ?_
    rintro e w5 ⟨rfl, hR5, hG5⟩
    have D5 := D4.read (s' := (bs4, bad4 || decide (0 < bs4.length))) hG5 hR5 (Nat.le_refl _)
    haveI : BoxAt w5 w2.heap.size #[.int .i64 2, .int .i64 pn, .int .u64 pi, .int .u64 0, .int .u64 0, .slice none 0 0, .int .u64 0, .int .i64 0, .int .u64 0, .slice none 0 0, .slice none 0 0] 34 := D5.kn
    have ok5 : Nt.Ok w5 ⟨2, pn, pi, 0, 0, none, 0, [], vw0⟩ := ⟨Reads.of_own D5.os, HOK4.out.sl, ⟨Reads.of_own D5.om, Reads.of_own D5.ou, HOK4.out.vk.ml, HOK4.out.vk.ul⟩⟩
    clear D4 hR5 hG5 T5
    go_wp2_with fail
    (with_reducible refine (T6.out _ ok5).mono ?_)
    rintro e w7 ⟨rfl, hb7⟩
    have D7 := D5.below hb7
    haveI := D7.k0
    obtain ⟨k6, g6⟩ := set11 D7.k0 (.int .i64 0) (.int .i64 0) (.int .u64 0) (.int .u64 0) (.int .u64 0) (.slice none 0 0) (.int .u64 0) (.int .i64 0) (.int .u64 0) (.slice none 0 0) (.slice none 0 0)
    have HB6 := hide (D7.hB.trans (grown_to_below g6 (Nat.le_refl _) D7.hB.size))
    clear D5 D7 T6 ok5 hb7
    go_wp2
    generalize ((((((((((w7.setCell ⟨w.heap.size, 0, none⟩ (.int .i64 0)).setCell ⟨w.heap.size, 1, none⟩ (.int .i64 0)).setCell ⟨w.heap.size, 2, none⟩ (.int .u64 0)).setCell ⟨w.heap.size, 3, none⟩ (.int .u64 0)).setCell ⟨w.heap.size, 4, none⟩ (.int .u64 0)).setCell ⟨w.heap.size, 5, none⟩ (.slice none 0 0)).setCell ⟨w.heap.size, 6, none⟩ (.int .u64 0)).setCell ⟨w.heap.size, 7, none⟩ (.int .i64 0)).setCell ⟨w.heap.size, 8, none⟩ (.int .u64 0)).setCell ⟨w.heap.size, 9, none⟩ (.slice none 0 0)).setCell ⟨w.heap.size, 10, none⟩ (.slice none 0 0) = W6 at k6 HB6 ⊢
    haveI := k6
    refine bodyPost_ret (v := .tuple #[.agg #[.int .i64 0, .int .i64 0, .int .u64 0, .int .u64 0, .int .u64 0, .slice none 0 0, .int .u64 0, .int .i64 0, .int .u64 0, .slice none 0 0, .slice none 0 0], .int .i64 3]) (by simp [results, Try.results13, go_sem]) rfl ?_
    rw [HF.out]
    exact RetDec.no HB6.out
  · rw [if_neg hk1] at T5
    have HF : Hid (finN ⟨2, pn, pi, 0, 0, none, 0, [], vw0⟩ (bs4, bad4) = some ⟨2, pn, pi, 0, 0, none, 0, [], vw0⟩) := hide ((if_neg hk1).trans (if_neg (by intro h; have h' : Nt.mayB ⟨2, pn, pi, 0, 0, none, 0, [], vw0⟩ = false := h; rw [hk2] at h'; cases h')))
    rw [hk2] at T6
    clear hk1 hk2
    go_wp2_with fail
    with_reducible refine T5.out.mono ?_
    rintro e w5 ⟨rfl, hR5, hG5⟩
    have D5 := D4.read (s' := (bs4, bad4 || decide (0 < bs4.length))) hG5 hR5 (Nat.le_refl _)
    haveI : BoxAt w5 w2.heap.size #[.int .i64 2, .int .i64 pn, .int .u64 pi, .int .u64 0, .int .u64 0, .slice none 0 0, .int .u64 0, .int .i64 0, .int .u64 0, .slice none 0 0, .slice none 0 0] 34 := D5.kn
    have ok5 : Nt.Ok w5 ⟨2, pn, pi, 0, 0, none, 0, [], vw0⟩ := ⟨Reads.of_own D5.os, HOK4.out.sl, ⟨Reads.of_own D5.om, Reads.of_own D5.ou, HOK4.out.vk.ml, HOK4.out.vk.ul⟩⟩
    clear D4 hR5 hG5 T5
    go_wp2_with fail
    (with_reducible refine (T6.out _ ok5).mono ?_)
    rintro e w7 ⟨rfl, hb7⟩
    have D7 := D5.below hb7
    haveI := D7.k0
    haveI : BoxAt w7 w2.heap.size #[.int .i64 2, .int .i64 pn, .int .u64 pi, .int .u64 0, .int .u64 0, .slice none 0 0, .int .u64 0, .int .i64 0, .int .u64 0, .slice none 0 0, .slice none 0 0] 34 := D7.kn
    obtain ⟨k6, g6⟩ := set11 D7.k0 (.int .i64 2) (.int .i64 pn) (.int .u64 pi) (.int .u64 0) (.int .u64 0) (.slice none 0 0) (.int .u64 0) (.int .i64 0) (.int .u64 0) (.slice none 0 0) (.slice none 0 0)
    have HB6 := hide (D7.hB.trans (grown_to_below g6 (Nat.le_refl _) D7.hB.size))
    have q1 := own_grown D7.os g6 (by omega)
    have q2 := own_grown D7.om g6 (by omega)
    have q3 := own_grown D7.ou g6 (by omega)
    have HQ1 := hide q1
    have HQ2 := hide q2
    have HQ3 := hide q3
    clear D5 D7 T6 ok5 hb7 q1 q2 q3
    go_wp2
    generalize ((((((((((w7.setCell ⟨w.heap.size, 0, none⟩ (.int .i64 2)).setCell ⟨w.heap.size, 1, none⟩ (.int .i64 pn)).setCell ⟨w.heap.size, 2, none⟩ (.int .u64 pi)).setCell ⟨w.heap.size, 3, none⟩ (.int .u64 0)).setCell ⟨w.heap.size, 4, none⟩ (.int .u64 0)).setCell ⟨w.heap.size, 5, none⟩ (.slice none 0 0)).setCell ⟨w.heap.size, 6, none⟩ (.int .u64 0)).setCell ⟨w.heap.size, 7, none⟩ (.int .i64 0)).setCell ⟨w.heap.size, 8, none⟩ (.int .u64 0)).setCell ⟨w.heap.size, 9, none⟩ (.slice none 0 0)).setCell ⟨w.heap.size, 10, none⟩ (.slice none 0 0) = W6 at k6 HB6 HQ1 HQ2 HQ3 ⊢
    haveI := k6
    refine bodyPost_ret (v := .tuple #[.agg #[.int .i64 2, .int .i64 pn, .int .u64 pi, .int .u64 0, .int .u64 0, .slice none 0 0, .int .u64 0, .int .i64 0, .int .u64 0, .slice none 0 0, .slice none 0 0], .int .i64 0]) (by simp [results, Try.results13, go_sem]) rfl ?_
    rw [HF.out]
    exact ⟨_, _, _, _, _, _, rfl, ⟨Reads.of_own HQ1.out, HOK4.out.sl, ⟨Reads.of_own HQ2.out, Reads.of_own HQ3.out, HOK4.out.vk.ml, HOK4.out.vk.ul⟩⟩, HB6.out⟩
set_option maxRecDepth 100000 in
set_option maxHeartbeats 4000000 in
theorem dec5 (A : Option Addr) (c : Nat) (bs : List Int) (w : World) (hr : Reads w w.heap.size 1 A bs.length (bcs bs)) (hn : bs.length ≤ 1000000) (hok : bOK bs) (s s4 : RS) (r vn vi : Int) (ms : List Pr) (us : List Int) (e1 : rView s = (((r, vn, vi), ms, us), s4)) (hml : ms.length ≤ 1000000) (hul : us.length ≤ 1000000) (hu : rU8 (bs, false) = (5, s)) :
    Calls Try.prog 13 #[.slice A bs.length c] w (RetDec w (finN ⟨5, 0, 0, 0, 0, none, 0, [], ⟨r, vn, vi, none, 0, ms, none, 0, us⟩⟩ s4)) := by
  have T1 := hide (newReader_s A c bs _ ((Reads.below hr (below_alloc w (bxN 0 0 0 0 0 none 0 0 0 0 0 none 0 0 none 0 0))).more (by simp)) hn hok)
  have hl1 := rU8_len (bs, false)
  have hrg := rU8_range (s := (bs, false)) hok
  have T2 : Hid (∀ g B W, Rds W g B bs false → Calls Try.prog 37 #[.pointer (some ⟨g, 0, none⟩)] W (RetR g B W (.int .u8 5) s)) := hide (fun g B W h => by
    have := u8R_s g B (bs, false) W h
    rw [hu] at this; exact this)
  rw [hu] at hl1 hrg
  simp only at hl1 hrg
  clear hr hu
  go_enter Try.func13, Try.ntmps13
  go_wp2_with fail
  with_reducible refine T1.out.mono ?_
  rintro e w1 ⟨g, rfl, hg, hR1, hb1⟩
  have p0 := (boxTop w #[.int .i64 0, .int .i64 0, .int .u64 0, .int .u64 0, .int .u64 0, .slice none 0 0, .int .u64 0, .int .i64 0, .int .u64 0, .slice none 0 0, .slice none 0 0] 34).step hb1
  have hB1 := below_step (below_alloc w (bxN 0 0 0 0 0 none 0 0 0 0 0 none 0 0 none 0 0)) hb1
  simp only [World.size_alloc] at hg
  have hgt := hR1.top
  have hbA := below_alloc w1 (.cells #[.pointer (some ⟨g, 0, none⟩)] 64)
  have pm := boxTop w1 #[.pointer (some ⟨g, 0, none⟩)] 64
  haveI := pm
  have T3 := hide (T2.out g _ _ (hR1.step hbA))
  clear T1 T2 hb1
  go_wp2_with fail
  with_reducible refine T3.out.mono ?_
  rintro e w2 ⟨rfl, hR2, hG2⟩
  have hm2 := (pm.grown hG2 (by omega))
  have hlt2 := hm2.lt
  have D0 : DN w g w1.heap.size w1.heap.size w2.heap.size ⟨5, 0, 0, 0, 0, none, 0, [], vw0⟩ s (w2.alloc (bxN 5 0 0 0 0 none 0 0 0 0 0 none 0 0 none 0 0)) :=
    ⟨((p0.alloc' _).grown hG2 (by omega)).alloc' _, hm2.alloc' _, boxTop w2 _ _, hR2.step (below_alloc _ _), World.ownsRow_nil _ _ _ _, World.ownsRow_nil _ _ _ _, World.ownsRow_nil _ _ _ _,
      below_step ((below_step hB1 hbA).trans (grown_to_below hG2 (by omega) (by have := hB1.size; simp; omega))) (below_alloc _ _), by omega, hgt, Nat.le_refl _, hlt2, Nat.le_trans hl1 hn⟩
  have hB2 := hB1.size
  clear hR1 hR2 hG2 pm hm2 hbA hB1 p0 T3
  haveI := D0.km
  haveI : BoxAt (w2.alloc (bxN 5 0 0 0 0 none 0 0 0 0 0 none 0 0 none 0 0)) w2.heap.size #[.int .i64 5, .int .i64 0, .int .u64 0, .int .u64 0, .int .u64 0, .slice none 0 0, .int .u64 0, .int .i64 0, .int .u64 0, .slice none 0 0, .slice none 0 0] 34 := D0.kn
  have bp := boxTop (w2.alloc (bxN 5 0 0 0 0 none 0 0 0 0 0 none 0 0 none 0 0)) #[.func (.func 45) #[] #[.pointer (some ⟨w1.heap.size, 0, none⟩), .pointer (some ⟨w2.heap.size, 0, none⟩)]] 1
  have D0b := D0.below (below_alloc _ (.cells #[.func (.func 45) #[] #[.pointer (some ⟨w1.heap.size, 0, none⟩), .pointer (some ⟨w2.heap.size, 0, none⟩)]] 1))
  have T4 := hide (dRead5 w _ g _ _ _ _ _ _ D0b bp (by simp; omega) (by simp))
  simp only [World.size_alloc, e1] at T4
  clear D0 D0b bp
  go_wp2_with fail
  with_reducible refine T4.out.mono ?_
  rintro e w4 ⟨rfl, A1, c1, A2, c2, D4⟩
  clear T4
  haveI := D4.km
  obtain ⟨bs4, bad4⟩ := s4
  have T5 := hide (endR_s g _ (bs4, bad4) w4 D4.rd D4.hl)
  have hcs := D4.kn
  have hok4 : Nt.Ok w4 ⟨5, 0, 0, 0, 0, none, 0, [], ⟨r, vn, vi, A1, c1, ms, A2, c2, us⟩⟩ := ⟨Reads.of_own D4.os, by first | (show (0 : Nat) ≤ _; omega) | (show _ ≤ 1000000; simp only; omega), ⟨Reads.of_own D4.om, Reads.of_own D4.ou, by first | (show (0 : Nat) ≤ _; omega) | (show _ ≤ 1000000; simp only; omega), by first | (show (0 : Nat) ≤ _; omega) | (show _ ≤ 1000000; simp only; omega)⟩⟩
  have T6 := hide (fun W (h : Nt.Ok W ⟨5, 0, 0, 0, 0, none, 0, [], ⟨r, vn, vi, A1, c1, ms, A2, c2, us⟩⟩) => nmay_s ⟨5, 0, 0, 0, 0, none, 0, [], ⟨r, vn, vi, A1, c1, ms, A2, c2, us⟩⟩ W h)
  unfold Nt.v at T6
  simp only [List.length_nil] at T5 T6
  have key : (bad4 = true ∨ 0 < bs4.length) ∨ (¬ (bad4 = true ∨ 0 < bs4.length) ∧ Nt.mayB ⟨5, 0, 0, 0, 0, none, 0, [], ⟨r, vn, vi, A1, c1, ms, A2, c2, us⟩⟩ = false) ∨ (¬ (bad4 = true ∨ 0 < bs4.length) ∧ Nt.mayB ⟨5, 0, 0, 0, 0, none, 0, [], ⟨r, vn, vi, A1, c1, ms, A2, c2, us⟩⟩ = true) := by
    by_cases h : bad4 = true ∨ 0 < bs4.length
    · exact .inl h
    · cases h2 : Nt.mayB ⟨5, 0, 0, 0, 0, none, 0, [], ⟨r, vn, vi, A1, c1, ms, A2, c2, us⟩⟩
      · exact .inr (.inl ⟨h, rfl⟩)
      · exact .inr (.inr ⟨h, rfl⟩)
  have HOK4 := hide hok4
  clear hok4
  rcases key with hk1 | ⟨hk1, hk2⟩ | ⟨hk1, hk2⟩
  · rw [if_pos hk1] at T5
    have HF : Hid (finN ⟨5, 0, 0, 0, 0, none, 0, [], ⟨r, vn, vi, none, 0, ms, none, 0, us⟩⟩ (bs4, bad4) = none) := hide (show (if bad4 = true ∨ 0 < bs4.length then none else _) = none from if_pos hk1)
    clear hk1
    go_wp2_with fail
    with_reducible refine T5.out.mono ?_
    rintro e w5 ⟨rfl, hR5, hG5⟩
    have D5 := D4.read (s' := (bs4, bad4 || decide (0 < bs4.length))) hG5 hR5 (Nat.le_refl _)
    haveI := D5.k0
    obtain ⟨k6, g6⟩ := set11 D5.k0 (.int .i64 0) (.int .i64 0) (.int .u64 0) (.int .u64 0) (.int .u64 0) (.slice none 0 0) (.int .u64 0) (.int .i64 0) (.int .u64 0) (.slice none 0 0) (.slice none 0 0)
    have HB6 := hide (D5.hB.trans (grown_to_below g6 (Nat.le_refl _) D5.hB.size))
    clear D4 D5 hR5 hG5 T5 T6
    go_wp2
    generalize ((((((((((w5.setCell ⟨w.heap.size, 0, none⟩ (.int .i64 0)).setCell ⟨w.heap.size, 1, none⟩ (.int .i64 0)).setCell ⟨w.heap.size, 2, none⟩ (.int .u64 0)).setCell ⟨w.heap.size, 3, none⟩ (.int .u64 0)).setCell ⟨w.heap.size, 4, none⟩ (.int .u64 0)).setCell ⟨w.heap.size, 5, none⟩ (.slice none 0 0)).setCell ⟨w.heap.size, 6, none⟩ (.int .u64 0)).setCell ⟨w.heap.size, 7, none⟩ (.int .i64 0)).setCell ⟨w.heap.size, 8, none⟩ (.int .u64 0)).setCell ⟨w.heap.size, 9, none⟩ (.slice none 0 0)).setCell ⟨w.heap.size, 10, none⟩ (.slice none 0 0) = W6 at k6 HB6 ⊢
    haveI := k6
    refine bodyPost_ret (v := .tuple #[.agg #[.int .i64 0, .int .i64 0, .int .u64 0, .int .u64 0, .int .u64 0, .slice none 0 0, .int .u64 0, .int .i64 0, .int .u64 0, .slice none 0 0, .slice none 0 0], .int .i64 3]) (by simp [results, Try.results13, go_sem]) rfl ?_
    rw [HF.out]
    exact RetDec.no HB6.out
  · rw [if_neg hk1] at T5
    have HF : Hid (finN ⟨5, 0, 0, 0, 0, none, 0, [], ⟨r, vn, vi, none, 0, ms, none, 0, us⟩⟩ (bs4, bad4) = none) := hide ((if_neg hk1).trans (if_pos hk2))
    rw [hk2] at T6
    clear hk1 hk2
    go_wp2_with fail
    with_reducible refine T5.out.mono ?_
    rintro e w5 ⟨rfl, hR5, hG5⟩
    have D5 := D4.read (s' := (bs4, bad4 || decide (0 < bs4.length))) hG5 hR5 (Nat.le_refl _)
    haveI : BoxAt w5 w2.heap.size #[.int .i64 5, .int .i64 0, .int .u64 0, .int .u64 0, .int .u64 0, .slice none 0 0, .int .u64 r, .int .i64 vn, .int .u64 vi, .slice A1 ms.length c1, .slice A2 us.length c2] 34 := D5.kn
    have ok5 : Nt.Ok w5 ⟨5, 0, 0, 0, 0, none, 0, [], ⟨r, vn, vi, A1, c1, ms, A2, c2, us⟩⟩ := ⟨Reads.of_own D5.os, HOK4.out.sl, ⟨Reads.of_own D5.om, Reads.of_own D5.ou, HOK4.out.vk.ml, HOK4.out.vk.ul⟩⟩
    clear D4 hR5 hG5 T5
    go_wp2_with fail
    (with_reducible refine (T6.out _ ok5).mono ?_)
    rintro e w7 ⟨rfl, hb7⟩
    have D7 := D5.below hb7
    haveI := D7.k0
    obtain ⟨k6, g6⟩ := set11 D7.k0 (.int .i64 0) (.int .i64 0) (.int .u64 0) (.int .u64 0) (.int .u64 0) (.slice none 0 0) (.int .u64 0) (.int .i64 0) (.int .u64 0) (.slice none 0 0) (.slice none 0 0)
    have HB6 := hide (D7.hB.trans (grown_to_below g6 (Nat.le_refl _) D7.hB.size))
    clear D5 D7 T6 ok5 hb7
    go_wp2
    generalize ((((((((((w7.setCell ⟨w.heap.size, 0, none⟩ (.int .i64 0)).setCell ⟨w.heap.size, 1, none⟩ (.int .i64 0)).setCell ⟨w.heap.size, 2, none⟩ (.int .u64 0)).setCell ⟨w.heap.size, 3, none⟩ (.int .u64 0)).setCell ⟨w.heap.size, 4, none⟩ (.int .u64 0)).setCell ⟨w.heap.size, 5, none⟩ (.slice none 0 0)).setCell ⟨w.heap.size, 6, none⟩ (.int .u64 0)).setCell ⟨w.heap.size, 7, none⟩ (.int .i64 0)).setCell ⟨w.heap.size, 8, none⟩ (.int .u64 0)).setCell ⟨w.heap.size, 9, none⟩ (.slice none 0 0)).setCell ⟨w.heap.size, 10, none⟩ (.slice none 0 0) = W6 at k6 HB6 ⊢
    haveI := k6
    refine bodyPost_ret (v := .tuple #[.agg #[.int .i64 0, .int .i64 0, .int .u64 0, .int .u64 0, .int .u64 0, .slice none 0 0, .int .u64 0, .int .i64 0, .int .u64 0, .slice none 0 0, .slice none 0 0], .int .i64 3]) (by simp [results, Try.results13, go_sem]) rfl ?_
    rw [HF.out]
    exact RetDec.no HB6.out
  · rw [if_neg hk1] at T5
    have HF : Hid (finN ⟨5, 0, 0, 0, 0, none, 0, [], ⟨r, vn, vi, none, 0, ms, none, 0, us⟩⟩ (bs4, bad4) = some ⟨5, 0, 0, 0, 0, none, 0, [], ⟨r, vn, vi, none, 0, ms, none, 0, us⟩⟩) := hide ((if_neg hk1).trans (if_neg (by intro h; have h' : Nt.mayB ⟨5, 0, 0, 0, 0, none, 0, [], ⟨r, vn, vi, A1, c1, ms, A2, c2, us⟩⟩ = false := h; rw [hk2] at h'; cases h')))
    rw [hk2] at T6
    clear hk1 hk2
    go_wp2_with fail
    with_reducible refine T5.out.mono ?_
    rintro e w5 ⟨rfl, hR5, hG5⟩
    have D5 := D4.read (s' := (bs4, bad4 || decide (0 < bs4.length))) hG5 hR5 (Nat.le_refl _)
    haveI : BoxAt w5 w2.heap.size #[.int .i64 5, .int .i64 0, .int .u64 0, .int .u64 0, .int .u64 0, .slice none 0 0, .int .u64 r, .int .i64 vn, .int .u64 vi, .slice A1 ms.length c1, .slice A2 us.length c2] 34 := D5.kn
    have ok5 : Nt.Ok w5 ⟨5, 0, 0, 0, 0, none, 0, [], ⟨r, vn, vi, A1, c1, ms, A2, c2, us⟩⟩ := ⟨Reads.of_own D5.os, HOK4.out.sl, ⟨Reads.of_own D5.om, Reads.of_own D5.ou, HOK4.out.vk.ml, HOK4.out.vk.ul⟩⟩
    clear D4 hR5 hG5 T5
    go_wp2_with fail
    (with_reducible refine (T6.out _ ok5).mono ?_)
    rintro e w7 ⟨rfl, hb7⟩
    have D7 := D5.below hb7
    haveI := D7.k0
    haveI : BoxAt w7 w2.heap.size #[.int .i64 5, .int .i64 0, .int .u64 0, .int .u64 0, .int .u64 0, .slice none 0 0, .int .u64 r, .int .i64 vn, .int .u64 vi, .slice A1 ms.length c1, .slice A2 us.length c2] 34 := D7.kn
    obtain ⟨k6, g6⟩ := set11 D7.k0 (.int .i64 5) (.int .i64 0) (.int .u64 0) (.int .u64 0) (.int .u64 0) (.slice none 0 0) (.int .u64 r) (.int .i64 vn) (.int .u64 vi) (.slice A1 ms.length c1) (.slice A2 us.length c2)
    have HB6 := hide (D7.hB.trans (grown_to_below g6 (Nat.le_refl _) D7.hB.size))
    have q1 := own_grown D7.os g6 (by omega)
    have q2 := own_grown D7.om g6 (by omega)
    have q3 := own_grown D7.ou g6 (by omega)
    have HQ1 := hide q1
    have HQ2 := hide q2
    have HQ3 := hide q3
    clear D5 D7 T6 ok5 hb7 q1 q2 q3
    go_wp2
    generalize ((((((((((w7.setCell ⟨w.heap.size, 0, none⟩ (.int .i64 5)).setCell ⟨w.heap.size, 1, none⟩ (.int .i64 0)).setCell ⟨w.heap.size, 2, none⟩ (.int .u64 0)).setCell ⟨w.heap.size, 3, none⟩ (.int .u64 0)).setCell ⟨w.heap.size, 4, none⟩ (.int .u64 0)).setCell ⟨w.heap.size, 5, none⟩ (.slice none 0 0)).setCell ⟨w.heap.size, 6, none⟩ (.int .u64 r)).setCell ⟨w.heap.size, 7, none⟩ (.int .i64 vn)).setCell ⟨w.heap.size, 8, none⟩ (.int .u64 vi)).setCell ⟨w.heap.size, 9, none⟩ (.slice A1 ms.length c1)).setCell ⟨w.heap.size, 10, none⟩ (.slice A2 us.length c2) = W6 at k6 HB6 HQ1 HQ2 HQ3 ⊢
    haveI := k6
    refine bodyPost_ret (v := .tuple #[.agg #[.int .i64 5, .int .i64 0, .int .u64 0, .int .u64 0, .int .u64 0, .slice none 0 0, .int .u64 r, .int .i64 vn, .int .u64 vi, .slice A1 ms.length c1, .slice A2 us.length c2], .int .i64 0]) (by simp [results, Try.results13, go_sem]) rfl ?_
    rw [HF.out]
    exact ⟨_, _, _, _, _, _, rfl, ⟨Reads.of_own HQ1.out, HOK4.out.sl, ⟨Reads.of_own HQ2.out, Reads.of_own HQ3.out, HOK4.out.vk.ml, HOK4.out.vk.ul⟩⟩, HB6.out⟩
end Go.Proofs.Ytgpmcpinnaggmaa
