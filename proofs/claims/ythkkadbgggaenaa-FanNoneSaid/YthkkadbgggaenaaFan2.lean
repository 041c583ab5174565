/-
  Layer 14: what closures keep; contracts: slices.Clone of heads, the laws' closures.
-/
import Derived.Test.YthkkadbgggaenaaFan1
namespace Go.Proofs.Ythkkadbgggaenaa
set_option linter.unusedSimpArgs false
set_option linter.unusedVariables false
set_option linter.unusedSectionVars false
open Go.RowKit

/-- all of X but the blocks in C is as it was -/
structure Gro (C : List Nat) (X W : World) : Prop where
  os : W.os = X.os
  tape : W.tape = X.tape
  out : W.output = X.output
  size : X.heap.size ≤ W.heap.size
  blk : ∀ i, i < X.heap.size → i ∉ C → W.heap[i]? = X.heap[i]?
theorem Gro.refl (C : List Nat) (X : World) : Gro C X X := ⟨rfl, rfl, rfl, Nat.le_refl _, fun _ _ _ => rfl⟩
theorem Gro.trans {C : List Nat} {X Y Z : World} (h : Gro C X Y) (k : Gro C Y Z) : Gro C X Z := ⟨k.os.trans h.os, k.tape.trans h.tape, k.out.trans h.out, Nat.le_trans h.size k.size, fun i hi hc => (k.blk i (Nat.lt_of_lt_of_le hi h.size) hc).trans (h.blk i hi hc)⟩
theorem Gro.of {C : List Nat} {X W : World} (h : Below X.heap.size X W) : Gro C X W := ⟨h.os, h.tape, h.output, h.size, fun i hi _ => h.block i hi⟩
theorem Gro.set {C : List Nat} (X : World) {m : Nat} (i : Nat) (v : Value) (h : m ∈ C) : Gro C X (X.setCell ⟨m, i, none⟩ v) := ⟨rfl, rfl, rfl, by simp [World.setCell], fun j _ hc => Below.heap_setCell _ _ _ _ (fun e => hc (by rw [e]; exact h))⟩
theorem Gro.mono {C D : List Nat} {X W : World} (h : Gro C X W) (hs : ∀ i ∈ C, i ∈ D) : Gro D X W := ⟨h.os, h.tape, h.out, h.size, fun i hi hd => h.blk i hi (fun hc => hd (hs i hc))⟩
theorem Gro.below {C : List Nat} {B : Nat} {X W : World} (h : Gro C X W) (hB : B ≤ X.heap.size) (hc : ∀ i ∈ C, B ≤ i) : Below B X W := ⟨h.os, h.tape, h.out, h.size, fun i hi => h.blk i (by omega) (fun hm => by have := hc i hm; omega)⟩
theorem own_other {w w' : World} {base : Nat} {e : TypeId} {k n : Nat} {v : Value} {xs : List Value} {row : Option Nat} (h : w.ownsRow base e k v n xs) (hg : w.grownBy w' row) (hne : ∀ g, v.ownBlock = some g → row ≠ some g) : w'.ownsRow base e k v n xs := by
  refine ⟨h.1, h.2.imp id ?_⟩
  rintro ⟨g, cap, cur, rfl, hbase, hg', h1⟩
  refine ⟨g, cap, cur, rfl, hbase, ?_, h1⟩
  rw [hg.block g (Array.getElem?_eq_some_iff.1 hg').1 (fun e => hne g rfl e.symm)]
  exact hg'
theorem own_emH (w : World) (m : Nat) (hm : w.heap.size = m) : (w.alloc (.cells #[] 29)).ownsRow m 29 4 (.slice (some ⟨m, 0, none⟩) 0 0) 0 [] := by subst hm; exact World.ownsRow_lit w #[] 0 (Nat.le_refl _) (by unfold maxLen; omega) rfl
def RetHs (w : World) (hs : List Hd) (e : Ending) (w' : World) : Prop := ∃ v, e = .returned v ∧ w'.ownsRow w.heap.size 29 4 v hs.length (hcs hs) ∧ Below w.heap.size w w'
set_option maxRecDepth 100000 in
theorem cloneH_s (A : Option Addr) (c : Nat) (hs : List Hd) (w : World) (h : Reads w w.heap.size 4 A hs.length (hcs hs)) (hl : hs.length ≤ 1000000) : Calls Try.prog 52 #[.slice A hs.length c] w (RetHs w hs) := by
  haveI : Src w A hs.length 4 (hcs hs) := ⟨h⟩
  cases A with
  | none =>
    have h0 : hs = [] := by
      match hs, h with
      | [], _ => rfl
      | x :: l, h => obtain ⟨b, off, e, _⟩ := h.2 (by simp); cases e
    subst h0
    have hnl : ∀ W, Sem.run Try.prog (binOp BinOp.eql 22 (.slice none 0 c) (.slice none 0 0)) W = .ok (.bool true) W := fun W => by first | rfl | (simp [go_sem]; done) | kernel_rfl
    clear h
    go_enter Try.func52, Try.ntmps52
    go_wp2_with ((at_builtin; refine wpList_append_w Try.okHd rfl (.tmp 5) (.tmp 6) rfl w.heap.size (.slice (some ⟨w.heap.size, 0, none⟩) 0 0) 0 [] 0 (hcs []) ?_ ?_ ?_ ?_ ?_ ?_ ?_ ?_; go_must ((focus (first | rfl | (simp [Act.eval, Act.put]; done))); (focus (exact own_emH _ w.heap.size (by simp))); (focus (refine ⟨_, _, rfl, ?_⟩; exact src)); (focus (exact hc_one _)); (focus (unfold maxLen; omega)); (focus omega); (focus (first | omega | (simp; done) | (simp; omega) | exact BoxAt.lt (n := w.heap.size) inferInstance)); intro v1 w1 ho1 hg1; rw [List.nil_append] at ho1; have O1 := hide ho1; have HB := hide (grown_belowT (B := w.heap.size) hg1 (by simp) (fun k hk => by have e : w.heap.size = k := Option.some.inj hk; omega)); obtain ⟨A1, c1, rfl, _, _⟩ := own_slice ho1; clear ho1 hg1)))
    all_goals
      go_wp2
      go_ret
      first
        | exact ⟨_, rfl, World.ownsRow_nil _ _ _ _, Below.refl _ _⟩
        | exact ⟨_, rfl, O1.out, (below_alloc _ _).trans HB.out⟩
  | some a =>
    have hnl : ∀ W, Sem.run Try.prog (binOp BinOp.eql 22 (.slice (some a) hs.length c) (.slice none 0 0)) W = .ok (.bool false) W := fun W => by first | rfl | (simp [go_sem]; done) | kernel_rfl
    clear h
    go_enter Try.func52, Try.ntmps52
    go_wp2_with ((at_builtin; refine wpList_append_w Try.okHd rfl (.tmp 5) (.tmp 6) rfl w.heap.size (.slice (some ⟨w.heap.size, 0, none⟩) 0 0) 0 [] hs.length (hcs hs) ?_ ?_ ?_ ?_ ?_ ?_ ?_ ?_; go_must ((focus (first | rfl | (simp [Act.eval, Act.put]; done))); (focus (exact own_emH _ w.heap.size (by simp))); (focus (refine ⟨_, _, rfl, ?_⟩; exact src)); (focus (exact hc_one _)); (focus (unfold maxLen; omega)); (focus omega); (focus (first | omega | (simp; done) | (simp; omega) | exact BoxAt.lt (n := w.heap.size) inferInstance)); intro v1 w1 ho1 hg1; rw [Nat.zero_add, List.nil_append] at ho1; have O1 := hide ho1; have HB := hide (grown_belowT (B := w.heap.size) hg1 (by simp) (fun k hk => by have e : w.heap.size = k := Option.some.inj hk; omega)); obtain ⟨A1, c1, rfl, _, _⟩ := own_slice ho1; clear ho1 hg1)))
    go_wp2
    go_ret
    exact ⟨_, rfl, O1.out, (below_alloc _ _).trans HB.out⟩
/-- what the law's closure knows behind k asks -/
structure Sk (bo bn bw by_ : Nat) (WA : Option Addr) (wcp : Nat) (hs : List Hd) (YA : Option Addr) (ycp : Nat) (ws : List Wy) (k : Nat) (W : World) : Prop where
  o : BoxAt W bo #[.bool true] 4
  n : BoxAt W bn #[.int .i64 k] 3
  w : BoxAt W bw #[.slice WA hs.length wcp] 22
  y : BoxAt W by_ #[.slice YA ws.length ycp] 23
  hh : Reads W bw 4 WA hs.length (hcs hs)
  hw : Reads W by_ 3 YA ws.length (wcs ws)
set_option maxRecDepth 100000 in
set_option maxHeartbeats 2000000 in
theorem fcall1_s (bo bn bw by_ : Nat) (WA : Option Addr) (wcp : Nat) (hs : List Hd) (YA : Option Addr) (ycp : Nat) (ws : List Wy) (k : Nat) (h : Hd) (W : World) (S : Sk bo bn bw by_ WA wcp hs YA ycp ws k W) (hk : hs[k]? = some h) (hl : hs.length ≤ 1000000) (hwl : ws.length ≤ 1000000)
    (d1 : by_ < bw) (d2 : bw < bn) (d3 : bn < bo) :
    Calls Try.prog 13 #[.int .i64 h.d, .pointer (some ⟨bo, 0, none⟩), .pointer (some ⟨bn, 0, none⟩), .pointer (some ⟨bw, 0, none⟩), .pointer (some ⟨by_, 0, none⟩)] W fun e W' => e = .returned (.tuple #[.int .i64 (askL ws h.d).1, .bool (askL ws h.d).2]) ∧ Sk bo bn bw by_ WA wcp hs YA ycp ws (k + 1) W' ∧ Gro [bo, bn] W W' := by
  have hlt : k < hs.length := (List.getElem?_eq_some_iff.1 hk).1
  have TA := hide (fun W (h' : Reads W W.heap.size 3 YA ws.length (wcs ws)) => ask_s YA ycp ws h.d W h' hwl)
  haveI := S.o
  haveI := S.n
  haveI := S.w
  haveI := S.y
  have HH := hide S.hh
  have HW := hide S.hw
  have z := BoxAt.lt S.o
  haveI : LtN bn bo := ⟨d3⟩
  haveI : LtN bw bo := ⟨by omega⟩
  haveI : LtN bw bn := ⟨d2⟩
  haveI : LtN by_ bo := ⟨by omega⟩
  haveI : LtN by_ bn := ⟨by omega⟩
  haveI : NeN bn bo := ⟨by omega⟩
  haveI : NeN bo bn := ⟨by omega⟩
  obtain ⟨b, off, p, rfl, hb, hp, g1, _, _, _⟩ := HH.out.at4 hlt
  obtain rfl : p = h := by rw [hk] at hp; injection hp with hp; exact hp.symm
  haveI : InW b W := ⟨by omega⟩
  have i0 : (0 : Int) ≤ (k : Int) := by omega
  have i1 : (k : Int) < (hs.length : Int) := by omega
  have HB : ∀ v u, Below bw W ((W.setCell ⟨bo, 0, none⟩ v).setCell ⟨bn, 0, none⟩ u) := fun v u => ((Below.refl _ _).setCell (p := ⟨bo, 0, none⟩) (by show bw ≤ bo; omega) v).setCell (p := ⟨bn, 0, none⟩) (by show bw ≤ bn; omega) u
  generalize askL ws p.d = r at TA
  clear S hk hp
  go_enter Try.func13, Try.ntmps13
  go_wp2_with fail
  (with_reducible refine (TA.out _ (((HW.out.below ((HB _ _).mono (by omega))).more (by simp [World.setCell]; omega)))).mono ?_)
  rintro e w1 ⟨rfl, hb1⟩
  haveI : Stp _ w1 := ⟨hb1⟩
  clear TA
  go_wp2
  go_ret2
  refine ⟨rfl, ⟨inferInstance, inferInstance, inferInstance, inferInstance, ?_, ?_⟩, ?_⟩
  · exact HH.out.below ((HB _ _).trans (hb1.mono (by simp [World.setCell]; omega)))
  · exact HW.out.below (((HB _ _).mono (by omega)).trans (hb1.mono (by simp [World.setCell]; omega)))
  · exact ((Gro.set W 0 _ (by simp)).trans (Gro.set _ 0 _ (by simp))).trans (Gro.of hb1)
end Go.Proofs.Ythkkadbgggaenaa
