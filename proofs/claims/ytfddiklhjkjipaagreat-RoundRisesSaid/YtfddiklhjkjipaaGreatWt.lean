/-
  Writers and readers in memory: what a step of theirs keeps; boxes that are read by the walk itself. Plain worlds, no code.
-/
import Derived.Test.YtfddiklhjkjipaaGreatBase
import Derived.Test.YtfddiklhjkjipaaGreatCmp
import Derived.Laws.BitsLemmas
namespace Go.Proofs.YtfddiklhjkjipaaGreat
set_option linter.unusedSimpArgs false
set_option linter.unusedVariables false
set_option linter.unusedSectionVars false
open Go.RowKit

/-- block n of w holds these cells -/
class BoxAt (w : World) (n : Nat) (cs : outParam (Array Value)) (t : outParam TypeId) : Prop where
  eq : w.heap[n]? = some (.cells cs t (0, 0))
theorem BoxAt.lt {w : World} {n : Nat} {cs : Array Value} {t : TypeId} (h : BoxAt w n cs t) : n < w.heap.size := (Array.getElem?_eq_some_iff.1 h.eq).1
instance InW.ofBox (w : World) (n : Nat) (cs : Array Value) (t : TypeId) [h : BoxAt w n cs t] : InW n w := ⟨h.lt⟩
@[go_sem] theorem cell?_box (w : World) (n i : Nat) (cs : Array Value) (t : TypeId) [h : BoxAt w n cs t] : w.cell? ⟨n, i, none⟩ = cs[i]? := by simp [World.cell?, h.eq]
@[go_sem] theorem frozen?_box (w : World) (n i : Nat) (cs : Array Value) (t : TypeId) [h : BoxAt w n cs t] : w.frozen? ⟨n, i, none⟩ = false := by simp [World.frozen?, h.eq]
theorem BoxAt.alloc' {w : World} {n : Nat} {cs : Array Value} {t : TypeId} (h : BoxAt w n cs t) (o : Obj) : BoxAt (w.alloc o) n cs t := ⟨by rw [Below.heap_alloc _ _ _ h.lt]; exact h.eq⟩
theorem boxTop (w : World) (cs : Array Value) (t : TypeId) : BoxAt (w.alloc (.cells cs t)) w.heap.size cs t := ⟨heap_alloc_new _ _⟩

/-- kept but for the writer at block g whose row is v's: w becomes w', v becomes v' -/
structure WStep (g : Nat) (v : Value) (w : World) (v' : Value) (w' : World) : Prop where
  os : w'.os = w.os
  tape : w'.tape = w.tape
  output : w'.output = w.output
  size : w.heap.size ≤ w'.heap.size
  block : ∀ k, k < w.heap.size → k ≠ g → v.ownBlock ≠ some k → w'.heap[k]? = w.heap[k]?
  own : v'.ownBlock = v.ownBlock ∨ ∃ k, w.heap.size ≤ k ∧ v'.ownBlock = some k
theorem WStep.refl (g : Nat) (v : Value) (w : World) : WStep g v w v w := ⟨rfl, rfl, rfl, Nat.le_refl _, fun _ _ _ _ => rfl, .inl rfl⟩
theorem WStep.below {g : Nat} {v : Value} {w w' : World} (h : Below w.heap.size w w') : WStep g v w v w' := ⟨h.os, h.tape, h.output, h.size, fun k hk _ _ => h.block k hk, .inl rfl⟩
theorem WStep.trans {g : Nat} {v v1 v2 : Value} {w w1 w2 : World} (h : WStep g v w v1 w1) (k : WStep g v1 w1 v2 w2) : WStep g v w v2 w2 where
  os := k.os.trans h.os
  tape := k.tape.trans h.tape
  output := k.output.trans h.output
  size := Nat.le_trans h.size k.size
  block i hi hg hv := by
    rw [k.block i (Nat.lt_of_lt_of_le hi h.size) hg, h.block i hi hg hv]
    rcases h.own with e | ⟨n, hn, e⟩
    · rw [e]; exact hv
    · rw [e]; intro e'; injection e' with e'; omega
  own := by
    rcases k.own with e | ⟨n, hn, e⟩
    · rw [e]; exact h.own
    · exact .inr ⟨n, Nat.le_trans h.size hn, e⟩

/-- the writer at block g has written the bytes bs; its row is v -/
structure Wtr (w : World) (g : Nat) (v : Value) (bs : List Int) : Prop where
  box : w.heap[g]? = some (.cells #[v] 305 (0, 0))
  own : w.ownsRow (g + 1) 5 1 v bs.length (bcs bs)
theorem Wtr.lt {w : World} {g : Nat} {v : Value} {bs : List Int} (h : Wtr w g v bs) : g < w.heap.size := (Array.getElem?_eq_some_iff.1 h.box).1
theorem Wtr.boxAt {w : World} {g : Nat} {v : Value} {bs : List Int} (h : Wtr w g v bs) : BoxAt w g #[v] 305 := ⟨h.box⟩
theorem Wtr.below {w w' : World} {g : Nat} {v : Value} {bs : List Int} (h : Wtr w g v bs) (hb : Below w.heap.size w w') : Wtr w' g v bs :=
  ⟨by rw [hb.block g h.lt]; exact h.box, own_below h.own hb (Nat.le_refl _)⟩
theorem Wtr.row_ne {w : World} {g : Nat} {v : Value} {bs : List Int} (h : Wtr w g v bs) : v.ownBlock ≠ some g := by
  intro e; have := (h.own.lt g e).1; omega
theorem Wtr.row_lt {w : World} {g : Nat} {v : Value} {bs : List Int} (h : Wtr w g v bs) {k : Nat} (hk : w.heap.size ≤ k) : v.ownBlock ≠ some k := by
  intro e; have := (h.own.lt k e).2; omega
/-- bytes are appended and stored -/
theorem Wtr.put {w w1 : World} {g : Nat} {v v1 : Value} {bs ns : List Int} (h : Wtr w g v bs) (ho : w1.ownsRow (g + 1) 5 1 v1 (bs.length + ns.length) (bcs bs ++ bcs ns)) (hg : w.grownBy w1 v.ownBlock) (ha : v1.ownBlock = v.ownBlock ∨ v1.ownBlock = some w.heap.size) :
    Wtr (w1.setCell ⟨g, 0, none⟩ v1) g v1 (bs ++ ns) ∧ WStep g v w v1 (w1.setCell ⟨g, 0, none⟩ v1) := by
  have hlt := h.lt
  have hb1 : w1.heap[g]? = some (.cells #[v] 305 (0, 0)) := by
    rw [hg.block g hlt (fun e => h.row_ne e.symm)]; exact h.box
  have hne1 : v1.ownBlock ≠ some g := by intro e; have := (ho.lt g e).1; omega
  refine ⟨⟨?_, ?_⟩, ⟨hg.os, hg.tape, hg.output, ?_, ?_, ?_⟩⟩
  · simp [World.setCell, Array.getElem?_modify, hb1]
  · rw [List.length_append, bcs_app]
    refine ⟨ho.1, ho.2.imp id ?_⟩
    rintro ⟨r, cap, cur, rfl, hbase, hr, h1⟩
    refine ⟨r, cap, cur, rfl, hbase, ?_, h1⟩
    rw [Below.heap_setCell _ _ _ _ (by show r ≠ g; omega)]; exact hr
  · have := hg.size; simpa [World.setCell] using this
  · intro k hk hkg hkv
    rw [Below.heap_setCell _ _ _ _ hkg, hg.block k hk (fun e => hkv e.symm)]
  · rcases ha with e | e
    · exact .inl e
    · exact .inr ⟨_, Nat.le_refl _, e⟩
/-- all below the writer is kept -/
theorem WStep.to_below {w w' : World} {g B : Nat} {v v' : Value} {bs : List Int} (h : Wtr w g v bs) (k : WStep g v w v' w') (hB : B ≤ g) : Below B w w' :=
  ⟨k.os, k.tape, k.output, k.size, fun i hi => k.block i (by have := h.lt; omega) (by omega) (fun e => by have := (h.own.lt i e).1; omega)⟩
/-- a block that is not the writer's -/
theorem WStep.boxAt {w w' : World} {g n : Nat} {v v' : Value} {cs : Array Value} {t : TypeId} (k : WStep g v w v' w') (b : BoxAt w n cs t) (hg : n ≠ g) (hv : v.ownBlock ≠ some n) : BoxAt w' n cs t :=
  ⟨by rw [k.block n b.lt hg hv]; exact b.eq⟩
/-- a slice that lies apart from the writer -/
def RdW (w : World) (g : Nat) (v : Value) (k : Nat) (A : Option Addr) (n : Nat) (xs : List Value) : Prop :=
  xs.length = n * k ∧ (0 < n → ∃ b off, A = some ⟨b, off, none⟩ ∧ b < w.heap.size ∧ b ≠ g ∧ v.ownBlock ≠ some b ∧ ∀ j u, xs[j]? = some u → w.cell? ⟨b, off + j, none⟩ = some u)
theorem RdW.reads {w : World} {g : Nat} {v : Value} {k n : Nat} {A : Option Addr} {xs : List Value} (h : RdW w g v k A n xs) : Reads w w.heap.size k A n xs :=
  ⟨h.1, fun hn => by obtain ⟨b, off, e, hb, _, _, hc⟩ := h.2 hn; exact ⟨b, off, e, hb, hc⟩⟩
theorem RdW.step {w w' : World} {g : Nat} {v v' : Value} {k n : Nat} {A : Option Addr} {xs : List Value} (h : RdW w g v k A n xs) (s : WStep g v w v' w') : RdW w' g v' k A n xs :=
  ⟨h.1, fun hn => by
    obtain ⟨b, off, e, hb, hg, hv, hc⟩ := h.2 hn
    refine ⟨b, off, e, Nat.lt_of_lt_of_le hb s.size, hg, ?_, fun j u hu => (World.cell?_of_block (a := ⟨b, off + j, none⟩) (s.block b hb hg hv)).trans (hc j u hu)⟩
    rcases s.own with e' | ⟨m, hm, e'⟩
    · rw [e']; exact hv
    · rw [e']; intro e2; injection e2 with e2; omega⟩
theorem RdW.of_reads {w : World} {g : Nat} {v : Value} {bs : List Int} {k n : Nat} {A : Option Addr} {xs : List Value} (hw : Wtr w g v bs) (h : Reads w g k A n xs) : RdW w g v k A n xs :=
  ⟨h.1, fun hn => by
    obtain ⟨b, off, e, hb, hc⟩ := h.2 hn
    refine ⟨b, off, e, by have := hw.lt; omega, by omega, fun e' => ?_, hc⟩
    have := (hw.own.lt b e').1; omega⟩
theorem RdW.nil {w : World} {g : Nat} {v : Value} {k : Nat} {A : Option Addr} : RdW w g v k A 0 [] := ⟨by simp, fun h => absurd h (by omega)⟩

/-- the post of what a writer's method does -/
def RetWr (g : Nat) (v : Value) (w : World) (bs : List Int) (e : Ending) (w' : World) : Prop := e = .returned (.tuple #[]) ∧ ∃ v', Wtr w' g v' bs ∧ WStep g v w v' w'

/-! ### readers -/
/-- the reader at block g has the bytes bs left, none if it has failed (bad) -/
structure Rdr (w : World) (g : Nat) (bs : List Int) (bad : Bool) : Prop where
  box : ∃ A c, w.heap[g]? = some (.cells #[.slice A bs.length c, .bool bad] 294 (0, 0)) ∧ bs.length ≤ c ∧ c ≤ maxLen ∧ (0 < bs.length → ∃ b off, A = some ⟨b, off, none⟩ ∧ b < w.heap.size ∧ b ≠ g ∧ ∀ j u, (bcs bs)[j]? = some u → w.cell? ⟨b, off + j, none⟩ = some u)
  ok : bOK bs
end Go.Proofs.YtfddiklhjkjipaaGreat

namespace Go.Proofs.YtfddiklhjkjipaaGreat
set_option linter.unusedSimpArgs false
set_option linter.unusedVariables false
set_option linter.unusedSectionVars false
open Go.RowKit

theorem Tryz.okB : ElemOk Tryz.prog 99 5 1 1 := elemOk_of (.int .u8 0) Tryz.underlying99 (by kernel_rfl) rfl (by omega)

set_option maxHeartbeats 400000 in
theorem newWriter_s (w : World) : Calls Tryz.prog 217 #[] w fun e w' => e = .returned (.pointer (some ⟨w.heap.size, 0, none⟩)) ∧ w.alloc (.cells #[.slice none 0 0] 305) = w' := by
  go_enter Tryz.func217, Tryz.ntmps217
  go_wp2
  go_ret
  exact ⟨rfl, rfl⟩

set_option maxHeartbeats 400000 in
theorem wide1_s (g : Nat) (v : Value) (bs : List Int) (x : Int) (w : World) (h : Wtr w g v bs) (hn : bs.length ≤ 1000000) :
    Calls Tryz.prog 269 #[.pointer (some ⟨g, 0, none⟩), .int .u64 x, .int .i64 1] w (RetWr g v w (bs ++ [x % 256])) := by
  haveI := h.boxAt
  have hW := h.below (below_alloc w (.cells #[.int .u8 (x % 256)] 5))
  have hr : Reads (w.alloc (.cells #[.int .u8 (x % 256)] 5)) (w.heap.size + 1) 1 (some ⟨w.heap.size, 0, none⟩) 1 (bcs [x % 256]) :=
    ⟨rfl, fun _ => ⟨_, _, rfl, by omega, fun j u hu => by
      cases j with
      | zero => simp [bcs] at hu; subst hu; simp
      | succ j => simp [bcs] at hu⟩⟩
  have HW := hide hW
  have HO := hide hW.own
  have HR := hide hr
  have hgl := h.lt
  have H := hide h
  clear h hW hr
  go_enter Tryz.func269, Tryz.ntmps269
  go_wp2
  refine wp_loop_rounds 2 ?_
  rw [rounds_succ]
  go_wp2_with (at_builtin; refine wpList_append_any _ Tryz.okB (by rfl) (.tmp 15) (.tmp 18) (by rfl) (g + 1) v bs.length (bcs bs) (by rfl) HO.out (w.heap.size + 1) (some ⟨w.heap.size, 0, none⟩) 1 1 (bcs [x % 256]) (by rfl) HR.out (bcs_one _) (by unfold maxLen; omega) (by omega) (by simp; omega) ?_; intro v1 w1 ho hg hnil hat; have HP := hide (HW.out.put ho hg hat); haveI : BoxAt w1 g #[v] 305 := ⟨by rw [hg.block g HW.out.lt (fun e => HW.out.row_ne e.symm)]; exact HW.out.box⟩; obtain ⟨A1, c1, rfl, _, _⟩ := own_slice ho; clear ho hg hnil hat)
  rw [rounds_succ]
  go_wp2
  go_end0
  exact ⟨rfl, _, HP.out.1, (WStep.below (below_alloc _ _)).trans HP.out.2⟩

set_option maxHeartbeats 400000 in
theorem u8_s (g : Nat) (v : Value) (bs : List Int) (x : Int) (w : World) (h : Wtr w g v bs) (hn : bs.length ≤ 1000000) (h0 : 0 ≤ x) (h1 : x < 256) :
    Calls Tryz.prog 218 #[.pointer (some ⟨g, 0, none⟩), .int .u8 x] w (RetWr g v w (bs ++ [x])) := by
  have hx : x % 256 = x := by omega
  have T := hide (wide1_s g v bs x w h hn)
  rw [hx] at T
  clear h hx
  go_enter Tryz.func218, Tryz.ntmps218
  go_wp2_with fail
  with_reducible refine T.out.mono ?_
  rintro e w1 ⟨rfl, v1, hw, hs⟩
  have HW := hide hw
  have HS := hide hs
  clear hw hs
  go_wp2
  go_end0
  exact ⟨rfl, v1, HW.out, HS.out⟩

theorem and127 {x : Int} (h0 : 0 ≤ x) (h1 : x ≤ 18446744073709551615) : bits .and .u64 x 127 = x % 128 := bits_mask .u64 64 (by decide) (fun n h h' => IntWalk.u64_in _ ⟨by omega, by omega⟩) 7 (by decide) x h0 (by omega)
theorem or128 {y : Int} (h0 : 0 ≤ y) (h1 : y < 128) : bits .or .u64 y 128 = y + 128 := by
  obtain ⟨n, rfl⟩ := Int.eq_ofNat_of_zero_le h0
  have e := (bits_nat .u64 64 (by decide) (fun n h h' => IntWalk.u64_in _ ⟨by omega, by omega⟩) n 128 (by omega) (by omega)).2
  have e2 := Nat.two_pow_add_eq_or_of_lt (i := 7) (b := n) (by omega) 1
  have e3 : bits .or .u64 (n : Int) 128 = ((n ||| 128 : Nat) : Int) := e
  rw [e3, Nat.or_comm]
  simp at e2
  rw [← e2]; omega

set_option maxHeartbeats 400000 in
theorem uint_s (g : Nat) (v : Value) (bs : List Int) (x : Int) (w : World) (h : Wtr w g v bs) (hn : bs.length ≤ 900000) (h0 : 0 ≤ x) (h1 : x ≤ 18446744073709551615) :
    Calls Tryz.prog 220 #[.pointer (some ⟨g, 0, none⟩), .int .u64 x] w (RetWr g v w (bs ++ uintB x)) := by
  have HX := hide h0
  go_enter Tryz.func220, Tryz.ntmps220
  go_wp2
  go_loopw [1] (fun y wr => ∃ (f : Nat) (Y : Int) (cs : List Int) (v' : Value), y = .int .u64 Y ∧ f ≤ 9 ∧ 0 ≤ Y ∧ Y < 128 ^ f * 2 ∧ cs.length + f = 9 ∧ uintB x = cs ++ uintF f Y ∧ Wtr wr g v' (bs ++ cs) ∧ WStep g v w v' wr) (fun y _ => (intOf y).toNat)
  case atStart => exact ⟨9, x, [], v, rfl, by omega, h0, by omega, rfl, rfl, by simpa using h, WStep.refl _ _ _⟩
  case round =>
    obtain ⟨f, Y, cs, v', rfl, hf, hY0, hY1, hcf, hu, hw, hs⟩ := hrel
    have hlen : (bs ++ cs).length ≤ 1000000 := by simp; omega
    have HU := hide hu
    have HS := hide hs
    have HW := hide hw
    have HY1 := hide hY1
    have hY2 : Y ≤ 18446744073709551615 := by
      have e : (128 : Nat) ^ f ≤ 128 ^ 9 := Nat.pow_le_pow_right (by omega) hf
      have e' : (128 : Int) ^ f ≤ 128 ^ 9 := by exact_mod_cast e
      omega
    clear hu hs hw hY1 h h1
    by_cases hlt : Y < 128
    · have hlt' : ¬ 128 ≤ Y := by omega
      have T := hide (wide1_s g v' (bs ++ cs) Y wr HW.out hlen)
      have hm : Y % 256 = Y := by omega
      rw [hm] at T
      clear hm
      go_wp2_with fail
      with_reducible refine T.out.mono ?_
      rintro e w1 ⟨rfl, v1, hw1, hs1⟩
      have HW1 := hide hw1
      have HS1 := hide hs1
      clear hw1 hs1
      go_wp2
      go_end0
      refine ⟨rfl, v1, ?_, HS.out.trans HS1.out⟩
      have e1 : uintF f Y = [Y] := by cases f <;> simp [uintF, hlt]
      rw [HU.out, e1, ← List.append_assoc]
      exact HW1.out
    · have hlt' : 128 ≤ Y := by omega
      have hb1 := and127 hY0 hY2
      have hb2 := or128 (y := Y % 128) (by omega) (by omega)
      have T := hide (wide1_s g v' (bs ++ cs) (Y % 128 + 128) wr HW.out hlen)
      have hm : (Y % 128 + 128) % 256 = Y % 128 + 128 := by omega
      rw [hm] at T
      clear hm
      obtain ⟨f, rfl⟩ : ∃ f', f = f' + 1 := by
        cases f with
        | zero => have := HY1.out; simp at this; omega
        | succ f => exact ⟨f, rfl⟩
      go_wp2_with fail
      with_reducible refine T.out.mono ?_
      rintro e w1 ⟨rfl, v1, hw1, hs1⟩
      have HW1 := hide hw1
      have HS1 := hide hs1
      clear hw1 hs1
      go_wp2
      go_roundw
      case rel =>
        refine ⟨f, Y / 128, cs ++ [Y % 128 + 128], v1, by go_num, by omega, by omega, div_lt_pow HY1.out, by simp; omega, ?_, by rw [← List.append_assoc]; exact HW1.out, HS.out.trans HS1.out⟩
        rw [HU.out, uintF, if_neg (by omega)]; simp
      case measure => simp [intOf]; omega


/-- short numbers, one behind the other -/
def uintsB (l : List Int) : List Int := l.flatMap uintB
theorem uintsB_take {l : List Int} {k : Nat} {x : Int} (h : l[k]? = some x) : uintsB (l.take (k + 1)) = uintsB (l.take k) ++ uintB x := by
  rw [List.take_add_one, h]; simp [uintsB]
theorem uintsB_len (l : List Int) : (uintsB l).length ≤ l.length * 10 := by
  induction l with
  | nil => simp [uintsB]
  | cons x l ih =>
    have := uintB_len x
    simp [uintsB] at ih ⊢; omega
def ucs (l : List Int) : List Value := l.map (Value.int .u64)
theorem ucs_len (l : List Int) : (ucs l).length = l.length * 1 := by simp [ucs]
def wfU64 (x : Int) : Prop := 0 ≤ x ∧ x ≤ 18446744073709551615
theorem RdW.atU {w : World} {g : Nat} {v : Value} {A : Option Addr} {n k : Nat} {l : List Int} (h : RdW w g v 1 A n (ucs l)) (hk : k < n) :
    ∃ b off x, A = some ⟨b, off, none⟩ ∧ b < w.heap.size ∧ l[k]? = some x ∧ w.cell? ⟨b, off + k, none⟩ = some (.int .u64 x) := by
  obtain ⟨b, off, rfl, hb, _, _, hc⟩ := h.2 (by omega)
  have hl : k < l.length := by have := h.1; rw [ucs_len] at this; omega
  exact ⟨b, off, l[k], rfl, hb, List.getElem?_eq_getElem hl, hc k _ (by simp [ucs, hl])⟩
set_option maxHeartbeats 400000 in
theorem putU_s (g : Nat) (v : Value) (bs : List Int) (A : Option Addr) (c : Nat) (l : List Int) (w : World) (h : Wtr w g v bs) (hr : RdW w g v 1 A l.length (ucs l)) (hl : l.length ≤ 10000) (hn : bs.length ≤ 500000) (hwf : ∀ x ∈ l, wfU64 x) :
    Calls Tryz.prog 221 #[.pointer (some ⟨g, 0, none⟩), .slice A l.length c] w (RetWr g v w (bs ++ uintsB l)) := by
  have HWF := hide hwf
  clear hwf
  go_enter Tryz.func221, Tryz.ntmps221
  go_wp2
  go_loopw [8] (fun i wr => ∃ (k : Nat) (v' : Value), k ≤ l.length ∧ i = .int .i64 k ∧ Wtr wr g v' (bs ++ uintsB (l.take k)) ∧ WStep g v w v' wr) (fun i _ => l.length - (intOf i).toNat)
  case atStart => exact ⟨0, v, Nat.zero_le _, rfl, by simpa [uintsB] using h, WStep.refl _ _ _⟩
  case round =>
    obtain ⟨k, v', hk, rfl, hw, hs⟩ := hrel
    have HW := hide hw
    have HS := hide hs
    have HR := hide hr
    clear hw hs h hr
    by_cases hlt : k < l.length
    · obtain ⟨b, off, x, rfl, hb, hx, g1⟩ := (HR.out.step HS.out).atU hlt
      have hx' := HWF.out x (List.mem_of_getElem? hx)
      have HX := hide (uintsB_take hx)
      have hlen : (bs ++ uintsB (l.take k)).length ≤ 900000 := by have := uintsB_len (l.take k); simp at this ⊢; omega
      have T := hide (uint_s g v' _ x wr HW.out hlen hx'.1 hx'.2)
      clear hx hx'
      go_wp2_with fail
      with_reducible refine T.out.mono ?_
      rintro e w1 ⟨rfl, v1, hw1, hs1⟩
      have HW1 := hide hw1
      have HS1 := hide hs1
      clear hw1 hs1
      go_wp2
      go_roundw
      case rel => exact ⟨k + 1, v1, by omega, by go_num, by rw [HX.out, ← List.append_assoc]; exact HW1.out, HS.out.trans HS1.out⟩
      case measure => simp [intOf]; omega
    · have hk' : k = l.length := by omega
      subst hk'
      have HW' := hide (show Wtr wr g v' (bs ++ uintsB l) by have := HW.out; rwa [List.take_length] at this)
      clear HW
      go_wp2
      go_end0
      exact ⟨rfl, v', HW'.out, HS.out⟩

/-- a life's bytes -/
def procB (p : Int × Int) : List Int := p.1 % 256 :: uintB p.2
def procsB (l : List (Int × Int)) : List Int := l.flatMap procB
theorem procsB_take {l : List (Int × Int)} {k : Nat} {x : Int × Int} (h : l[k]? = some x) : procsB (l.take (k + 1)) = procsB (l.take k) ++ [x.1 % 256] ++ uintB x.2 := by
  rw [List.take_add_one, h]; simp [procsB, procB]
theorem procsB_len (l : List (Int × Int)) : (procsB l).length ≤ l.length * 11 := by
  induction l with
  | nil => simp [procsB]
  | cons x l ih =>
    have := uintB_len x.2
    simp [procsB, procB] at ih ⊢; omega
theorem RdW.at2 {w : World} {g : Nat} {v : Value} {A : Option Addr} {n k : Nat} {l : List (Int × Int)} (h : RdW w g v 2 A n (pcs l)) (hk : k < n) :
    ∃ b off p, A = some ⟨b, off, none⟩ ∧ b < w.heap.size ∧ l[k]? = some p ∧ w.cell? ⟨b, off + k * 2, none⟩ = some (.int .i64 p.1) ∧ w.cell? ⟨b, off + k * 2 + 1, none⟩ = some (.int .u64 p.2) := h.reads.at2 hk
set_option maxHeartbeats 400000 in
theorem putP_s (g : Nat) (v : Value) (bs : List Int) (A : Option Addr) (c : Nat) (l : List (Int × Int)) (w : World) (h : Wtr w g v bs) (hr : RdW w g v 2 A l.length (pcs l)) (hl : l.length ≤ 10000) (hn : bs.length ≤ 500000) (hwf : ∀ p ∈ l, wfU64 p.2) :
    Calls Tryz.prog 219 #[.pointer (some ⟨g, 0, none⟩), .slice A l.length c] w (RetWr g v w (bs ++ procsB l)) := by
  have HWF := hide hwf
  clear hwf
  go_enter Tryz.func219, Tryz.ntmps219
  go_wp2
  go_loopw [8] (fun i wr => ∃ (k : Nat) (v' : Value), k ≤ l.length ∧ i = .int .i64 k ∧ Wtr wr g v' (bs ++ procsB (l.take k)) ∧ WStep g v w v' wr) (fun i _ => l.length - (intOf i).toNat)
  case atStart => exact ⟨0, v, Nat.zero_le _, rfl, by simpa [procsB] using h, WStep.refl _ _ _⟩
  case round =>
    obtain ⟨k, v', hk, rfl, hw, hs⟩ := hrel
    have HW := hide hw
    have HS := hide hs
    have HR := hide hr
    clear hw hs h hr
    by_cases hlt : k < l.length
    · obtain ⟨b, off, ⟨pn, pi⟩, rfl, hb, hx, g1, g2⟩ := (HR.out.step HS.out).at2 hlt
      have hx' := HWF.out _ (List.mem_of_getElem? hx)
      have HX := hide (procsB_take hx)
      have hlen : (bs ++ procsB (l.take k)).length ≤ 700000 := by have := procsB_len (l.take k); simp at this ⊢; omega
      have hW1 := HW.out.below (below_alloc wr (bx pn pi))
      have T := hide (u8_s g v' _ (pn % 256) _ hW1 (by omega) (by omega) (by omega))
      have HB := hide (WStep.below (g := g) (v := v') (below_alloc wr (bx pn pi)))
      have hgl := HW.out.lt
      have HRL := hide (HW.out.row_lt (Nat.le_refl _))
      have HX1 := hide hx'.1
      have HX2 := hide hx'.2
      simp only at g1 g2 HX1 HX2
      clear hx hx' hW1
      go_wp2_with fail
      with_reducible refine T.out.mono ?_
      rintro e w1 ⟨rfl, v1, hw1, hs1⟩
      haveI := hs1.boxAt (boxTop wr _ _) (by omega) HRL.out
      have HS1 := hide hs1
      have T2 := hide (uint_s g v1 _ pi w1 hw1 (by simp at hlen ⊢; omega) HX1.out HX2.out)
      clear hw1 hs1 T
      go_wp2_with fail
      with_reducible refine T2.out.mono ?_
      rintro e w2 ⟨rfl, v2, hw2, hs2⟩
      have HW2 := hide hw2
      have HS2 := hide hs2
      clear hw2 hs2 T2
      go_wp2
      go_roundw
      case rel => exact ⟨k + 1, v2, by omega, by go_num, by rw [HX.out, ← List.append_assoc, ← List.append_assoc]; exact HW2.out, ((HS.out.trans HB.out).trans HS1.out).trans HS2.out⟩
      case measure => simp [intOf]; omega
    · have hk' : k = l.length := by omega
      subst hk'
      have HW' := hide (show Wtr wr g v' (bs ++ procsB l) by have := HW.out; rwa [List.take_length] at this)
      clear HW
      go_wp2
      go_end0
      exact ⟨rfl, v', HW'.out, HS.out⟩

end Go.Proofs.YtfddiklhjkjipaaGreat

namespace Go.Proofs.YtfddiklhjkjipaaGreat
set_option linter.unusedSimpArgs false
set_option linter.unusedVariables false
set_option linter.unusedSectionVars false
open Go.RowKit

theorem RdW.lit2 {w : World} {g : Nat} {v : Value} {bs : List Int} (h : Wtr w g v bs) (n i : Int) : RdW (w.alloc (bx n i)) g v 2 (some ⟨w.heap.size, 0, none⟩) 1 (pcs [(n, i)]) :=
  ⟨rfl, fun _ => ⟨_, _, rfl, by simp, by have := h.lt; omega, h.row_lt (Nat.le_refl _), fun j u hu => by
    match j, hu with
    | 0, hu => simp [pcs, pc] at hu; subst hu; simp
    | 1, hu => simp [pcs, pc] at hu; subst hu; simp
    | j + 2, hu => simp [pcs, pc] at hu⟩⟩
abbrev bxI3 (r n i : Int) : Obj := .cells #[.int .u64 r, .int .i64 n, .int .u64 i] 33
/-- the bytes of a view's name -/
def vidB (r n i : Int) : List Int := uintB r ++ procB (n, i)
theorem vidB_len (r n i : Int) : (vidB r n i).length ≤ 21 := by
  have := uintB_len r
  have := uintB_len i
  simp [vidB, procB]; omega
set_option maxHeartbeats 400000 in
theorem putId_s (g : Nat) (v : Value) (bs : List Int) (r n i : Int) (w : World) (h : Wtr w g v bs) (hn : bs.length ≤ 400000) (hr : wfU64 r) (hi : wfU64 i) :
    Calls Tryz.prog 270 #[.pointer (some ⟨g, 0, none⟩), .agg #[.int .u64 r, .int .i64 n, .int .u64 i]] w (RetWr g v w (bs ++ vidB r n i)) := by
  have T := hide (uint_s g v bs r _ (h.below (below_alloc w (bxI3 r n i))) (by omega) hr.1 hr.2)
  have HB := hide (WStep.below (g := g) (v := v) (below_alloc w (bxI3 r n i)))
  have hgl := h.lt
  have HRL := hide (h.row_lt (Nat.le_refl _))
  have HI := hide hi
  clear h hr hi
  go_enter Tryz.func270, Tryz.ntmps270
  go_wp2_with fail
  with_reducible refine T.out.mono ?_
  rintro e w1 ⟨rfl, v1, hw1, hs1⟩
  haveI := hs1.boxAt (boxTop w _ _) (by omega) HRL.out
  have T2 : Hid (Calls Tryz.prog 219 #[.pointer (some ⟨g, 0, none⟩), .slice (some ⟨w1.heap.size, 0, none⟩) 1 1] _ _) := hide (putP_s g v1 _ (some ⟨w1.heap.size, 0, none⟩) 1 [(n, i)] _ (hw1.below (below_alloc w1 (bx n i))) (RdW.lit2 hw1 n i) (by simp) (by have := uintB_len r; simp; omega) (by simpa using HI.out))
  have HB2 := hide (WStep.below (g := g) (v := v1) (below_alloc w1 (bx n i)))
  have HS1 := hide hs1
  clear hw1 hs1 T
  go_wp2_with fail
  with_reducible refine T2.out.mono ?_
  rintro e w2 ⟨rfl, v2, hw2, hs2⟩
  have HW2 := hide hw2
  have HS2 := hide hs2
  clear hw2 hs2 T2
  go_wp2
  go_end0
  refine ⟨rfl, v2, ?_, ((HB.out.trans HS1.out).trans HB2.out).trans HS2.out⟩
  have := HW2.out
  simpa [vidB, procsB] using this

/-- the bytes of a view -/
def viewB (r n i : Int) (ms : List (Int × Int)) (us : List Int) : List Int := vidB r n i ++ [(ms.length : Int) % 256] ++ procsB ms ++ uintsB us
abbrev bxV (r n i : Int) (MA : Option Addr) (ml mc : Nat) (UA : Option Addr) (ul uc : Nat) : Obj := .cells #[.int .u64 r, .int .i64 n, .int .u64 i, .slice MA ml mc, .slice UA ul uc] 36
set_option maxHeartbeats 400000 in
theorem putV_s (g : Nat) (v : Value) (bs : List Int) (r n i : Int) (MA : Option Addr) (mc : Nat) (ms : List (Int × Int)) (UA : Option Addr) (uc : Nat) (us : List Int) (w : World) (h : Wtr w g v bs) (hn : bs.length ≤ 100000)
    (hm : RdW w g v 2 MA ms.length (pcs ms)) (hu : RdW w g v 1 UA us.length (ucs us)) (hml : ms.length ≤ 10000) (hul : us.length ≤ 10000) (hr : wfU64 r) (hi : wfU64 i) (hmw : ∀ p ∈ ms, wfU64 p.2) (huw : ∀ x ∈ us, wfU64 x) :
    Calls Tryz.prog 224 #[.pointer (some ⟨g, 0, none⟩), .agg #[.int .u64 r, .int .i64 n, .int .u64 i, .slice MA ms.length mc, .slice UA us.length uc]] w (RetWr g v w (bs ++ viewB r n i ms us)) := by
  have T := hide (putId_s g v bs r n i _ (h.below (below_alloc w (bxV r n i MA ms.length mc UA us.length uc))) (by omega) hr hi)
  have hB := WStep.below (g := g) (v := v) (below_alloc w (bxV r n i MA ms.length mc UA us.length uc))
  have HM := hide (hm.step hB)
  have HU := hide (hu.step hB)
  have HB := hide hB
  have hgl := h.lt
  have HRL := hide (h.row_lt (Nat.le_refl _))
  have HMW := hide hmw
  have HUW := hide huw
  clear h hr hi hm hu hmw huw hB
  go_enter Tryz.func224, Tryz.ntmps224
  go_wp2_with fail
  with_reducible refine T.out.mono ?_
  rintro e w1 ⟨rfl, v1, hw1, hs1⟩
  have hb1 := hs1.boxAt (boxTop w _ _) (by omega) HRL.out
  haveI := hb1
  have hv1 : v1.ownBlock ≠ some w.heap.size := by
    rcases hs1.own with e | ⟨k, hk, e⟩
    · rw [e]; exact HRL.out
    · rw [e]; intro e'; injection e' with e'; simp at hk; omega
  have HV1 := hide hv1
  have T2 := hide (u8_s g v1 _ ((ms.length : Int) % 256) w1 hw1 (by have := vidB_len r n i; simp; omega) (by omega) (by omega))
  replace HM := hide (HM.out.step hs1)
  replace HU := hide (HU.out.step hs1)
  have HS1 := hide (HB.out.trans hs1)
  clear hw1 hs1 T HB hv1
  go_wp2_with fail
  with_reducible refine T2.out.mono ?_
  rintro e w2 ⟨rfl, v2, hw2, hs2⟩
  have hb2 := hs2.boxAt hb1 (by omega) HV1.out
  haveI := hb2
  have hv2 : v2.ownBlock ≠ some w.heap.size := by
    rcases hs2.own with e | ⟨k, hk, e⟩
    · rw [e]; exact HV1.out
    · rw [e]; intro e'; injection e' with e'; have := hb1.lt; omega
  have HV2 := hide hv2
  replace HM := hide (HM.out.step hs2)
  replace HU := hide (HU.out.step hs2)
  have T3 := hide (putP_s g v2 _ MA mc ms w2 hw2 HM.out hml (by have := vidB_len r n i; simp; omega) HMW.out)
  have HS2 := hide (HS1.out.trans hs2)
  clear hw2 hs2 T2 HS1 hv2 HV1
  go_wp2_with fail
  with_reducible refine T3.out.mono ?_
  rintro e w3 ⟨rfl, v3, hw3, hs3⟩
  have hb3 := hs3.boxAt hb2 (by omega) HV2.out
  haveI := hb3
  replace HU := hide (HU.out.step hs3)
  have T4 := hide (putU_s g v3 _ UA uc us w3 hw3 HU.out hul (by have := vidB_len r n i; have := procsB_len ms; simp; omega) HUW.out)
  have HS3 := hide (HS2.out.trans hs3)
  clear hw3 hs3 T3 HS2 HV2
  go_wp2_with fail
  with_reducible refine T4.out.mono ?_
  rintro e w4 ⟨rfl, v4, hw4, hs4⟩
  have HW4 := hide hw4
  have HS4 := hide (HS3.out.trans hs4)
  clear hw4 hs4 T4 HS3
  go_wp2
  go_end0
  refine ⟨rfl, v4, ?_, HS4.out⟩
  have := HW4.out
  simpa [viewB] using this

/-- bytes of one's own -/
def OwnB (w : World) (base : Nat) (v : Value) (bs : List Int) : Prop := w.ownsRow base 5 1 v bs.length (bcs bs)
set_option maxHeartbeats 400000 in
theorem cloneB_s (A : Option Addr) (c : Nat) (bs : List Int) (w : World) (h : Reads w w.heap.size 1 A bs.length (bcs bs)) (hn : bs.length ≤ 1000000) :
    Calls Tryz.prog 251 #[.slice A bs.length c] w fun e w' => ∃ v, e = .returned v ∧ OwnB w' w.heap.size v bs ∧ Below w.heap.size w w' := by
  cases A with
  | none =>
    have h0 : bs.length = 0 := by
      rcases Nat.eq_zero_or_pos bs.length with h' | h'
      · exact h'
      · obtain ⟨_, _, h'', _⟩ := h.2 h'; cases h''
    have hl : bs = [] := List.eq_nil_of_length_eq_zero h0
    subst hl
    clear h h0
    have hnil : ∀ W c, (binOp .eql 99 (.slice none 0 c) (.slice none 0 0)).run Tryz.prog W = .ok (.bool true) W := fun W c => Lib.run_eql_slice_nil W 99 5 none 0 c 0 0 Tryz.underlying99
    rw [show ([] : List Int).length = 0 from rfl]
    go_enter Tryz.func251, Tryz.ntmps251
    go_wp2
    go_ret
    exact ⟨_, rfl, World.ownsRow_nil _ _ _ _, Below.refl _ _⟩
  | some ad =>
    have hnil : ∀ W, (binOp .eql 99 (.slice (some ad) bs.length c) (.slice none 0 0)).run Tryz.prog W = .ok (.bool false) W := fun W => Lib.run_eql_slice_nil W 99 5 (some ad) bs.length c 0 0 Tryz.underlying99
    go_enter Tryz.func251, Tryz.ntmps251
    go_wp2_with (at_builtin; go_must (refine wpList_append_any _ Tryz.okB (by rfl) (.tmp 5) (.tmp 6) (by rfl) w.heap.size (.slice (some ⟨w.heap.size, 0, none⟩) 0 0) 0 [] (by rfl) (World.ownsRow_lit w #[] 0 (Nat.le_refl _) (by unfold maxLen; omega) rfl) w.heap.size (some ad) bs.length c (bcs bs) (by rfl) (h.alloc (Nat.le_refl _) _) (bcs_one bs) (by unfold maxLen; omega) (by omega) (by simp) ?_); intro v1 w1 hown1 hg1 hnil1 hat1)
    go_ret
    rw [Nat.zero_add, List.nil_append] at hown1
    exact ⟨_, rfl, hown1, (below_alloc w _).grown hg1 (by simp) (by simp [Value.ownBlock])⟩
theorem Wtr.reads {w : World} {g : Nat} {A : Option Addr} {n c : Nat} {bs : List Int} (h : Wtr w g (.slice A n c) bs) : n = bs.length ∧ Reads w w.heap.size 1 A bs.length (bcs bs) := by
  obtain ⟨A', c', e, _⟩ := own_slice h.own
  injection e with e1 e2 e3
  subst e1 e2 e3
  exact ⟨rfl, Reads.of_own h.own⟩
set_option maxHeartbeats 400000 in
theorem bytes_s (g : Nat) (v : Value) (bs : List Int) (w : World) (h : Wtr w g v bs) (hn : bs.length ≤ 1000000) :
    Calls Tryz.prog 222 #[.pointer (some ⟨g, 0, none⟩)] w fun e w' => ∃ v, e = .returned v ∧ OwnB w' w.heap.size v bs ∧ Below w.heap.size w w' := by
  obtain ⟨A, c, rfl, _, _⟩ := own_slice h.own
  have T := hide (cloneB_s A c bs w h.reads.2 hn)
  haveI := h.boxAt
  clear h
  go_enter Tryz.func222, Tryz.ntmps222
  go_wp2_with fail
  with_reducible refine T.out.mono ?_
  rintro e w1 ⟨v1, rfl, ho, hb⟩
  have HO := hide ho
  clear ho
  go_wp2
  go_ret
  exact ⟨v1, rfl, HO.out, hb⟩
end Go.Proofs.YtfddiklhjkjipaaGreat
