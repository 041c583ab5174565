/-
  Contracts: code.NewWriter, the Writer's wide (one byte), U8, Uint, Put, Bytes.
-/
import Derived.Test.YtgpmcpinnaggmaaWt
import Derived.Test.YtgpmcpinnaggmaaCmp
import Derived.Laws.BitsLemmas
namespace Go.Proofs.Ytgpmcpinnaggmaa
set_option linter.unusedSimpArgs false
set_option linter.unusedVariables false
set_option linter.unusedSectionVars false
open Go.RowKit

theorem Try.okB : ElemOk Try.prog 22 5 1 1 := elemOk_of (.int .u8 0) Try.underlying22 (by kernel_rfl) rfl (by omega)

set_option maxHeartbeats 400000 in
theorem newWriter_s (w : World) : Calls Try.prog 56 #[] w fun e w' => e = .returned (.pointer (some ⟨w.heap.size, 0, none⟩)) ∧ w.alloc (.cells #[.slice none 0 0] 126) = w' := by
  go_enter Try.func56, Try.ntmps56
  go_wp2
  go_ret
  exact ⟨rfl, rfl⟩

set_option maxHeartbeats 400000 in
theorem wide1_s (g : Nat) (v : Value) (bs : List Int) (x : Int) (w : World) (h : Wtr w g v bs) (hn : bs.length ≤ 1000000) :
    Calls Try.prog 100 #[.pointer (some ⟨g, 0, none⟩), .int .u64 x, .int .i64 1] w (RetWr g v w (bs ++ [x % 256])) := by
  haveI := h.boxAt
  have hW := h.below (below_alloc w (.cells #[.int .u8 (x % 256)] 5))
  have hr : Reads (w.alloc (.cells #[.int .u8 (x % 256)] 5)) (w.heap.size + 1) 1 (some ⟨w.heap.size, 0, none⟩) 1 (bcs [x % 256]) :=
    ⟨rfl, fun _ => ⟨_, _, rfl, by omega, fun j u hu => by
      cases j with
      | zero => simp [bcs] at hu; subst hu; simp
      | succ j => simp [bcs] at hu⟩⟩
  have HW := hide hW
  have HO := hide hW.own
  have HR := hide hr
  have hgl := h.lt
  have H := hide h
  clear h hW hr
  go_enter Try.func100, Try.ntmps100
  go_wp2
  refine wp_loop_rounds 2 ?_
  rw [rounds_succ]
  go_wp2_with (at_builtin; refine wpList_append_any _ Try.okB (by rfl) (.tmp 15) (.tmp 18) (by rfl) (g + 1) v bs.length (bcs bs) (by rfl) HO.out (w.heap.size + 1) (some ⟨w.heap.size, 0, none⟩) 1 1 (bcs [x % 256]) (by rfl) HR.out (bcs_one _) (by unfold maxLen; omega) (by omega) (by simp; omega) ?_; intro v1 w1 ho hg hnil hat; have HP := hide (HW.out.put ho hg hat); haveI : BoxAt w1 g #[v] 126 := ⟨by rw [hg.block g HW.out.lt (fun e => HW.out.row_ne e.symm)]; exact HW.out.box⟩; obtain ⟨A1, c1, rfl, _, _⟩ := own_slice ho; clear ho hg hnil hat)
  rw [rounds_succ]
  go_wp2
  go_end0
  exact ⟨rfl, _, HP.out.1, (WStep.below (below_alloc _ _)).trans HP.out.2⟩

set_option maxHeartbeats 400000 in
theorem u8_s (g : Nat) (v : Value) (bs : List Int) (x : Int) (w : World) (h : Wtr w g v bs) (hn : bs.length ≤ 1000000) (h0 : 0 ≤ x) (h1 : x < 256) :
    Calls Try.prog 57 #[.pointer (some ⟨g, 0, none⟩), .int .u8 x] w (RetWr g v w (bs ++ [x])) := by
  have hx : x % 256 = x := by omega
  have T := hide (wide1_s g v bs x w h hn)
  rw [hx] at T
  clear h hx
  go_enter Try.func57, Try.ntmps57
  go_wp2_with fail
  with_reducible refine T.out.mono ?_
  rintro e w1 ⟨rfl, v1, hw, hs⟩
  have HW := hide hw
  have HS := hide hs
  clear hw hs
  go_wp2
  go_end0
  exact ⟨rfl, v1, HW.out, HS.out⟩

theorem and127 {x : Int} (h0 : 0 ≤ x) (h1 : x ≤ 18446744073709551615) : bits .and .u64 x 127 = x % 128 := bits_mask .u64 64 (by decide) (fun n h h' => IntWalk.u64_in _ ⟨by omega, by omega⟩) 7 (by decide) x h0 (by omega)
theorem or128 {y : Int} (h0 : 0 ≤ y) (h1 : y < 128) : bits .or .u64 y 128 = y + 128 := by
  obtain ⟨n, rfl⟩ := Int.eq_ofNat_of_zero_le h0
  have e := (bits_nat .u64 64 (by decide) (fun n h h' => IntWalk.u64_in _ ⟨by omega, by omega⟩) n 128 (by omega) (by omega)).2
  have e2 := Nat.two_pow_add_eq_or_of_lt (i := 7) (b := n) (by omega) 1
  have e3 : bits .or .u64 (n : Int) 128 = ((n ||| 128 : Nat) : Int) := e
  rw [e3, Nat.or_comm]
  simp at e2
  rw [← e2]; omega

set_option maxHeartbeats 400000 in
theorem uint_s (g : Nat) (v : Value) (bs : List Int) (x : Int) (w : World) (h : Wtr w g v bs) (hn : bs.length ≤ 900000) (h0 : 0 ≤ x) (h1 : x ≤ 18446744073709551615) :
    Calls Try.prog 78 #[.pointer (some ⟨g, 0, none⟩), .int .u64 x] w (RetWr g v w (bs ++ uintB x)) := by
  have HX := hide h0
  go_enter Try.func78, Try.ntmps78
  go_wp2
  go_loopw [1] (fun y wr => ∃ (f : Nat) (Y : Int) (cs : List Int) (v' : Value), y = .int .u64 Y ∧ f ≤ 9 ∧ 0 ≤ Y ∧ Y < 128 ^ f * 2 ∧ cs.length + f = 9 ∧ uintB x = cs ++ uintF f Y ∧ Wtr wr g v' (bs ++ cs) ∧ WStep g v w v' wr) (fun y _ => (intOf y).toNat)
  case atStart => exact ⟨9, x, [], v, rfl, by omega, h0, by omega, rfl, rfl, by simpa using h, WStep.refl _ _ _⟩
  case round =>
    obtain ⟨f, Y, cs, v', rfl, hf, hY0, hY1, hcf, hu, hw, hs⟩ := hrel
    have hlen : (bs ++ cs).length ≤ 1000000 := by simp; omega
    have HU := hide hu
    have HS := hide hs
    have HW := hide hw
    have HY1 := hide hY1
    have hY2 : Y ≤ 18446744073709551615 := by
      have e : (128 : Nat) ^ f ≤ 128 ^ 9 := Nat.pow_le_pow_right (by omega) hf
      have e' : (128 : Int) ^ f ≤ 128 ^ 9 := by exact_mod_cast e
      omega
    clear hu hs hw hY1 h h1
    by_cases hlt : Y < 128
    · have hlt' : ¬ 128 ≤ Y := by omega
      have T := hide (wide1_s g v' (bs ++ cs) Y wr HW.out hlen)
      have hm : Y % 256 = Y := by omega
      rw [hm] at T
      clear hm
      go_wp2_with fail
      with_reducible refine T.out.mono ?_
      rintro e w1 ⟨rfl, v1, hw1, hs1⟩
      have HW1 := hide hw1
      have HS1 := hide hs1
      clear hw1 hs1
      go_wp2
      go_end0
      refine ⟨rfl, v1, ?_, HS.out.trans HS1.out⟩
      have e1 : uintF f Y = [Y] := by cases f <;> simp [uintF, hlt]
      rw [HU.out, e1, ← List.append_assoc]
      exact HW1.out
    · have hlt' : 128 ≤ Y := by omega
      have hb1 := and127 hY0 hY2
      have hb2 := or128 (y := Y % 128) (by omega) (by omega)
      have T := hide (wide1_s g v' (bs ++ cs) (Y % 128 + 128) wr HW.out hlen)
      have hm : (Y % 128 + 128) % 256 = Y % 128 + 128 := by omega
      rw [hm] at T
      clear hm
      obtain ⟨f, rfl⟩ : ∃ f', f = f' + 1 := by
        cases f with
        | zero => have := HY1.out; simp at this; omega
        | succ f => exact ⟨f, rfl⟩
      go_wp2_with fail
      with_reducible refine T.out.mono ?_
      rintro e w1 ⟨rfl, v1, hw1, hs1⟩
      have HW1 := hide hw1
      have HS1 := hide hs1
      clear hw1 hs1
      go_wp2
      go_roundw
      case rel =>
        refine ⟨f, Y / 128, cs ++ [Y % 128 + 128], v1, by go_num, by omega, by omega, div_lt_pow HY1.out, by simp; omega, ?_, by rw [← List.append_assoc]; exact HW1.out, HS.out.trans HS1.out⟩
        rw [HU.out, uintF, if_neg (by omega)]; simp
      case measure => simp [intOf]; omega


/-- short numbers, one behind the other -/
def uintsB (l : List Int) : List Int := l.flatMap uintB
theorem uintsB_take {l : List Int} {k : Nat} {x : Int} (h : l[k]? = some x) : uintsB (l.take (k + 1)) = uintsB (l.take k) ++ uintB x := by
  rw [List.take_add_one, h]; simp [uintsB]
theorem uintsB_len (l : List Int) : (uintsB l).length ≤ l.length * 10 := by
  induction l with
  | nil => simp [uintsB]
  | cons x l ih =>
    have := uintB_len x
    simp [uintsB] at ih ⊢; omega
def ucs (l : List Int) : List Value := l.map (Value.int .u64)
theorem ucs_len (l : List Int) : (ucs l).length = l.length * 1 := by simp [ucs]
def wfU64 (x : Int) : Prop := 0 ≤ x ∧ x ≤ 18446744073709551615
theorem RdW.atU {w : World} {g : Nat} {v : Value} {A : Option Addr} {n k : Nat} {l : List Int} (h : RdW w g v 1 A n (ucs l)) (hk : k < n) :
    ∃ b off x, A = some ⟨b, off, none⟩ ∧ b < w.heap.size ∧ l[k]? = some x ∧ w.cell? ⟨b, off + k, none⟩ = some (.int .u64 x) := by
  obtain ⟨b, off, rfl, hb, _, _, hc⟩ := h.2 (by omega)
  have hl : k < l.length := by have := h.1; rw [ucs_len] at this; omega
  exact ⟨b, off, l[k], rfl, hb, List.getElem?_eq_getElem hl, hc k _ (by simp [ucs, hl])⟩
set_option maxHeartbeats 400000 in
theorem putU_s (g : Nat) (v : Value) (bs : List Int) (A : Option Addr) (c : Nat) (l : List Int) (w : World) (h : Wtr w g v bs) (hr : RdW w g v 1 A l.length (ucs l)) (hl : l.length ≤ 10000) (hn : bs.length ≤ 500000) (hwf : ∀ x ∈ l, wfU64 x) :
    Calls Try.prog 60 #[.pointer (some ⟨g, 0, none⟩), .slice A l.length c] w (RetWr g v w (bs ++ uintsB l)) := by
  have HWF := hide hwf
  clear hwf
  go_enter Try.func60, Try.ntmps60
  go_wp2
  go_loopw [8] (fun i wr => ∃ (k : Nat) (v' : Value), k ≤ l.length ∧ i = .int .i64 k ∧ Wtr wr g v' (bs ++ uintsB (l.take k)) ∧ WStep g v w v' wr) (fun i _ => l.length - (intOf i).toNat)
  case atStart => exact ⟨0, v, Nat.zero_le _, rfl, by simpa [uintsB] using h, WStep.refl _ _ _⟩
  case round =>
    obtain ⟨k, v', hk, rfl, hw, hs⟩ := hrel
    have HW := hide hw
    have HS := hide hs
    have HR := hide hr
    clear hw hs h hr
    by_cases hlt : k < l.length
    · obtain ⟨b, off, x, rfl, hb, hx, g1⟩ := (HR.out.step HS.out).atU hlt
      have hx' := HWF.out x (List.mem_of_getElem? hx)
      have HX := hide (uintsB_take hx)
      have hlen : (bs ++ uintsB (l.take k)).length ≤ 900000 := by have := uintsB_len (l.take k); simp at this ⊢; omega
      have T := hide (uint_s g v' _ x wr HW.out hlen hx'.1 hx'.2)
      clear hx hx'
      go_wp2_with fail
      with_reducible refine T.out.mono ?_
      rintro e w1 ⟨rfl, v1, hw1, hs1⟩
      have HW1 := hide hw1
      have HS1 := hide hs1
      clear hw1 hs1
      go_wp2
      go_roundw
      case rel => exact ⟨k + 1, v1, by omega, by go_num, by rw [HX.out, ← List.append_assoc]; exact HW1.out, HS.out.trans HS1.out⟩
      case measure => simp [intOf]; omega
    · have hk' : k = l.length := by omega
      subst hk'
      have HW' := hide (show Wtr wr g v' (bs ++ uintsB l) by have := HW.out; rwa [List.take_length] at this)
      clear HW
      go_wp2
      go_end0
      exact ⟨rfl, v', HW'.out, HS.out⟩

/-- a life's bytes -/
def procB (p : Int × Int) : List Int := p.1 % 256 :: uintB p.2
def procsB (l : List (Int × Int)) : List Int := l.flatMap procB
theorem procsB_take {l : List (Int × Int)} {k : Nat} {x : Int × Int} (h : l[k]? = some x) : procsB (l.take (k + 1)) = procsB (l.take k) ++ [x.1 % 256] ++ uintB x.2 := by
  rw [List.take_add_one, h]; simp [procsB, procB]
theorem procsB_len (l : List (Int × Int)) : (procsB l).length ≤ l.length * 11 := by
  induction l with
  | nil => simp [procsB]
  | cons x l ih =>
    have := uintB_len x.2
    simp [procsB, procB] at ih ⊢; omega
theorem RdW.at2 {w : World} {g : Nat} {v : Value} {A : Option Addr} {n k : Nat} {l : List (Int × Int)} (h : RdW w g v 2 A n (pcs l)) (hk : k < n) :
    ∃ b off p, A = some ⟨b, off, none⟩ ∧ b < w.heap.size ∧ l[k]? = some p ∧ w.cell? ⟨b, off + k * 2, none⟩ = some (.int .i64 p.1) ∧ w.cell? ⟨b, off + k * 2 + 1, none⟩ = some (.int .u64 p.2) := h.reads.at2 hk
set_option maxHeartbeats 400000 in
theorem putP_s (g : Nat) (v : Value) (bs : List Int) (A : Option Addr) (c : Nat) (l : List (Int × Int)) (w : World) (h : Wtr w g v bs) (hr : RdW w g v 2 A l.length (pcs l)) (hl : l.length ≤ 10000) (hn : bs.length ≤ 500000) (hwf : ∀ p ∈ l, wfU64 p.2) :
    Calls Try.prog 59 #[.pointer (some ⟨g, 0, none⟩), .slice A l.length c] w (RetWr g v w (bs ++ procsB l)) := by
  have HWF := hide hwf
  clear hwf
  go_enter Try.func59, Try.ntmps59
  go_wp2
  go_loopw [8] (fun i wr => ∃ (k : Nat) (v' : Value), k ≤ l.length ∧ i = .int .i64 k ∧ Wtr wr g v' (bs ++ procsB (l.take k)) ∧ WStep g v w v' wr) (fun i _ => l.length - (intOf i).toNat)
  case atStart => exact ⟨0, v, Nat.zero_le _, rfl, by simpa [procsB] using h, WStep.refl _ _ _⟩
  case round =>
    obtain ⟨k, v', hk, rfl, hw, hs⟩ := hrel
    have HW := hide hw
    have HS := hide hs
    have HR := hide hr
    clear hw hs h hr
    by_cases hlt : k < l.length
    · obtain ⟨b, off, ⟨pn, pi⟩, rfl, hb, hx, g1, g2⟩ := (HR.out.step HS.out).at2 hlt
      have hx' := HWF.out _ (List.mem_of_getElem? hx)
      have HX := hide (procsB_take hx)
      have hlen : (bs ++ procsB (l.take k)).length ≤ 700000 := by have := procsB_len (l.take k); simp at this ⊢; omega
      have hW1 := HW.out.below (below_alloc wr (bx pn pi))
      have T := hide (u8_s g v' _ (pn % 256) _ hW1 (by omega) (by omega) (by omega))
      have HB := hide (WStep.below (g := g) (v := v') (below_alloc wr (bx pn pi)))
      have hgl := HW.out.lt
      have HRL := hide (HW.out.row_lt (Nat.le_refl _))
      have HX1 := hide hx'.1
      have HX2 := hide hx'.2
      simp only at g1 g2 HX1 HX2
      clear hx hx' hW1
      go_wp2_with fail
      with_reducible refine T.out.mono ?_
      rintro e w1 ⟨rfl, v1, hw1, hs1⟩
      haveI := hs1.boxAt (boxTop wr _ _) (by omega) HRL.out
      have HS1 := hide hs1
      have T2 := hide (uint_s g v1 _ pi w1 hw1 (by simp at hlen ⊢; omega) HX1.out HX2.out)
      clear hw1 hs1 T
      go_wp2_with fail
      with_reducible refine T2.out.mono ?_
      rintro e w2 ⟨rfl, v2, hw2, hs2⟩
      have HW2 := hide hw2
      have HS2 := hide hs2
      clear hw2 hs2 T2
      go_wp2
      go_roundw
      case rel => exact ⟨k + 1, v2, by omega, by go_num, by rw [HX.out, ← List.append_assoc, ← List.append_assoc]; exact HW2.out, ((HS.out.trans HB.out).trans HS1.out).trans HS2.out⟩
      case measure => simp [intOf]; omega
    · have hk' : k = l.length := by omega
      subst hk'
      have HW' := hide (show Wtr wr g v' (bs ++ procsB l) by have := HW.out; rwa [List.take_length] at this)
      clear HW
      go_wp2
      go_end0
      exact ⟨rfl, v', HW'.out, HS.out⟩

end Go.Proofs.Ytgpmcpinnaggmaa
