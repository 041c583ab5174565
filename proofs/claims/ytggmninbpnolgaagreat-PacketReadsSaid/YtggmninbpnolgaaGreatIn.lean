/-
  The reference's reader in memory; contracts: its U8, Uint.
-/
import Derived.Test.YtggmninbpnolgaaGreatRdr
import Derived.Test.YtggmninbpnolgaaGreatInts
import Derived.Test.YtggmninbpnolgaaGreatGet
import Derived.Test.YtggmninbpnolgaaGreatRef4
import Derived.Test.YtggmninbpnolgaaGreatVget
import Derived.Test.YtggmninbpnolgaaGreatTcG
namespace Go.Proofs.YtggmninbpnolgaaGreat
set_option linter.unusedSimpArgs false
set_option linter.unusedVariables false
set_option linter.unusedSectionVars false
open Go.RowKit

/-- a reader's bytes, where they lie -/
structure RdI (w : World) (g B : Nat) (A : Option Addr) (c : Nat) (bs : List Int) (bad : Bool) : Prop where
  box : w.heap[g]? = some (.cells #[.slice A bs.length c, .bool bad] 73 (0, 0))
  data : 0 < bs.length → ∃ b off, A = some ⟨b, off, none⟩ ∧ b < B ∧ b ≠ g ∧ ∀ j u, (bcs bs)[j]? = some u → w.cell? ⟨b, off + j, none⟩ = some u
  cap : bs.length ≤ c
  max : c ≤ 9223372036854775807
  ok : bOK bs
  top : g < B
  le : B ≤ w.heap.size
/-- the reader at block g has the bytes bs left -/
def RdsI (w : World) (g B : Nat) (bs : List Int) (bad : Bool) : Prop := ∃ A c, RdI w g B A c bs bad
section
variable {w w' : World} {g B c : Nat} {A : Option Addr} {bs : List Int} {bad : Bool}
theorem RdI.lt (h : RdI w g B A c bs bad) : g < w.heap.size := (Array.getElem?_eq_some_iff.1 h.box).1
theorem RdI.boxAt (h : RdI w g B A c bs bad) : BoxAt w g #[.slice A bs.length c, .bool bad] 73 := ⟨h.box⟩
theorem RdI.below (h : RdI w g B A c bs bad) (hb : Below B w w') : RdI w' g B A c bs bad :=
  ⟨by rw [hb.block g h.top]; exact h.box, fun hn => by
    obtain ⟨b, off, e, h1, h2, h3⟩ := h.data hn
    exact ⟨b, off, e, h1, h2, fun j u hu => (hb.cell (p := ⟨b, off + j, none⟩) h1).trans (h3 j u hu)⟩, h.cap, h.max, h.ok, h.top, Nat.le_trans h.le hb.size⟩
theorem RdsI.below (h : RdsI w g B bs bad) (hb : Below B w w') : RdsI w' g B bs bad := by obtain ⟨A, c, h⟩ := h; exact ⟨A, c, h.below hb⟩
theorem RdsI.step (h : RdsI w g B bs bad) (hb : Below w.heap.size w w') : RdsI w' g B bs bad := by obtain ⟨A, c, h⟩ := h; exact ⟨A, c, h.below (hb.mono h.le)⟩
theorem RdsI.top (h : RdsI w g B bs bad) : g < B := by obtain ⟨A, c, h⟩ := h; exact h.top
theorem RdsI.le (h : RdsI w g B bs bad) : B ≤ w.heap.size := by obtain ⟨A, c, h⟩ := h; exact h.le
theorem RdsI.ok (h : RdsI w g B bs bad) : bOK bs := by obtain ⟨A, c, h⟩ := h; exact h.ok
theorem RdsI.lt (h : RdsI w g B bs bad) : g < w.heap.size := by obtain ⟨A, c, h⟩ := h; exact h.lt
/-- it fails -/
theorem RdI.fail (h : RdI w g B A c bs bad) : RdI (w.setCell ⟨g, 1, none⟩ (.bool true)) g B A c bs true := by
  have hb := grown_setCell w g 1 (.bool true)
  have hl := h.le
  refine ⟨?_, fun hn => ?_, h.cap, h.max, h.ok, h.top, Nat.le_trans h.le hb.size⟩
  · rw [setCell_block _ _ _ _ _ _ h.box]; rfl
  · obtain ⟨b, off, e, h1, h2, h3⟩ := h.data hn
    exact ⟨b, off, e, h1, h2, fun j u hu => (World.cell?_of_block (a := ⟨b, off + j, none⟩) (hb.block b (Nat.lt_of_lt_of_le h1 hl) (fun e => h2 (by injection e)))).trans (h3 j u hu)⟩
/-- n bytes are taken -/
theorem RdI.took (h : RdI w g B A c bs bad) {n : Nat} (hn : n ≤ bs.length) {A' : Option Addr} (hA : n < bs.length → ∀ b off, A = some ⟨b, off, none⟩ → A' = some ⟨b, off + n, none⟩) :
    RdI (w.setCell ⟨g, 0, none⟩ (.slice A' (bs.length - n) (c - n))) g B A' (c - n) (bs.drop n) bad := by
  have hb := grown_setCell w g 0 (.slice A' (bs.length - n) (c - n))
  have hc := h.cap
  have hm := h.max
  refine ⟨?_, fun hn' => ?_, by rw [List.length_drop]; omega, by omega, h.ok.drop n, h.top, Nat.le_trans h.le hb.size⟩
  · rw [setCell_block _ _ _ _ _ _ h.box, List.length_drop]; rfl
  · rw [List.length_drop] at hn'
    obtain ⟨b, off, e, h1, h2, h3⟩ := h.data (by omega)
    refine ⟨b, off + n, hA (by omega) b off e, h1, h2, fun j u hu => ?_⟩
    rw [show off + n + j = off + (n + j) by omega]
    refine (World.cell?_of_block (a := ⟨b, off + (n + j), none⟩) (hb.block b (Nat.lt_of_lt_of_le h1 h.le) (fun e => h2 (by injection e)))).trans (h3 _ u ?_)
    have := bcs_drop bs n
    rw [Nat.mul_one] at this
    rw [← this, List.getElem?_drop] at hu
    exact hu
theorem RdI.atB (h : RdI w g B A c bs bad) {k : Nat} (hk : k < bs.length) : ∃ b off x, A = some ⟨b, off, none⟩ ∧ b < B ∧ b ≠ g ∧ bs[k]? = some x ∧ w.cell? ⟨b, off + k, none⟩ = some (.int .u8 x) := by
  obtain ⟨b, off, rfl, hb, hg, hc⟩ := h.data (by omega)
  exact ⟨b, off, bs[k], rfl, hb, hg, List.getElem?_eq_getElem hk, hc k _ (by simp [bcs, hk])⟩
end
theorem RdI.keepB {w w' : World} {g B c : Nat} {A : Option Addr} {bs : List Int} {bad : Bool} (h : RdI w g B A c bs bad) (hb : ∀ k, k < B → w'.heap[k]? = w.heap[k]?) (hs : B ≤ w'.heap.size) : RdI w' g B A c bs bad :=
  ⟨by rw [hb g h.top]; exact h.box, fun hn => by
    obtain ⟨b, off, e, h1, h2, h3⟩ := h.data hn
    exact ⟨b, off, e, h1, h2, fun j u hu => (World.cell?_of_block (a := ⟨b, off + j, none⟩) (hb b h1)).trans (h3 j u hu)⟩, h.cap, h.max, h.ok, h.top, hs⟩
/-- the reader at block g is at s; of one that has failed nobody knows what is left -/
def RI (w : World) (g B : Nat) (s : RS) : Prop := ∃ bs A c, RdI w g B A c bs s.2 ∧ (s.2 = false → bs = s.1) ∧ bs.length ≤ 1000000
section
variable {w w' : World} {g B : Nat} {s : RS}
theorem RI.step (h : RI w g B s) (hb : Below w.heap.size w w') : RI w' g B s := by obtain ⟨bs, A, c, h1, h2⟩ := h; exact ⟨bs, A, c, h1.below (hb.mono h1.le), h2⟩
theorem RI.below (h : RI w g B s) (hb : Below B w w') : RI w' g B s := by obtain ⟨bs, A, c, h1, h2⟩ := h; exact ⟨bs, A, c, h1.below hb, h2⟩
theorem RI.keepB (h : RI w g B s) (hb : ∀ k, k < B → w'.heap[k]? = w.heap[k]?) (hs : B ≤ w'.heap.size) : RI w' g B s := by obtain ⟨bs, A, c, h1, h2⟩ := h; exact ⟨bs, A, c, h1.keepB hb hs, h2⟩
theorem RI.top (h : RI w g B s) : g < B := by obtain ⟨bs, A, c, h1, h2⟩ := h; exact h1.top
theorem RI.le (h : RI w g B s) : B ≤ w.heap.size := by obtain ⟨bs, A, c, h1, h2⟩ := h; exact h1.le
theorem RI.lt (h : RI w g B s) : g < w.heap.size := by obtain ⟨bs, A, c, h1, h2⟩ := h; exact h1.lt
theorem RI.ok (h : RI w g B s) (hs : s.2 = false) : bOK s.1 := by obtain ⟨bs, A, c, h1, h2, _⟩ := h; rw [← h2 hs]; exact h1.ok
theorem RI.len (h : RI w g B s) (hs : s.2 = false) : s.1.length ≤ 1000000 := by obtain ⟨bs, A, c, h1, h2, h3⟩ := h; rw [← h2 hs]; exact h3
theorem RI.fail (h : RI w g B s) (l : List Int) : RI (w.setCell ⟨g, 1, none⟩ (.bool true)) g B (l, true) := by
  obtain ⟨bs, A, c, h1, h2, h3⟩ := h
  exact ⟨bs, A, c, h1.fail, fun h => (by cases h), h3⟩
theorem RI.box (h : RI w g B s) : ∃ v, BoxAt w g #[v, .bool s.2] 73 := by
  obtain ⟨bs, A, c, h1, _⟩ := h
  exact ⟨_, h1.boxAt⟩
theorem RI.any (h : RI w g B (s.1, true)) (l : List Int) : RI w g B (l, true) := by
  obtain ⟨bs, A, c, h1, h2, h3⟩ := h
  exact ⟨bs, A, c, h1, fun h => (by cases h), h3⟩
end
/-- the post of what its methods do -/
def RetJ (g B : Nat) (w : World) (v : Value) (s : RS) (e : Ending) (w' : World) : Prop := e = .returned v ∧ RI w' g B s ∧ w.grownBy w' (some g)
set_option maxHeartbeats 1000000 in
theorem u8I_s (g B : Nat) (s : RS) (w : World) (h : RI w g B s) : Calls Tryz.prog 34 #[.pointer (some ⟨g, 0, none⟩)] w (RetJ g B w (.int .i64 (rU8 s).1) (rU8 s).2) := by
  have hF := hide (fun l => h.fail l)
  obtain ⟨bs, bad⟩ := s
  obtain ⟨bs', A, c, h1, h2, h3⟩ := h
  simp only at h1 h2
  haveI := h1.boxAt
  cases bad
  · obtain rfl := h2 rfl
    cases bs' with
    | nil =>
      clear h1 h2
      go_enter Tryz.func34, Tryz.ntmps34
      go_wp2
      go_ret
      exact ⟨rfl, hF.out _, grown_setCell _ _ _ _⟩
    | cons b bs =>
      have hl : (((b :: bs).length : Int) == 0) = false := by rw [beq_eq_false_iff_ne]; simp; omega
      have hl2 : (0 : Nat) < (b :: bs).length := by simp
      obtain ⟨b', off, x, rfl, hb', hne, hx, hc⟩ := h1.atB (k := 0) (by simp)
      simp at hx
      subst hx
      rw [Nat.add_zero] at hc
      obtain ⟨hx0, hx1⟩ := h1.ok b (by simp)
      have hcap := h1.cap
      have hmax := h1.max
      have hl1 : 1 ≤ (b :: bs).length := by simp
      have hlb : bs.length ≤ 1000000 := by simp at h3; omega
      have HQ : Hid (∀ A' : Option Addr, (1 < (b :: bs).length → A' = some ⟨b', off + 1, none⟩) → RI (w.setCell ⟨g, 0, none⟩ (.slice A' ((b :: bs).length - 1) (c - 1))) g B (bs, false)) := hide (fun A' hA => ⟨bs, A', c - 1, by
        have := h1.took (n := 1) hl1 (A' := A') (fun hlt b2 off2 e => by injection e with e; injection e with e1 e2; subst e1 e2; exact hA hlt)
        exact this, fun _ => rfl, hlb⟩)
      haveI : InW b' w := ⟨Nat.lt_of_lt_of_le hb' h1.le⟩
      clear h1 h2 hF
      generalize hln : (b :: bs).length = n at *
      have hln' : Hid (n - 1 = bs.length) := hide (by rw [← hln]; simp)
      clear hln
      by_cases hc1 : c = 1
      · subst hc1
        obtain rfl : n = 1 := by omega
        have P := hide (HQ.out (some ⟨b', off, none⟩) (fun h => by omega))
        clear HQ
        go_enter Tryz.func34, Tryz.ntmps34
        go_wp2
        go_ret
        exact ⟨rfl, P.out, grown_setCell _ _ _ _⟩
      · have P := hide (HQ.out (some ⟨b', off + 1, none⟩) (fun _ => rfl))
        have h1c : 1 ≤ n := hl1
        clear HQ
        go_enter Tryz.func34, Tryz.ntmps34
        go_wp2
        go_ret
        exact ⟨rfl, P.out, grown_setCell _ _ _ _⟩
  · clear h1 h2
    have e : rU8 (bs, true) = (0, (bs, true)) := by cases bs <;> rfl
    rw [e]
    go_enter Tryz.func34, Tryz.ntmps34
    go_wp2
    go_ret
    exact ⟨rfl, hF.out _, grown_setCell _ _ _ _⟩
end Go.Proofs.YtggmninbpnolgaaGreat

namespace Go.Proofs.YtggmninbpnolgaaGreat
set_option linter.unusedSimpArgs false
set_option linter.unusedVariables false
set_option linter.unusedSectionVars false
open Go.RowKit

theorem rU8_drop {l : List Int} {k : Nat} {c : Int} (h : l[k]? = some c) : rU8 (l.drop k, false) = (c, (l.drop (k + 1), false)) := by
  obtain ⟨hk, rfl⟩ := List.getElem?_eq_some_iff.1 h
  rw [List.drop_eq_getElem_cons hk]; rfl
theorem rUint_of (bs : List Int) (x : Int) (n : Nat) (h : numGo 0 0 bs = (x, n)) (hn : n ≠ 0) : rUint (bs, false) = (x, (bs.drop n, false)) := by
  unfold rUint; simp only [numV, Bool.false_eq_true, if_false, h]; rw [if_neg hn]
theorem rUint_no (bs : List Int) (x : Int) (h : numGo 0 0 bs = (x, 0)) : rUint (bs, false) = (0, (bs, true)) := by
  unfold rUint; simp [numV, h]
theorem addStep {X x : Int} {k : Nat} (hk : k ≤ 9) (h0 : 0 ≤ X) (h1 : X < 128 ^ k) (h9 : k = 9 → x % 128 ≤ 1) : IntKind.u64.wrap (X + IntKind.u64.wrap (x % 128 * 2 ^ (7 * k))) = X + x % 128 * 128 ^ k := by
  have e : (2 : Int) ^ (7 * k) = 128 ^ k := by rw [Int.pow_mul]; rfl
  rw [e]
  have hp : (0 : Int) ≤ 128 ^ k := Int.pow_nonneg (by omega)
  have key : x % 128 * 128 ^ k < 2 ^ 64 ∧ X + x % 128 * 128 ^ k < 2 ^ 64 := by
    rcases Nat.lt_or_ge k 9 with h9' | h9'
    · have : (128 : Int) ^ k ≤ 128 ^ 8 := by
        have e : (128 : Nat) ^ k ≤ 128 ^ 8 := Nat.pow_le_pow_right (by omega) (by omega)
        exact_mod_cast e
      have h3 : x % 128 * 128 ^ k ≤ 127 * 128 ^ 8 := Int.mul_le_mul (by omega) this hp (by omega)
      have : (127 : Int) * 128 ^ 8 + 128 ^ 8 < 2 ^ 64 := by decide
      omega
    · obtain rfl : k = 9 := by omega
      have h3 : x % 128 * (128 : Int) ^ 9 ≤ 1 * 128 ^ 9 := Int.mul_le_mul_of_nonneg_right (h9 rfl) (by decide)
      have : (1 : Int) * 128 ^ 9 + 128 ^ 9 ≤ 2 ^ 64 := by decide
      omega
  have hnn := Int.mul_nonneg (show 0 ≤ x % 128 by omega) hp
  rw [IntWalk.u64_in _ ⟨hnn, by omega⟩, IntWalk.u64_in _ ⟨by omega, by omega⟩]
set_option maxRecDepth 100000 in
set_option maxHeartbeats 2000000 in
theorem uintI_s (g B : Nat) (s : RS) (w : World) (h : RI w g B s) : Calls Tryz.prog 36 #[.pointer (some ⟨g, 0, none⟩)] w (RetJ g B w (.int .u64 (rUint s).1) (rUint s).2) := by
  obtain ⟨bs, bad⟩ := s
  cases bad
  · have hok := h.ok rfl
    have hlen := h.len rfl
    simp only at hok hlen
    have HK := hide hok
    go_enter Tryz.func36, Tryz.ntmps36
    go_wp2
    go_loopw [3, 4] (fun x i wr => ∃ (k : Nat) (X : Int), k ≤ bs.length ∧ k ≤ 9 ∧ i = .int .i64 k ∧ x = .int .u64 X ∧ 0 ≤ X ∧ X < 128 ^ k ∧ numGo 0 0 bs = numGo k X (bs.drop k) ∧ RI wr g B (bs.drop k, false) ∧ w.grownBy wr (some g)) (fun _ i _ => 10 - (intOf i).toNat)
    case atStart => exact ⟨0, 0, Nat.zero_le _, by omega, rfl, rfl, by omega, by omega, rfl, h, grown_refl _ _⟩
    case round =>
      obtain ⟨k, X, hk, hk9, rfl, rfl, hX0, hX1, hnum, hR, hG⟩ := hrel
      have HX1 := hide hX1
      have HN := hide hnum
      have HG := hide hG
      have T := hide (u8I_s g B (bs.drop k, false) wr hR)
      clear hnum hX1 h hR hG hok
      by_cases hlt : k < bs.length
      · have hx : bs[k]? = some bs[k] := List.getElem?_eq_getElem hlt
        generalize bs[k] = x at hx
        obtain ⟨hx0, hx1⟩ := HK.out.get hx
        have HS := hide (numGo_step (X := X) hx)
        have hwx : IntKind.u64.wrap x = x := IntWalk.u64_in _ ⟨by omega, by omega⟩
        rw [rU8_drop hx] at T
        simp only at T
        clear hx
        by_cases hA : k = 9 ∧ 1 < x
        · have HZ := hide (rUint_no bs 0 (by rw [HN.out, HS.out, if_pos hA]))
          obtain ⟨rfl, h1x⟩ := hA
          clear HN HS HX1
          go_wp2_with fail
          with_reducible refine T.out.mono ?_
          rintro e w1 ⟨rfl, hR1, hG1⟩
          have HF := hide (hR1.fail bs)
          have HG1 := hide (grown_trans (grown_trans HG.out hG1) (grown_setCell w1 g 1 (.bool true)))
          obtain ⟨v1, hbx⟩ := hR1.box
          simp only at hbx
          haveI := hbx
          clear hR1 hG1 T
          go_wp2
          go_ret
          rw [HZ.out]
          exact ⟨rfl, HF.out, HG1.out⟩
        · replace HS := hide (HS.out.trans (if_neg hA))
          have hst := hide (addStep (x := x) hk9 hX0 HX1.out (by omega))
          have hA1 : (k : Int) = 9 → x ≤ 1 := by omega
          by_cases h128 : x < 128
          · replace HS := hide (HS.out.trans (if_pos h128))
            by_cases hz : x = 0 ∧ 0 < k
            · have HZ := hide (rUint_no bs 0 (by rw [HN.out, HS.out, if_pos hz]))
              obtain ⟨rfl, hk0⟩ := hz
              clear HN HS HX1 hA
              go_wp2_with fail
              with_reducible refine T.out.mono ?_
              rintro e w1 ⟨rfl, hR1, hG1⟩
              have HF := hide (hR1.fail bs)
              have HG1 := hide (grown_trans (grown_trans HG.out hG1) (grown_setCell w1 g 1 (.bool true)))
              obtain ⟨v1, hbx⟩ := hR1.box
              simp only at hbx
              haveI := hbx
              clear hR1 hG1 T
              go_wp2
              all_goals
                go_ret
                rw [HZ.out]
                exact ⟨rfl, HF.out, HG1.out⟩
            · have HZ := hide (rUint_of bs _ (k + 1) (by rw [HN.out, HS.out, if_neg hz]) (by omega))
              have hXz : k = 0 → X = 0 := fun h => by have := HX1.out; rw [h] at this; simp at this; omega
              clear HN HS HX1
              go_wp2_with fail
              with_reducible refine T.out.mono ?_
              rintro e w1 ⟨rfl, hR1, hG1⟩
              have HF := hide hR1
              have HG1 := hide (grown_trans HG.out hG1)
              obtain ⟨v1, hbx⟩ := hR1.box
              simp only at hbx
              haveI := hbx
              clear hR1 hG1 T hA
              by_cases hx00 : x = 0
              · obtain rfl : k = 0 := by omega
                subst hx00
                obtain rfl := hXz rfl
                clear hXz hst
                go_wp2
                go_ret
                rw [HZ.out]
                exact ⟨ret_i rfl, HF.out, HG1.out⟩
              · have hxb : (x == 0) = false := by simp [hx00]
                by_cases hk90 : k = 9
                · subst hk90
                  obtain rfl : x = 1 := by omega
                  have hst1 : IntKind.u64.wrap (X + 9223372036854775808) = X + 1 % 128 * 128 ^ 9 := by
                    have := hst.out
                    rw [show IntKind.u64.wrap (1 % 128 * 2 ^ (7 * 9)) = 9223372036854775808 by decide] at this
                    exact this
                  have HST1 := hide hst1
                  clear hst1 hst hXz
                  go_wp2
                  go_ret
                  rw [HZ.out]
                  exact ⟨ret_i HST1.out, HF.out, HG1.out⟩
                · have hkb : ((k : Int) == 9) = false := by simp; omega
                  clear hXz
                  go_wp2
                  go_ret
                  rw [HZ.out]
                  exact ⟨ret_i hst.out, HF.out, HG1.out⟩
          · replace HS := hide (HS.out.trans (if_neg h128))
            have hge : ¬ x < 128 := h128
            have h9 : ¬ (k : Int) = 9 := by omega
            have h9' : ((k : Int) == 9) = false := by simp; omega
            clear hA
            go_wp2_with fail
            with_reducible refine T.out.mono ?_
            rintro e w1 ⟨rfl, hR1, hG1⟩
            have HF := hide hR1
            have HG1 := hide (grown_trans HG.out hG1)
            obtain ⟨v1, hbx⟩ := hR1.box
            simp only at hbx
            haveI := hbx
            clear hR1 hG1 T
            go_wp2
            exact ⟨⟨k + 1, X + x % 128 * 128 ^ k, by omega, by omega, by go_num, by rw [hst.out], (pow_next hX0 HX1.out).1, (pow_next hX0 HX1.out).2, HN.out.trans HS.out, HF.out, HG1.out⟩, by simp [intOf]; omega⟩
      · obtain rfl : k = bs.length := by omega
        have HZ := hide (rUint_no bs 0 (by rw [HN.out, List.drop_length]; rfl))
        rw [List.drop_length] at T
        have e0 : rU8 ([], false) = (0, ([], true)) := rfl
        rw [e0] at T
        simp only at T
        clear HN
        go_wp2_with fail
        with_reducible refine T.out.mono ?_
        rintro e w1 ⟨rfl, hR1, hG1⟩
        obtain ⟨v1, hbx⟩ := hR1.box
        simp only at hbx
        haveI := hbx
        have HF := hide (RI.any (s := ([], true)) hR1 bs)
        have HG1 := hide (grown_trans HG.out hG1)
        clear hR1 hG1 T
        go_wp2
        go_ret
        rw [HZ.out]
        exact ⟨rfl, HF.out, HG1.out⟩
  · have T := hide (u8I_s g B (bs, true) w h)
    have e0 : rU8 (bs, true) = (0, (bs, true)) := by cases bs <;> rfl
    have e1 : rUint (bs, true) = (0, (bs, true)) := by unfold rUint; simp [numV]
    rw [e0] at T
    rw [e1]
    simp only at T ⊢
    clear h e0 e1
    go_enter Tryz.func36, Tryz.ntmps36
    go_wp2
    refine wp_loop_rounds 1 ?_
    rw [rounds_succ]
    go_wp2_with fail
    with_reducible refine T.out.mono ?_
    rintro e w1 ⟨rfl, hR1, hG1⟩
    obtain ⟨v1, hbx⟩ := hR1.box
    simp only at hbx
    haveI := hbx
    have HF := hide hR1
    have HG1 := hide hG1
    clear hR1 hG1 T
    go_wp2
    go_ret
    exact ⟨rfl, HF.out, HG1.out⟩
theorem numGo_nonneg : ∀ (bs : List Int) (i : Nat) (X : Int), 0 ≤ X → 0 ≤ (numGo i X bs).1 := by
  intro bs
  induction bs with
  | nil => intro i X _; simp [numGo]
  | cons c cs ih =>
    intro i X hX
    have hp : (0 : Int) ≤ 128 ^ i := Int.pow_nonneg (by omega)
    have hn : 0 ≤ c % 128 * 128 ^ i := Int.mul_nonneg (by omega) hp
    rw [numGo]
    split
    · simp
    · split
      · split
        · simp
        · simp only; omega
      · exact ih _ _ (by omega)
theorem rUint_nonneg (s : RS) : 0 ≤ (rUint s).1 := by
  unfold rUint
  split
  · simp
  · unfold numV
    split
    · simp
    · exact numGo_nonneg _ _ _ (by omega)
/-- the whole of its step: the lower world, what it has read -/
theorem rstI {W w' : World} {g B : Nat} {s : RS} (f : World → World) (hf : Lays f) (h : (f W).grownBy w' (some g)) (hr : RI w' g B s) (hB : B ≤ W.heap.size) :
    ∃ (W' : World) (p : GW), W'.heap.size = W.heap.size ∧ W.grownBy W' (some g) ∧ w' = gw (f W') p.d p.os ∧ RI W' g B s := by
  have hg : g < W.heap.size := Nat.lt_of_lt_of_le hr.top hB
  obtain ⟨W', p, h1, h2, h3, h4⟩ := rst f hf h hg
  exact ⟨W', p, h1, h2, h3, hr.keepB (fun k hk => h4 k (by omega)) (by omega)⟩
set_option maxRecDepth 100000 in
set_option maxHeartbeats 1000000 in
theorem procI_s (g B : Nat) (s : RS) (w : World) (h : RI w g B s) :
    Calls Tryz.prog 35 #[.pointer (some ⟨g, 0, none⟩)] w (RetJ g B w (.agg #[.int .i64 (rGet s).1.1, .int .u64 (rGet s).1.2]) (rGet s).2) := by
  have hle := h.le
  have htop := h.top
  have T1 := hide (u8I_s g B s _ (h.step (below_alloc w (bx 0 0))))
  have T2 := hide (fun W (hW : RI W g B (rU8 s).2) => uintI_s g B (rU8 s).2 W hW)
  have hx2 : 0 ≤ (rUint (rU8 s).2).1 := rUint_nonneg _
  have hGet : rGet s = if (rUint (rU8 s).2).2.2 = true ∨ mayB (rU8 s).1 (rUint (rU8 s).2).1 = false then ((0, 0), ((rUint (rU8 s).2).2.1, true)) else (((rU8 s).1, (rUint (rU8 s).2).1), (rUint (rU8 s).2).2) := rfl
  rw [hGet]
  clear hGet h
  generalize rU8 s = r1 at T1 T2 hx2 ⊢
  obtain ⟨x1, s1⟩ := r1
  simp only at T1 T2 hx2 ⊢
  generalize rUint s1 = r2 at T2 hx2 ⊢
  obtain ⟨x2, bs2, bad2⟩ := r2
  simp only at T2 hx2 ⊢
  have T4 := hide (fun W => refMay_b x1 x2 W hx2)
  have key : bad2 = true ∨ (bad2 = false ∧ mayB x1 x2 = false) ∨ (bad2 = false ∧ mayB x1 x2 = true) := by
    cases bad2 <;> cases mayB x1 x2 <;> simp
  rcases key with rfl | ⟨rfl, hm⟩ | ⟨rfl, hm⟩
  · rw [if_pos (.inl rfl)]
    clear T4
    go_enter Tryz.func35, Tryz.ntmps35
    go_wp2_with fail
    (with_reducible refine T1.out.mono ?_)
    rintro e wx ⟨rfl, hR, hG⟩
    obtain ⟨W1, ⟨d1, os1⟩, hs1, hg1, rfl, hR1⟩ := rstI (W := w) (fun W => W.alloc (bx 0 0)) (by repeat (first | exact Lays.id | refine Lays.alloc ?_ _ | refine Lays.gw ?_ _ _)) hG hR (by omega)
    dsimp only
    haveI : Sz W1 w.heap.size := ⟨hs1⟩
    clear hR hG
    go_wp2_with fail
    (with_reducible refine (T2.out _ (hR1.step (by repeat (first | exact Below.refl _ _ | assumption | refine bel_al ?_ _ | refine bel_gw ?_ _ _ | refine bel_drew ?_ | refine bel_drewN ?_ _)))).mono ?_)
    rintro e wx ⟨rfl, hR, hG⟩
    obtain ⟨W2, ⟨d2, os2⟩, hs2, hg2, rfl, hR2⟩ := rstI (W := W1) (fun W => gw (W.alloc (bx 0 0)) d1 os1) (by repeat (first | exact Lays.id | refine Lays.alloc ?_ _ | refine Lays.gw ?_ _ _)) hG hR (by omega)
    dsimp only
    replace hg2 := grown_trans hg1 hg2
    replace hs2 := hs2.trans hs1
    haveI : Sz W2 w.heap.size := ⟨hs2⟩
    clear hR hG hR1 hs1 hg1
    obtain ⟨v2, hbx⟩ := hR2.box
    simp only at hbx
    haveI := hbx
    have hF := hR2.fail bs2
    have hgF := grown_trans hg2 (grown_setCell W2 g 1 (.bool true))
    go_wp2
    refine bodyPost_ret (v := .agg #[.int .i64 0, .int .u64 0]) (by simp [results, Tryz.results35, go_sem]) rfl ?_
    exact ⟨rfl, hF.step (by repeat (first | exact Below.refl _ _ | assumption | refine bel_al ?_ _ | refine bel_gw ?_ _ _ | refine bel_drew ?_ | refine bel_drewN ?_ _)), grown_gw hgF (by repeat (first | exact Below.refl _ _ | assumption | refine bel_al ?_ _ | refine bel_gw ?_ _ _ | refine bel_drew ?_ | refine bel_drewN ?_ _))⟩
  · rw [if_pos (.inr hm)]
    rw [hm] at T4
    clear hm
    go_enter Tryz.func35, Tryz.ntmps35
    go_wp2_with fail
    (with_reducible refine T1.out.mono ?_)
    rintro e wx ⟨rfl, hR, hG⟩
    obtain ⟨W1, ⟨d1, os1⟩, hs1, hg1, rfl, hR1⟩ := rstI (W := w) (fun W => W.alloc (bx 0 0)) (by repeat (first | exact Lays.id | refine Lays.alloc ?_ _ | refine Lays.gw ?_ _ _)) hG hR (by omega)
    dsimp only
    haveI : Sz W1 w.heap.size := ⟨hs1⟩
    clear hR hG
    go_wp2_with fail
    (with_reducible refine (T2.out _ (hR1.step (by repeat (first | exact Below.refl _ _ | assumption | refine bel_al ?_ _ | refine bel_gw ?_ _ _ | refine bel_drew ?_ | refine bel_drewN ?_ _)))).mono ?_)
    rintro e wx ⟨rfl, hR, hG⟩
    obtain ⟨W2, ⟨d2, os2⟩, hs2, hg2, rfl, hR2⟩ := rstI (W := W1) (fun W => gw (W.alloc (bx 0 0)) d1 os1) (by repeat (first | exact Lays.id | refine Lays.alloc ?_ _ | refine Lays.gw ?_ _ _)) hG hR (by omega)
    dsimp only
    replace hg2 := grown_trans hg1 hg2
    replace hs2 := hs2.trans hs1
    haveI : Sz W2 w.heap.size := ⟨hs2⟩
    clear hR hG hR1 hs1 hg1
    obtain ⟨v2, hbx⟩ := hR2.box
    simp only at hbx
    haveI := hbx
    go_wp2_with fail
    (with_reducible refine (T4.out _).mono ?_)
    rintro e w3 ⟨rfl, hb⟩
    obtain ⟨⟨d4, os4⟩, rfl⟩ := gw_of_below hb
    clear hb
    have hF := hR2.fail bs2
    have hgF := grown_trans hg2 (grown_setCell W2 g 1 (.bool true))
    go_wp2
    refine bodyPost_ret (v := .agg #[.int .i64 0, .int .u64 0]) (by simp [results, Tryz.results35, go_sem]) rfl ?_
    exact ⟨rfl, hF.step (by repeat (first | exact Below.refl _ _ | assumption | refine bel_al ?_ _ | refine bel_gw ?_ _ _ | refine bel_drew ?_ | refine bel_drewN ?_ _)), grown_gw hgF (by repeat (first | exact Below.refl _ _ | assumption | refine bel_al ?_ _ | refine bel_gw ?_ _ _ | refine bel_drew ?_ | refine bel_drewN ?_ _))⟩
  · rw [if_neg (by rw [hm]; simp)]
    rw [hm] at T4
    clear hm
    go_enter Tryz.func35, Tryz.ntmps35
    go_wp2_with fail
    (with_reducible refine T1.out.mono ?_)
    rintro e wx ⟨rfl, hR, hG⟩
    obtain ⟨W1, ⟨d1, os1⟩, hs1, hg1, rfl, hR1⟩ := rstI (W := w) (fun W => W.alloc (bx 0 0)) (by repeat (first | exact Lays.id | refine Lays.alloc ?_ _ | refine Lays.gw ?_ _ _)) hG hR (by omega)
    dsimp only
    haveI : Sz W1 w.heap.size := ⟨hs1⟩
    clear hR hG
    go_wp2_with fail
    (with_reducible refine (T2.out _ (hR1.step (by repeat (first | exact Below.refl _ _ | assumption | refine bel_al ?_ _ | refine bel_gw ?_ _ _ | refine bel_drew ?_ | refine bel_drewN ?_ _)))).mono ?_)
    rintro e wx ⟨rfl, hR, hG⟩
    obtain ⟨W2, ⟨d2, os2⟩, hs2, hg2, rfl, hR2⟩ := rstI (W := W1) (fun W => gw (W.alloc (bx 0 0)) d1 os1) (by repeat (first | exact Lays.id | refine Lays.alloc ?_ _ | refine Lays.gw ?_ _ _)) hG hR (by omega)
    dsimp only
    replace hg2 := grown_trans hg1 hg2
    replace hs2 := hs2.trans hs1
    haveI : Sz W2 w.heap.size := ⟨hs2⟩
    clear hR hG hR1 hs1 hg1
    obtain ⟨v2, hbx⟩ := hR2.box
    simp only at hbx
    haveI := hbx
    go_wp2_with fail
    (with_reducible refine (T4.out _).mono ?_)
    rintro e w3 ⟨rfl, hb⟩
    obtain ⟨⟨d4, os4⟩, rfl⟩ := gw_of_below hb
    clear hb
    go_wp2
    refine bodyPost_ret (v := .agg #[.int .i64 x1, .int .u64 x2]) (by simp [results, Tryz.results35, go_sem]) rfl ?_
    exact ⟨rfl, hR2.step (by repeat (first | exact Below.refl _ _ | assumption | refine bel_al ?_ _ | refine bel_gw ?_ _ _ | refine bel_drew ?_ | refine bel_drewN ?_ _)), grown_gw hg2 (by repeat (first | exact Below.refl _ _ | assumption | refine bel_al ?_ _ | refine bel_gw ?_ _ _ | refine bel_drew ?_ | refine bel_drewN ?_ _))⟩
end Go.Proofs.YtggmninbpnolgaaGreat

namespace Go.Proofs.YtggmninbpnolgaaGreat
set_option linter.unusedSimpArgs false
set_option linter.unusedVariables false
set_option linter.unusedSectionVars false
open Go.RowKit

theorem rGet_nonneg (s : RS) : 0 ≤ (rGet s).1.2 := by
  unfold rGet
  split
  · simp
  · exact rUint_nonneg _
theorem rGet_badS (bs : List Int) : rGet (bs, true) = ((0, 0), (bs, true)) := by
  have e0 : rU8 (bs, true) = (0, (bs, true)) := by cases bs <;> rfl
  unfold rGet
  rw [e0]
  have e1 : rUint (bs, true) = (0, (bs, true)) := by unfold rUint; simp [numV]
  simp [e1]
/-- lives are read into new memory -/
def RetJP (g B : Nat) (w : World) (l : List Pr) (s : RS) (e : Ending) (w' : World) : Prop := ∃ v, e = .returned v ∧ OwnP w' w.heap.size v l ∧ RI w' g B s ∧ w.grownBy w' (some g)
set_option maxHeartbeats 2000000 in
set_option maxRecDepth 100000 in
theorem procsI_s (g B most : Nat) (s : RS) (w : World) (h : RI w g B s) (hmost : most ≤ 1000000) :
    Calls Tryz.prog 37 #[.pointer (some ⟨g, 0, none⟩), .int .i64 most] w (RetJP g B w (rGetSet most s).1 (rGetSet most s).2) := by
  have hle := h.le
  have htop := h.top
  have T1 := hide (u8I_s g B s w h)
  have hr : 0 ≤ (rU8 s).1 ∧ (rU8 s).1 < 256 := by
    obtain ⟨bs, bad⟩ := s
    cases bad
    · exact rU8_range (h.ok rfl)
    · rw [show rU8 (bs, true) = (0, (bs, true)) by cases bs <;> rfl]; simp
  have HQ := hide (rGetSet_eq most s)
  obtain ⟨hr0, hr1⟩ := hr
  generalize rU8 s = r1 at T1 hr0 hr1 HQ
  generalize rGetSet most s = Q at HQ ⊢
  obtain ⟨x1, bs1, bad1⟩ := r1
  simp only at T1 hr0 hr1 HQ
  clear h
  obtain ⟨n, rfl⟩ := Int.eq_ofNat_of_zero_le hr0
  by_cases hmx : (most : Int) < (n : Int)
  · replace HQ := hide (HQ.out.trans (if_pos (.inr hmx)))
    have hd : decide (most < n) = true := decide_eq_true (by omega)
    have hn0 : 0 < n := by omega
    have hn0' : decide ((0 : Int) < (n : Int)) = true := decide_eq_true (by omega)
    clear hmx
    go_enter Tryz.func37, Tryz.ntmps37
    go_wp2_with fail
    (with_reducible refine T1.out.mono ?_)
    rintro e w1 ⟨rfl, hR, hG⟩
    obtain ⟨v1, hbx⟩ := hR.box
    simp only at hbx
    haveI := hbx
    have hF := hR.fail bs1
    obtain ⟨w2, hw2⟩ : ∃ w2, w2 = w1.setCell ⟨g, 1, none⟩ (.bool true) := ⟨_, rfl⟩
    have hG2 := grown_trans hG (grown_setCell w1 g 1 (.bool true))
    rw [← hw2] at hF hG2
    have HW2 := hide hw2
    have HF := hide hF
    have HG2 := hide hG2
    clear hR hG hF hG2 T1 hw2
    go_wp2
    rw [← HW2.out]
    clear HW2
    obtain ⟨v2, hbx2⟩ := HF.out.box
    simp only at hbx2
    haveI := hbx2
    have HF3 := hide (HF.out.fail bs1)
    have HG3 := hide (grown_trans HG2.out (grown_setCell w2 g 1 (.bool true)))
    refine wp_loop_rounds 1 ?_
    rw [rounds_succ]
    go_wp2
    go_ret
    rw [HQ.out]
    exact ⟨_, rfl, own_nilP _ _, HF3.out, HG3.out⟩
  · have hd : decide (most < n) = false := decide_eq_false (by omega)
    have HQ2 : Hid (∀ (L : List Pr) (sk : RS), rRun n (bs1, bad1) [] = (L, sk) → (bad1 = true → sk.2 = true) → Q.1 = (if sk.2 = true then [] else if setB L = true then L else []) ∧ (sk.2 = true → Q.2.2 = true) ∧ (sk.2 = false → setB L = true → Q.2 = sk) ∧ (sk.2 = false → setB L = false → Q.2.2 = true)) := hide (fun L sk hrun hbad => by
      have := HQ.out
      by_cases hb : bad1 = true
      · rw [if_pos (.inl hb)] at this
        rw [this]
        have := hbad hb
        rw [this]; simp
      · rw [if_neg (fun h => h.elim hb hmx)] at this
        simp only [Int.toNat_natCast] at this
        rw [hrun] at this
        rw [this]
        cases hk : sk.2 <;> cases hs : setB L <;> simp [hk])
    clear hmx HQ
    go_enter Tryz.func37, Tryz.ntmps37
    go_wp2_with fail
    (with_reducible refine T1.out.mono ?_)
    rintro e w1 ⟨rfl, hR, hG⟩
    have HR := hide hR
    have HG := hide hG
    clear hR hG T1
    go_wp2
    go_loopw [6, 7] (fun v i wr => ∃ (k : Nat) (L : List Pr) (sk : RS), k ≤ n ∧ i = .int .i64 k ∧ L.length = k ∧ (∀ p ∈ L, 0 ≤ p.2) ∧ ((sk.2 = false ∧ rRun n (bs1, bad1) [] = rRun (n - k) sk L) ∨ (sk.2 = true ∧ ((rRun n (bs1, bad1) []).2.2 = true ∨ bad1 = true))) ∧ (bad1 = true → sk.2 = true) ∧ OwnP wr w.heap.size v L ∧ RI wr g B sk ∧ w.grownBy wr (some g)) (fun _ i _ => n - (intOf i).toNat)
    case atStart =>
      refine ⟨0, [], (bs1, bad1), Nat.zero_le _, rfl, rfl, by simp, ?_, fun h => h, own_nilP _ _, HR.out, HG.out⟩
      cases bad1
      · exact .inl ⟨rfl, by rw [Nat.sub_zero]⟩
      · exact .inr ⟨rfl, .inr rfl⟩
    case round =>
      obtain ⟨k, L, sk, hk, rfl, hL, hnn, hst, hbb, hown, hR, hG⟩ := hrel
      have HL := hide hL
      have HNN := hide hnn
      have HST := hide hst
      have HBB := hide hbb
      have HO := hide hown
      have HG1 := hide hG
      have hszw := hG.size
      obtain ⟨vb, hbx⟩ := hR.box
      haveI := hbx
      have HR := hide hR
      obtain ⟨bk, badk⟩ := sk
      simp only at hbx HST HBB
      clear hL hnn hst hbb hG HG
      cases badk
      · by_cases hlt : k < n
        · have T4 := hide (procI_s g B (bk, false) wr hR)
          have hp2 := rGet_nonneg (bk, false)
          have hstep : Hid (rRun (n - k) (bk, false) L = if (rGet (bk, false)).2.2 = true then ([], (rGet (bk, false)).2) else rRun (n - (k + 1)) (rGet (bk, false)).2 (L ++ [(rGet (bk, false)).1])) := by
            rw [show n - k = (n - (k + 1)) + 1 by omega, rRun]; exact hide rfl
          generalize rGet (bk, false) = r4 at T4 hstep hp2
          obtain ⟨⟨pn, pi⟩, s4⟩ := r4
          simp only at T4 hstep hp2
          clear hown hR
          go_wp2_with fail
          (with_reducible refine T4.out.mono ?_)
          rintro e w4 ⟨rfl, hR4, hG4⟩
          have HO4 := hide (own_grown HO.out hG4 (by omega))
          have HG4 := hide (grown_trans HG1.out hG4)
          have HR4 := hide hR4
          have hsz4 := HG4.out.size
          clear hR4 hG4 HO HG1 T4
          go_wp2_with (at_builtin; refine wpList_append_any _ Tryz.okP (by rfl) (.tmp 28) (.tmp 31) (by rfl) w.heap.size _ _ (pcs L) (by rfl) (HO4.out.alloc _) (w4.heap.size + 1) (some ⟨w4.heap.size, 0, none⟩) 1 1 (pcs [(pn, pi)]) (by rfl) (reads_one w4 pn pi) (pc_one _) (by unfold maxLen; have := HL.out; omega) (by have := HL.out; omega) (by simp; omega) ?_; intro v1 w5 hown1 hg1 hnil1 hat1; have hk5 := grown_keep (grown_trans HG4.out (grown_below (below_alloc _ _))) hg1 (HO4.out.alloc _) (Nat.le_refl _) (by omega); have HR5 := hide ((HR4.out.step (below_alloc _ _)).keepB (fun i hi => hk5.2 i (by omega) (by simp; omega)) (by have := hg1.size; simp at this; omega)); have HG5 := hide hk5.1; have HO5 := hide hown1; obtain ⟨A1, c1, rfl, _, _⟩ := own_slice hown1; clear hown1 hg1 hnil1 hat1 hk5)
          go_roundw
          case rel =>
            refine ⟨k + 1, L ++ [(pn, pi)], s4, by omega, by go_num, by have := HL.out; simp; omega, ?_, ?_, ?_, ?_, HR5.out, HG5.out⟩
            · intro p hp
              rcases List.mem_append.1 hp with hp | hp
              · exact HNN.out p hp
              · simp at hp; subst hp; exact hp2
            · have h0 := HST.out
              rcases h0 with ⟨_, h0⟩ | ⟨h0, _⟩
              · cases hb4 : s4.2
                · left
                  refine ⟨rfl, ?_⟩
                  rw [h0, hstep.out, hb4]; simp
                · right
                  refine ⟨rfl, .inl ?_⟩
                  rw [h0, hstep.out, hb4]; simp [hb4]
              · cases h0
            · intro hb; have := HBB.out hb; cases this
            · rw [OwnP, List.length_append, pcs_app]; exact HO5.out
          case measure => simp [intOf]; omega
        · obtain rfl : k = n := by omega
          obtain ⟨A1, c1, rfl, _, _⟩ := own_slice hown
          have T6 := hide (refSet_b A1 c1 L wr (Reads.of_own hown) (by have := HL.out; omega) HNN.out)
          have hrun : rRun k (bs1, bad1) [] = (L, (bk, false)) := by
            rcases HST.out with ⟨_, h0⟩ | ⟨h0, _⟩
            · rw [h0, Nat.sub_self, rRun]
            · cases h0
          have HQ3 := hide (HQ2.out L (bk, false) hrun HBB.out)
          clear hown hR HST HQ2 hrun
          cases hset : setB L
          · rw [hset] at T6
            obtain ⟨q1, _, _, q4⟩ := HQ3.out
            have Q1 := hide (show Q.1 = [] by rw [q1, hset]; rfl)
            have Q4 := hide (q4 rfl hset)
            clear q1 q4 hset HQ3
            go_wp2_with fail
            (with_reducible refine T6.out.mono ?_)
            rintro e w4 ⟨rfl, hb4⟩
            have hR4 := HR.out.step hb4
            have HG4 := hide (grown_trans (grown_gw HG1.out hb4) (grown_setCell w4 g 1 (.bool true)))
            obtain ⟨v4, hbx4⟩ := hR4.box
            simp only at hbx4
            haveI := hbx4
            have HF := hide (hR4.fail Q.2.1)
            clear hb4 hR4
            go_wp2
            go_ret
            refine ⟨_, rfl, ?_, ?_, HG4.out⟩
            · rw [Q1.out]; exact own_nilP _ _
            · rw [show Q.2 = (Q.2.1, true) by rw [← Q4.out]]; exact HF.out
          · rw [hset] at T6
            obtain ⟨q1, _, q3, _⟩ := HQ3.out
            have Q1 := hide (show Q.1 = L by rw [q1, hset]; rfl)
            have Q3 := hide (q3 rfl hset)
            clear q1 q3 hset HQ3
            go_wp2_with fail
            (with_reducible refine T6.out.mono ?_)
            rintro e w4 ⟨rfl, hb4⟩
            have HR4 := hide (HR.out.step hb4)
            have HG4 := hide (grown_gw HG1.out hb4)
            have HO4 := hide (own_below HO.out hb4 (Nat.le_refl _))
            clear hb4
            go_wp2
            go_ret
            refine ⟨_, rfl, ?_, ?_, HG4.out⟩
            · rw [Q1.out]; exact HO4.out
            · rw [Q3.out]; exact HR4.out
      · have HQ3 : Hid (Q.1 = [] ∧ Q.2.2 = true) := hide (by
          rcases HST.out with ⟨h0, _⟩ | ⟨_, h0⟩
          · cases h0
          · rcases h0 with h0 | h0
            · obtain ⟨q1, q2, _⟩ := HQ2.out (rRun n (bs1, bad1) []).1 (rRun n (bs1, bad1) []).2 rfl (fun _ => h0)
              rw [h0] at q1
              exact ⟨q1, q2 h0⟩
            · have hrb : (rRun n (bs1, bad1) []).2.2 = true := by
                subst h0
                cases n with
                | zero => rfl
                | succ n => rw [rRun, rGet_badS]; rfl
              obtain ⟨q1, q2, _⟩ := HQ2.out (rRun n (bs1, bad1) []).1 (rRun n (bs1, bad1) []).2 rfl (fun _ => hrb)
              rw [hrb] at q1
              exact ⟨q1, q2 hrb⟩)
        have HF := hide (HR.out.fail Q.2.1)
        have HG4 := hide (grown_trans HG1.out (grown_setCell wr g 1 (.bool true)))
        obtain ⟨A1, c1, rfl, _, _⟩ := own_slice hown
        clear hown hR HST HQ2
        by_cases hlt : k < n
        all_goals
          go_wp2
          go_ret
          refine ⟨_, rfl, ?_, ?_, HG4.out⟩
          · rw [HQ3.out.1]; exact own_nilP _ _
          · rw [show Q.2 = (Q.2.1, true) by rw [← HQ3.out.2]]; exact HF.out
end Go.Proofs.YtggmninbpnolgaaGreat

namespace Go.Proofs.YtggmninbpnolgaaGreat
set_option linter.unusedSimpArgs false
set_option linter.unusedVariables false
set_option linter.unusedSectionVars false
open Go.RowKit

section
variable {w W W' : World} {g B nv : Nat} {a b c vm vv : Value} {ms : List Pr} {L : List Int} {s s' : RS}
end
/-- a view is read into new memory -/
def RetJV (g B : Nat) (w : World) (x : (Int × Int × Int) × List Pr × List Int) (s : RS) (e : Ending) (w' : World) : Prop :=
  ∃ A1 c1 A2 c2, e = .returned (.agg #[.int .u64 x.1.1, .int .i64 x.1.2.1, .int .u64 x.1.2.2, .slice A1 x.2.1.length c1, .slice A2 x.2.2.length c2]) ∧ OwnP w' w.heap.size (.slice A1 x.2.1.length c1) x.2.1 ∧ w'.ownsRow w.heap.size 22 1 (.slice A2 x.2.2.length c2) x.2.2.length (ucs x.2.2) ∧ RI w' g B s ∧ w.grownBy w' (some g)
theorem rId_nonneg (s : RS) : 0 ≤ (rId s).1.2.2 := by
  unfold rId
  split
  · simp
  · exact rGet_nonneg _
theorem rRun_nonneg : ∀ (k : Nat) (s : RS) (acc : List Pr), (∀ p ∈ acc, 0 ≤ p.2) → ∀ p ∈ (rRun k s acc).1, 0 ≤ p.2 := by
  intro k
  induction k with
  | zero => intro s acc h; exact h
  | succ k ih =>
    intro s acc h
    rw [rRun]
    split
    · simp
    · refine ih _ _ fun p hp => ?_
      rcases List.mem_append.1 hp with hp | hp
      · exact h p hp
      · simp at hp; subst hp; exact rGet_nonneg s
theorem rGetSet_nonneg (most : Nat) (s : RS) : ∀ p ∈ (rGetSet most s).1, 0 ≤ p.2 := by
  rw [rGetSet_eq]
  split
  · simp
  · split
    · simp
    · split
      · exact rRun_nonneg _ _ _ (by simp)
      · simp
theorem rGetSet_most' (most : Nat) (s : RS) : (rGetSet most s).1.length ≤ most := by
  have := rRun_le (rU8 s).1.toNat (rU8 s).2
  rw [rGetSet_eq]
  split
  · simp
  · rename_i h
    have h2 := (not_or.1 h).2
    split
    · simp
    · split
      · omega
      · simp
end Go.Proofs.YtggmninbpnolgaaGreat

namespace Go.Proofs.YtggmninbpnolgaaGreat
set_option linter.unusedSimpArgs false
set_option linter.unusedVariables false
set_option linter.unusedSectionVars false
open Go.RowKit

/-- a reader of the reference's -/
class Rdg (W : World) (g : Nat) (B : outParam Nat) (s : outParam RS) : Prop where
  h : RI W g B s
instance Rdg.stp (X W : World) (g B : Nat) (s : RS) [p : Stp X W] [k : Rdg X g B s] : Rdg W g B s := ⟨k.h.step p.h⟩
instance Rdg.set (W : World) (g B m i : Nat) (v : Value) (s : RS) [k : Rdg W g B s] [l : LeN B m] : Rdg (W.setCell ⟨m, i, none⟩ v) g B s := ⟨k.h.below ((Below.refl _ _).setCell (p := ⟨m, i, none⟩) l.h v)⟩
instance (priority := low) Rdg.stpB (X W : World) (N g B : Nat) (s : RS) [p : StpB N X W] [k : Rdg X g B s] [l : LeN B N] : Rdg W g B s := ⟨k.h.below (p.h.mono l.h)⟩
theorem RI.boxN {w : World} {g B : Nat} {bs : List Int} (h : RI w g B (bs, false)) : ∃ A c, BoxAt w g #[.slice A bs.length c, .bool false] 73 := by
  obtain ⟨bs', A, c, h1, h2, _⟩ := h
  obtain rfl := h2 rfl
  exact ⟨A, c, h1.boxAt⟩
end Go.Proofs.YtggmninbpnolgaaGreat

namespace Go.Proofs.YtggmninbpnolgaaGreat
set_option linter.unusedSimpArgs false
set_option linter.unusedVariables false
set_option linter.unusedSectionVars false
open Go.RowKit

/-- a text is read by the reference's reader -/
def rTxI (most : Nat) (s : RS) : List Int × RS :=
  if (rUint s).2.2 = true ∨ (most : Int) < (rUint s).1 ∨ ((rUint s).2.1.length : Int) < (rUint s).1 then ([], ((rUint s).2.1, true))
  else ((rUint s).2.1.take (rUint s).1.toNat, ((rUint s).2.1.drop (rUint s).1.toNat, false))
def RetJB (g B : Nat) (w : World) (l : List Int) (s : RS) (e : Ending) (w' : World) : Prop := ∃ v, e = .returned v ∧ OwnB w' w.heap.size v l ∧ RI w' g B s ∧ w.grownBy w' (some g)
theorem own_emI (w : World) (m : Nat) (hm : w.heap.size = m) : (w.alloc (.cells #[] 5)).ownsRow m 5 1 (.slice (some ⟨m, 0, none⟩) 0 0) 0 [] := by subst hm; exact World.ownsRow_lit w #[] 0 (Nat.le_refl _) (by unfold maxLen; omega) rfl
theorem RI.took {w : World} {g B c : Nat} {A A' : Option Addr} {bs : List Int} (h : RdI w g B A c bs false) (hl : bs.length ≤ 1000000) {n : Nat} (hn : n ≤ bs.length) (hA : n < bs.length → ∀ b off, A = some ⟨b, off, none⟩ → A' = some ⟨b, off + n, none⟩) :
    RI (w.setCell ⟨g, 0, none⟩ (.slice A' (bs.length - n) (c - n))) g B (bs.drop n, false) := ⟨_, _, _, h.took hn hA, fun _ => rfl, by rw [List.length_drop]; omega⟩
set_option maxRecDepth 100000 in
set_option maxHeartbeats 4000000 in
theorem textI_s (g B most : Nat) (s : RS) (w : World) (h : RI w g B s) (hm : most ≤ 1000) :
    Calls Tryz.prog 38 #[.pointer (some ⟨g, 0, none⟩), .int .i64 most] w (RetJB g B w (rTxI most s).1 (rTxI most s).2) := by
  have hle := h.le
  have htop := h.top
  have TU := hide (uintI_s g B s w h)
  have hx0 := rUint_nonneg s
  have HQ : Hid (rTxI most s = if (rUint s).2.2 = true ∨ (most : Int) < (rUint s).1 ∨ ((rUint s).2.1.length : Int) < (rUint s).1 then ([], ((rUint s).2.1, true)) else ((rUint s).2.1.take (rUint s).1.toNat, ((rUint s).2.1.drop (rUint s).1.toNat, false))) := hide rfl
  generalize rTxI most s = Q at HQ ⊢
  generalize rUint s = r at TU hx0 HQ
  obtain ⟨x, bs1, bad1⟩ := r
  simp only at TU hx0 HQ
  obtain ⟨n, rfl⟩ := Int.eq_ofNat_of_zero_le hx0
  clear h hx0
  cases bad1
  · by_cases hmx : (most : Int) < (n : Int)
    · replace HQ := hide (HQ.out.trans (if_pos (.inr (.inl hmx))))
      have hd : decide ((most : Int) < (n : Int)) = true := decide_eq_true hmx
      have hd' : decide (most < n) = true := decide_eq_true (by omega)
      clear hmx
      go_enter Tryz.func38, Tryz.ntmps38
      go_wp2_with fail
      (with_reducible refine TU.out.mono ?_)
      rintro e w1 ⟨rfl, hR, hG⟩
      obtain ⟨v1, hbx⟩ := hR.box
      simp only at hbx
      haveI := hbx
      have hF := hide (hR.fail bs1)
      have HG := hide hG
      clear hR hG
      go_wp2_with fail
      go_ret
      exact ⟨_, rfl, by rw [HQ.out]; exact World.ownsRow_nil _ _ _ _, by rw [HQ.out]; exact hF.out, grown_trans HG.out (grown_setCell _ _ _ _)⟩
    · have hd : decide ((most : Int) < (n : Int)) = false := decide_eq_false hmx
      have hd' : decide (most < n) = false := decide_eq_false (by omega)
      by_cases hlt : (bs1.length : Int) < (n : Int)
      · replace HQ := hide (HQ.out.trans (if_pos (.inr (.inr hlt))))
        have he : decide ((bs1.length : Int) < (n : Int)) = true := decide_eq_true hlt
        have he' : decide (bs1.length < n) = true := decide_eq_true (by omega)
        clear hlt hmx
        go_enter Tryz.func38, Tryz.ntmps38
        go_wp2_with fail
        (with_reducible refine TU.out.mono ?_)
        rintro e w1 ⟨rfl, hR, hG⟩
        have hF := hide (hR.fail bs1)
        obtain ⟨bs', A, c, h1, h2, h3⟩ := hR
        obtain rfl := h2 rfl
        haveI := h1.boxAt
        have HG := hide hG
        clear h1 h2 hG
        go_wp2_with fail
        go_ret
        exact ⟨_, rfl, by rw [HQ.out]; exact World.ownsRow_nil _ _ _ _, by rw [HQ.out]; exact hF.out, grown_trans HG.out (grown_setCell _ _ _ _)⟩
      · have hn : n ≤ bs1.length := by omega
        have he : decide ((bs1.length : Int) < (n : Int)) = false := decide_eq_false hlt
        have he' : decide (bs1.length < n) = false := decide_eq_false (by omega)
        replace HQ := hide (HQ.out.trans (if_neg (by simp; omega)))
        rw [Int.toNat_natCast] at HQ
        clear hlt hmx
        go_enter Tryz.func38, Tryz.ntmps38
        go_wp2_with fail
        (with_reducible refine TU.out.mono ?_)
        rintro e w1 ⟨rfl, hR, hG⟩
        obtain ⟨bs', A, c, h1, h2, h3⟩ := hR
        obtain rfl := h2 rfl
        simp only at h1
        have hcap := h1.cap
        have hmax := h1.max
        haveI := h1.boxAt
        haveI : StpG g w w1 := ⟨hG⟩
        have hsz := hG.size
        have HRd : Reads w1 w1.heap.size 1 A n (bcs (bs'.take n)) := by
          refine ⟨by rw [bcs_len, List.length_take]; omega, fun h0 => ?_⟩
          obtain ⟨b, off, e, k1, k2, k3⟩ := h1.data (by omega)
          refine ⟨b, off, e, Nat.lt_of_lt_of_le k1 h1.le, fun j u hu => k3 j u ?_⟩
          rw [bcs, List.map_take, List.getElem?_take] at hu
          split at hu
          · exact hu
          · cases hu
        have H1 := hide h1
        haveI : Src w1 A n 1 (bcs (bs'.take n)) := ⟨HRd⟩
        haveI : LtN g w1.heap.size := ⟨h1.lt⟩
        haveI : LeN w.heap.size w1.heap.size := ⟨hsz⟩
        have hl1 := h1.le
        have n0 : ¬ (n : Int) < 0 := by omega
        clear h1 h2 hG HRd
        by_cases hc : c = n
        · subst hc
          have P := hide (fun (W : World) (h : RdI W g B A c bs' false) => RI.took (A' := A) h h3 hn (fun h => by omega))
          have h0 : bs'.length - c = 0 := by omega
          rw [Nat.sub_self, h0] at P
          clear h0
          go_wp2_with (at_builtin; refine wpList_append_w Tryz.okB rfl (.tmp 32) (.tmp 38) rfl w1.heap.size (.slice (some ⟨w1.heap.size, 0, none⟩) 0 0) 0 [] c (bcs (bs'.take c)) ?_ ?_ ?_ ?_ ?_ ?_ ?_ ?_; go_must ((focus (first | rfl | (simp [Act.eval, Act.put]; done))); (focus (exact own_emI _ w1.heap.size (by simp))); (focus (refine ⟨_, _, rfl, ?_⟩; exact src)); (focus (exact bcs_one _)); (focus (unfold maxLen; omega)); (focus omega); (focus (first | omega | (simp; done) | (simp; omega) | exact BoxAt.lt (n := w.heap.size) inferInstance)); intro v2 w2 ho2 hg2; rw [Nat.zero_add, List.nil_append] at ho2; haveI : StpB w1.heap.size _ w2 := ⟨grown_belowT hg2 (by simp) (fun k hk => by have e : w1.heap.size = k := Option.some.inj hk; omega)⟩; obtain ⟨A2, c2, rfl, _, _⟩ := own_slice ho2; have O2 := hide ho2; have HR2 := hide ((H1.out.below ((below_alloc _ _).mono hl1)).below (grown_belowT (B := B) hg2 (by simp; omega) (fun k hk => by have e : w1.heap.size = k := Option.some.inj hk; omega)) ); clear ho2 hg2))
          go_wp2
          go_ret
          refine ⟨_, rfl, ?_, by rw [HQ.out]; exact P.out w2 HR2.out, grown_trans (Gby.h (a := w)) (grown_setCell _ _ _ _)⟩
          rw [HQ.out, OwnB, List.length_take, Nat.min_eq_left hn]
          exact own_base (own_kp O2.out) hsz
        · have P := hide (fun (W : World) (h : RdI W g B A c bs' false) => RI.took (A' := Option.map (fun x => x.add n) A) h h3 hn (fun _ b off e => map_add b off e))
          go_wp2_with (at_builtin; refine wpList_append_w Tryz.okB rfl (.tmp 32) (.tmp 38) rfl w1.heap.size (.slice (some ⟨w1.heap.size, 0, none⟩) 0 0) 0 [] n (bcs (bs'.take n)) ?_ ?_ ?_ ?_ ?_ ?_ ?_ ?_; go_must ((focus (first | rfl | (simp [Act.eval, Act.put]; done))); (focus (exact own_emI _ w1.heap.size (by simp))); (focus (refine ⟨_, _, rfl, ?_⟩; exact src)); (focus (exact bcs_one _)); (focus (unfold maxLen; omega)); (focus omega); (focus (first | omega | (simp; done) | (simp; omega) | exact BoxAt.lt (n := w.heap.size) inferInstance)); intro v2 w2 ho2 hg2; rw [Nat.zero_add, List.nil_append] at ho2; haveI : StpB w1.heap.size _ w2 := ⟨grown_belowT hg2 (by simp) (fun k hk => by have e : w1.heap.size = k := Option.some.inj hk; omega)⟩; obtain ⟨A2, c2, rfl, _, _⟩ := own_slice ho2; have O2 := hide ho2; have HR2 := hide ((H1.out.below ((below_alloc _ _).mono hl1)).below (grown_belowT (B := B) hg2 (by simp; omega) (fun k hk => by have e : w1.heap.size = k := Option.some.inj hk; omega)) ); clear ho2 hg2))
          go_wp2
          go_ret
          refine ⟨_, rfl, ?_, by rw [HQ.out]; exact P.out w2 HR2.out, grown_trans (Gby.h (a := w)) (grown_setCell _ _ _ _)⟩
          rw [HQ.out, OwnB, List.length_take, Nat.min_eq_left hn]
          exact own_base (own_kp O2.out) hsz
  · replace HQ := hide (HQ.out.trans (if_pos (.inl rfl)))
    go_enter Tryz.func38, Tryz.ntmps38
    go_wp2_with fail
    (with_reducible refine TU.out.mono ?_)
    rintro e w1 ⟨rfl, hR, hG⟩
    obtain ⟨v1, hbx⟩ := hR.box
    simp only at hbx
    haveI := hbx
    have hF := hide (hR.fail bs1)
    have HG := hide hG
    clear hR hG
    go_wp2_with fail
    go_ret
    exact ⟨_, rfl, by rw [HQ.out]; exact World.ownsRow_nil _ _ _ _, by rw [HQ.out]; exact hF.out, grown_trans HG.out (grown_setCell _ _ _ _)⟩
end Go.Proofs.YtggmninbpnolgaaGreat
