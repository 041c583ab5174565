/-
  The reference's reader in memory; contracts: its U8, Uint.
-/
import Derived.Test.YtgpmcpinnaggmaaRst
namespace Go.Proofs.Ytgpmcpinnaggmaa
set_option linter.unusedSimpArgs false
set_option linter.unusedVariables false
set_option linter.unusedSectionVars false
open Go.RowKit

/-- a reader's bytes, where they lie -/
structure RdI (w : World) (g B : Nat) (A : Option Addr) (c : Nat) (bs : List Int) (bad : Bool) : Prop where
  box : w.heap[g]? = some (.cells #[.slice A bs.length c, .bool bad] 75 (0, 0))
  data : 0 < bs.length → ∃ b off, A = some ⟨b, off, none⟩ ∧ b < B ∧ b ≠ g ∧ ∀ j u, (bcs bs)[j]? = some u → w.cell? ⟨b, off + j, none⟩ = some u
  cap : bs.length ≤ c
  max : c ≤ 9223372036854775807
  ok : bOK bs
  top : g < B
  le : B ≤ w.heap.size
/-- the reader at block g has the bytes bs left -/
def RdsI (w : World) (g B : Nat) (bs : List Int) (bad : Bool) : Prop := ∃ A c, RdI w g B A c bs bad
section
variable {w w' : World} {g B c : Nat} {A : Option Addr} {bs : List Int} {bad : Bool}
theorem RdI.lt (h : RdI w g B A c bs bad) : g < w.heap.size := (Array.getElem?_eq_some_iff.1 h.box).1
theorem RdI.boxAt (h : RdI w g B A c bs bad) : BoxAt w g #[.slice A bs.length c, .bool bad] 75 := ⟨h.box⟩
theorem RdI.below (h : RdI w g B A c bs bad) (hb : Below B w w') : RdI w' g B A c bs bad :=
  ⟨by rw [hb.block g h.top]; exact h.box, fun hn => by
    obtain ⟨b, off, e, h1, h2, h3⟩ := h.data hn
    exact ⟨b, off, e, h1, h2, fun j u hu => (hb.cell (p := ⟨b, off + j, none⟩) h1).trans (h3 j u hu)⟩, h.cap, h.max, h.ok, h.top, Nat.le_trans h.le hb.size⟩
theorem RdsI.below (h : RdsI w g B bs bad) (hb : Below B w w') : RdsI w' g B bs bad := by obtain ⟨A, c, h⟩ := h; exact ⟨A, c, h.below hb⟩
theorem RdsI.step (h : RdsI w g B bs bad) (hb : Below w.heap.size w w') : RdsI w' g B bs bad := by obtain ⟨A, c, h⟩ := h; exact ⟨A, c, h.below (hb.mono h.le)⟩
theorem RdsI.top (h : RdsI w g B bs bad) : g < B := by obtain ⟨A, c, h⟩ := h; exact h.top
theorem RdsI.le (h : RdsI w g B bs bad) : B ≤ w.heap.size := by obtain ⟨A, c, h⟩ := h; exact h.le
theorem RdsI.ok (h : RdsI w g B bs bad) : bOK bs := by obtain ⟨A, c, h⟩ := h; exact h.ok
theorem RdsI.lt (h : RdsI w g B bs bad) : g < w.heap.size := by obtain ⟨A, c, h⟩ := h; exact h.lt
/-- it fails -/
theorem RdI.fail (h : RdI w g B A c bs bad) : RdI (w.setCell ⟨g, 1, none⟩ (.bool true)) g B A c bs true := by
  have hb := grown_setCell w g 1 (.bool true)
  have hl := h.le
  refine ⟨?_, fun hn => ?_, h.cap, h.max, h.ok, h.top, Nat.le_trans h.le hb.size⟩
  · rw [setCell_block _ _ _ _ _ _ h.box]; rfl
  · obtain ⟨b, off, e, h1, h2, h3⟩ := h.data hn
    exact ⟨b, off, e, h1, h2, fun j u hu => (World.cell?_of_block (a := ⟨b, off + j, none⟩) (hb.block b (Nat.lt_of_lt_of_le h1 hl) (fun e => h2 (by injection e)))).trans (h3 j u hu)⟩
/-- n bytes are taken -/
theorem RdI.took (h : RdI w g B A c bs bad) {n : Nat} (hn : n ≤ bs.length) {A' : Option Addr} (hA : n < bs.length → ∀ b off, A = some ⟨b, off, none⟩ → A' = some ⟨b, off + n, none⟩) :
    RdI (w.setCell ⟨g, 0, none⟩ (.slice A' (bs.length - n) (c - n))) g B A' (c - n) (bs.drop n) bad := by
  have hb := grown_setCell w g 0 (.slice A' (bs.length - n) (c - n))
  have hc := h.cap
  have hm := h.max
  refine ⟨?_, fun hn' => ?_, by rw [List.length_drop]; omega, by omega, h.ok.drop n, h.top, Nat.le_trans h.le hb.size⟩
  · rw [setCell_block _ _ _ _ _ _ h.box, List.length_drop]; rfl
  · rw [List.length_drop] at hn'
    obtain ⟨b, off, e, h1, h2, h3⟩ := h.data (by omega)
    refine ⟨b, off + n, hA (by omega) b off e, h1, h2, fun j u hu => ?_⟩
    rw [show off + n + j = off + (n + j) by omega]
    refine (World.cell?_of_block (a := ⟨b, off + (n + j), none⟩) (hb.block b (Nat.lt_of_lt_of_le h1 h.le) (fun e => h2 (by injection e)))).trans (h3 _ u ?_)
    have := bcs_drop bs n
    rw [Nat.mul_one] at this
    rw [← this, List.getElem?_drop] at hu
    exact hu
theorem RdI.atB (h : RdI w g B A c bs bad) {k : Nat} (hk : k < bs.length) : ∃ b off x, A = some ⟨b, off, none⟩ ∧ b < B ∧ b ≠ g ∧ bs[k]? = some x ∧ w.cell? ⟨b, off + k, none⟩ = some (.int .u8 x) := by
  obtain ⟨b, off, rfl, hb, hg, hc⟩ := h.data (by omega)
  exact ⟨b, off, bs[k], rfl, hb, hg, List.getElem?_eq_getElem hk, hc k _ (by simp [bcs, hk])⟩
end
theorem RdI.keepB {w w' : World} {g B c : Nat} {A : Option Addr} {bs : List Int} {bad : Bool} (h : RdI w g B A c bs bad) (hb : ∀ k, k < B → w'.heap[k]? = w.heap[k]?) (hs : B ≤ w'.heap.size) : RdI w' g B A c bs bad :=
  ⟨by rw [hb g h.top]; exact h.box, fun hn => by
    obtain ⟨b, off, e, h1, h2, h3⟩ := h.data hn
    exact ⟨b, off, e, h1, h2, fun j u hu => (World.cell?_of_block (a := ⟨b, off + j, none⟩) (hb b h1)).trans (h3 j u hu)⟩, h.cap, h.max, h.ok, h.top, hs⟩
/-- the reader at block g is at s; of one that has failed nobody knows what is left -/
def RI (w : World) (g B : Nat) (s : RS) : Prop := ∃ bs A c, RdI w g B A c bs s.2 ∧ (s.2 = false → bs = s.1) ∧ bs.length ≤ 1000000
section
variable {w w' : World} {g B : Nat} {s : RS}
theorem RI.step (h : RI w g B s) (hb : Below w.heap.size w w') : RI w' g B s := by obtain ⟨bs, A, c, h1, h2⟩ := h; exact ⟨bs, A, c, h1.below (hb.mono h1.le), h2⟩
theorem RI.below (h : RI w g B s) (hb : Below B w w') : RI w' g B s := by obtain ⟨bs, A, c, h1, h2⟩ := h; exact ⟨bs, A, c, h1.below hb, h2⟩
theorem RI.keepB (h : RI w g B s) (hb : ∀ k, k < B → w'.heap[k]? = w.heap[k]?) (hs : B ≤ w'.heap.size) : RI w' g B s := by obtain ⟨bs, A, c, h1, h2⟩ := h; exact ⟨bs, A, c, h1.keepB hb hs, h2⟩
theorem RI.top (h : RI w g B s) : g < B := by obtain ⟨bs, A, c, h1, h2⟩ := h; exact h1.top
theorem RI.le (h : RI w g B s) : B ≤ w.heap.size := by obtain ⟨bs, A, c, h1, h2⟩ := h; exact h1.le
theorem RI.lt (h : RI w g B s) : g < w.heap.size := by obtain ⟨bs, A, c, h1, h2⟩ := h; exact h1.lt
theorem RI.ok (h : RI w g B s) (hs : s.2 = false) : bOK s.1 := by obtain ⟨bs, A, c, h1, h2, _⟩ := h; rw [← h2 hs]; exact h1.ok
theorem RI.len (h : RI w g B s) (hs : s.2 = false) : s.1.length ≤ 1000000 := by obtain ⟨bs, A, c, h1, h2, h3⟩ := h; rw [← h2 hs]; exact h3
theorem RI.fail (h : RI w g B s) (l : List Int) : RI (w.setCell ⟨g, 1, none⟩ (.bool true)) g B (l, true) := by
  obtain ⟨bs, A, c, h1, h2, h3⟩ := h
  exact ⟨bs, A, c, h1.fail, fun h => (by cases h), h3⟩
theorem RI.box (h : RI w g B s) : ∃ v, BoxAt w g #[v, .bool s.2] 75 := by
  obtain ⟨bs, A, c, h1, _⟩ := h
  exact ⟨_, h1.boxAt⟩
theorem RI.any (h : RI w g B (s.1, true)) (l : List Int) : RI w g B (l, true) := by
  obtain ⟨bs, A, c, h1, h2, h3⟩ := h
  exact ⟨bs, A, c, h1, fun h => (by cases h), h3⟩
end
/-- the post of what its methods do -/
def RetJ (g B : Nat) (w : World) (v : Value) (s : RS) (e : Ending) (w' : World) : Prop := e = .returned v ∧ RI w' g B s ∧ w.grownBy w' (some g)
set_option maxHeartbeats 1000000 in
theorem u8I_s (g B : Nat) (s : RS) (w : World) (h : RI w g B s) : Calls Try.prog 49 #[.pointer (some ⟨g, 0, none⟩)] w (RetJ g B w (.int .i64 (rU8 s).1) (rU8 s).2) := by
  have hF := hide (fun l => h.fail l)
  obtain ⟨bs, bad⟩ := s
  obtain ⟨bs', A, c, h1, h2, h3⟩ := h
  simp only at h1 h2
  haveI := h1.boxAt
  cases bad
  · obtain rfl := h2 rfl
    cases bs' with
    | nil =>
      clear h1 h2
      go_enter Try.func49, Try.ntmps49
      go_wp2
      go_ret
      exact ⟨rfl, hF.out _, grown_setCell _ _ _ _⟩
    | cons b bs =>
      have hl : (((b :: bs).length : Int) == 0) = false := by rw [beq_eq_false_iff_ne]; simp; omega
      have hl2 : (0 : Nat) < (b :: bs).length := by simp
      obtain ⟨b', off, x, rfl, hb', hne, hx, hc⟩ := h1.atB (k := 0) (by simp)
      simp at hx
      subst hx
      rw [Nat.add_zero] at hc
      obtain ⟨hx0, hx1⟩ := h1.ok b (by simp)
      have hcap := h1.cap
      have hmax := h1.max
      have hl1 : 1 ≤ (b :: bs).length := by simp
      have hlb : bs.length ≤ 1000000 := by simp at h3; omega
      have HQ : Hid (∀ A' : Option Addr, (1 < (b :: bs).length → A' = some ⟨b', off + 1, none⟩) → RI (w.setCell ⟨g, 0, none⟩ (.slice A' ((b :: bs).length - 1) (c - 1))) g B (bs, false)) := hide (fun A' hA => ⟨bs, A', c - 1, by
        have := h1.took (n := 1) hl1 (A' := A') (fun hlt b2 off2 e => by injection e with e; injection e with e1 e2; subst e1 e2; exact hA hlt)
        exact this, fun _ => rfl, hlb⟩)
      haveI : InW b' w := ⟨Nat.lt_of_lt_of_le hb' h1.le⟩
      clear h1 h2 hF
      generalize hln : (b :: bs).length = n at *
      have hln' : Hid (n - 1 = bs.length) := hide (by rw [← hln]; simp)
      clear hln
      by_cases hc1 : c = 1
      · subst hc1
        obtain rfl : n = 1 := by omega
        have P := hide (HQ.out (some ⟨b', off, none⟩) (fun h => by omega))
        clear HQ
        go_enter Try.func49, Try.ntmps49
        go_wp2
        go_ret
        exact ⟨rfl, P.out, grown_setCell _ _ _ _⟩
      · have P := hide (HQ.out (some ⟨b', off + 1, none⟩) (fun _ => rfl))
        have h1c : 1 ≤ n := hl1
        clear HQ
        go_enter Try.func49, Try.ntmps49
        go_wp2
        go_ret
        exact ⟨rfl, P.out, grown_setCell _ _ _ _⟩
  · clear h1 h2
    have e : rU8 (bs, true) = (0, (bs, true)) := by cases bs <;> rfl
    rw [e]
    go_enter Try.func49, Try.ntmps49
    go_wp2
    go_ret
    exact ⟨rfl, hF.out _, grown_setCell _ _ _ _⟩
end Go.Proofs.Ytgpmcpinnaggmaa
