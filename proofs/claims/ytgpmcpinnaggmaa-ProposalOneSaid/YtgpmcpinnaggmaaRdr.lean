/-
  Contracts: code.NewReader, the Reader's take, number, wide (one byte), U8, Uint, Fail, Err, Left, End.
-/
import Derived.Test.YtgpmcpinnaggmaaVput
import Derived.StillTailTactics
import Derived.Laws.CopyOwn
namespace Go.Proofs.Ytgpmcpinnaggmaa
set_option linter.unusedSimpArgs false
set_option linter.unusedVariables false
set_option linter.unusedSectionVars false
open Go.RowKit

/-- a reader's bytes, where they lie -/
structure Rd (w : World) (g B : Nat) (A : Option Addr) (c : Nat) (bs : List Int) (bad : Bool) : Prop where
  box : w.heap[g]? = some (.cells #[.slice A bs.length c, .bool bad] 118 (0, 0))
  data : 0 < bs.length → ∃ b off, A = some ⟨b, off, none⟩ ∧ b < B ∧ b ≠ g ∧ ∀ j u, (bcs bs)[j]? = some u → w.cell? ⟨b, off + j, none⟩ = some u
  cap : bs.length ≤ c
  max : c ≤ 9223372036854775807
  ok : bOK bs
  top : g < B
  le : B ≤ w.heap.size
/-- the reader at block g has the bytes bs left -/
def Rds (w : World) (g B : Nat) (bs : List Int) (bad : Bool) : Prop := ∃ A c, Rd w g B A c bs bad
section
variable {w w' : World} {g B c : Nat} {A : Option Addr} {bs : List Int} {bad : Bool}
theorem Rd.lt (h : Rd w g B A c bs bad) : g < w.heap.size := (Array.getElem?_eq_some_iff.1 h.box).1
theorem Rd.boxAt (h : Rd w g B A c bs bad) : BoxAt w g #[.slice A bs.length c, .bool bad] 118 := ⟨h.box⟩
theorem Rd.below (h : Rd w g B A c bs bad) (hb : Below B w w') : Rd w' g B A c bs bad :=
  ⟨by rw [hb.block g h.top]; exact h.box, fun hn => by
    obtain ⟨b, off, e, h1, h2, h3⟩ := h.data hn
    exact ⟨b, off, e, h1, h2, fun j u hu => (hb.cell (p := ⟨b, off + j, none⟩) h1).trans (h3 j u hu)⟩, h.cap, h.max, h.ok, h.top, Nat.le_trans h.le hb.size⟩
theorem Rds.below (h : Rds w g B bs bad) (hb : Below B w w') : Rds w' g B bs bad := by obtain ⟨A, c, h⟩ := h; exact ⟨A, c, h.below hb⟩
theorem Rds.step (h : Rds w g B bs bad) (hb : Below w.heap.size w w') : Rds w' g B bs bad := by obtain ⟨A, c, h⟩ := h; exact ⟨A, c, h.below (hb.mono h.le)⟩
theorem Rds.top (h : Rds w g B bs bad) : g < B := by obtain ⟨A, c, h⟩ := h; exact h.top
theorem Rds.le (h : Rds w g B bs bad) : B ≤ w.heap.size := by obtain ⟨A, c, h⟩ := h; exact h.le
theorem Rds.ok (h : Rds w g B bs bad) : bOK bs := by obtain ⟨A, c, h⟩ := h; exact h.ok
theorem Rds.lt (h : Rds w g B bs bad) : g < w.heap.size := by obtain ⟨A, c, h⟩ := h; exact h.lt
theorem setCell_block (w : World) (g i : Nat) (v : Value) (cs : Array Value) (t : TypeId) (h : w.heap[g]? = some (.cells cs t (0, 0))) : (w.setCell ⟨g, i, none⟩ v).heap[g]? = some (.cells (cs.setIfInBounds i v) t (0, 0)) := by
  simp [World.setCell, Array.getElem?_modify, h]
theorem grown_setCell (w : World) (g i : Nat) (v : Value) : w.grownBy (w.setCell ⟨g, i, none⟩ v) (some g) :=
  ⟨rfl, rfl, rfl, by simp [World.setCell], fun k hk hne => Below.heap_setCell _ _ _ _ (fun e => hne (by rw [e]))⟩
/-- it fails -/
theorem Rd.fail (h : Rd w g B A c bs bad) : Rd (w.setCell ⟨g, 1, none⟩ (.bool true)) g B A c bs true := by
  have hb := grown_setCell w g 1 (.bool true)
  have hl := h.le
  refine ⟨?_, fun hn => ?_, h.cap, h.max, h.ok, h.top, Nat.le_trans h.le hb.size⟩
  · rw [setCell_block _ _ _ _ _ _ h.box]; rfl
  · obtain ⟨b, off, e, h1, h2, h3⟩ := h.data hn
    exact ⟨b, off, e, h1, h2, fun j u hu => (World.cell?_of_block (a := ⟨b, off + j, none⟩) (hb.block b (Nat.lt_of_lt_of_le h1 hl) (fun e => h2 (by injection e)))).trans (h3 j u hu)⟩
/-- n bytes are taken -/
theorem Rd.took (h : Rd w g B A c bs bad) {n : Nat} (hn : n ≤ bs.length) {A' : Option Addr} (hA : n < bs.length → ∀ b off, A = some ⟨b, off, none⟩ → A' = some ⟨b, off + n, none⟩) :
    Rd (w.setCell ⟨g, 0, none⟩ (.slice A' (bs.length - n) (c - n))) g B A' (c - n) (bs.drop n) bad := by
  have hb := grown_setCell w g 0 (.slice A' (bs.length - n) (c - n))
  have hc := h.cap
  have hm := h.max
  refine ⟨?_, fun hn' => ?_, by rw [List.length_drop]; omega, by omega, h.ok.drop n, h.top, Nat.le_trans h.le hb.size⟩
  · rw [setCell_block _ _ _ _ _ _ h.box, List.length_drop]; rfl
  · rw [List.length_drop] at hn'
    obtain ⟨b, off, e, h1, h2, h3⟩ := h.data (by omega)
    refine ⟨b, off + n, hA (by omega) b off e, h1, h2, fun j u hu => ?_⟩
    rw [show off + n + j = off + (n + j) by omega]
    refine (World.cell?_of_block (a := ⟨b, off + (n + j), none⟩) (hb.block b (Nat.lt_of_lt_of_le h1 h.le) (fun e => h2 (by injection e)))).trans (h3 _ u ?_)
    have := bcs_drop bs n
    rw [Nat.mul_one] at this
    rw [← this, List.getElem?_drop] at hu
    exact hu
theorem Rd.atB (h : Rd w g B A c bs bad) {k : Nat} (hk : k < bs.length) : ∃ b off x, A = some ⟨b, off, none⟩ ∧ b < B ∧ b ≠ g ∧ bs[k]? = some x ∧ w.cell? ⟨b, off + k, none⟩ = some (.int .u8 x) := by
  obtain ⟨b, off, rfl, hb, hg, hc⟩ := h.data (by omega)
  exact ⟨b, off, bs[k], rfl, hb, hg, List.getElem?_eq_getElem hk, hc k _ (by simp [bcs, hk])⟩
theorem grown_trans {a b c : World} {r : Option Nat} (h : a.grownBy b r) (k : b.grownBy c r) : a.grownBy c r :=
  ⟨k.os.trans h.os, k.tape.trans h.tape, k.output.trans h.output, Nat.le_trans h.size k.size, fun i hi hr => (k.block i (Nat.lt_of_lt_of_le hi h.size) hr).trans (h.block i hi hr)⟩
theorem grown_below {a b : World} {r : Option Nat} (h : Below a.heap.size a b) : a.grownBy b r := ⟨h.os, h.tape, h.output, h.size, fun i hi _ => h.block i hi⟩
end
/-- the post of what a reader's method does -/
def RetRd (g B : Nat) (w : World) (v : Value) (bs : List Int) (bad : Bool) (e : Ending) (w' : World) : Prop := e = .returned v ∧ Rds w' g B bs bad ∧ w.grownBy w' (some g)

set_option maxHeartbeats 400000 in
theorem newReader_s (A : Option Addr) (c : Nat) (bs : List Int) (w : World) (h : Reads w w.heap.size 1 A bs.length (bcs bs)) (hn : bs.length ≤ 1000000) (hk : bOK bs) :
    Calls Try.prog 36 #[.slice A bs.length c] w fun e w' => ∃ g, e = .returned (.pointer (some ⟨g, 0, none⟩)) ∧ w.heap.size ≤ g ∧ Rds w' g w'.heap.size bs false ∧ Below w.heap.size w w' := by
  have T := hide (cloneB_s A c bs w h hn)
  clear h
  go_enter Try.func36, Try.ntmps36
  go_wp2_with fail
  (with_reducible refine T.out.mono ?_)
  rintro e w1 ⟨v1, rfl, ho, hb⟩
  obtain ⟨A1, c1, rfl, hc1, hc2⟩ := own_slice ho
  have HR := hide (Reads.of_own ho)
  have HC := hide hc1
  have HC2 := hide hc2
  clear ho hc1 hc2
  go_wp2
  go_ret
  refine ⟨w1.heap.size, rfl, hb.size, ⟨A1, c1, heap_alloc_new _ _, fun hn' => ?_, HC.out, by have := HC2.out; unfold maxLen at this; exact this, hk, by simp, Nat.le_refl _⟩, below_step hb (below_alloc _ _)⟩
  obtain ⟨b, off, e, h1, h2⟩ := HR.out.2 hn'
  exact ⟨b, off, e, by simp; omega, by omega, fun j u hu => (World.cell?_alloc_lt w1 _ ⟨b, off + j, none⟩ h1).trans (h2 j u hu)⟩

set_option maxHeartbeats 400000 in
theorem fail_s (g B : Nat) (bs : List Int) (bad : Bool) (w : World) (h : Rds w g B bs bad) : Calls Try.prog 91 #[.pointer (some ⟨g, 0, none⟩)] w (RetRd g B w (.tuple #[]) bs true) := by
  obtain ⟨A, c, h⟩ := h
  haveI := h.boxAt
  have H := hide h.fail
  clear h
  go_enter Try.func91, Try.ntmps91
  go_wp2
  go_end0
  exact ⟨rfl, ⟨A, c, H.out⟩, grown_setCell _ _ _ _⟩
set_option maxHeartbeats 400000 in
theorem err_s (g B : Nat) (bs : List Int) (bad : Bool) (w : World) (h : Rds w g B bs bad) : Calls Try.prog 90 #[.pointer (some ⟨g, 0, none⟩)] w fun e w' => e = .returned (.int .i64 (if bad then 3 else 0)) ∧ w = w' := by
  obtain ⟨A, c, h⟩ := h
  haveI := h.boxAt
  clear h
  cases bad
  · go_enter Try.func90, Try.ntmps90
    go_wp2
    go_ret
    exact ⟨rfl, rfl⟩
  · go_enter Try.func90, Try.ntmps90
    go_wp2
    go_ret
    exact ⟨rfl, rfl⟩
set_option maxHeartbeats 400000 in
theorem left_s (g B : Nat) (bs : List Int) (bad : Bool) (w : World) (h : Rds w g B bs bad) : Calls Try.prog 95 #[.pointer (some ⟨g, 0, none⟩)] w fun e w' => e = .returned (.int .i64 bs.length) ∧ w = w' := by
  obtain ⟨A, c, h⟩ := h
  haveI := h.boxAt
  clear h
  go_enter Try.func95, Try.ntmps95
  go_wp2
  go_ret
  exact ⟨rfl, rfl⟩

/-- what 'take' tells: n bytes, or none -/
def RetT (g B : Nat) (w : World) (bs : List Int) (bad : Bool) (n : Nat) (e : Ending) (w' : World) : Prop :=
  (bad = false ∧ n ≤ bs.length ∧ ∃ A, e = .returned (.slice A n n) ∧ Reads w' w'.heap.size 1 A n (bcs (bs.take n)) ∧ Rds w' g B (bs.drop n) false ∧ w.grownBy w' (some g) ∧ (0 < n → ∀ b off, A = some ⟨b, off, none⟩ → b ≠ g ∧ b < B)) ∨
  ((bad = true ∨ bs.length < n) ∧ e = .returned (.slice none 0 0) ∧ Rds w' g B bs true ∧ w.grownBy w' (some g))
theorem take_post {w : World} {g B c n : Nat} {A A' : Option Addr} {bs : List Int} (h : Rd w g B A c bs false) (hle : n ≤ bs.length) (hA : n < bs.length → ∀ b off, A = some ⟨b, off, none⟩ → A' = some ⟨b, off + n, none⟩) :
    RetT g B w bs false n (.returned (.slice A n n)) (w.setCell ⟨g, 0, none⟩ (.slice A' (bs.length - n) (c - n))) := by
  have hb := grown_setCell w g 0 (.slice A' (bs.length - n) (c - n))
  refine .inl ⟨rfl, hle, A, rfl, ⟨by rw [bcs_len, List.length_take]; omega, fun hn => ?_⟩, ⟨A', c - n, h.took hle hA⟩, hb, fun hn b off e => ?_⟩
  · obtain ⟨b, off, e, h1, h2, h3⟩ := h.data (by omega)
    refine ⟨b, off, e, Nat.lt_of_lt_of_le (Nat.lt_of_lt_of_le h1 h.le) hb.size, fun j u hu => (World.cell?_of_block (a := ⟨b, off + j, none⟩) (hb.block b (Nat.lt_of_lt_of_le h1 h.le) (fun e => h2 (by injection e)))).trans (h3 j u ?_)⟩
    have := bcs_take bs n
    rw [Nat.mul_one] at this
    rw [← this, List.getElem?_take] at hu
    split at hu
    · exact hu
    · cases hu
  · obtain ⟨b', off', e', h1, h2, _⟩ := h.data (by omega)
    rw [e] at e'
    injection e' with e'
    injection e' with e1 e2
    subst e1
    exact ⟨h2, h1⟩
theorem map_add {A : Option Addr} {n : Nat} (b off : Nat) (h : A = some ⟨b, off, none⟩) : Option.map (fun x => x.add n) A = some ⟨b, off + n, none⟩ := by
  subst h
  simp only [Option.map_some, Addr.add]
  split
  · rename_i h0; rw [h0]; rfl
  · rfl
set_option maxHeartbeats 1000000 in
theorem take_s (g B : Nat) (bs : List Int) (bad : Bool) (n : Nat) (w : World) (h : Rds w g B bs bad) (hn : n ≤ 1000000) : Calls Try.prog 93 #[.pointer (some ⟨g, 0, none⟩), .int .i64 n] w (RetT g B w bs bad n) := by
  obtain ⟨A, c, h⟩ := h
  have hb := h.boxAt
  haveI := hb
  have hcap := h.cap
  have hmax := h.max
  have H := hide h
  have n0 : ¬ (n : Int) < 0 := by omega
  have n0' : decide ((n : Int) < 0) = false := by simp
  clear h
  cases bad
  · by_cases hlt : bs.length < n
    · have hl : decide ((bs.length : Int) < (n : Int)) = true := by simp; omega
      have HX := hide hlt
      clear hlt
      go_enter Try.func93, Try.ntmps93
      go_wp2
      go_ret
      exact .inr ⟨.inr HX.out, rfl, ⟨A, c, H.out.fail⟩, grown_setCell _ _ _ _⟩
    · have hl : decide ((bs.length : Int) < (n : Int)) = false := by simp; omega
      have hle : n ≤ bs.length := by omega
      clear hlt
      by_cases hc : c = n
      · subst hc
        have P := hide (take_post (A' := A) H.out hle (fun h => by omega))
        have h0 : bs.length - c = 0 := by omega
        rw [Nat.sub_self, h0] at P
        clear h0
        go_enter Try.func93, Try.ntmps93
        go_wp2
        go_ret
        exact P.out
      · have P := hide (take_post (A' := Option.map (fun x => x.add n) A) H.out hle (fun _ b off e => map_add b off e))
        go_enter Try.func93, Try.ntmps93
        go_wp2
        go_ret
        exact P.out
  · go_enter Try.func93, Try.ntmps93
    go_wp2
    go_ret
    exact .inr ⟨.inl rfl, rfl, ⟨A, c, H.out.fail⟩, grown_setCell _ _ _ _⟩

theorem u8and127 {c : Int} (h₀ : 0 ≤ c) (h₁ : c < 256) : bits .and .u8 c 127 = c % 128 := bits_mask .u8 8 (by decide) wraps_u8 7 (by decide) c h₀ h₁
theorem orShift {X y : Int} {k : Nat} (hk : k ≤ 9) (h0 : 0 ≤ X) (h1 : X < 128 ^ k) (hy : 0 ≤ y) (hy2 : y < 128) (hy9 : k = 9 → y ≤ 1) : bits .or .u64 X (y * 128 ^ k) = X + y * 128 ^ k := by
  have e : (128 : Int) ^ k = 2 ^ (7 * k) := by rw [Int.pow_mul]; rfl
  have hle : y * 128 ^ k < 2 ^ 64 := by
    rcases Nat.lt_or_ge k 9 with h9 | h9
    · have : (128 : Int) ^ k ≤ 128 ^ 8 := by
        have e : (128 : Nat) ^ k ≤ 128 ^ 8 := Nat.pow_le_pow_right (by omega) (by omega)
        exact_mod_cast e
      have h3 : y * 128 ^ k ≤ 127 * 128 ^ 8 := Int.mul_le_mul (by omega) this (Int.pow_nonneg (by omega)) (by omega)
      have : (127 : Int) * 128 ^ 8 < 2 ^ 64 := by decide
      omega
    · obtain rfl : k = 9 := by omega
      have := hy9 rfl
      have h3 : y * (128 : Int) ^ 9 ≤ 1 * 128 ^ 9 := Int.mul_le_mul_of_nonneg_right this (by decide)
      have : (1 : Int) * 128 ^ 9 < 2 ^ 64 := by decide
      omega
  have hX : X < 2 ^ 64 := by
    have : (128 : Int) ^ k ≤ 128 ^ 9 := by
      have e : (128 : Nat) ^ k ≤ 128 ^ 9 := Nat.pow_le_pow_right (by omega) hk
      exact_mod_cast e
    have h3 : (128 : Int) ^ 9 < 2 ^ 64 := by decide
    omega
  have hcomm : bits .or .u64 X (y * 128 ^ k) = bits .or .u64 (y * 128 ^ k) X := by
    obtain ⟨a, rfl⟩ := Int.eq_ofNat_of_zero_le h0
    have hp : (0 : Int) ≤ 128 ^ k := Int.pow_nonneg (by omega)
    obtain ⟨b, hb⟩ := Int.eq_ofNat_of_zero_le (Int.mul_nonneg hy hp)
    rw [hb] at hle ⊢
    have ha : a < 2 ^ 64 := by omega
    have hb' : b < 2 ^ 64 := by omega
    have f := fun (n : Int) (h : 0 ≤ n) (h' : n < 2 ^ 64) => IntWalk.u64_in n ⟨by omega, by omega⟩
    rw [(bits_nat .u64 64 (by decide) f a b ha hb').2, (bits_nat .u64 64 (by decide) f b a hb' ha).2, Nat.or_comm]
  rw [hcomm, bits_join .u64 64 (by decide) (fun n h h' => IntWalk.u64_in _ ⟨by omega, by omega⟩) (7 * k) (y * 128 ^ k) X (Int.mul_nonneg hy (Int.pow_nonneg (by omega))) (by rw [e]; exact Int.mul_emod_left _ _) hle h0 (by rw [← e]; exact h1) hX]
  omega
end Go.Proofs.Ytgpmcpinnaggmaa
