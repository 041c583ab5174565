/-
  Contracts: code.NewReader, the Reader's take, number, wide (one byte), U8, Uint, Fail, Err, Left, End.
-/
import Derived.Test.YtfddiklhjkjipaaGreatWt
import Derived.StillTailTactics
import Derived.Laws.CopyOwn
import Derived.Test.YtfddiklhjkjipaaGreatRow
namespace Go.Proofs.YtfddiklhjkjipaaGreat
set_option linter.unusedSimpArgs false
set_option linter.unusedVariables false
set_option linter.unusedSectionVars false
open Go.RowKit

/-- a reader's bytes, where they lie -/
structure Rd (w : World) (g B : Nat) (A : Option Addr) (c : Nat) (bs : List Int) (bad : Bool) : Prop where
  box : w.heap[g]? = some (.cells #[.slice A bs.length c, .bool bad] 294 (0, 0))
  data : 0 < bs.length → ∃ b off, A = some ⟨b, off, none⟩ ∧ b < B ∧ b ≠ g ∧ ∀ j u, (bcs bs)[j]? = some u → w.cell? ⟨b, off + j, none⟩ = some u
  cap : bs.length ≤ c
  max : c ≤ 9223372036854775807
  ok : bOK bs
  top : g < B
  le : B ≤ w.heap.size
/-- the reader at block g has the bytes bs left -/
def Rds (w : World) (g B : Nat) (bs : List Int) (bad : Bool) : Prop := ∃ A c, Rd w g B A c bs bad
section
variable {w w' : World} {g B c : Nat} {A : Option Addr} {bs : List Int} {bad : Bool}
theorem Rd.lt (h : Rd w g B A c bs bad) : g < w.heap.size := (Array.getElem?_eq_some_iff.1 h.box).1
theorem Rd.boxAt (h : Rd w g B A c bs bad) : BoxAt w g #[.slice A bs.length c, .bool bad] 294 := ⟨h.box⟩
theorem Rd.below (h : Rd w g B A c bs bad) (hb : Below B w w') : Rd w' g B A c bs bad :=
  ⟨by rw [hb.block g h.top]; exact h.box, fun hn => by
    obtain ⟨b, off, e, h1, h2, h3⟩ := h.data hn
    exact ⟨b, off, e, h1, h2, fun j u hu => (hb.cell (p := ⟨b, off + j, none⟩) h1).trans (h3 j u hu)⟩, h.cap, h.max, h.ok, h.top, Nat.le_trans h.le hb.size⟩
theorem Rds.below (h : Rds w g B bs bad) (hb : Below B w w') : Rds w' g B bs bad := by obtain ⟨A, c, h⟩ := h; exact ⟨A, c, h.below hb⟩
theorem Rds.step (h : Rds w g B bs bad) (hb : Below w.heap.size w w') : Rds w' g B bs bad := by obtain ⟨A, c, h⟩ := h; exact ⟨A, c, h.below (hb.mono h.le)⟩
theorem Rds.top (h : Rds w g B bs bad) : g < B := by obtain ⟨A, c, h⟩ := h; exact h.top
theorem Rds.le (h : Rds w g B bs bad) : B ≤ w.heap.size := by obtain ⟨A, c, h⟩ := h; exact h.le
theorem Rds.ok (h : Rds w g B bs bad) : bOK bs := by obtain ⟨A, c, h⟩ := h; exact h.ok
theorem Rds.lt (h : Rds w g B bs bad) : g < w.heap.size := by obtain ⟨A, c, h⟩ := h; exact h.lt
theorem setCell_block (w : World) (g i : Nat) (v : Value) (cs : Array Value) (t : TypeId) (h : w.heap[g]? = some (.cells cs t (0, 0))) : (w.setCell ⟨g, i, none⟩ v).heap[g]? = some (.cells (cs.setIfInBounds i v) t (0, 0)) := by
  simp [World.setCell, Array.getElem?_modify, h]
theorem grown_setCell (w : World) (g i : Nat) (v : Value) : w.grownBy (w.setCell ⟨g, i, none⟩ v) (some g) :=
  ⟨rfl, rfl, rfl, by simp [World.setCell], fun k hk hne => Below.heap_setCell _ _ _ _ (fun e => hne (by rw [e]))⟩
/-- it fails -/
theorem Rd.fail (h : Rd w g B A c bs bad) : Rd (w.setCell ⟨g, 1, none⟩ (.bool true)) g B A c bs true := by
  have hb := grown_setCell w g 1 (.bool true)
  have hl := h.le
  refine ⟨?_, fun hn => ?_, h.cap, h.max, h.ok, h.top, Nat.le_trans h.le hb.size⟩
  · rw [setCell_block _ _ _ _ _ _ h.box]; rfl
  · obtain ⟨b, off, e, h1, h2, h3⟩ := h.data hn
    exact ⟨b, off, e, h1, h2, fun j u hu => (World.cell?_of_block (a := ⟨b, off + j, none⟩) (hb.block b (Nat.lt_of_lt_of_le h1 hl) (fun e => h2 (by injection e)))).trans (h3 j u hu)⟩
/-- n bytes are taken -/
theorem Rd.took (h : Rd w g B A c bs bad) {n : Nat} (hn : n ≤ bs.length) {A' : Option Addr} (hA : n < bs.length → ∀ b off, A = some ⟨b, off, none⟩ → A' = some ⟨b, off + n, none⟩) :
    Rd (w.setCell ⟨g, 0, none⟩ (.slice A' (bs.length - n) (c - n))) g B A' (c - n) (bs.drop n) bad := by
  have hb := grown_setCell w g 0 (.slice A' (bs.length - n) (c - n))
  have hc := h.cap
  have hm := h.max
  refine ⟨?_, fun hn' => ?_, by rw [List.length_drop]; omega, by omega, h.ok.drop n, h.top, Nat.le_trans h.le hb.size⟩
  · rw [setCell_block _ _ _ _ _ _ h.box, List.length_drop]; rfl
  · rw [List.length_drop] at hn'
    obtain ⟨b, off, e, h1, h2, h3⟩ := h.data (by omega)
    refine ⟨b, off + n, hA (by omega) b off e, h1, h2, fun j u hu => ?_⟩
    rw [show off + n + j = off + (n + j) by omega]
    refine (World.cell?_of_block (a := ⟨b, off + (n + j), none⟩) (hb.block b (Nat.lt_of_lt_of_le h1 h.le) (fun e => h2 (by injection e)))).trans (h3 _ u ?_)
    have := bcs_drop bs n
    rw [Nat.mul_one] at this
    rw [← this, List.getElem?_drop] at hu
    exact hu
theorem Rd.atB (h : Rd w g B A c bs bad) {k : Nat} (hk : k < bs.length) : ∃ b off x, A = some ⟨b, off, none⟩ ∧ b < B ∧ b ≠ g ∧ bs[k]? = some x ∧ w.cell? ⟨b, off + k, none⟩ = some (.int .u8 x) := by
  obtain ⟨b, off, rfl, hb, hg, hc⟩ := h.data (by omega)
  exact ⟨b, off, bs[k], rfl, hb, hg, List.getElem?_eq_getElem hk, hc k _ (by simp [bcs, hk])⟩
theorem grown_trans {a b c : World} {r : Option Nat} (h : a.grownBy b r) (k : b.grownBy c r) : a.grownBy c r :=
  ⟨k.os.trans h.os, k.tape.trans h.tape, k.output.trans h.output, Nat.le_trans h.size k.size, fun i hi hr => (k.block i (Nat.lt_of_lt_of_le hi h.size) hr).trans (h.block i hi hr)⟩
theorem grown_below {a b : World} {r : Option Nat} (h : Below a.heap.size a b) : a.grownBy b r := ⟨h.os, h.tape, h.output, h.size, fun i hi _ => h.block i hi⟩
end
/-- the post of what a reader's method does -/
def RetRd (g B : Nat) (w : World) (v : Value) (bs : List Int) (bad : Bool) (e : Ending) (w' : World) : Prop := e = .returned v ∧ Rds w' g B bs bad ∧ w.grownBy w' (some g)

set_option maxHeartbeats 400000 in
theorem newReader_s (A : Option Addr) (c : Nat) (bs : List Int) (w : World) (h : Reads w w.heap.size 1 A bs.length (bcs bs)) (hn : bs.length ≤ 1000000) (hk : bOK bs) :
    Calls Tryz.prog 188 #[.slice A bs.length c] w fun e w' => ∃ g, e = .returned (.pointer (some ⟨g, 0, none⟩)) ∧ w.heap.size ≤ g ∧ Rds w' g w'.heap.size bs false ∧ Below w.heap.size w w' := by
  have T := hide (cloneB_s A c bs w h hn)
  clear h
  go_enter Tryz.func188, Tryz.ntmps188
  go_wp2_with fail
  (with_reducible refine T.out.mono ?_)
  rintro e w1 ⟨v1, rfl, ho, hb⟩
  obtain ⟨A1, c1, rfl, hc1, hc2⟩ := own_slice ho
  have HR := hide (Reads.of_own ho)
  have HC := hide hc1
  have HC2 := hide hc2
  clear ho hc1 hc2
  go_wp2
  go_ret
  refine ⟨w1.heap.size, rfl, hb.size, ⟨A1, c1, heap_alloc_new _ _, fun hn' => ?_, HC.out, by have := HC2.out; unfold maxLen at this; exact this, hk, by simp, Nat.le_refl _⟩, below_step hb (below_alloc _ _)⟩
  obtain ⟨b, off, e, h1, h2⟩ := HR.out.2 hn'
  exact ⟨b, off, e, by simp; omega, by omega, fun j u hu => (World.cell?_alloc_lt w1 _ ⟨b, off + j, none⟩ h1).trans (h2 j u hu)⟩

set_option maxHeartbeats 400000 in
theorem fail_s (g B : Nat) (bs : List Int) (bad : Bool) (w : World) (h : Rds w g B bs bad) : Calls Tryz.prog 254 #[.pointer (some ⟨g, 0, none⟩)] w (RetRd g B w (.tuple #[]) bs true) := by
  obtain ⟨A, c, h⟩ := h
  haveI := h.boxAt
  have H := hide h.fail
  clear h
  go_enter Tryz.func254, Tryz.ntmps254
  go_wp2
  go_end0
  exact ⟨rfl, ⟨A, c, H.out⟩, grown_setCell _ _ _ _⟩
set_option maxHeartbeats 400000 in
theorem err_s (g B : Nat) (bs : List Int) (bad : Bool) (w : World) (h : Rds w g B bs bad) : Calls Tryz.prog 253 #[.pointer (some ⟨g, 0, none⟩)] w fun e w' => e = .returned (.int .i64 (if bad then 3 else 0)) ∧ w = w' := by
  obtain ⟨A, c, h⟩ := h
  haveI := h.boxAt
  clear h
  cases bad
  · go_enter Tryz.func253, Tryz.ntmps253
    go_wp2
    go_ret
    exact ⟨rfl, rfl⟩
  · go_enter Tryz.func253, Tryz.ntmps253
    go_wp2
    go_ret
    exact ⟨rfl, rfl⟩
set_option maxHeartbeats 400000 in
theorem left_s (g B : Nat) (bs : List Int) (bad : Bool) (w : World) (h : Rds w g B bs bad) : Calls Tryz.prog 258 #[.pointer (some ⟨g, 0, none⟩)] w fun e w' => e = .returned (.int .i64 bs.length) ∧ w = w' := by
  obtain ⟨A, c, h⟩ := h
  haveI := h.boxAt
  clear h
  go_enter Tryz.func258, Tryz.ntmps258
  go_wp2
  go_ret
  exact ⟨rfl, rfl⟩

/-- what 'take' tells: n bytes, or none -/
def RetT (g B : Nat) (w : World) (bs : List Int) (bad : Bool) (n : Nat) (e : Ending) (w' : World) : Prop :=
  (bad = false ∧ n ≤ bs.length ∧ ∃ A, e = .returned (.slice A n n) ∧ Reads w' w'.heap.size 1 A n (bcs (bs.take n)) ∧ Rds w' g B (bs.drop n) false ∧ w.grownBy w' (some g) ∧ (0 < n → ∀ b off, A = some ⟨b, off, none⟩ → b ≠ g ∧ b < B)) ∨
  ((bad = true ∨ bs.length < n) ∧ e = .returned (.slice none 0 0) ∧ Rds w' g B bs true ∧ w.grownBy w' (some g))
theorem take_post {w : World} {g B c n : Nat} {A A' : Option Addr} {bs : List Int} (h : Rd w g B A c bs false) (hle : n ≤ bs.length) (hA : n < bs.length → ∀ b off, A = some ⟨b, off, none⟩ → A' = some ⟨b, off + n, none⟩) :
    RetT g B w bs false n (.returned (.slice A n n)) (w.setCell ⟨g, 0, none⟩ (.slice A' (bs.length - n) (c - n))) := by
  have hb := grown_setCell w g 0 (.slice A' (bs.length - n) (c - n))
  refine .inl ⟨rfl, hle, A, rfl, ⟨by rw [bcs_len, List.length_take]; omega, fun hn => ?_⟩, ⟨A', c - n, h.took hle hA⟩, hb, fun hn b off e => ?_⟩
  · obtain ⟨b, off, e, h1, h2, h3⟩ := h.data (by omega)
    refine ⟨b, off, e, Nat.lt_of_lt_of_le (Nat.lt_of_lt_of_le h1 h.le) hb.size, fun j u hu => (World.cell?_of_block (a := ⟨b, off + j, none⟩) (hb.block b (Nat.lt_of_lt_of_le h1 h.le) (fun e => h2 (by injection e)))).trans (h3 j u ?_)⟩
    have := bcs_take bs n
    rw [Nat.mul_one] at this
    rw [← this, List.getElem?_take] at hu
    split at hu
    · exact hu
    · cases hu
  · obtain ⟨b', off', e', h1, h2, _⟩ := h.data (by omega)
    rw [e] at e'
    injection e' with e'
    injection e' with e1 e2
    subst e1
    exact ⟨h2, h1⟩
theorem map_add {A : Option Addr} {n : Nat} (b off : Nat) (h : A = some ⟨b, off, none⟩) : Option.map (fun x => x.add n) A = some ⟨b, off + n, none⟩ := by
  subst h
  simp only [Option.map_some, Addr.add]
  split
  · rename_i h0; rw [h0]; rfl
  · rfl
set_option maxHeartbeats 1000000 in
theorem take_s (g B : Nat) (bs : List Int) (bad : Bool) (n : Nat) (w : World) (h : Rds w g B bs bad) (hn : n ≤ 1000000) : Calls Tryz.prog 256 #[.pointer (some ⟨g, 0, none⟩), .int .i64 n] w (RetT g B w bs bad n) := by
  obtain ⟨A, c, h⟩ := h
  have hb := h.boxAt
  haveI := hb
  have hcap := h.cap
  have hmax := h.max
  have H := hide h
  have n0 : ¬ (n : Int) < 0 := by omega
  have n0' : decide ((n : Int) < 0) = false := by simp
  clear h
  cases bad
  · by_cases hlt : bs.length < n
    · have hl : decide ((bs.length : Int) < (n : Int)) = true := by simp; omega
      have HX := hide hlt
      clear hlt
      go_enter Tryz.func256, Tryz.ntmps256
      go_wp2
      go_ret
      exact .inr ⟨.inr HX.out, rfl, ⟨A, c, H.out.fail⟩, grown_setCell _ _ _ _⟩
    · have hl : decide ((bs.length : Int) < (n : Int)) = false := by simp; omega
      have hle : n ≤ bs.length := by omega
      clear hlt
      by_cases hc : c = n
      · subst hc
        have P := hide (take_post (A' := A) H.out hle (fun h => by omega))
        have h0 : bs.length - c = 0 := by omega
        rw [Nat.sub_self, h0] at P
        clear h0
        go_enter Tryz.func256, Tryz.ntmps256
        go_wp2
        go_ret
        exact P.out
      · have P := hide (take_post (A' := Option.map (fun x => x.add n) A) H.out hle (fun _ b off e => map_add b off e))
        go_enter Tryz.func256, Tryz.ntmps256
        go_wp2
        go_ret
        exact P.out
  · go_enter Tryz.func256, Tryz.ntmps256
    go_wp2
    go_ret
    exact .inr ⟨.inl rfl, rfl, ⟨A, c, H.out.fail⟩, grown_setCell _ _ _ _⟩

theorem u8and127 {c : Int} (h₀ : 0 ≤ c) (h₁ : c < 256) : bits .and .u8 c 127 = c % 128 := bits_mask .u8 8 (by decide) wraps_u8 7 (by decide) c h₀ h₁
theorem orShift {X y : Int} {k : Nat} (hk : k ≤ 9) (h0 : 0 ≤ X) (h1 : X < 128 ^ k) (hy : 0 ≤ y) (hy2 : y < 128) (hy9 : k = 9 → y ≤ 1) : bits .or .u64 X (y * 128 ^ k) = X + y * 128 ^ k := by
  have e : (128 : Int) ^ k = 2 ^ (7 * k) := by rw [Int.pow_mul]; rfl
  have hle : y * 128 ^ k < 2 ^ 64 := by
    rcases Nat.lt_or_ge k 9 with h9 | h9
    · have : (128 : Int) ^ k ≤ 128 ^ 8 := by
        have e : (128 : Nat) ^ k ≤ 128 ^ 8 := Nat.pow_le_pow_right (by omega) (by omega)
        exact_mod_cast e
      have h3 : y * 128 ^ k ≤ 127 * 128 ^ 8 := Int.mul_le_mul (by omega) this (Int.pow_nonneg (by omega)) (by omega)
      have : (127 : Int) * 128 ^ 8 < 2 ^ 64 := by decide
      omega
    · obtain rfl : k = 9 := by omega
      have := hy9 rfl
      have h3 : y * (128 : Int) ^ 9 ≤ 1 * 128 ^ 9 := Int.mul_le_mul_of_nonneg_right this (by decide)
      have : (1 : Int) * 128 ^ 9 < 2 ^ 64 := by decide
      omega
  have hX : X < 2 ^ 64 := by
    have : (128 : Int) ^ k ≤ 128 ^ 9 := by
      have e : (128 : Nat) ^ k ≤ 128 ^ 9 := Nat.pow_le_pow_right (by omega) hk
      exact_mod_cast e
    have h3 : (128 : Int) ^ 9 < 2 ^ 64 := by decide
    omega
  have hcomm : bits .or .u64 X (y * 128 ^ k) = bits .or .u64 (y * 128 ^ k) X := by
    obtain ⟨a, rfl⟩ := Int.eq_ofNat_of_zero_le h0
    have hp : (0 : Int) ≤ 128 ^ k := Int.pow_nonneg (by omega)
    obtain ⟨b, hb⟩ := Int.eq_ofNat_of_zero_le (Int.mul_nonneg hy hp)
    rw [hb] at hle ⊢
    have ha : a < 2 ^ 64 := by omega
    have hb' : b < 2 ^ 64 := by omega
    have f := fun (n : Int) (h : 0 ≤ n) (h' : n < 2 ^ 64) => IntWalk.u64_in n ⟨by omega, by omega⟩
    rw [(bits_nat .u64 64 (by decide) f a b ha hb').2, (bits_nat .u64 64 (by decide) f b a hb' ha).2, Nat.or_comm]
  rw [hcomm, bits_join .u64 64 (by decide) (fun n h h' => IntWalk.u64_in _ ⟨by omega, by omega⟩) (7 * k) (y * 128 ^ k) X (Int.mul_nonneg hy (Int.pow_nonneg (by omega))) (by rw [e]; exact Int.mul_emod_left _ _) hle h0 (by rw [← e]; exact h1) hX]
  omega
end Go.Proofs.YtfddiklhjkjipaaGreat

namespace Go.Proofs.YtfddiklhjkjipaaGreat
set_option linter.unusedSimpArgs false
set_option linter.unusedVariables false
set_option linter.unusedSectionVars false
open Go.RowKit

/-- the short number at the front of a reader's bytes -/
def numV (bs : List Int) (bad : Bool) : Int × Nat := if bad then (0, 0) else numGo 0 0 bs
theorem numGo_step {bs : List Int} {k : Nat} {X c : Int} (h : bs[k]? = some c) : numGo k X (bs.drop k) = (if k = 9 ∧ 1 < c then (0, 0) else if c < 128 then (if c = 0 ∧ 0 < k then (0, 0) else (X + c % 128 * 128 ^ k, k + 1)) else numGo (k + 1) (X + c % 128 * 128 ^ k) (bs.drop (k + 1))) := by
  obtain ⟨hk, rfl⟩ := List.getElem?_eq_some_iff.1 h
  rw [List.drop_eq_getElem_cons hk, numGo]
theorem pow_next {X c : Int} {k : Nat} (h0 : 0 ≤ X) (h1 : X < 128 ^ k) : 0 ≤ X + c % 128 * 128 ^ k ∧ X + c % 128 * 128 ^ k < 128 ^ (k + 1) := by
  have hp : (0 : Int) ≤ 128 ^ k := Int.pow_nonneg (by omega)
  rw [Int.pow_succ]
  generalize (128 : Int) ^ k = p at h1 hp ⊢
  have hm : 0 ≤ c % 128 * p := Int.mul_nonneg (by omega) hp
  have hm2 : c % 128 * p ≤ 127 * p := Int.mul_le_mul_of_nonneg_right (by omega) hp
  omega
theorem orStep {X x : Int} {k : Nat} (hk : k ≤ 9) (h0 : 0 ≤ X) (h1 : X < 128 ^ k) (h9 : k = 9 → x % 128 ≤ 1) : bits .or .u64 X (IntKind.u64.wrap (x % 128 * 2 ^ (7 * k))) = X + x % 128 * 128 ^ k := by
  have e : (2 : Int) ^ (7 * k) = 128 ^ k := by rw [Int.pow_mul]; rfl
  rw [e]
  have hp : (0 : Int) ≤ 128 ^ k := Int.pow_nonneg (by omega)
  have hle : x % 128 * 128 ^ k < 2 ^ 64 := by
    rcases Nat.lt_or_ge k 9 with h9' | h9'
    · have : (128 : Int) ^ k ≤ 128 ^ 8 := by
        have e : (128 : Nat) ^ k ≤ 128 ^ 8 := Nat.pow_le_pow_right (by omega) (by omega)
        exact_mod_cast e
      have h3 : x % 128 * 128 ^ k ≤ 127 * 128 ^ 8 := Int.mul_le_mul (by omega) this hp (by omega)
      have : (127 : Int) * 128 ^ 8 < 2 ^ 64 := by decide
      omega
    · obtain rfl : k = 9 := by omega
      have h3 : x % 128 * (128 : Int) ^ 9 ≤ 1 * 128 ^ 9 := Int.mul_le_mul_of_nonneg_right (h9 rfl) (by decide)
      have : (1 : Int) * 128 ^ 9 < 2 ^ 64 := by decide
      omega
  rw [IntWalk.u64_in _ ⟨Int.mul_nonneg (by omega) hp, by omega⟩]
  exact orShift hk h0 h1 (by omega) (by omega) h9
set_option maxHeartbeats 1000000 in
theorem number_s (g B : Nat) (bs : List Int) (bad : Bool) (w : World) (h : Rds w g B bs bad) (hn : bs.length ≤ 1000000) :
    Calls Tryz.prog 255 #[.pointer (some ⟨g, 0, none⟩)] w fun e w' => e = .returned (.tuple #[.int .u64 (numV bs bad).1, .int .i64 (numV bs bad).2]) ∧ w = w' := by
  obtain ⟨A, c, h⟩ := h
  have hb := h.boxAt
  haveI := hb
  have hok := h.ok
  have H := hide h
  have HK := hide hok
  clear h hok
  cases bad
  · have HV := hide (show numV bs false = numGo 0 0 bs from rfl)
    go_enter Tryz.func255, Tryz.ntmps255
    go_wp2
    go_loop [4, 16] (fun x i => ∃ (k : Nat) (X : Int), k ≤ bs.length ∧ k ≤ 9 ∧ i = .int .i64 k ∧ x = .int .u64 X ∧ 0 ≤ X ∧ X < 128 ^ k ∧ numGo 0 0 bs = numGo k X (bs.drop k)) (fun _ i => bs.length - (intOf i).toNat)
    case atStart => exact ⟨0, 0, Nat.zero_le _, by omega, rfl, rfl, by omega, by omega, rfl⟩
    case round =>
      obtain ⟨k, X, hk, hk9, rfl, rfl, hX0, hX1, hnum⟩ := hrel
      have HX1 := hide hX1
      have HN := hide (HV.out.trans hnum)
      clear hnum hX1 HV
      by_cases hlt : k < bs.length
      · obtain ⟨b, off, x, rfl, hb1, hbg, hx, g1⟩ := H.out.atB hlt
        obtain ⟨hx0, hx1⟩ := HK.out.get hx
        have HS := hide (numGo_step (X := X) hx)
        have ha := u8and127 hx0 hx1
        clear hx H
        by_cases hA : k = 9 ∧ 1 < x
        · have HZ := hide (show numV bs false = (0, 0) by rw [HN.out, HS.out, if_pos hA])
          obtain ⟨rfl, h1x⟩ := hA
          clear HN HS HX1
          go_wp2
          refine bodyPost_ret (v := .tuple #[.int .u64 0, .int .i64 0]) (by simp [results, Tryz.results255, go_sem]) rfl ⟨by rw [HZ.out]; rfl, rfl⟩
        · replace HS := hide (HS.out.trans (if_neg hA))
          by_cases h128 : x < 128
          · replace HS := hide (HS.out.trans (if_pos h128))
            have hst := hide (orStep (x := x) hk9 hX0 HX1.out (by omega))
            have hA1 : (k : Int) = 9 → x ≤ 1 := by omega
            by_cases hz : x = 0 ∧ 0 < k
            · have HZ := hide (show numV bs false = (0, 0) by rw [HN.out, HS.out, if_pos hz])
              obtain ⟨rfl, hk0⟩ := hz
              clear HN HS HX1 hA hst
              go_wp2
              all_goals refine bodyPost_ret (v := .tuple #[.int .u64 0, .int .i64 0]) (by simp [results, Tryz.results255, go_sem]) rfl ⟨by rw [HZ.out]; rfl, rfl⟩
            · replace HS := hide (HN.out.trans (HS.out.trans (if_neg hz)))
              by_cases hx00 : x = 0
              · obtain rfl : k = 0 := by omega
                subst hx00
                obtain rfl : X = 0 := by have := HX1.out; simp at this; omega
                clear HN HX1 hA hz hst hA1
                rw [Nat.add_zero] at g1
                go_wp2
                refine bodyPost_ret (v := .tuple #[.int .u64 0, .int .i64 1]) (by simp [results, Tryz.results255, go_sem]; rfl) rfl ⟨by rw [HS.out]; rfl, rfl⟩
              · have hxb : (x == 0) = false := by simp [hx00]
                by_cases hk90 : k = 9
                · subst hk90
                  obtain rfl : x = 1 := by omega
                  have hst1 : bits .or .u64 X 9223372036854775808 = X + 9223372036854775808 := by
                    have := hst.out
                    rw [show IntKind.u64.wrap (1 % 128 * 2 ^ (7 * 9)) = 9223372036854775808 by decide] at this
                    exact this
                  clear HN HX1 hA hz hst hA1
                  go_wp2
                  refine bodyPost_ret (v := .tuple #[.int .u64 (X + 9223372036854775808), .int .i64 10]) (by simp [results, Tryz.results255, go_sem]) rfl ⟨by rw [HS.out]; rfl, rfl⟩
                · have hkb : ((k : Int) == 9) = false := by simp; omega
                  have hkb' : ¬ (k : Int) = 9 := by omega
                  clear HN HX1 hA hz hA1
                  go_wp2
                  refine bodyPost_ret (v := .tuple #[.int .u64 (X + x % 128 * 128 ^ k), .int .i64 (k + 1 : Nat)]) (by simp [results, Tryz.results255, go_sem]; exact hst.out) rfl ⟨by rw [HS.out], rfl⟩
          · replace HS := hide (HS.out.trans (if_neg h128))
            have hge : 128 ≤ x := by omega
            have h9 : ¬ (k : Int) = 9 := by omega
            have h9' : ((k : Int) == 9) = false := by simp; omega
            clear hA
            have hst := hide (orStep (x := x) hk9 hX0 HX1.out (by omega))
            go_wp2
            refine ⟨⟨k + 1, X + x % 128 * 128 ^ k, by omega, by omega, by go_num, by rw [hst.out], (pow_next hX0 HX1.out).1, (pow_next hX0 HX1.out).2, HN.out.trans HS.out⟩, by simp [intOf]; omega⟩
      · have hk' : k = bs.length := by omega
        subst hk'
        have HZ := hide (show numV bs false = (0, 0) by rw [HN.out, List.drop_length]; rfl)
        clear HN
        go_wp2
        refine bodyPost_ret (v := .tuple #[.int .u64 0, .int .i64 0]) (by simp [results, Tryz.results255, go_sem]) rfl ⟨by rw [HZ.out]; rfl, rfl⟩
  · go_enter Tryz.func255, Tryz.ntmps255
    go_wp2
    refine bodyPost_ret (v := .tuple #[.int .u64 0, .int .i64 0]) (by simp [results, Tryz.results255, go_sem]) rfl ⟨rfl, rfl⟩
end Go.Proofs.YtfddiklhjkjipaaGreat

namespace Go.Proofs.YtfddiklhjkjipaaGreat
set_option linter.unusedSimpArgs false
set_option linter.unusedVariables false
set_option linter.unusedSectionVars false
open Go.RowKit

/-- a reader's state: what is left, and whether there was a fault -/
abbrev RS := List Int × Bool
/-- one byte is taken -/
def rU8 : RS → Int × RS
  | (b :: bs, false) => (b, (bs, false))
  | (bs, _) => (0, (bs, true))
/-- a short number is taken -/
def rUint (s : RS) : Int × RS := if (numV s.1 s.2).2 = 0 then (0, (s.1, true)) else ((numV s.1 s.2).1, (s.1.drop (numV s.1 s.2).2, false))
/-- the post of what a reader's method does -/
def RetR (g B : Nat) (w : World) (v : Value) (s : RS) (e : Ending) (w' : World) : Prop := e = .returned v ∧ Rds w' g B s.1 s.2 ∧ w.grownBy w' (some g)
theorem BoxAt.grown {w w' : World} {n g : Nat} {cs : Array Value} {t : TypeId} (h : BoxAt w n cs t) (hg : w.grownBy w' (some g)) (hn : n ≠ g) : BoxAt w' n cs t := ⟨by rw [hg.block n h.lt (fun e => hn (by injection e))]; exact h.eq⟩
theorem own_grown {w w' : World} {g base : Nat} {e : TypeId} {k n : Nat} {v : Value} {xs : List Value} (h : w.ownsRow base e k v n xs) (hg : w.grownBy w' (some g)) (hb : g < base) : w'.ownsRow base e k v n xs := by
  refine ⟨h.1, h.2.imp id ?_⟩
  rintro ⟨r, cap, cur, rfl, hbase, hr, h1⟩
  refine ⟨r, cap, cur, rfl, hbase, ?_, h1⟩
  have hlt : r < w.heap.size := (Array.getElem?_eq_some_iff.1 hr).1
  rw [hg.block r hlt (fun e => by injection e; omega)]; exact hr
theorem grown_then_below {a b c : World} {r : Option Nat} (h : a.grownBy b r) (k : Below a.heap.size b c) : a.grownBy c r :=
  ⟨k.os.trans h.os, k.tape.trans h.tape, k.output.trans h.output, Nat.le_trans h.size k.size, fun i hi hr => (k.block i hi).trans (h.block i hi hr)⟩
abbrev zero8 : List Value := [.int .u8 0, .int .u8 0, .int .u8 0, .int .u8 0, .int .u8 0, .int .u8 0, .int .u8 0, .int .u8 0]
theorem or0r {y : Int} (h0 : 0 ≤ y) (h1 : y < 256) : bits .or .u64 y 0 = y := by
  obtain ⟨n, rfl⟩ := Int.eq_ofNat_of_zero_le h0
  have e : bits .or .u64 (n : Int) ((0 : Nat) : Int) = ((n ||| 0 : Nat) : Int) := (bits_nat .u64 64 (by decide) (fun n h h' => IntWalk.u64_in _ ⟨by omega, by omega⟩) n 0 (by omega) (by omega)).2
  simpa using e
theorem or0l {y : Int} (h0 : 0 ≤ y) (h1 : y < 256) : bits .or .u64 0 y = y := by
  obtain ⟨n, rfl⟩ := Int.eq_ofNat_of_zero_le h0
  have e : bits .or .u64 ((0 : Nat) : Int) (n : Int) = ((0 ||| n : Nat) : Int) := (bits_nat .u64 64 (by decide) (fun n h h' => IntWalk.u64_in _ ⟨by omega, by omega⟩) 0 n (by omega) (by omega)).2
  simpa using e
theorem splice8 (v : Value) : (splice zero8 0 [v]).toArray = #[v, .int .u8 0, .int .u8 0, .int .u8 0, .int .u8 0, .int .u8 0, .int .u8 0, .int .u8 0] := rfl
theorem splice80 : (splice zero8 0 []).toArray = zero8.toArray := rfl
theorem szB : (Tryz.prog.info? 5).map (·.size) = some 1 := by kernel_rfl
theorem copy1 {w : World} {b' off n : Nat} {b : Int} (h : w.cell? ⟨b', off, none⟩ = some (.int .u8 b)) : 0 < [Value.int .u8 b].length → (some (⟨n, 0, none⟩ : Addr)) = some ⟨n, 0, none⟩ ∧ ∃ ad, (some (⟨b', off, none⟩ : Addr)) = some ad ∧ ∀ j v, [Value.int .u8 b][j]? = some v → w.cell? (ad.add j) = some v := by
  intro _
  refine ⟨rfl, _, rfl, fun j v hv => ?_⟩
  cases j with
  | zero => simp at hv; subst hv; exact h
  | succ j => simp at hv
theorem fit1 (b : Int) : 0 + [Value.int .u8 b].length ≤ zero8.length := by simp
theorem copy0 {w : World} {n : Nat} : 0 < ([] : List Value).length → (some (⟨n, 0, none⟩ : Addr)) = some ⟨n, 0, none⟩ ∧ ∃ ad, (none : Option Addr) = some ad ∧ ∀ j v, ([] : List Value)[j]? = some v → w.cell? (ad.add j) = some v := fun h => absurd h (by simp)
theorem fit0 : 0 + ([] : List Value).length ≤ zero8.length := by simp
theorem one0 : ∀ v ∈ ([] : List Value), v.oneCell' = true := by simp
theorem rU8_range {s : RS} (h : bOK s.1) : 0 ≤ (rU8 s).1 ∧ (rU8 s).1 < 256 := by
  obtain ⟨bs, bad⟩ := s
  cases bs with
  | nil => simp [rU8]
  | cons b bs => cases bad <;> simp [rU8] ; exact h b (by simp)
theorem numV_le (bs : List Int) (bad : Bool) : (numV bs bad).2 ≤ bs.length := by
  unfold numV
  split
  · simp
  · have := numGo_le bs 0 0; omega
theorem numV_bad (bs : List Int) (bad : Bool) (h : bad = true) : (numV bs bad).2 = 0 := by subst h; rfl
theorem one1 (b : Int) : ∀ v ∈ [Value.int .u8 b], v.oneCell' = true := by simp [Value.oneCell']
set_option maxRecDepth 100000 in
set_option maxHeartbeats 1000000 in
theorem wideR_s (g B : Nat) (s : RS) (w : World) (h : Rds w g B s.1 s.2) :
    Calls Tryz.prog 252 #[.pointer (some ⟨g, 0, none⟩), .int .i64 1] w (RetR g B w (.int .u64 (rU8 s).1) (rU8 s).2) := by
  have T : Hid (∀ W, Rds W g B s.1 s.2 → Calls Tryz.prog 256 #[.pointer (some ⟨g, 0, none⟩), .int .i64 1] W (RetT g B W s.1 s.2 1)) := hide (fun W (hW : Rds W g B s.1 s.2) => take_s g B s.1 s.2 1 W hW (by omega))
  have hle := h.le
  have htop := h.top
  have hne : w.heap.size ≠ g := by omega
  have p0 := boxTop w zero8.toArray 315
  replace p0 : BoxAt (w.alloc (.cells zero8.toArray 315)).drew w.heap.size zero8.toArray 315 := ⟨p0.eq⟩
  have h1 := (h.step (below_alloc w (.cells zero8.toArray 315))).step (Below.refl _ _).drew
  have hB : w.grownBy (w.alloc (.cells zero8.toArray 315)).drew (some g) := grown_below (below_alloc w _).drew
  have HOK := hide h.ok
  clear h
  obtain ⟨bs, bad⟩ := s
  by_cases hc : bad = false ∧ 1 ≤ bs.length
  · obtain ⟨rfl, hl⟩ := hc
    obtain ⟨b, bs', rfl⟩ : ∃ b bs', bs = b :: bs' := by cases bs with
      | nil => simp at hl
      | cons b bs' => exact ⟨b, bs', rfl⟩
    obtain ⟨hb0, hb1⟩ := HOK.out b (by simp)
    have o1 := or0r hb0 hb1
    have o2 := or0l hb0 hb1
    replace T : Hid (∀ W, Rds W g B (b :: bs') false → Calls Tryz.prog 256 #[.pointer (some ⟨g, 0, none⟩), .int .i64 1] W fun e w' => ∃ b' off, e = .returned (.slice (some ⟨b', off, none⟩) 1 1) ∧ w'.cell? ⟨b', off, none⟩ = some (.int .u8 b) ∧ Rds w' g B bs' false ∧ W.grownBy w' (some g)) := hide (fun W hW => (T.out W hW).mono (by
      rintro e w' (⟨_, _, A, rfl, hr, hd, hg, _⟩ | ⟨hh, _⟩)
      · obtain ⟨b', off, rfl, _, hc⟩ := hr.2 (by omega)
        exact ⟨b', off, rfl, hc 0 _ (by simp [bcs]), hd, hg⟩
      · simp at hh))
    have e0 : (rU8 (b :: bs', false)) = (b, (bs', false)) := rfl
    rw [e0]
    clear hl HOK e0
    have i0 : ∀ W, (Instr.index 315 (.agg #[.int .u8 b, .int .u8 0, .int .u8 0, .int .u8 0, .int .u8 0, .int .u8 0, .int .u8 0, .int .u8 0]) (.int .i64 0)).run Tryz.prog W = .ok (.int .u8 b) W := fun _ => by kernel_rfl
    have i1 : ∀ W, (Instr.index 315 (.agg #[.int .u8 b, .int .u8 0, .int .u8 0, .int .u8 0, .int .u8 0, .int .u8 0, .int .u8 0, .int .u8 0]) (.int .i64 1)).run Tryz.prog W = .ok (.int .u8 0) W := fun _ => by kernel_rfl
    have i2 : ∀ W, (Instr.index 315 (.agg #[.int .u8 b, .int .u8 0, .int .u8 0, .int .u8 0, .int .u8 0, .int .u8 0, .int .u8 0, .int .u8 0]) (.int .i64 2)).run Tryz.prog W = .ok (.int .u8 0) W := fun _ => by kernel_rfl
    have i3 : ∀ W, (Instr.index 315 (.agg #[.int .u8 b, .int .u8 0, .int .u8 0, .int .u8 0, .int .u8 0, .int .u8 0, .int .u8 0, .int .u8 0]) (.int .i64 3)).run Tryz.prog W = .ok (.int .u8 0) W := fun _ => by kernel_rfl
    have i4 : ∀ W, (Instr.index 315 (.agg #[.int .u8 b, .int .u8 0, .int .u8 0, .int .u8 0, .int .u8 0, .int .u8 0, .int .u8 0, .int .u8 0]) (.int .i64 4)).run Tryz.prog W = .ok (.int .u8 0) W := fun _ => by kernel_rfl
    have i5 : ∀ W, (Instr.index 315 (.agg #[.int .u8 b, .int .u8 0, .int .u8 0, .int .u8 0, .int .u8 0, .int .u8 0, .int .u8 0, .int .u8 0]) (.int .i64 5)).run Tryz.prog W = .ok (.int .u8 0) W := fun _ => by kernel_rfl
    have i6 : ∀ W, (Instr.index 315 (.agg #[.int .u8 b, .int .u8 0, .int .u8 0, .int .u8 0, .int .u8 0, .int .u8 0, .int .u8 0, .int .u8 0]) (.int .i64 6)).run Tryz.prog W = .ok (.int .u8 0) W := fun _ => by kernel_rfl
    have i7 : ∀ W, (Instr.index 315 (.agg #[.int .u8 b, .int .u8 0, .int .u8 0, .int .u8 0, .int .u8 0, .int .u8 0, .int .u8 0, .int .u8 0]) (.int .i64 7)).run Tryz.prog W = .ok (.int .u8 0) W := fun _ => by kernel_rfl
    go_enter Tryz.func252, Tryz.ntmps252
    go_wp2_with fail
    go_region_law (first
      | (go_simp; go_at_call 256; (with_reducible refine (T.out _ h1).mono ?_); rintro e w2 ⟨b', off, rfl, hcl, hrd, hgr⟩; have p1 := p0.grown hgr hne; have hcp := copy1 (n := w.heap.size) hcl)
      | (refine step_copy_splice rfl (.tmp 11) (.tmp 16) 99 99 rfl 5 Tryz.underlying99 szB (some ⟨w.heap.size, 0, none⟩) (some ⟨b', off, none⟩) 8 8 1 1 (by simp [Act.eval, Act.put]) (by simp [Act.eval, Act.put]) w.heap.size 0 zero8 315 p1.eq [.int .u8 b] rfl hcp (fit1 b) (one1 b) w.heap.size w2 (Below.refl _ _) (Nat.le_refl _) ?_; intro w4 hg4 hb4))
    all_goals
      have e4 := hg4.out
      rw [splice8] at e4
      haveI : BoxAt w4 w.heap.size _ _ := ⟨e4⟩
      have HR := hide (hrd.below (hb4.mono hle))
      have HG := hide (grown_then_below (grown_trans hB hgr) hb4)
      clear e4 hg4 hb4 hrd hgr hcp hcl p0 p1 T h1 hB
      go_wp2
      refine wp_loop_rounds 9 ?_
      iterate 9 (rw [rounds_succ]; go_wp2)
      go_ret
      exact ⟨rfl, HR.out, HG.out⟩
  · have hc' : bad = true ∨ bs.length < 1 := by
      cases bad
      · right; simp at hc ⊢; exact hc
      · exact .inl rfl
    replace T : Hid (∀ W, Rds W g B bs bad → Calls Tryz.prog 256 #[.pointer (some ⟨g, 0, none⟩), .int .i64 1] W fun e w' => e = .returned (.slice none 0 0) ∧ Rds w' g B bs true ∧ W.grownBy w' (some g)) := hide (fun W hW => (T.out W hW).mono (by
      rintro e w' (⟨h1, h2, _⟩ | ⟨_, h2⟩)
      · exact absurd ⟨h1, h2⟩ hc
      · exact h2))
    have e0 : (rU8 (bs, bad)) = (0, (bs, true)) := by
      rcases hc' with rfl | hc'
      · cases bs <;> rfl
      · have : bs = [] := List.eq_nil_of_length_eq_zero (by omega)
        subst this; rfl
    rw [e0]
    have o1 : bits .or .u64 0 0 = 0 := by decide
    clear hc hc' HOK e0
    have i0 : ∀ W, (Instr.index 315 (.agg #[.int .u8 0, .int .u8 0, .int .u8 0, .int .u8 0, .int .u8 0, .int .u8 0, .int .u8 0, .int .u8 0]) (.int .i64 0)).run Tryz.prog W = .ok (.int .u8 0) W := fun _ => by kernel_rfl
    have i1 : ∀ W, (Instr.index 315 (.agg #[.int .u8 0, .int .u8 0, .int .u8 0, .int .u8 0, .int .u8 0, .int .u8 0, .int .u8 0, .int .u8 0]) (.int .i64 1)).run Tryz.prog W = .ok (.int .u8 0) W := fun _ => by kernel_rfl
    have i2 : ∀ W, (Instr.index 315 (.agg #[.int .u8 0, .int .u8 0, .int .u8 0, .int .u8 0, .int .u8 0, .int .u8 0, .int .u8 0, .int .u8 0]) (.int .i64 2)).run Tryz.prog W = .ok (.int .u8 0) W := fun _ => by kernel_rfl
    have i3 : ∀ W, (Instr.index 315 (.agg #[.int .u8 0, .int .u8 0, .int .u8 0, .int .u8 0, .int .u8 0, .int .u8 0, .int .u8 0, .int .u8 0]) (.int .i64 3)).run Tryz.prog W = .ok (.int .u8 0) W := fun _ => by kernel_rfl
    have i4 : ∀ W, (Instr.index 315 (.agg #[.int .u8 0, .int .u8 0, .int .u8 0, .int .u8 0, .int .u8 0, .int .u8 0, .int .u8 0, .int .u8 0]) (.int .i64 4)).run Tryz.prog W = .ok (.int .u8 0) W := fun _ => by kernel_rfl
    have i5 : ∀ W, (Instr.index 315 (.agg #[.int .u8 0, .int .u8 0, .int .u8 0, .int .u8 0, .int .u8 0, .int .u8 0, .int .u8 0, .int .u8 0]) (.int .i64 5)).run Tryz.prog W = .ok (.int .u8 0) W := fun _ => by kernel_rfl
    have i6 : ∀ W, (Instr.index 315 (.agg #[.int .u8 0, .int .u8 0, .int .u8 0, .int .u8 0, .int .u8 0, .int .u8 0, .int .u8 0, .int .u8 0]) (.int .i64 6)).run Tryz.prog W = .ok (.int .u8 0) W := fun _ => by kernel_rfl
    have i7 : ∀ W, (Instr.index 315 (.agg #[.int .u8 0, .int .u8 0, .int .u8 0, .int .u8 0, .int .u8 0, .int .u8 0, .int .u8 0, .int .u8 0]) (.int .i64 7)).run Tryz.prog W = .ok (.int .u8 0) W := fun _ => by kernel_rfl
    go_enter Tryz.func252, Tryz.ntmps252
    go_wp2_with fail
    go_region_law (first
      | (go_simp; go_at_call 256; (with_reducible refine (T.out _ h1).mono ?_); rintro e w2 ⟨rfl, hrd, hgr⟩; have p1 := p0.grown hgr hne)
      | (refine step_copy_splice rfl (.tmp 11) (.tmp 16) 99 99 rfl 5 Tryz.underlying99 szB (some ⟨w.heap.size, 0, none⟩) none 8 8 0 0 (by simp [Act.eval, Act.put]) (by simp [Act.eval, Act.put]) w.heap.size 0 zero8 315 p1.eq [] rfl copy0 fit0 one0 w.heap.size w2 (Below.refl _ _) (Nat.le_refl _) ?_; intro w4 hg4 hb4))
    all_goals
      have e4 := hg4.out
      rw [splice80] at e4
      haveI : BoxAt w4 w.heap.size _ _ := ⟨e4⟩
      have HR := hide (hrd.below (hb4.mono hle))
      have HG := hide (grown_then_below (grown_trans hB hgr) hb4)
      clear e4 hg4 hb4 hrd hgr p0 p1 T h1 hB
      go_wp2
      refine wp_loop_rounds 9 ?_
      iterate 9 (rw [rounds_succ]; go_wp2)
      go_ret
      exact ⟨rfl, HR.out, HG.out⟩
set_option maxHeartbeats 400000 in
theorem u8R_s (g B : Nat) (s : RS) (w : World) (h : Rds w g B s.1 s.2) :
    Calls Tryz.prog 189 #[.pointer (some ⟨g, 0, none⟩)] w (RetR g B w (.int .u8 (rU8 s).1) (rU8 s).2) := by
  have T := hide (wideR_s g B s w h)
  have hr := rU8_range h.ok
  obtain ⟨hr0, hr1⟩ := hr
  clear h
  generalize rU8 s = r at T hr0 hr1 ⊢
  obtain ⟨x, s'⟩ := r
  simp only at T hr0 hr1 ⊢
  have hx : x % 256 = x := by omega
  go_enter Tryz.func189, Tryz.ntmps189
  go_wp2_with fail
  (with_reducible refine T.out.mono ?_)
  rintro e w2 ⟨rfl, hR, hG⟩
  have HR := hide hR
  have HG := hide hG
  clear hR hG
  go_wp2
  go_ret
  exact ⟨rfl, HR.out, HG.out⟩
set_option maxHeartbeats 400000 in
theorem uintR_s (g B : Nat) (s : RS) (w : World) (h : Rds w g B s.1 s.2) (hn : s.1.length ≤ 1000000) :
    Calls Tryz.prog 193 #[.pointer (some ⟨g, 0, none⟩)] w (RetR g B w (.int .u64 (rUint s).1) (rUint s).2) := by
  have T := hide (number_s g B s.1 s.2 w h hn)
  have hle := numV_le s.1 s.2
  have TT := hide (fun m hm => take_s g B s.1 s.2 m w h hm)
  have hbad := numV_bad s.1 s.2
  obtain ⟨A, c, h⟩ := h
  haveI := h.boxAt
  have HF := hide h.fail
  clear h
  unfold rUint
  generalize numV s.1 s.2 = nv at T hle hbad ⊢
  obtain ⟨x, n⟩ := nv
  obtain ⟨bs, bad⟩ := s
  simp only at T hle hbad ⊢ hn HF TT
  by_cases h0 : n = 0
  · subst h0
    rw [if_pos rfl]
    go_enter Tryz.func193, Tryz.ntmps193
    go_wp2_with fail
    (with_reducible refine T.out.mono ?_)
    rintro e w2 ⟨rfl, rfl⟩
    go_wp2
    go_ret
    exact ⟨rfl, ⟨A, c, HF.out⟩, grown_setCell _ _ _ _⟩
  · rw [if_neg h0]
    have hb0 : ((n : Int) == 0) = false := by simp [h0]
    have hbf : bad = false := by
      cases bad
      · rfl
      · exact absurd (hbad rfl) h0
    subst hbf
    have TT' := hide (TT.out n (by omega))
    clear h0 HF hbad TT
    go_enter Tryz.func193, Tryz.ntmps193
    go_wp2_with fail
    (with_reducible refine T.out.mono ?_)
    rintro e w2 ⟨rfl, rfl⟩
    go_wp2_with fail
    (with_reducible refine TT'.out.mono ?_)
    rintro e w3 (⟨_, _, A', rfl, _, hR, hG, _⟩ | ⟨hh, _⟩)
    · have HR := hide hR
      have HG := hide hG
      clear hR hG T TT'
      go_wp2
      go_ret
      exact ⟨rfl, HR.out, HG.out⟩
    · simp at hh; omega
set_option maxHeartbeats 400000 in
theorem endR_s (g B : Nat) (s : RS) (w : World) (h : Rds w g B s.1 s.2) (hn : s.1.length ≤ 1000000) :
    Calls Tryz.prog 200 #[.pointer (some ⟨g, 0, none⟩)] w (RetR g B w (.int .i64 (if s.2 = true ∨ 0 < s.1.length then 3 else 0)) (s.1, s.2 || decide (0 < s.1.length))) := by
  obtain ⟨bs, bad⟩ := s
  have T1 := hide (left_s g B bs bad w h)
  have T2 := hide (fail_s g B bs bad w h)
  have T3 := hide (err_s g B bs bad w h)
  have T4 := hide (fun W (hW : Rds W g B bs true) => err_s g B bs true W hW)
  have HR := hide h
  clear h
  simp only at hn ⊢
  by_cases h0 : 0 < bs.length
  · rw [if_pos (.inr h0), decide_eq_true h0, Bool.or_true]
    have hd : decide ((0 : Int) < (bs.length : Int)) = true := by simp; omega
    go_enter Tryz.func200, Tryz.ntmps200
    go_wp2_with fail
    (with_reducible refine T1.out.mono ?_)
    rintro e w2 ⟨rfl, rfl⟩
    go_wp2_with fail
    (with_reducible refine T2.out.mono ?_)
    rintro e w2 ⟨rfl, hR, hG⟩
    have T5 := hide (T4.out w2 hR)
    replace HR := hide hR
    have HG := hide hG
    clear hR hG T4
    go_wp2_with fail
    (with_reducible refine T5.out.mono ?_)
    rintro e w3 ⟨rfl, rfl⟩
    go_wp2
    go_ret
    exact ⟨rfl, HR.out, HG.out⟩
  · have hd : decide ((0 : Int) < (bs.length : Int)) = false := decide_eq_false (by omega)
    rw [decide_eq_false h0, Bool.or_false]
    clear T2 T4
    cases bad
    · rw [if_neg (fun h => h.elim (fun h => Bool.noConfusion h) h0)]
      go_enter Tryz.func200, Tryz.ntmps200
      go_wp2_with fail
      (with_reducible refine T1.out.mono ?_)
      rintro e w2 ⟨rfl, rfl⟩
      go_wp2_with fail
      (with_reducible refine T3.out.mono ?_)
      rintro e w2 ⟨rfl, rfl⟩
      go_wp2
      go_ret
      exact ⟨rfl, HR.out, grown_below (Below.refl _ _)⟩
    · rw [if_pos (.inl rfl)]
      go_enter Tryz.func200, Tryz.ntmps200
      go_wp2_with fail
      (with_reducible refine T1.out.mono ?_)
      rintro e w2 ⟨rfl, rfl⟩
      go_wp2_with fail
      (with_reducible refine T3.out.mono ?_)
      rintro e w2 ⟨rfl, rfl⟩
      go_wp2
      go_ret
      exact ⟨rfl, HR.out, grown_below (Below.refl _ _)⟩
end Go.Proofs.YtfddiklhjkjipaaGreat

namespace Go.Proofs.YtfddiklhjkjipaaGreat
set_option linter.unusedSimpArgs false
set_option linter.unusedVariables false
set_option linter.unusedSectionVars false
open Go.RowKit

/-! ### blocks are counted one by one -/
theorem size_gwS (w : World) (d : Nat) (os : Array Obj) : (gw w d os).heap.size = w.heap.size + os.size := by simp [gw]
@[go_sem] theorem size_gw_sum (w : World) (d : Nat) (os : Array Obj) : (gw w d os).heap.size = w.heap.size + os.size := size_gwS w d os
instance (priority := high) Sz.gwS (w : World) (n d : Nat) (os : Array Obj) [h : Sz w n] : Sz (gw w d os) (n + os.size) := ⟨by rw [size_gwS, h.eq]⟩

/-- blocks that are laid over whatever world -/
def Lays (f : World → World) : Prop := ∃ l : Array Obj, ∀ W : World, (f W).heap = W.heap ++ l ∧ (f W).os = W.os ∧ (f W).tape = W.tape ∧ (f W).output = W.output
theorem heap_al (w : World) (o : Obj) : (w.alloc o).heap = w.heap.push o := rfl
theorem Lays.id : Lays fun W => W := ⟨#[], fun W => ⟨by simp, rfl, rfl, rfl⟩⟩
theorem Lays.alloc {f : World → World} (h : Lays f) (o : Obj) : Lays fun W => (f W).alloc o := by
  obtain ⟨l, h⟩ := h
  refine ⟨l.push o, fun W => ?_⟩
  obtain ⟨h1, h2, h3, h4⟩ := h W
  exact ⟨by rw [heap_al, h1]; simp, h2, h3, h4⟩
theorem Lays.gw {f : World → World} (h : Lays f) (d : Nat) (os : Array Obj) : Lays fun W => gw (f W) d os := by
  obtain ⟨l, h⟩ := h
  refine ⟨l ++ os, fun W => ?_⟩
  obtain ⟨h1, h2, h3, h4⟩ := h W
  exact ⟨by simp [Go.Proofs.YtfddiklhjkjipaaGreat.gw, h1], h2, h3, h4⟩
theorem gw_ext {W w : World} (h1 : w.os = W.os) (h2 : w.tape = W.tape) (h3 : w.output = W.output) (os : Array Obj) (h4 : w.heap = W.heap ++ os) : w = gw W w.drawn os := by
  obtain ⟨hp, tp, dr, o, out⟩ := w
  simp only at h1 h2 h3 h4
  subst h1 h2 h3 h4
  rfl
/-- a step that writes block g of the lower world -/
theorem rst {W w' : World} {g : Nat} (f : World → World) (hf : Lays f) (h : (f W).grownBy w' (some g)) (hg : g < W.heap.size) :
    ∃ (W' : World) (p : GW), W'.heap.size = W.heap.size ∧ W.grownBy W' (some g) ∧ w' = gw (f W') p.d p.os ∧ (∀ k, k < W.heap.size → W'.heap[k]? = w'.heap[k]?) := by
  obtain ⟨l, hf⟩ := hf
  obtain ⟨e1, e2, e3, e4⟩ := hf W
  have hsz : W.heap.size + l.size ≤ w'.heap.size := by
    have := h.size; rw [e1] at this; simpa using this
  have hbl : ∀ k, k < W.heap.size + l.size → k ≠ g → w'.heap[k]? = (W.heap ++ l)[k]? := by
    intro k hk hkg
    rw [h.block k (by rw [e1]; simpa using hk) (fun e => hkg (by injection e)), e1]
  let W' : World := { W with heap := w'.heap.extract 0 W.heap.size }
  have hs' : W'.heap.size = W.heap.size := by simp [W']; omega
  have hk' : ∀ k, k < W.heap.size → W'.heap[k]? = w'.heap[k]? := by
    intro k hk
    show (w'.heap.extract 0 W.heap.size)[k]? = _
    rw [Array.getElem?_extract, if_pos (by omega)]; simp
  obtain ⟨f1, f2, f3, f4⟩ := hf W'
  refine ⟨W', ⟨w'.drawn, w'.heap.extract (W.heap.size + l.size) w'.heap.size⟩, hs', ⟨rfl, rfl, rfl, by omega, fun k hk hkg => ?_⟩, ?_, hk'⟩
  · rw [hk' k hk, hbl k (by omega) (fun e => hkg (by rw [e])), Array.getElem?_append_left hk]
  · refine gw_ext ?_ ?_ ?_ _ ?_
    · rw [f2]; exact h.os.trans e2
    · rw [f3]; exact h.tape.trans e3
    · rw [f4]; exact h.output.trans e4
    · rw [f1]
      apply Array.ext_getElem?
      intro k
      rcases Nat.lt_or_ge k W.heap.size with h1 | h1
      · rw [Array.getElem?_append_left (by simp [hs']; omega), Array.getElem?_append_left (by omega), hk' k h1]
      · rcases Nat.lt_or_ge k (W.heap.size + l.size) with h2 | h2
        · rw [Array.getElem?_append_left (by simp [hs']; omega), Array.getElem?_append_right (by omega), hbl k h2 (by omega), Array.getElem?_append_right h1, hs']
        · rw [Array.getElem?_append_right (by simp [hs']; omega), Array.getElem?_extract]
          simp only [Array.size_append, hs']
          rcases Nat.lt_or_ge k w'.heap.size with h3 | h3
          · rw [if_pos (by omega)]; congr 1; omega
          · rw [if_neg (by omega), Array.getElem?_eq_none h3]
theorem Rd.keepB {w w' : World} {g B c : Nat} {A : Option Addr} {bs : List Int} {bad : Bool} (h : Rd w g B A c bs bad) (hb : ∀ k, k < B → w'.heap[k]? = w.heap[k]?) (hs : B ≤ w'.heap.size) : Rd w' g B A c bs bad :=
  ⟨by rw [hb g h.top]; exact h.box, fun hn => by
    obtain ⟨b, off, e, h1, h2, h3⟩ := h.data hn
    exact ⟨b, off, e, h1, h2, fun j u hu => (World.cell?_of_block (a := ⟨b, off + j, none⟩) (hb b h1)).trans (h3 j u hu)⟩, h.cap, h.max, h.ok, h.top, hs⟩
theorem Rds.keepB {w w' : World} {g B : Nat} {bs : List Int} {bad : Bool} (h : Rds w g B bs bad) (hb : ∀ k, k < B → w'.heap[k]? = w.heap[k]?) (hs : B ≤ w'.heap.size) : Rds w' g B bs bad := by
  obtain ⟨A, c, h⟩ := h; exact ⟨A, c, h.keepB hb hs⟩
/-- the whole of a reader's step: the lower world, what it has read -/
theorem rstF {W w' : World} {g B : Nat} {s : RS} (f : World → World) (hf : Lays f) (h : (f W).grownBy w' (some g)) (hr : Rds w' g B s.1 s.2) (hB : B ≤ W.heap.size) :
    ∃ (W' : World) (p : GW), W'.heap.size = W.heap.size ∧ W.grownBy W' (some g) ∧ w' = gw (f W') p.d p.os ∧ Rds W' g B s.1 s.2 := by
  have hg : g < W.heap.size := Nat.lt_of_lt_of_le hr.top hB
  obtain ⟨W', p, h1, h2, h3, h4⟩ := rst f hf h hg
  exact ⟨W', p, h1, h2, h3, hr.keepB (fun k hk => h4 k (by omega)) (by omega)⟩
theorem grown_gw {W W' w : World} {g : Nat} (h : W.grownBy W' (some g)) (k : Below W'.heap.size W' w) : W.grownBy w (some g) := grown_trans h (grown_below k)
theorem grown_refl (W : World) (r : Option Nat) : W.grownBy W r := grown_below (Below.refl _ _)

theorem failR_s (g B : Nat) (s : RS) (w : World) (h : Rds w g B s.1 s.2) : Calls Tryz.prog 254 #[.pointer (some ⟨g, 0, none⟩)] w (RetR g B w (.tuple #[]) (s.1, true)) := fail_s g B s.1 s.2 w h
/-- a life is read -/
def rGet (s : RS) : (Int × Int) × RS :=
  if (rUint (rU8 s).2).2.2 = true ∨ mayB (rU8 s).1 (rUint (rU8 s).2).1 = false then ((0, 0), ((rUint (rU8 s).2).2.1, true)) else (((rU8 s).1, (rUint (rU8 s).2).1), (rUint (rU8 s).2).2)
theorem rU8_len (s : RS) : (rU8 s).2.1.length ≤ s.1.length := by
  obtain ⟨bs, bad⟩ := s
  cases bs with
  | nil => simp [rU8]
  | cons b bs => cases bad <;> simp [rU8]
theorem rUint_len (s : RS) : (rUint s).2.1.length ≤ s.1.length := by
  unfold rUint
  split <;> simp
theorem rGet_len (s : RS) : (rGet s).2.1.length ≤ s.1.length := by
  have h1 := rU8_len s
  have h2 := rUint_len (rU8 s).2
  unfold rGet
  split <;> (simp only; omega)
set_option maxHeartbeats 1000000 in
theorem getP_s (g B : Nat) (s : RS) (w : World) (h : Rds w g B s.1 s.2) (hn : s.1.length ≤ 1000000) :
    Calls Tryz.prog 191 #[.pointer (some ⟨g, 0, none⟩)] w (RetR g B w (.agg #[.int .i64 (rGet s).1.1, .int .u64 (rGet s).1.2]) (rGet s).2) := by
  have hle := h.le
  have htop := h.top
  have T1 := hide (u8R_s g B s _ (h.step (below_alloc w (bx 0 0))))
  have hr := rU8_range h.ok
  have hl1 := rU8_len s
  have T2 := hide (fun W (hW : Rds W g B (rU8 s).2.1 (rU8 s).2.2) => uintR_s g B (rU8 s).2 W hW (by omega))
  have hGet : rGet s = if (rUint (rU8 s).2).2.2 = true ∨ mayB (rU8 s).1 (rUint (rU8 s).2).1 = false then ((0, 0), ((rUint (rU8 s).2).2.1, true)) else (((rU8 s).1, (rUint (rU8 s).2).1), (rUint (rU8 s).2).2) := rfl
  rw [hGet]
  clear hGet hl1 h
  generalize rU8 s = r1 at T1 T2 hr ⊢
  obtain ⟨x1, s1⟩ := r1
  simp only at T1 T2 hr ⊢
  generalize rUint s1 = r2 at T2 ⊢
  obtain ⟨x2, bs2, bad2⟩ := r2
  simp only at T2 ⊢
  have T3 := hide (fun W (hW : Rds W g B bs2 bad2) => err_s g B bs2 bad2 W hW)
  have T4 := hide (fun W => may_any x1 x2 W)
  have T5 := hide (fun W (hW : Rds W g B bs2 bad2) => failR_s g B (bs2, bad2) W hW)
  obtain ⟨hr0, hr1⟩ := hr
  have key : bad2 = true ∨ (bad2 = false ∧ mayB x1 x2 = false) ∨ (bad2 = false ∧ mayB x1 x2 = true) := by
    cases bad2 <;> cases mayB x1 x2 <;> simp
  rcases key with rfl | ⟨rfl, hm⟩ | ⟨rfl, hm⟩
  · rw [if_pos (.inl rfl)]
    simp only [if_true] at T3
    go_enter Tryz.func191, Tryz.ntmps191
    go_wp2_with fail
    (with_reducible refine T1.out.mono ?_)
    rintro e wx ⟨rfl, hR, hG⟩
    obtain ⟨W1, ⟨d1, os1⟩, hs1, hg1, rfl, hR1⟩ := rstF (W := w) (fun W => W.alloc (bx 0 0)) (by repeat (first | exact Lays.id | refine Lays.alloc ?_ _ | refine Lays.gw ?_ _ _)) hG hR (by omega)
    dsimp only
    haveI : Sz W1 w.heap.size := ⟨hs1⟩
    clear hR hG
    go_wp2_with fail
    (with_reducible refine (T2.out _ (hR1.step (by repeat (first | exact Below.refl _ _ | assumption | refine bel_al ?_ _ | refine bel_gw ?_ _ _ | refine bel_drew ?_ | refine bel_drewN ?_ _)))).mono ?_)
    rintro e wx ⟨rfl, hR, hG⟩
    obtain ⟨W2, ⟨d2, os2⟩, hs2, hg2, rfl, hR2⟩ := rstF (W := W1) (fun W => gw (W.alloc (bx 0 0)) d1 os1) (by repeat (first | exact Lays.id | refine Lays.alloc ?_ _ | refine Lays.gw ?_ _ _)) hG hR (by omega)
    dsimp only
    replace hg2 := grown_trans hg1 hg2
    replace hs2 := hs2.trans hs1
    haveI : Sz W2 w.heap.size := ⟨hs2⟩
    clear hR hG hR1 hs1 hg1
    go_wp2_with fail
    (with_reducible refine (T3.out _ (hR2.step (by repeat (first | exact Below.refl _ _ | assumption | refine bel_al ?_ _ | refine bel_gw ?_ _ _ | refine bel_drew ?_ | refine bel_drewN ?_ _)))).mono ?_)
    rintro e w3 ⟨rfl, rfl⟩
    go_wp2_with fail
    (with_reducible refine (T5.out _ (hR2.step (by repeat (first | exact Below.refl _ _ | assumption | refine bel_al ?_ _ | refine bel_gw ?_ _ _ | refine bel_drew ?_ | refine bel_drewN ?_ _)))).mono ?_)
    rintro e wx ⟨rfl, hR, hG⟩
    obtain ⟨W3, ⟨d3, os3⟩, hs3, hg3, rfl, hR3⟩ := rstF (W := W2) (fun W => (gw (gw (W.alloc (bx 0 0)) d1 os1) d2 os2).alloc (bx x1 x2)) (by repeat (first | exact Lays.id | refine Lays.alloc ?_ _ | refine Lays.gw ?_ _ _)) hG hR (by omega)
    dsimp only
    replace hg3 := grown_trans hg2 hg3
    replace hs3 := hs3.trans hs2
    haveI : Sz W3 w.heap.size := ⟨hs3⟩
    clear hR hG hR2 hs2 hg2
    go_wp2
    refine bodyPost_ret (v := .agg #[.int .i64 0, .int .u64 0]) (by simp [results, Tryz.results191, go_sem]) rfl ?_
    exact ⟨rfl, hR3.step (by repeat (first | exact Below.refl _ _ | assumption | refine bel_al ?_ _ | refine bel_gw ?_ _ _ | refine bel_drew ?_ | refine bel_drewN ?_ _)), grown_gw hg3 (by repeat (first | exact Below.refl _ _ | assumption | refine bel_al ?_ _ | refine bel_gw ?_ _ _ | refine bel_drew ?_ | refine bel_drewN ?_ _))⟩
  · rw [if_pos (.inr hm)]
    rw [hm] at T4
    simp only [Bool.false_eq_true, if_false] at T3
    clear hm
    go_enter Tryz.func191, Tryz.ntmps191
    go_wp2_with fail
    (with_reducible refine T1.out.mono ?_)
    rintro e wx ⟨rfl, hR, hG⟩
    obtain ⟨W1, ⟨d1, os1⟩, hs1, hg1, rfl, hR1⟩ := rstF (W := w) (fun W => W.alloc (bx 0 0)) (by repeat (first | exact Lays.id | refine Lays.alloc ?_ _ | refine Lays.gw ?_ _ _)) hG hR (by omega)
    dsimp only
    haveI : Sz W1 w.heap.size := ⟨hs1⟩
    clear hR hG
    go_wp2_with fail
    (with_reducible refine (T2.out _ (hR1.step (by repeat (first | exact Below.refl _ _ | assumption | refine bel_al ?_ _ | refine bel_gw ?_ _ _ | refine bel_drew ?_ | refine bel_drewN ?_ _)))).mono ?_)
    rintro e wx ⟨rfl, hR, hG⟩
    obtain ⟨W2, ⟨d2, os2⟩, hs2, hg2, rfl, hR2⟩ := rstF (W := W1) (fun W => gw (W.alloc (bx 0 0)) d1 os1) (by repeat (first | exact Lays.id | refine Lays.alloc ?_ _ | refine Lays.gw ?_ _ _)) hG hR (by omega)
    dsimp only
    replace hg2 := grown_trans hg1 hg2
    replace hs2 := hs2.trans hs1
    haveI : Sz W2 w.heap.size := ⟨hs2⟩
    clear hR hG hR1 hs1 hg1
    go_wp2_with fail
    (with_reducible refine (T3.out _ (hR2.step (by repeat (first | exact Below.refl _ _ | assumption | refine bel_al ?_ _ | refine bel_gw ?_ _ _ | refine bel_drew ?_ | refine bel_drewN ?_ _)))).mono ?_)
    rintro e w3 ⟨rfl, rfl⟩
    go_wp2_with fail
    (with_reducible refine (T4.out _).mono ?_)
    rintro e w3 ⟨rfl, rfl⟩
    go_wp2_with fail
    (with_reducible refine (T5.out _ (hR2.step (by repeat (first | exact Below.refl _ _ | assumption | refine bel_al ?_ _ | refine bel_gw ?_ _ _ | refine bel_drew ?_ | refine bel_drewN ?_ _)))).mono ?_)
    rintro e wx ⟨rfl, hR, hG⟩
    obtain ⟨W3, ⟨d3, os3⟩, hs3, hg3, rfl, hR3⟩ := rstF (W := W2) (fun W => ((gw (gw (W.alloc (bx 0 0)) d1 os1) d2 os2).alloc (bx x1 x2)).alloc (bx x1 x2)) (by repeat (first | exact Lays.id | refine Lays.alloc ?_ _ | refine Lays.gw ?_ _ _)) hG hR (by omega)
    dsimp only
    replace hg3 := grown_trans hg2 hg3
    replace hs3 := hs3.trans hs2
    haveI : Sz W3 w.heap.size := ⟨hs3⟩
    clear hR hG hR2 hs2 hg2
    go_wp2
    refine bodyPost_ret (v := .agg #[.int .i64 0, .int .u64 0]) (by simp [results, Tryz.results191, go_sem]) rfl ?_
    exact ⟨rfl, hR3.step (by repeat (first | exact Below.refl _ _ | assumption | refine bel_al ?_ _ | refine bel_gw ?_ _ _ | refine bel_drew ?_ | refine bel_drewN ?_ _)), grown_gw hg3 (by repeat (first | exact Below.refl _ _ | assumption | refine bel_al ?_ _ | refine bel_gw ?_ _ _ | refine bel_drew ?_ | refine bel_drewN ?_ _))⟩
  · rw [if_neg (by rw [hm]; simp)]
    rw [hm] at T4
    simp only [Bool.false_eq_true, if_false] at T3
    clear hm
    go_enter Tryz.func191, Tryz.ntmps191
    go_wp2_with fail
    (with_reducible refine T1.out.mono ?_)
    rintro e wx ⟨rfl, hR, hG⟩
    obtain ⟨W1, ⟨d1, os1⟩, hs1, hg1, rfl, hR1⟩ := rstF (W := w) (fun W => W.alloc (bx 0 0)) (by repeat (first | exact Lays.id | refine Lays.alloc ?_ _ | refine Lays.gw ?_ _ _)) hG hR (by omega)
    dsimp only
    haveI : Sz W1 w.heap.size := ⟨hs1⟩
    clear hR hG
    go_wp2_with fail
    (with_reducible refine (T2.out _ (hR1.step (by repeat (first | exact Below.refl _ _ | assumption | refine bel_al ?_ _ | refine bel_gw ?_ _ _ | refine bel_drew ?_ | refine bel_drewN ?_ _)))).mono ?_)
    rintro e wx ⟨rfl, hR, hG⟩
    obtain ⟨W2, ⟨d2, os2⟩, hs2, hg2, rfl, hR2⟩ := rstF (W := W1) (fun W => gw (W.alloc (bx 0 0)) d1 os1) (by repeat (first | exact Lays.id | refine Lays.alloc ?_ _ | refine Lays.gw ?_ _ _)) hG hR (by omega)
    dsimp only
    replace hg2 := grown_trans hg1 hg2
    replace hs2 := hs2.trans hs1
    haveI : Sz W2 w.heap.size := ⟨hs2⟩
    clear hR hG hR1 hs1 hg1
    go_wp2_with fail
    (with_reducible refine (T3.out _ (hR2.step (by repeat (first | exact Below.refl _ _ | assumption | refine bel_al ?_ _ | refine bel_gw ?_ _ _ | refine bel_drew ?_ | refine bel_drewN ?_ _)))).mono ?_)
    rintro e w3 ⟨rfl, rfl⟩
    go_wp2_with fail
    (with_reducible refine (T4.out _).mono ?_)
    rintro e w3 ⟨rfl, rfl⟩
    go_wp2
    refine bodyPost_ret (v := .agg #[.int .i64 x1, .int .u64 x2]) (by simp [results, Tryz.results191, go_sem]) rfl ?_
    exact ⟨rfl, hR2.step (by repeat (first | exact Below.refl _ _ | assumption | refine bel_al ?_ _ | refine bel_gw ?_ _ _ | refine bel_drew ?_ | refine bel_drewN ?_ _)), grown_gw hg2 (by repeat (first | exact Below.refl _ _ | assumption | refine bel_al ?_ _ | refine bel_gw ?_ _ _ | refine bel_drew ?_ | refine bel_drewN ?_ _))⟩
end Go.Proofs.YtfddiklhjkjipaaGreat
