/-
  Contracts: code.NewReader, the Reader's take, number, wide (one byte), U8, Uint, Fail, Err, Left, End.
-/
import Derived.Test.YtniogmefbjfoaaaGreatTc
import Derived.StillTailTactics
import Derived.Laws.CopyOwn
import Derived.Test.YtniogmefbjfoaaaGreatRow
namespace Go.Proofs.YtniogmefbjfoaaaGreat
set_option linter.unusedSimpArgs false
set_option linter.unusedVariables false
set_option linter.unusedSectionVars false
open Go.RowKit

section
variable {w w' : World} {g B c : Nat} {A : Option Addr} {bs : List Int} {bad : Bool}
theorem setCell_block (w : World) (g i : Nat) (v : Value) (cs : Array Value) (t : TypeId) (h : w.heap[g]? = some (.cells cs t (0, 0))) : (w.setCell ⟨g, i, none⟩ v).heap[g]? = some (.cells (cs.setIfInBounds i v) t (0, 0)) := by
  simp [World.setCell, Array.getElem?_modify, h]
theorem grown_setCell (w : World) (g i : Nat) (v : Value) : w.grownBy (w.setCell ⟨g, i, none⟩ v) (some g) :=
  ⟨rfl, rfl, rfl, by simp [World.setCell], fun k hk hne => Below.heap_setCell _ _ _ _ (fun e => hne (by rw [e]))⟩
theorem grown_trans {a b c : World} {r : Option Nat} (h : a.grownBy b r) (k : b.grownBy c r) : a.grownBy c r :=
  ⟨k.os.trans h.os, k.tape.trans h.tape, k.output.trans h.output, Nat.le_trans h.size k.size, fun i hi hr => (k.block i (Nat.lt_of_lt_of_le hi h.size) hr).trans (h.block i hi hr)⟩
theorem grown_below {a b : World} {r : Option Nat} (h : Below a.heap.size a b) : a.grownBy b r := ⟨h.os, h.tape, h.output, h.size, fun i hi _ => h.block i hi⟩
end
theorem map_add {A : Option Addr} {n : Nat} (b off : Nat) (h : A = some ⟨b, off, none⟩) : Option.map (fun x => x.add n) A = some ⟨b, off + n, none⟩ := by
  subst h
  simp only [Option.map_some, Addr.add]
  split
  · rename_i h0; rw [h0]; rfl
  · rfl
theorem u8and127 {c : Int} (h₀ : 0 ≤ c) (h₁ : c < 256) : bits .and .u8 c 127 = c % 128 := bits_mask .u8 8 (by decide) wraps_u8 7 (by decide) c h₀ h₁
theorem orShift {X y : Int} {k : Nat} (hk : k ≤ 9) (h0 : 0 ≤ X) (h1 : X < 128 ^ k) (hy : 0 ≤ y) (hy2 : y < 128) (hy9 : k = 9 → y ≤ 1) : bits .or .u64 X (y * 128 ^ k) = X + y * 128 ^ k := by
  have e : (128 : Int) ^ k = 2 ^ (7 * k) := by rw [Int.pow_mul]; rfl
  have hle : y * 128 ^ k < 2 ^ 64 := by
    rcases Nat.lt_or_ge k 9 with h9 | h9
    · have : (128 : Int) ^ k ≤ 128 ^ 8 := by
        have e : (128 : Nat) ^ k ≤ 128 ^ 8 := Nat.pow_le_pow_right (by omega) (by omega)
        exact_mod_cast e
      have h3 : y * 128 ^ k ≤ 127 * 128 ^ 8 := Int.mul_le_mul (by omega) this (Int.pow_nonneg (by omega)) (by omega)
      have : (127 : Int) * 128 ^ 8 < 2 ^ 64 := by decide
      omega
    · obtain rfl : k = 9 := by omega
      have := hy9 rfl
      have h3 : y * (128 : Int) ^ 9 ≤ 1 * 128 ^ 9 := Int.mul_le_mul_of_nonneg_right this (by decide)
      have : (1 : Int) * 128 ^ 9 < 2 ^ 64 := by decide
      omega
  have hX : X < 2 ^ 64 := by
    have : (128 : Int) ^ k ≤ 128 ^ 9 := by
      have e : (128 : Nat) ^ k ≤ 128 ^ 9 := Nat.pow_le_pow_right (by omega) hk
      exact_mod_cast e
    have h3 : (128 : Int) ^ 9 < 2 ^ 64 := by decide
    omega
  have hcomm : bits .or .u64 X (y * 128 ^ k) = bits .or .u64 (y * 128 ^ k) X := by
    obtain ⟨a, rfl⟩ := Int.eq_ofNat_of_zero_le h0
    have hp : (0 : Int) ≤ 128 ^ k := Int.pow_nonneg (by omega)
    obtain ⟨b, hb⟩ := Int.eq_ofNat_of_zero_le (Int.mul_nonneg hy hp)
    rw [hb] at hle ⊢
    have ha : a < 2 ^ 64 := by omega
    have hb' : b < 2 ^ 64 := by omega
    have f := fun (n : Int) (h : 0 ≤ n) (h' : n < 2 ^ 64) => IntWalk.u64_in n ⟨by omega, by omega⟩
    rw [(bits_nat .u64 64 (by decide) f a b ha hb').2, (bits_nat .u64 64 (by decide) f b a hb' ha).2, Nat.or_comm]
  rw [hcomm, bits_join .u64 64 (by decide) (fun n h h' => IntWalk.u64_in _ ⟨by omega, by omega⟩) (7 * k) (y * 128 ^ k) X (Int.mul_nonneg hy (Int.pow_nonneg (by omega))) (by rw [e]; exact Int.mul_emod_left _ _) hle h0 (by rw [← e]; exact h1) hX]
  omega
end Go.Proofs.YtniogmefbjfoaaaGreat

namespace Go.Proofs.YtniogmefbjfoaaaGreat
set_option linter.unusedSimpArgs false
set_option linter.unusedVariables false
set_option linter.unusedSectionVars false
open Go.RowKit

/-- the short number at the front of a reader's bytes -/
def numV (bs : List Int) (bad : Bool) : Int × Nat := if bad then (0, 0) else numGo 0 0 bs
theorem numGo_step {bs : List Int} {k : Nat} {X c : Int} (h : bs[k]? = some c) : numGo k X (bs.drop k) = (if k = 9 ∧ 1 < c then (0, 0) else if c < 128 then (if c = 0 ∧ 0 < k then (0, 0) else (X + c % 128 * 128 ^ k, k + 1)) else numGo (k + 1) (X + c % 128 * 128 ^ k) (bs.drop (k + 1))) := by
  obtain ⟨hk, rfl⟩ := List.getElem?_eq_some_iff.1 h
  rw [List.drop_eq_getElem_cons hk, numGo]
theorem pow_next {X c : Int} {k : Nat} (h0 : 0 ≤ X) (h1 : X < 128 ^ k) : 0 ≤ X + c % 128 * 128 ^ k ∧ X + c % 128 * 128 ^ k < 128 ^ (k + 1) := by
  have hp : (0 : Int) ≤ 128 ^ k := Int.pow_nonneg (by omega)
  rw [Int.pow_succ]
  generalize (128 : Int) ^ k = p at h1 hp ⊢
  have hm : 0 ≤ c % 128 * p := Int.mul_nonneg (by omega) hp
  have hm2 : c % 128 * p ≤ 127 * p := Int.mul_le_mul_of_nonneg_right (by omega) hp
  omega
theorem orStep {X x : Int} {k : Nat} (hk : k ≤ 9) (h0 : 0 ≤ X) (h1 : X < 128 ^ k) (h9 : k = 9 → x % 128 ≤ 1) : bits .or .u64 X (IntKind.u64.wrap (x % 128 * 2 ^ (7 * k))) = X + x % 128 * 128 ^ k := by
  have e : (2 : Int) ^ (7 * k) = 128 ^ k := by rw [Int.pow_mul]; rfl
  rw [e]
  have hp : (0 : Int) ≤ 128 ^ k := Int.pow_nonneg (by omega)
  have hle : x % 128 * 128 ^ k < 2 ^ 64 := by
    rcases Nat.lt_or_ge k 9 with h9' | h9'
    · have : (128 : Int) ^ k ≤ 128 ^ 8 := by
        have e : (128 : Nat) ^ k ≤ 128 ^ 8 := Nat.pow_le_pow_right (by omega) (by omega)
        exact_mod_cast e
      have h3 : x % 128 * 128 ^ k ≤ 127 * 128 ^ 8 := Int.mul_le_mul (by omega) this hp (by omega)
      have : (127 : Int) * 128 ^ 8 < 2 ^ 64 := by decide
      omega
    · obtain rfl : k = 9 := by omega
      have h3 : x % 128 * (128 : Int) ^ 9 ≤ 1 * 128 ^ 9 := Int.mul_le_mul_of_nonneg_right (h9 rfl) (by decide)
      have : (1 : Int) * 128 ^ 9 < 2 ^ 64 := by decide
      omega
  rw [IntWalk.u64_in _ ⟨Int.mul_nonneg (by omega) hp, by omega⟩]
  exact orShift hk h0 h1 (by omega) (by omega) h9
end Go.Proofs.YtniogmefbjfoaaaGreat

namespace Go.Proofs.YtniogmefbjfoaaaGreat
set_option linter.unusedSimpArgs false
set_option linter.unusedVariables false
set_option linter.unusedSectionVars false
open Go.RowKit

/-- a reader's state: what is left, and whether there was a fault -/
abbrev RS := List Int × Bool
/-- one byte is taken -/
def rU8 : RS → Int × RS
  | (b :: bs, false) => (b, (bs, false))
  | (bs, _) => (0, (bs, true))
/-- a short number is taken -/
def rUint (s : RS) : Int × RS := if (numV s.1 s.2).2 = 0 then (0, (s.1, true)) else ((numV s.1 s.2).1, (s.1.drop (numV s.1 s.2).2, false))
theorem BoxAt.grown {w w' : World} {n g : Nat} {cs : Array Value} {t : TypeId} (h : BoxAt w n cs t) (hg : w.grownBy w' (some g)) (hn : n ≠ g) : BoxAt w' n cs t := ⟨by rw [hg.block n h.lt (fun e => hn (by injection e))]; exact h.eq⟩
theorem own_grown {w w' : World} {g base : Nat} {e : TypeId} {k n : Nat} {v : Value} {xs : List Value} (h : w.ownsRow base e k v n xs) (hg : w.grownBy w' (some g)) (hb : g < base) : w'.ownsRow base e k v n xs := by
  refine ⟨h.1, h.2.imp id ?_⟩
  rintro ⟨r, cap, cur, rfl, hbase, hr, h1⟩
  refine ⟨r, cap, cur, rfl, hbase, ?_, h1⟩
  have hlt : r < w.heap.size := (Array.getElem?_eq_some_iff.1 hr).1
  rw [hg.block r hlt (fun e => by injection e; omega)]; exact hr
theorem grown_then_below {a b c : World} {r : Option Nat} (h : a.grownBy b r) (k : Below a.heap.size b c) : a.grownBy c r :=
  ⟨k.os.trans h.os, k.tape.trans h.tape, k.output.trans h.output, Nat.le_trans h.size k.size, fun i hi hr => (k.block i hi).trans (h.block i hi hr)⟩
abbrev zero8 : List Value := [.int .u8 0, .int .u8 0, .int .u8 0, .int .u8 0, .int .u8 0, .int .u8 0, .int .u8 0, .int .u8 0]
theorem or0r {y : Int} (h0 : 0 ≤ y) (h1 : y < 256) : bits .or .u64 y 0 = y := by
  obtain ⟨n, rfl⟩ := Int.eq_ofNat_of_zero_le h0
  have e : bits .or .u64 (n : Int) ((0 : Nat) : Int) = ((n ||| 0 : Nat) : Int) := (bits_nat .u64 64 (by decide) (fun n h h' => IntWalk.u64_in _ ⟨by omega, by omega⟩) n 0 (by omega) (by omega)).2
  simpa using e
theorem or0l {y : Int} (h0 : 0 ≤ y) (h1 : y < 256) : bits .or .u64 0 y = y := by
  obtain ⟨n, rfl⟩ := Int.eq_ofNat_of_zero_le h0
  have e : bits .or .u64 ((0 : Nat) : Int) (n : Int) = ((0 ||| n : Nat) : Int) := (bits_nat .u64 64 (by decide) (fun n h h' => IntWalk.u64_in _ ⟨by omega, by omega⟩) 0 n (by omega) (by omega)).2
  simpa using e
theorem splice8 (v : Value) : (splice zero8 0 [v]).toArray = #[v, .int .u8 0, .int .u8 0, .int .u8 0, .int .u8 0, .int .u8 0, .int .u8 0, .int .u8 0] := rfl
theorem splice80 : (splice zero8 0 []).toArray = zero8.toArray := rfl
theorem szB : (Tryz.prog.info? 5).map (·.size) = some 1 := by kernel_rfl
theorem copy1 {w : World} {b' off n : Nat} {b : Int} (h : w.cell? ⟨b', off, none⟩ = some (.int .u8 b)) : 0 < [Value.int .u8 b].length → (some (⟨n, 0, none⟩ : Addr)) = some ⟨n, 0, none⟩ ∧ ∃ ad, (some (⟨b', off, none⟩ : Addr)) = some ad ∧ ∀ j v, [Value.int .u8 b][j]? = some v → w.cell? (ad.add j) = some v := by
  intro _
  refine ⟨rfl, _, rfl, fun j v hv => ?_⟩
  cases j with
  | zero => simp at hv; subst hv; exact h
  | succ j => simp at hv
theorem fit1 (b : Int) : 0 + [Value.int .u8 b].length ≤ zero8.length := by simp
theorem copy0 {w : World} {n : Nat} : 0 < ([] : List Value).length → (some (⟨n, 0, none⟩ : Addr)) = some ⟨n, 0, none⟩ ∧ ∃ ad, (none : Option Addr) = some ad ∧ ∀ j v, ([] : List Value)[j]? = some v → w.cell? (ad.add j) = some v := fun h => absurd h (by simp)
theorem fit0 : 0 + ([] : List Value).length ≤ zero8.length := by simp
theorem one0 : ∀ v ∈ ([] : List Value), v.oneCell' = true := by simp
theorem rU8_range {s : RS} (h : bOK s.1) : 0 ≤ (rU8 s).1 ∧ (rU8 s).1 < 256 := by
  obtain ⟨bs, bad⟩ := s
  cases bs with
  | nil => simp [rU8]
  | cons b bs => cases bad <;> simp [rU8] ; exact h b (by simp)
theorem numV_le (bs : List Int) (bad : Bool) : (numV bs bad).2 ≤ bs.length := by
  unfold numV
  split
  · simp
  · have := numGo_le bs 0 0; omega
theorem numV_bad (bs : List Int) (bad : Bool) (h : bad = true) : (numV bs bad).2 = 0 := by subst h; rfl
theorem one1 (b : Int) : ∀ v ∈ [Value.int .u8 b], v.oneCell' = true := by simp [Value.oneCell']
end Go.Proofs.YtniogmefbjfoaaaGreat

namespace Go.Proofs.YtniogmefbjfoaaaGreat
set_option linter.unusedSimpArgs false
set_option linter.unusedVariables false
set_option linter.unusedSectionVars false
open Go.RowKit

/-! ### blocks are counted one by one -/
theorem size_gwS (w : World) (d : Nat) (os : Array Obj) : (gw w d os).heap.size = w.heap.size + os.size := by simp [gw]
@[go_sem] theorem size_gw_sum (w : World) (d : Nat) (os : Array Obj) : (gw w d os).heap.size = w.heap.size + os.size := size_gwS w d os
instance (priority := high) Sz.gwS (w : World) (n d : Nat) (os : Array Obj) [h : Sz w n] : Sz (gw w d os) (n + os.size) := ⟨by rw [size_gwS, h.eq]⟩

/-- blocks that are laid over whatever world -/
def Lays (f : World → World) : Prop := ∃ l : Array Obj, ∀ W : World, (f W).heap = W.heap ++ l ∧ (f W).os = W.os ∧ (f W).tape = W.tape ∧ (f W).output = W.output
theorem heap_al (w : World) (o : Obj) : (w.alloc o).heap = w.heap.push o := rfl
theorem Lays.id : Lays fun W => W := ⟨#[], fun W => ⟨by simp, rfl, rfl, rfl⟩⟩
theorem Lays.alloc {f : World → World} (h : Lays f) (o : Obj) : Lays fun W => (f W).alloc o := by
  obtain ⟨l, h⟩ := h
  refine ⟨l.push o, fun W => ?_⟩
  obtain ⟨h1, h2, h3, h4⟩ := h W
  exact ⟨by rw [heap_al, h1]; simp, h2, h3, h4⟩
theorem Lays.gw {f : World → World} (h : Lays f) (d : Nat) (os : Array Obj) : Lays fun W => gw (f W) d os := by
  obtain ⟨l, h⟩ := h
  refine ⟨l ++ os, fun W => ?_⟩
  obtain ⟨h1, h2, h3, h4⟩ := h W
  exact ⟨by simp [Go.Proofs.YtniogmefbjfoaaaGreat.gw, h1], h2, h3, h4⟩
theorem gw_ext {W w : World} (h1 : w.os = W.os) (h2 : w.tape = W.tape) (h3 : w.output = W.output) (os : Array Obj) (h4 : w.heap = W.heap ++ os) : w = gw W w.drawn os := by
  obtain ⟨hp, tp, dr, o, out⟩ := w
  simp only at h1 h2 h3 h4
  subst h1 h2 h3 h4
  rfl
/-- a step that writes block g of the lower world -/
theorem rst {W w' : World} {g : Nat} (f : World → World) (hf : Lays f) (h : (f W).grownBy w' (some g)) (hg : g < W.heap.size) :
    ∃ (W' : World) (p : GW), W'.heap.size = W.heap.size ∧ W.grownBy W' (some g) ∧ w' = gw (f W') p.d p.os ∧ (∀ k, k < W.heap.size → W'.heap[k]? = w'.heap[k]?) := by
  obtain ⟨l, hf⟩ := hf
  obtain ⟨e1, e2, e3, e4⟩ := hf W
  have hsz : W.heap.size + l.size ≤ w'.heap.size := by
    have := h.size; rw [e1] at this; simpa using this
  have hbl : ∀ k, k < W.heap.size + l.size → k ≠ g → w'.heap[k]? = (W.heap ++ l)[k]? := by
    intro k hk hkg
    rw [h.block k (by rw [e1]; simpa using hk) (fun e => hkg (by injection e)), e1]
  let W' : World := { W with heap := w'.heap.extract 0 W.heap.size }
  have hs' : W'.heap.size = W.heap.size := by simp [W']; omega
  have hk' : ∀ k, k < W.heap.size → W'.heap[k]? = w'.heap[k]? := by
    intro k hk
    show (w'.heap.extract 0 W.heap.size)[k]? = _
    rw [Array.getElem?_extract, if_pos (by omega)]; simp
  obtain ⟨f1, f2, f3, f4⟩ := hf W'
  refine ⟨W', ⟨w'.drawn, w'.heap.extract (W.heap.size + l.size) w'.heap.size⟩, hs', ⟨rfl, rfl, rfl, by omega, fun k hk hkg => ?_⟩, ?_, hk'⟩
  · rw [hk' k hk, hbl k (by omega) (fun e => hkg (by rw [e])), Array.getElem?_append_left hk]
  · refine gw_ext ?_ ?_ ?_ _ ?_
    · rw [f2]; exact h.os.trans e2
    · rw [f3]; exact h.tape.trans e3
    · rw [f4]; exact h.output.trans e4
    · rw [f1]
      apply Array.ext_getElem?
      intro k
      rcases Nat.lt_or_ge k W.heap.size with h1 | h1
      · rw [Array.getElem?_append_left (by simp [hs']; omega), Array.getElem?_append_left (by omega), hk' k h1]
      · rcases Nat.lt_or_ge k (W.heap.size + l.size) with h2 | h2
        · rw [Array.getElem?_append_left (by simp [hs']; omega), Array.getElem?_append_right (by omega), hbl k h2 (by omega), Array.getElem?_append_right h1, hs']
        · rw [Array.getElem?_append_right (by simp [hs']; omega), Array.getElem?_extract]
          simp only [Array.size_append, hs']
          rcases Nat.lt_or_ge k w'.heap.size with h3 | h3
          · rw [if_pos (by omega)]; congr 1; omega
          · rw [if_neg (by omega), Array.getElem?_eq_none h3]
theorem grown_gw {W W' w : World} {g : Nat} (h : W.grownBy W' (some g)) (k : Below W'.heap.size W' w) : W.grownBy w (some g) := grown_trans h (grown_below k)
theorem grown_refl (W : World) (r : Option Nat) : W.grownBy W r := grown_below (Below.refl _ _)

/-- a life is read -/
def rGet (s : RS) : (Int × Int) × RS :=
  if (rUint (rU8 s).2).2.2 = true ∨ mayB (rU8 s).1 (rUint (rU8 s).2).1 = false then ((0, 0), ((rUint (rU8 s).2).2.1, true)) else (((rU8 s).1, (rUint (rU8 s).2).1), (rUint (rU8 s).2).2)
theorem rU8_len (s : RS) : (rU8 s).2.1.length ≤ s.1.length := by
  obtain ⟨bs, bad⟩ := s
  cases bs with
  | nil => simp [rU8]
  | cons b bs => cases bad <;> simp [rU8]
theorem rUint_len (s : RS) : (rUint s).2.1.length ≤ s.1.length := by
  unfold rUint
  split <;> simp
theorem rGet_len (s : RS) : (rGet s).2.1.length ≤ s.1.length := by
  have h1 := rU8_len s
  have h2 := rUint_len (rU8 s).2
  unfold rGet
  split <;> (simp only; omega)
end Go.Proofs.YtniogmefbjfoaaaGreat
