/-
  Contracts: layer 3's heavy; slices.Grow of nil, slices.Concat at lives; proc.Union.
-/
import Derived.Test.YtiggbhdokdmhhaaSet
import Derived.Lib.AppendZeros
namespace Go.Proofs.Ytiggbhdokdmhhaa
open Go.RowKit Go.Sort Go.Lib

/-- a list of lives where it lies: its address, its capacity, its lives -/
structure Sv where
  A : Option Addr
  c : Nat
  l : List (Int × Int)
  deriving Inhabited
def Sv.v (x : Sv) : Value := .slice x.A x.l.length x.c
def svs (xs : List Sv) : List Value := xs.map Sv.v
def Sv.ok (w : World) (B : Nat) (x : Sv) : Prop := Reads w B 2 x.A x.l.length (pcs x.l)
theorem Sv.ok_below {w w' : World} {B : Nat} {x : Sv} (h : x.ok w B) (hb : Below B w w') : x.ok w' B := Reads.below h hb
theorem svs_len (xs : List Sv) : (svs xs).length = xs.length * 1 := by simp [svs]
theorem Reads.atS {w : World} {B : Nat} {A : Option Addr} {n k : Nat} {xs : List Sv} (h : Reads w B 1 A n (svs xs)) (hk : k < n) :
    ∃ b off x, A = some ⟨b, off, none⟩ ∧ b < B ∧ xs[k]? = some x ∧ w.cell? ⟨b, off + k, none⟩ = some (.slice x.A x.l.length x.c) := by
  obtain ⟨b, off, rfl, hb, hc⟩ := h.2 (by omega)
  have hl : k < xs.length := by have := h.1; rw [svs_len] at this; omega
  exact ⟨b, off, xs[k], rfl, hb, List.getElem?_eq_getElem hl, hc k _ (by simp [svs, hl, Sv.v])⟩

def hvB (xs : List Sv) : Bool := xs.any (fun x => decide (300 < x.l.length)) || decide (20 < xs.length)

set_option maxHeartbeats 400000 in
theorem heavy_any (A : Option Addr) (c : Nat) (xs : List Sv) (w : World) (hR : Reads w w.heap.size 1 A xs.length (svs xs)) (hn : xs.length ≤ 9223372036854775807) :
    Calls Try.prog 14 #[.slice A xs.length c] w fun e w' => e = .returned (.bool (hvB xs)) ∧ w = w' := by
  go_enter Try.func14, Try.ntmps14
  go_wp2
  go_loop [3] (fun i => ∃ k : Nat, k ≤ xs.length ∧ i = .int .i64 k ∧ (xs.take k).any (fun x => decide (300 < x.l.length)) = false) (fun i => xs.length - (intOf i).toNat)
  case atStart => exact ⟨0, Nat.zero_le _, rfl, by simp⟩
  case round =>
    obtain ⟨k, hk, rfl, hno⟩ := hrel
    have HN := hide hno
    clear hno
    by_cases hlt : k < xs.length
    · obtain ⟨b, off, x, rfl, hb, hx, g1⟩ := hR.atS hlt
      have HX := hide hx
      clear hx hR
      by_cases hlong : 300 < x.l.length
      · have H := hide (show hvB xs = true by
          unfold hvB; rw [List.any_eq_true.2 ⟨x, List.mem_of_getElem? HX.out, by simpa using hlong⟩]; rfl)
        go_wp2
        go_ret
        exact ⟨ret_b H.out.symm, rfl⟩
      · have H := hide (show (xs.take (k + 1)).any (fun x => decide (300 < x.l.length)) = false by
          rw [take_succ_of HX.out, List.any_append, HN.out]; simp; omega)
        go_wp2
        go_round
        case rel => exact ⟨k + 1, by omega, by go_num, H.out⟩
        case measure => simp [intOf]; omega
    · have H := hide (show hvB xs = decide (20 < (xs.length : Int)) by
        unfold hvB
        have := HN.out
        rw [List.take_of_length_le (by omega)] at this
        rw [this, Bool.false_or, decide_eq_decide]; omega)
      go_wp2
      go_ret
      exact ⟨ret_b (by rw [H.out]), rfl⟩


set_option maxHeartbeats 400000 in
theorem grow_nil (n : Nat) (w : World) (hn : n ≤ 1000000) : Calls Try.prog 63 #[.slice none 0 0, .int .i64 n] w fun e w' => ∃ v, e = .returned v ∧ OwnP w' w.heap.size v [] ∧ Below w.heap.size w w' := by
  by_cases h0 : n = 0
  · subst h0
    go_enter Try.func63, Try.ntmps63
    go_wp2
    go_ret
    exact ⟨_, rfl, World.ownsRow_nil _ _ _ _, Below.refl _ _⟩
  · obtain ⟨i, hi, hz, hsize, hby⟩ := info_parts (show (Try.prog.info? 24).map (fun i => (i.zero, i.size, i.bytes)) = some (some (.agg #[.int .i64 0, .int .u64 0]), 2, 16) by kernel_rfl)
    have hrun := fun ty => Lib.run_append_nil_zeros w 30 3 ty 24 i (.agg #[.int .i64 0, .int .u64 0]) .i64 .i64 Try.underlying30 Try.underlying3 hi hz n (by omega) (by omega) (by omega) (by rw [hby]; omega)
    have hG1 := grownCap_ge w n 0 24
    have hG2 := grownCap_le_maxLen w n 0 24 (by unfold maxLen; omega)
    have hG3 : n + (grownCap w n 0 24 - n) = grownCap w n 0 24 := by omega
    generalize grownCap w n 0 24 = G at *
    have hG4 : G ≤ 9223372036854775807 := by unfold maxLen at hG2; exact hG2
    have HG2 := hide hG2
    have HI := hide hG3
    have HR := hide hrun
    clear hrun hi hz hsize hby hG2 hG3
    have j0 : (0 : Int) < (n : Int) := by omega
    have j1 : ¬ (n : Int) < 0 := by omega
    go_enter Try.func63, Try.ntmps63
    go_wp2_with (at_builtin; refine Lib.wpList_append_run _ rfl _ _ _ _ rfl _ _ rfl rfl _ _ (HR.out _) ?_)
    go_ret
    refine ⟨_, rfl, ⟨rfl, .inr ⟨w.heap.size, G, _, rfl, Nat.le_refl _, heap_alloc_new _ _, Nat.zero_le _, HG2.out, ?_, rfl⟩⟩, Below.alloc (Below.refl _ _).drew (by simp) _⟩
    rw [Array.size_append, size_zeroCells, size_zeroCells, ← Nat.add_mul, HI.out]
    rfl

def flatS (xs : List Sv) : List (Int × Int) := xs.flatMap Sv.l
theorem flatS_take {xs : List Sv} {k : Nat} {x : Sv} (h : xs[k]? = some x) : flatS (xs.take (k + 1)) = flatS (xs.take k) ++ x.l := by
  rw [take_succ_of h]; simp [flatS]
theorem flatS_le (xs : List Sv) (k : Nat) : (flatS (xs.take k)).length ≤ (flatS xs).length := by
  have : flatS xs = flatS (xs.take k) ++ flatS (xs.drop k) := by
    unfold flatS; rw [← List.flatMap_append, List.take_append_drop]
  rw [this, List.length_append]; omega

set_option maxHeartbeats 1000000 in
theorem concat_any (A : Option Addr) (c : Nat) (xs : List Sv) (w : World) (hR : Reads w w.heap.size 1 A xs.length (svs xs)) (hok : ∀ x ∈ xs, x.ok w w.heap.size) (hn : xs.length ≤ 1000000) (hm : (flatS xs).length ≤ 1000000) :
    Calls Try.prog 44 #[.slice A xs.length c] w fun e w' => ∃ v, e = .returned v ∧ OwnP w' w.heap.size v (flatS xs) ∧ Below w.heap.size w w' := by
  go_enter Try.func44, Try.ntmps44
  go_wp2
  go_loop [3, 11] (fun t i => ∃ k : Nat, k ≤ xs.length ∧ i = .int .i64 k ∧ t = .int .i64 (flatS (xs.take k)).length) (fun _ i => xs.length - (intOf i).toNat)
  case atStart => exact ⟨0, Nat.zero_le _, rfl, rfl⟩
  case round =>
    obtain ⟨k, hk, rfl, rfl⟩ := hrel
    have hle := flatS_le xs k
    have hle' := flatS_le xs (k + 1)
    by_cases hlt : k < xs.length
    · obtain ⟨b, off, x, rfl, hb, hx, g1⟩ := hR.atS hlt
      have hl := congrArg List.length (flatS_take hx)
      rw [List.length_append] at hl
      have HL := hide hl
      have hsum : (flatS (xs.take k)).length + x.l.length ≤ 1000000 := by omega
      clear hx hR hl
      go_wp2
      go_round
      case rel => exact ⟨k + 1, by omega, by go_num, by rw [HL.out]; go_num⟩
      case measure => simp [intOf]; omega
    · have hk' : k = xs.length := by omega
      subst hk'
      rw [List.take_length]
      clear hle hle' hlt hk
      go_wp2_with fail
      refine (grow_nil _ _ hm).mono ?_
      rintro e w1 ⟨v0, rfl, hown0, hb0⟩
      go_wp2
      go_loopw [6, 27] (fun v i wr => ∃ k : Nat, k ≤ xs.length ∧ i = .int .i64 k ∧ OwnP wr w.heap.size v (flatS (xs.take k)) ∧ Below w.heap.size w wr) (fun _ i _ => xs.length - (intOf i).toNat)
      case atStart => exact ⟨0, Nat.zero_le _, rfl, hown0, hb0⟩
      case round =>
        obtain ⟨k, hk, rfl, hown, hbw⟩ := hrel
        have HO := hide hown
        clear hown0
        by_cases hlt : k < xs.length
        · obtain ⟨b, off, x, rfl, hb, hx, g1⟩ := (hR.below hbw).atS hlt
          have hxo := Sv.ok_below (hok x (List.mem_of_getElem? hx)) hbw
          have HX := hide (flatS_take hx)
          have hle := flatS_le xs (k + 1)
          have hl := congrArg List.length HX.out
          rw [List.length_append] at hl
          have hsum : (flatS (xs.take k)).length + x.l.length ≤ 1000000 := by omega
          have HXO := hide hxo
          clear hx hxo hl hle hown
          go_wp2_with (at_builtin; refine wpList_append_any _ Try.okP (by rfl) (.tmp 31) (.tmp 32) (by rfl) w.heap.size _ _ (pcs (flatS (xs.take k))) (by rfl) HO.out w.heap.size x.A x.l.length x.c (pcs x.l) (by rfl) HXO.out (pc_one x.l) (by unfold maxLen; omega) (by omega) hbw.size ?_; intro v1 w1' hown1 hg1 hnil1 hat1)
          go_roundw
          case rel =>
            refine ⟨k + 1, by omega, by go_num, ?_, hbw.grown hg1 hbw.size (fun g hg => (HO.out.lt g hg).1)⟩
            rw [OwnP, HX.out, List.length_append, pcs_app]; exact hown1
          case measure => simp [intOf]; omega
        · have hk' : k = xs.length := by omega
          subst hk'
          go_wp2
          go_ret
          rw [List.take_length] at hown
          exact ⟨_, rfl, hown, hbw⟩

/-- the lives of all lists -/
def unionL (xs : List Sv) : List (Int × Int) := sortedL (flatS xs)
set_option maxHeartbeats 400000 in
theorem union_any (A : Option Addr) (c : Nat) (xs : List Sv) (w : World) (hR : Reads w w.heap.size 1 A xs.length (svs xs)) (hok : ∀ x ∈ xs, x.ok w w.heap.size) (hn : xs.length ≤ 1000000) (hm : (flatS xs).length ≤ 1000000) :
    Calls Try.prog 16 #[.slice A xs.length c] w fun e w' => ∃ A', e = .returned (.slice A' (unionL xs).length (unionL xs).length) ∧ Reads w' w'.heap.size 2 A' (unionL xs).length (pcs (unionL xs)) ∧ Below w.heap.size w w' := by
  go_enter Try.func16, Try.ntmps16
  go_wp2_with fail
  refine (concat_any A c xs w hR hok hn hm).mono ?_
  rintro e w1 ⟨v, rfl, hown, hb1⟩
  obtain ⟨A1, c1, rfl, _, _⟩ := own_slice hown
  have hR1 := Reads.of_own hown
  have HR := hide hR1
  clear hR hok hown hR1
  go_wp2_with fail
  refine (sorted_any A1 c1 (flatS xs) w1 HR.out hm).mono ?_
  rintro e w2 ⟨A2, rfl, hR2, hb2⟩
  go_wp2
  go_ret
  exact ⟨A2, rfl, hR2, below_step hb1 hb2⟩

end Go.Proofs.Ytiggbhdokdmhhaa
