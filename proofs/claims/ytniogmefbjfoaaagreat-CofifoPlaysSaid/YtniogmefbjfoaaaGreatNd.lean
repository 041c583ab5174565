/-
  Layer 16: contract: New.
-/
import Derived.Test.YtniogmefbjfoaaaGreatDw
import Derived.Carry
import Derived.Maps.RangeWalk
namespace Go.Proofs.YtniogmefbjfoaaaGreat
set_option linter.unusedSimpArgs false
set_option linter.unusedVariables false
set_option linter.unusedSectionVars false
open Go.RowKit Go.Maps

theorem mem_tens {n : Int} : n ∈ tens ↔ 1 ≤ n ∧ n ≤ 10 := by
  unfold tens
  rw [List.mem_map]
  constructor
  · rintro ⟨k, hk, rfl⟩
    have := List.mem_range.1 hk
    omega
  · intro h
    exact ⟨(n - 1).toNat, List.mem_range.2 (by omega), by omega⟩
/-- the rows of the nodes below k -/
def rowsK (n : Int) (rp : Int → Nat) (k : Nat) (v : Value) : Option Value :=
  match v with
  | .int .i64 j => if 1 ≤ j ∧ j < k ∧ j ≠ n then some (.pointer (some ⟨rp j, 0, none⟩)) else none
  | _ => none
theorem rowsK_put {n : Int} {rp : Int → Nat} {k g : Nat} (hk : 1 ≤ k) (hn : (k : Int) ≠ n) : putF (rowsK n rp k) (.int .i64 k) (.pointer (some ⟨g, 0, none⟩)) = rowsK n (fun j => if j = k then g else rp j) (k + 1) := by
  funext x
  by_cases hx : x = .int .i64 k
  · subst hx
    rw [putF_same]
    unfold rowsK
    simp only [if_true]
    rw [if_pos ⟨by omega, by omega, hn⟩]
  · rw [putF_other _ _ hx]
    unfold rowsK
    split
    · rename_i j
      have hj : j ≠ k := fun e => hx (by rw [e])
      by_cases h : 1 ≤ j ∧ j < k ∧ j ≠ n
      · rw [if_pos h, if_pos ⟨h.1, by omega, h.2.2⟩]; simp only [if_neg hj]
      · rw [if_neg h, if_neg (fun h' => h ⟨h'.1, by omega, h'.2.2⟩)]
    · rfl
theorem rowsK_skip {n : Int} {rp : Int → Nat} {k : Nat} (hn : (k : Int) = n) : rowsK n rp k = rowsK n rp (k + 1) := by
  funext x
  unfold rowsK
  split
  · rename_i j
    by_cases h : 1 ≤ j ∧ j < k ∧ j ≠ n
    · rw [if_pos h, if_pos ⟨h.1, by omega, h.2.2⟩]
    · rw [if_neg h, if_neg (fun h' => h ⟨h'.1, by omega, h'.2.2⟩)]
  · rfl
def cntN (n : Int) (k : Nat) : Nat := if n < k then k - 2 else k - 1
/-- while rows are made -/
structure NwJ (w : World) (n i : Int) (xb rb fb : Nat) (k : Nat) (W : World) : Prop where
  b : Below w.heap.size w W
  x : BoxAt W xb #[.int .i64 n, .int .u64 i, .map (some rb), .map (some fb)] 64
  f : MapF W 3 fb 0 (fun _ => none)
  r : ∃ rp : Int → Nat, MapF W 3 rb (cntN n k) (rowsK n rp k) ∧ (∀ j : Int, 1 ≤ j → j < k → j ≠ n → BoxAt W (rp j) (rwcs 1 false 0 none 0 0 0 0) 70 ∧ w.heap.size ≤ rp j) ∧ (∀ j l : Int, 1 ≤ j → j < k → j ≠ n → 1 ≤ l → l < k → l ≠ n → rp j = rp l → j = l)
set_option maxRecDepth 100000 in
theorem new_no (n i : Int) (w : World) (h : (mayB n i = true → 34359738367 < i)) : Calls Tryz.prog 6 #[.agg #[.int .i64 n, .int .u64 i]] w fun e w' => e = .returned (.tuple #[.pointer none, .int .i64 1]) ∧ Below w.heap.size w w' := by
  have TM := hide (fun W => may_b n i W)
  cases hm : mayB n i with
  | false =>
    rw [hm] at TM
    clear h hm
    go_enter Tryz.func6, Tryz.ntmps6
    go_wp2_with (go_at_call 16; (with_reducible refine (TM.out _).mono ?_); rintro e w1 ⟨rfl, hb⟩; haveI : Stp _ w1 := ⟨hb⟩; clear hb)
    go_ret2
    exact ⟨rfl, blw⟩
  | true =>
    rw [hm] at TM
    have d1 : decide (34359738367 < i) = true := decide_eq_true (h hm)
    clear h hm
    go_enter Tryz.func6, Tryz.ntmps6
    go_wp2_with (go_at_call 16; (with_reducible refine (TM.out _).mono ?_); rintro e w1 ⟨rfl, hb⟩; haveI : Stp _ w1 := ⟨hb⟩; clear hb)
    go_ret2
    exact ⟨rfl, blw⟩
set_option maxRecDepth 100000 in
set_option maxHeartbeats 4000000 in
theorem new_s (n i : Int) (w : World) (hm : mayB n i = true) (hi : i ≤ 34359738367) (hn1 : 1 ≤ n) (hn2 : n ≤ 10) : Calls Tryz.prog 6 #[.agg #[.int .i64 n, .int .u64 i]] w fun e w' => ∃ x C, e = .returned (.tuple #[.pointer (some ⟨x, 0, none⟩), .int .i64 0]) ∧ (∀ E0 : List Nat, (∀ j ∈ E0, j < w.heap.size) → EnO w' (C ++ E0) C x (En.new n i)) ∧ (∀ j ∈ C, w.heap.size ≤ j) ∧ w.heap.size ≤ x ∧ Below w.heap.size w w' := by
  have TM := hide (fun W => may_b n i W)
  rw [hm] at TM
  have d1 : decide (34359738367 < i) = false := decide_eq_false (by omega)
  have hmm := @run_makeMap Tryz.prog
  have HI := hide hi
  clear hm hi
  go_enter Tryz.func6, Tryz.ntmps6
  go_wp2_with (go_at_call 16; (with_reducible refine (TM.out _).mono ?_); rintro e w1 ⟨rfl, hb⟩; haveI : Stp _ w1 := ⟨hb⟩; have z1 : w.heap.size < w1.heap.size := (by have := hb.size; simp at this; omega); clear hb)
  go_loopw [5] (fun v wr => ∃ k : Nat, 1 ≤ k ∧ k ≤ 11 ∧ v = .int .i64 k ∧ BoxAt wr w.heap.size #[.int .i64 n, .int .u64 i] 24 ∧ NwJ w n i (w1.heap.size + 1 + 1) w1.heap.size (w1.heap.size + 1) k wr) (fun v _ => 11 - (intOf v).toNat)
  case atStart =>
    refine ⟨1, by omega, by omega, rfl, inferInstance, blw, inferInstance, ?_, fun _ => 0, ?_, fun j h1 h2 => by omega, fun j l h1 h2 => by omega⟩
    · have h1 := mapF_made (w1.alloc (.map #[] 0)) 3
      rw [World.size_alloc] at h1
      exact h1.step (below_alloc _ _)
    · have h1 := mapF_made w1 3
      have e : cntN n 1 = 0 := by unfold cntN; split <;> omega
      have e2 : rowsK n (fun _ => 0) 1 = fun _ => none := by
        funext x
        unfold rowsK
        split
        · rw [if_neg (by omega)]
        · rfl
      rw [e, e2]
      exact (h1.step (below_alloc _ _)).step (below_alloc _ _)
  case round =>
    obtain ⟨k, hk1, hk2, rfl, hb0, hJ⟩ := hrel
    obtain ⟨rp, hm, hr, hri⟩ := hJ.r
    haveI := hb0
    haveI := hJ.x
    haveI : Blw w wr := ⟨hJ.b⟩
    have HF := hide hJ.f
    have HM := hide hm
    have HR := hide hr
    have HRI := hide hri
    have zr := hJ.b.size
    have zx := hJ.x.lt
    clear hJ hm hr hri
    by_cases hle : k ≤ 10
    · have i0 : ((k : Int) ≤ 10) := by omega
      have i1 : decide ((k : Int) ≤ 10) = true := decide_eq_true i0
      by_cases hkn : (k : Int) = n
      · have e1 : ((k : Int) != n) = false := by simpa using hkn
        have HKN := hide hkn
        clear hkn
        go_wp2_with fail
        go_roundw
        case rel =>
          refine ⟨k + 1, by omega, by omega, by go_num, inferInstance, blw, inferInstance, HF.out, rp, ?_, fun j h1 h2 h3 => ?_, fun j l h1 h2 h3 h4 h5 h6 => ?_⟩
          · have e : cntN n (k + 1) = cntN n k := by unfold cntN; have := HKN.out; split <;> split <;> omega
            rw [e, ← rowsK_skip HKN.out]
            exact HM.out
          · have := HKN.out
            exact HR.out j h1 (by omega) h3
          · have := HKN.out
            exact HRI.out j l h1 (by omega) h3 h4 (by omega) h6
        case measure => simp [intOf]; omega
      · have e1 : ((k : Int) != n) = true := by simpa using hkn
        have HKN := hide hkn
        have hcn : cntN n k ≤ 10 := by unfold cntN; split <;> omega
        clear hkn
        go_wp2_with (at_mapUpdate; go_must (refine wpList_store_f (by rfl) (.tmp 30) (.tmp 31) (.tmp 33) (by rfl) Tryz.lawI Tryz.underlying61 (by rfl) (by rfl) (by rfl) (HM.out.step (below_alloc _ _)) (by unfold maxLen; omega) (keyI ⟨by omega, by omega⟩) ?_); intro w6 hm6 hg6)
        have key : ∀ {i cs t}, BoxAt (wr.alloc (.cells (rwcs 1 false 0 none 0 0 0 0) 70)) i cs t → i ≠ w1.heap.size → BoxAt w6 i cs t := fun {i cs t} hb hne => ⟨by rw [hg6.block i hb.lt (fun e => hne (by injection e))]; exact hb.eq⟩
        have keyr : ∀ {i cs t}, BoxAt wr i cs t → i ≠ w1.heap.size → BoxAt w6 i cs t := fun {i cs t} hb hne => key ⟨by rw [(below_alloc wr _).block i hb.lt]; exact hb.eq⟩ hne
        have zw1 : w.heap.size < w1.heap.size := z1
        go_roundw
        case rel =>
          refine ⟨k + 1, by omega, by omega, by go_num, keyr inferInstance (by omega), ?_⟩
          refine ⟨?_, keyr inferInstance (by omega), ((HF.out.step (below_alloc _ _)).kept hg6 (by intro e; injection e; omega)), fun j => if j = k then wr.heap.size else rp j, ?_, fun j h1 h2 h3 => ?_, fun j l h1 h2 h3 h4 h5 h6 => ?_⟩
          · exact (blw (a := w) (W := wr.alloc (.cells (rwcs 1 false 0 none 0 0 0 0) 70))).trans (grown_belowT hg6 (by simp; omega) (fun q hq => by injection hq with hq; omega))
          · have e : cntN n (k + 1) = cntN n k + 1 := by unfold cntN; have := HKN.out; split <;> split <;> omega
            rw [e, ← rowsK_put hk1 HKN.out]
            exact hm6
          · by_cases e : j = k
            · simp only [e, if_true]
              exact ⟨key ⟨World.alloc_heap_new _ _⟩ (by omega), by omega⟩
            · simp only [if_neg e]
              have h7 := HR.out j h1 (by omega) h3
              refine ⟨keyr h7.1 (fun e' => ?_), h7.2⟩
              obtain ⟨D, ⟨es, clock, h8, _⟩, _⟩ := HM.out
              have h9 := h7.1.eq
              rw [e', h8] at h9
              cases h9
          · by_cases e1 : j = k
            · by_cases e2 : l = k
              · exact fun _ => e1.trans e2.symm
              · have h7 := (HR.out l h4 (by omega) h6).1.lt
                simp only [e1, if_true, if_neg e2]
                omega
            · by_cases e2 : l = k
              · have h7 := (HR.out j h1 (by omega) h3).1.lt
                simp only [e2, if_true, if_neg e1]
                omega
              · simp only [if_neg e1, if_neg e2]
                exact HRI.out j l h1 (by omega) h3 h4 (by omega) h6
        case measure => simp [intOf]; omega
    · obtain rfl : k = 11 := by omega
      have i1 : decide (((11 : Nat) : Int) ≤ 10) = false := by simp
      go_wp2_with fail
      go_ret2
      have e : cntN n 11 = 9 := by unfold cntN; split <;> omega
      have hC : ∀ j ∈ (w1.heap.size + 1) :: (tens.filter (fun j => decide (j ≠ n))).map rp, w.heap.size ≤ j ∧ j < wr.heap.size := by
        intro j hj
        rcases List.mem_cons.1 hj with rfl | hj
        · exact ⟨by omega, by omega⟩
        · obtain ⟨q, hq, rfl⟩ := List.mem_map.1 hj
          obtain ⟨h1, h2⟩ := List.mem_filter.1 hq
          have h3 := mem_tens.1 h1
          have h4 := HR.out q h3.1 (by omega) (by simpa using h2)
          exact ⟨h4.2, h4.1.lt⟩
      have hrm : rowsF (En.new n i) rp = rowsK n rp 11 := by
        funext x
        unfold rowsF rowsK
        split
        · rename_i j
          show _ = if 1 ≤ j ∧ j < ((11 : Nat) : Int) ∧ j ≠ n then some (Value.pointer (some ⟨rp j, 0, none⟩)) else none
          have e1 : (En.new n i).oth j ↔ (1 ≤ j ∧ j < ((11 : Nat) : Int) ∧ j ≠ n) := by unfold En.oth En.new; simp only; omega
          by_cases h : (En.new n i).oth j
          · rw [if_pos h, if_pos (e1.1 h)]
          · rw [if_neg h, if_neg (fun h' => h (e1.2 h'))]
        · rename_i hne
          split
          · rename_i j; exact absurd rfl (hne j)
          · rfl
      refine ⟨w1.heap.size + 1 + 1, (w1.heap.size + 1) :: (tens.filter (fun j => decide (j ≠ n))).map rp, rfl, fun E0 hE0 => ⟨w1.heap.size, w1.heap.size + 1, rp, fun _ => 0, ?_⟩, fun j hj => (hC j hj).1, by omega, blw⟩
      have hoth : ∀ j, (En.new n i).oth j → 1 ≤ j ∧ j < ((11 : Nat) : Int) ∧ j ≠ n := fun j hj => by unfold En.oth En.new at hj; simp only at hj; omega
      have hbox : ∀ {b cs t}, BoxAt wr b cs t → w.heap.size ≤ b → (∀ j, 1 ≤ j → j < ((11 : Nat) : Int) → j ≠ n → rp j ≠ b) → b ≠ w1.heap.size + 1 → b ∉ ((w1.heap.size + 1) :: (tens.filter (fun j => decide (j ≠ n))).map rp) ++ E0 := fun {b cs t} hb h1 h2 h3 hm => by
        rcases List.mem_append.1 hm with hm | hm
        · rcases List.mem_cons.1 hm with e | hm
          · exact h3 e
          · obtain ⟨q, hq, e⟩ := List.mem_map.1 hm
            obtain ⟨h4, h5⟩ := List.mem_filter.1 hq
            have h6 := mem_tens.1 h4
            exact h2 q h6.1 (by omega) (by simpa using h5) e
        · have := hE0 _ hm; omega
      have hxn : ∀ j, 1 ≤ j → j < ((11 : Nat) : Int) → j ≠ n → rp j ≠ w1.heap.size + 1 + 1 := fun j h1 h2 h3 e' => by
        have h4 := (HR.out j h1 h2 h3).1.eq
        have h5 := (inferInstance : BoxAt wr (w1.heap.size + 1 + 1) _ _).eq
        rw [e', h5] at h4
        simp at h4
      have hrn : ∀ j, 1 ≤ j → j < ((11 : Nat) : Int) → j ≠ n → rp j ≠ w1.heap.size := fun j h1 h2 h3 e' => by
        have h4 := (HR.out j h1 h2 h3).1.eq
        obtain ⟨D, ⟨es, clock, h8, _⟩, _⟩ := HM.out
        rw [e', h8] at h4
        cases h4
      exact {
        n1 := ⟨hn1, hn2⟩
        bx := inferInstance
        xE := hbox (b := w1.heap.size + 1 + 1) inferInstance (by omega) hxn (by omega)
        rm := by rw [hrm, ← e]; exact HM.out
        rE := fun hm => by
          rcases List.mem_append.1 hm with hm | hm
          · rcases List.mem_cons.1 hm with e' | hm
            · omega
            · obtain ⟨q, hq, e'⟩ := List.mem_map.1 hm
              obtain ⟨h4, h5⟩ := List.mem_filter.1 hq
              have h6 := mem_tens.1 h4
              exact hrn q h6.1 (by omega) (by simpa using h5) e'
          · have := hE0 _ hm; omega
        fm := by
          have e2 : cameF (En.new n i) (fun _ => 0) = fun _ => none := by
            funext x
            unfold cameF
            split <;> rfl
          rw [e2]
          exact HF.out.mono (by omega)
        fC := List.mem_cons_self
        CE := fun j hj => List.mem_append_left _ hj
        ltE := fun j hj => by
          rcases List.mem_append.1 hj with h1 | h1
          · exact (hC j h1).2
          · have := hE0 j h1; omega
        ro := fun j hj => by
          have h1 := hoth j hj
          have h2 := HR.out j h1.1 h1.2.1 h1.2.2
          refine ⟨⟨⟨by simp [En.new], by simp [En.new], by simp [En.new], by simp [En.new], by simp [En.new], by simp [En.new]⟩, none, 0, [], h2.1, Bds.nil _ _ _, rfl, by simp [En.new]⟩, ?_⟩
          exact List.mem_cons_of_mem _ (List.mem_map_of_mem (List.mem_filter.2 ⟨mem_tens.2 ⟨h1.1, by omega⟩, by simpa using h1.2.2⟩))
        ri := fun j l hj hl' he => by
          have h1 := hoth j hj
          have h2 := hoth l hl'
          exact HRI.out j l h1.1 h1.2.1 h1.2.2 h2.1 h2.2.1 h2.2.2 he
        co := fun j c hc => by simp [En.new] at hc
        ci := fun j l hj _ _ => absurd rfl hj
        cn := fun j hj => absurd rfl hj }
end Go.Proofs.YtniogmefbjfoaaaGreat

namespace Go.Proofs.YtniogmefbjfoaaaGreat
set_option linter.unusedSimpArgs false
set_option linter.unusedVariables false
set_option linter.unusedSectionVars false
open Go.RowKit Go.Maps

/-- a range over a map under way: which keys are to come -/
def RanI (W : World) (b r n : Nat) (f : Value → Option Value) (left : Int → Bool) (cnt : Nat) : Prop :=
  ∃ D Left, W.ranges Tryz.prog 3 heldE b r n D Left cnt ∧ (∀ key kl, keyOf Tryz.prog 3 key = some kl → Maps.has D kl = (f key).isSome ∧ ∀ z, D.atKey kl (.held z) = .held ((f key).getD z)) ∧ ∀ x, wfI x → Left (.int .i64 x) = left x
theorem RanI.same {W W' : World} {b r n cnt : Nat} {f : Value → Option Value} {left : Int → Bool} (h : RanI W b r n f left cnt) (hb : W'.heap[b]? = W.heap[b]?) (hr : W'.heap[r]? = W.heap[r]?) : RanI W' b r n f left cnt := by
  obtain ⟨D, Left, ⟨es, clock, since, seen, c0, h1, h2, h3, h4, h5, h6⟩, h7, h8⟩ := h
  exact ⟨D, Left, ⟨es, clock, since, seen, c0, hb.trans h1, h2, h3, h4, hr.trans h5, h6⟩, h7, h8⟩
theorem RanI.left_eq {W : World} {b r n cnt : Nat} {f : Value → Option Value} {left : Int → Bool} (h : RanI W b r n f left cnt) : W.rangeLeft b r = cnt := by
  obtain ⟨D, Left, h1, _⟩ := h
  exact h1.left_eq
theorem RanI.lt {W : World} {b r n cnt : Nat} {f : Value → Option Value} {left : Int → Bool} (h : RanI W b r n f left cnt) : r < W.heap.size ∧ b < W.heap.size := by
  obtain ⟨D, Left, h1, _⟩ := h
  exact ⟨h1.lt, h1.owns.lt⟩
/-- its iterator is none of the cells -/
theorem RanI.iter {W : World} {b r n cnt : Nat} {f : Value → Option Value} {left : Int → Bool} (h : RanI W b r n f left cnt) : ∃ a b c d, W.heap[r]? = some (.mapIter a b c d) := by
  obtain ⟨D, Left, ⟨es, clock, since, seen, c0, h1, h2, h3, h4, h5, h6⟩, _⟩ := h
  exact ⟨_, _, _, _, h5⟩
section
variable {w : World} {ops : Array Oper} {rest : List Oper} {o : Oper} {a : Act} {Q : Exit → Act → World → Prop}
theorem wpList_range_f (hg : o.guard = none) (m : Operand) (t e : TypeId) (hop : o.op = Op.range t m) (ht : Tryz.prog.underlying t = some (.map 3 e)) (b n : Nat) (f : Value → Option Value) (hm : a.eval m = .map (some b)) (h : MapF w 3 b n f)
    (hK : ∀ w' cnt, RanI w' b w.heap.size n f (fun x => (f (.int .i64 x)).isSome) cnt → w.grownBy w' none → w'.heap.size = w.heap.size + 1 → wpList Tryz.prog ops Q rest (a.put o.dst (.pointer (some ⟨w.heap.size, 0, none⟩))) w') : wpList Tryz.prog ops Q (o :: rest) a w := by
  obtain ⟨D, h1, h2⟩ := h
  refine wpList_range_own w hg m t hop 3 e Tryz.lawI ht heldE b n D hm h1 fun w' r1 r2 r3 => hK w' _ ⟨D, _, r1, h2, fun x hx => (h2 _ _ (keyI hx)).1⟩ r2 r3
set_option maxRecDepth 100000 in
theorem wpList_next_f (hg : o.guard = none) (it : Operand) (hop : o.op = Op.next it false) (b r n : Nat) (f : Value → Option Value) (left : Int → Bool) (cnt : Nat) (hit : a.eval it = .pointer (some ⟨r, 0, none⟩)) (h : RanI w b r n f left cnt)
    (hDone : (∀ x, wfI x → left x = false) → wpList Tryz.prog ops Q rest (a.put o.dst (.tuple #[.bool false])) w)
    (hMore : ∀ (x : Int) (c : Value) (w' : World) (cnt' : Nat), wfI x → left x = true → f (.int .i64 x) = some c → RanI w' b r n f (fun z => left z && !decide (z = x)) cnt' → cnt' < cnt → w.grownBy w' (some r) → w'.heap.size = w.heap.size →
      (Instr.entry (.pointer (some ⟨r, 0, none⟩))).run Tryz.prog w' = .ok (.tuple #[.int .i64 x, c]) w' → wpList Tryz.prog ops Q rest (a.put o.dst (.tuple #[.bool true, .int .i64 x, c])) w') : wpList Tryz.prog ops Q (o :: rest) a w := by
  obtain ⟨D, Left, h1, h2, h3⟩ := h
  refine wpList_next_ranges w hg it hop 3 Tryz.lawI heldE (Value.int .i64) (fun c : Value => c) (fun key kl hkey => by obtain ⟨x, rfl, _⟩ := Maps.keyOf_int_inv Tryz.underlying3 hkey; exact ⟨x, rfl⟩) (fun v y _ => ⟨v, rfl⟩) b r n D Left cnt hit h1
    (fun _ hl => hDone fun x hx => by rw [← h3 x hx]; exact hl _) ?_
  intro x c kl y w' cnt' hkey hlk hv hat hrg hlt hgr hsz hen
  obtain ⟨x', ex, rfl, hwx⟩ := Maps.keyOf_int_inv Tryz.underlying3 hkey
  cases ex
  have hw := lit_wf.1 hwx
  have hfx : f (.int .i64 x) = some c := by
    have hy : y.1 = .held c := by
      have : some (DataW.held c, ([] : List MemPlace)) = some y := hv
      injection this with this
      rw [← this]
    have h4 := fun z => (h2 _ _ hkey).2 z
    cases hf : f (.int .i64 x) with
    | none =>
      have h5 : ∀ z, DataW.held z = DataW.held c := fun z => by
        have := h4 z
        rw [hf, hat, hy] at this
        exact this.symm
      have h6 := h5 (.bool true)
      have h7 := h5 (.bool false)
      rw [← h7] at h6
      cases h6
    | some c' =>
      have := h4 (.bool true)
      rw [hf, hat, hy] at this
      simp only [Option.getD_some] at this
      injection this with this
      rw [this]
  exact hMore x c w' cnt' hw (by rw [← h3 x hw]; exact hlk) hfx ⟨D, _, hrg, h2, fun z hz => by
    simp only [h3 z hz]
    congr 1
    by_cases e : z = x
    · subst e
      simp [Lit.sameKey]
    · simp [Lit.sameKey, e]⟩ hlt hgr hsz hen
end
theorem EnM.cong {W : World} {E C : List Nat} {x : Nat} {m m' : En} {rb fb : Nat} {rp cp : Int → Nat} (h : EnM W E C x m rb fb rp cp) (hn : m'.n = m.n) (hi : m'.i = m.i) (hr : ∀ n, m.oth n → m'.rw n = m.rw n) (hc : m'.cm = m.cm) : EnM W E C x m' rb fb rp cp := by
  have ho : ∀ n, m'.oth n ↔ m.oth n := fun n => by unfold En.oth; rw [hn]
  exact {
    n1 := by rw [hn]; exact h.n1
    bx := by rw [hn, hi]; exact h.bx
    xE := h.xE
    rm := by
      have e : rowsF m' rp = rowsF m rp := by
        funext v
        unfold rowsF
        split
        · rename_i j
          simp only [ho]
        · rfl
      rw [e]; exact h.rm
    rE := h.rE
    fm := by
      have e : cameF m' cp = cameF m cp := by unfold cameF; rw [hc]
      rw [e]; exact h.fm
    fC := h.fC
    CE := h.CE
    ltE := h.ltE
    ro := fun n hn' => by rw [hr n ((ho n).1 hn')]; exact h.ro n ((ho n).1 hn')
    ri := fun n k h1 h2 => h.ri n k ((ho n).1 h1) ((ho k).1 h2)
    co := fun n c h1 => h.co n c (by rw [← hc]; exact h1)
    ci := fun n k h1 h2 => h.ci n k (by rw [← hc]; exact h1) (by rw [← hc]; exact h2)
    cn := fun n h1 => h.cn n (by rw [← hc]; exact h1) }
/-- less is said to be written -/
theorem EnM.less {W : World} {E E' C : List Nat} {x : Nat} {m : En} {rb fb : Nat} {rp cp : Int → Nat} (h : EnM W E C x m rb fb rp cp) (hs : ∀ i ∈ E', i ∈ E) (hC : ∀ i ∈ C, i ∈ E') : EnM W E' C x m rb fb rp cp :=
  h.keep ⟨.refl _ _, fun i hi => .inl (hs i hi)⟩ (fun _ _ => rfl) hC (fun i hi => h.ltE i (hs i hi))
/-- what is new may be written -/
theorem EnM.more {X W : World} {E E' C : List Nat} {x : Nat} {m : En} {rb fb : Nat} {rp cp : Int → Nat} (h : EnM X E C x m rb fb rp cp) (hb : Below X.heap.size X W) (hn : ∀ i ∈ E', i ∈ E ∨ X.heap.size ≤ i) (hs : ∀ i ∈ C, i ∈ E') (hl : ∀ i ∈ E', i < W.heap.size) : EnM W E' C x m rb fb rp cp :=
  h.keep ⟨.of hb, hn⟩ (fun i hi => hb.block i (h.ltE i (h.CE i hi))) hs hl
/-- while the rows are gone through: those that are left are as they were -/
def En.relS (m : En) (l : List Int) (left : Int → Bool) : En := { m with rw := fun n => if left n then m.rw n else (m.rw n).rel (decide (n ∈ l)) }
theorem rowsF_some {m : En} {rp : Int → Nat} {y : Int} {c : Value} (h : rowsF m rp (.int .i64 y) = some c) : m.oth y ∧ c = .pointer (some ⟨rp y, 0, none⟩) := by
  unfold rowsF at h
  simp only at h
  split at h
  · rename_i ho; injection h with h; exact ⟨ho, h.symm⟩
  · cases h
theorem relS_put {W : World} {E C : List Nat} {x : Nat} {m : En} {rb fb : Nat} {rp cp : Int → Nat} {l : List Int} {left : Int → Bool} {y : Int} (h : EnM W E C x ((m.relS l left).put y ((m.rw y).rel (decide (y ∈ l)))) rb fb rp cp) : EnM W E C x (m.relS l (fun z => left z && !decide (z = y))) rb fb rp cp :=
  h.cong rfl rfl (fun n _ => by
    unfold En.relS En.put
    by_cases e : n = y
    · subst e; simp
    · simp [e]) rfl
theorem rel_keep {r : Rw} {b : Bool} (h : (r.rl && !b) = false) : { r with rl := b } = r.rel b := by unfold Rw.rel; rw [h]; rfl
theorem rel_anew {r : Rw} {b : Bool} (h : (r.rl && !b) = true) : { r.anew with rl := b } = r.rel b := by unfold Rw.rel; rw [h]; rfl
theorem rel_ok {r : Rw} (h : RwOk r) (b : Bool) : RwOk (r.rel b) := by
  unfold Rw.rel Rw.anew
  split
  · exact ⟨by simp, by simp, by simp, by simp, h.s0, h.s1⟩
  · exact ⟨h.bl, h.b0, h.bm, h.bb, h.s0, h.s1⟩
theorem Il.stp {X W : World} {A : Option Addr} {l : List Int} (h : Il X A l) (hb : Below X.heap.size X W) : Il W A l := (Reads.below h hb).more hb.size
theorem Reads.step' {X W : World} {k n : Nat} {A : Option Addr} {xs : List Value} (h : Reads X X.heap.size k A n xs) (hb : Below X.heap.size X W) : Reads W W.heap.size k A n xs := (h.below hb).more hb.size
section
variable {E C : List Nat} {x : Nat} {m : En} {rb fb : Nat} {rp cp : Int → Nat}
set_option maxRecDepth 100000 in
set_option maxHeartbeats 4000000 in
theorem reliable16_s (w : World) (h : EnM w E C x m rb fb rp cp) (A : Option Addr) (c : Nat) (l : List Int) (hl : RO w C 1 A l.length (ics l)) (hn : l.length ≤ 1000000) :
    Calls Tryz.prog 11 #[.pointer (some ⟨x, 0, none⟩), .slice A l.length c] w fun e w' => e = .returned (.tuple #[]) ∧ EnM w' E C x (m.reliable l) rb fb rp cp ∧ Gr C w w' := by
  have HE := hide h
  have HL := hide hl
  haveI := h.bx
  have hrm := hide h.rm
  have hCr : ∀ i ∈ C, i < w.heap.size := fun i hi => h.ltE i (h.CE i hi)
  have HC := hide hCr
  clear h hl hCr
  go_enter Tryz.func11, Tryz.ntmps11
  go_wp2_with (at_range; refine wpList_range_f (by rfl) (.tmp 12) 61 65 (by rfl) Tryz.underlying61 rb 9 (rowsF m rp) (by rfl) hrm.out ?_; intro w0 cnt0 hr0 hg0 hs0)
  go_frame
  go_loopw [4] (fun _ wr => ∃ left cnt, RanI wr rb w.heap.size 9 (rowsF m rp) left cnt ∧ EnM wr (w.heap.size :: E) C x (m.relS l left) rb fb rp cp ∧ Gr C w wr) (fun _ wr => wr.rangeLeft rb w.heap.size)
  case atStart =>
    refine ⟨_, _, hr0, ?_, Gr.grown hg0 (fun k hk => by cases hk)⟩
    have h1 := HE.out.more (E' := w.heap.size :: E) (grown_belowT hg0 (Nat.le_refl _) (fun k hk => by cases hk)) (fun i hi => by
      rcases List.mem_cons.1 hi with rfl | h1
      · exact .inr (Nat.le_refl _)
      · exact .inl h1) (fun i hi => List.mem_cons_of_mem _ (HE.out.CE i hi)) (fun i hi => by
      rcases List.mem_cons.1 hi with rfl | h1
      · omega
      · have := HE.out.ltE i h1; omega)
    exact h1.cong rfl rfl (fun n ho => by
      unfold En.relS
      simp [rowsF, ho]) rfl
  case round =>
    obtain ⟨left, cnt, hr, hE, hG⟩ := hrel
    have HR := hide hr
    have HE1 := hide hE
    have HG := hide hG
    clear hr hE hG
    go_wp2_with (at_next; refine wpList_next_f (by rfl) (.tmp 13) (by rfl) rb w.heap.size 9 (rowsF m rp) left cnt (by rfl) HR.out ?_ ?_)
    · intro hd
      go_wp2
      go_end0
      refine ⟨rfl, (HE1.out.less (E' := E) (fun i hi => List.mem_cons_of_mem _ hi) HE.out.CE).cong rfl rfl (fun n ho => ?_) rfl, HG.out⟩
      have ho' : m.oth n := ho
      have := hd n ⟨by unfold En.oth at ho'; omega, by unfold En.oth at ho'; omega⟩
      unfold En.reliable En.relS
      simp [this]
    · intro y cv w1 cnt1 hw hly hf hr1 hlt hg1 hs1 hen
      obtain ⟨ho, rfl⟩ := rowsF_some hf
      have hrC : w.heap.size ∉ C := fun hm => by have := HC.out _ hm; omega
      have hE1 : EnM w1 (w.heap.size :: E) C x (m.relS l left) rb fb rp cp := HE1.out.gr (Gr.grown (C := [w.heap.size]) hg1 (fun k hk => by injection hk with hk; simp [hk])) (fun i hi => by rw [List.mem_singleton] at hi; subst hi; exact ⟨hrC, List.mem_cons_self⟩)
      obtain ⟨⟨hok, A2, c2, ds, hb, hds, hmap, hcl⟩, hyC⟩ := hE1.ro y ho
      have er : (m.relS l left).rw y = m.rw y := by unfold En.relS; simp [hly]
      rw [er] at hok hb hmap hcl
      have HE2 := hide hE1
      have HR1 := hide hr1
      have HG1 : Hid (Gr C w w1) := hide (((HG.out.mono' (D := w.heap.size :: C) (fun i hi => List.mem_cons_of_mem _ hi)).trans (Gr.grown (C := w.heap.size :: C) hg1 (fun k hk => by injection hk with hk; simp [hk]))).less (fun i hi => by
        rcases List.mem_cons.1 hi with rfl | h1
        · exact .inr (Nat.le_refl _)
        · exact .inl h1))
      have HDS := hide hds
      have HOK := hide hok
      have HMAP := hide hmap
      have HCL := hide hcl
      have HO := hide ho
      have HLY := hide hly
      have HLT := hide hlt
      have HIL : Hid (Il w1 A l) := hide (HL.out.tr (.of HG1.out)).1
      have hgr2 : ∀ (Wf : World) (r' : Rw), Gr [rp y] w1 Wf → RwM Wf (w.heap.size :: E) (rp y) r' → r' = (m.rw y).rel (decide (y ∈ l)) →
          (∃ left cnt, RanI Wf rb w.heap.size 9 (rowsF m rp) left cnt ∧ EnM Wf (w.heap.size :: E) C x (m.relS l left) rb fb rp cp ∧ Gr C w Wf) ∧ Wf.rangeLeft rb w.heap.size < wr.rangeLeft rb w.heap.size := fun Wf r' hg hr he => by
        subst he
        have hne : ∀ i ∈ [rp y], i ∈ C := fun i hi => by rw [List.mem_singleton] at hi; subst hi; exact hyC
        have hrb : rb ∉ [rp y] := fun hm => HE2.out.rE (List.mem_cons_of_mem _ (HE.out.CE _ (hne _ hm)))
        have hR2 := HR1.out.same (hg.blk rb HR1.out.lt.2 hrb) (hg.blk w.heap.size HR1.out.lt.1 (fun hm => hrC (hne _ hm)))
        refine ⟨⟨_, _, hR2, relS_put (HE2.out.setRow HO.out hg hr), HG1.out.trans (hg.mono' hne)⟩, ?_⟩
        rw [hR2.left_eq, HR.out.left_eq]
        exact HLT.out
      clear hok hds hmap hcl ho hly hlt hr1 hE1 hg1
      have TC := hide (fun W (h : Il W A l) => containsI_b A c l y W h hn)
      cases hrl : (m.rw y).rl with
      | false =>
        rw [hrl] at hb
        have HRL := hide hrl
        clear hrl
        cases hmem : decide (y ∈ l) with
        | false =>
          rw [hmem] at TC hgr2
          have HGR := hide hgr2
          clear hmem hgr2
          haveI := hb
          go_wp2_with (first | (go_at_call 32; (with_reducible refine (TC.out _ (HIL.out.stp blw)).mono ?_); rintro e w2 ⟨rfl, hb2⟩; haveI : Stp _ w2 := ⟨hb2⟩; clear hb2) | fail)
          exact HGR.out _ { m.rw y with rl := false } (gr1 inferInstance) ⟨⟨HOK.out.bl, HOK.out.b0, HOK.out.bm, HOK.out.bb, HOK.out.s0, HOK.out.s1⟩, A2, c2, ds, inferInstance, HDS.out.tr (.of ((gr1 (g := rp y) inferInstance).mono' (fun i hi => by rw [List.mem_singleton] at hi; subst hi; exact List.mem_cons_of_mem _ (HE.out.CE _ hyC)))), HMAP.out, HCL.out⟩ (rel_keep (by rw [HRL.out]; rfl))
        | true =>
          rw [hmem] at TC hgr2
          have HGR := hide hgr2
          clear hmem hgr2
          haveI := hb
          go_wp2_with (first | (go_at_call 32; (with_reducible refine (TC.out _ (HIL.out.stp blw)).mono ?_); rintro e w2 ⟨rfl, hb2⟩; haveI : Stp _ w2 := ⟨hb2⟩; clear hb2) | fail)
          exact HGR.out _ { m.rw y with rl := true } (gr1 inferInstance) ⟨⟨HOK.out.bl, HOK.out.b0, HOK.out.bm, HOK.out.bb, HOK.out.s0, HOK.out.s1⟩, A2, c2, ds, inferInstance, HDS.out.tr (.of ((gr1 (g := rp y) inferInstance).mono' (fun i hi => by rw [List.mem_singleton] at hi; subst hi; exact List.mem_cons_of_mem _ (HE.out.CE _ hyC)))), HMAP.out, HCL.out⟩ (rel_keep (by rw [HRL.out]; rfl))
      | true =>
        rw [hrl] at hb
        have HRL := hide hrl
        clear hrl
        cases hmem : decide (y ∈ l) with
        | false =>
          rw [hmem] at TC hgr2
          have HGR := hide hgr2
          clear hmem hgr2
          haveI := hb
          go_wp2_with (first | (go_at_call 32; (with_reducible refine (TC.out _ (HIL.out.stp blw)).mono ?_); rintro e w2 ⟨rfl, hb2⟩; haveI : Stp _ w2 := ⟨hb2⟩; clear hb2) | (go_at_call 33; (with_reducible refine (anew_s (rp y) _ _ _ _ _ _ _ _ _ inferInstance).mono ?_); rintro e w3 ⟨rfl, hb3, hg3⟩; haveI := hb3; have HG3 := hide hg3; clear hg3) | fail)
          have hgf : Gr [rp y] w1 (w3.setCell ⟨rp y, 1, none⟩ (.bool false)) := ((Gr.of blw).trans HG3.out).trans (Gr.set _ _ _ (by simp))
          exact HGR.out _ { (m.rw y).anew with rl := false } hgf ⟨⟨by simp [Rw.anew], by simp [Rw.anew], by simp [Rw.anew], by simp [Rw.anew], HOK.out.s0, HOK.out.s1⟩, none, 0, [], inferInstance, Bds.nil _ _ _, rfl, Nat.le_refl _⟩ (rel_anew (by rw [HRL.out]; rfl))
        | true =>
          rw [hmem] at TC hgr2
          have HGR := hide hgr2
          clear hmem hgr2
          haveI := hb
          go_wp2_with (first | (go_at_call 32; (with_reducible refine (TC.out _ (HIL.out.stp blw)).mono ?_); rintro e w2 ⟨rfl, hb2⟩; haveI : Stp _ w2 := ⟨hb2⟩; clear hb2) | fail)
          exact HGR.out _ { m.rw y with rl := true } (gr1 inferInstance) ⟨⟨HOK.out.bl, HOK.out.b0, HOK.out.bm, HOK.out.bb, HOK.out.s0, HOK.out.s1⟩, A2, c2, ds, inferInstance, HDS.out.tr (.of ((gr1 (g := rp y) inferInstance).mono' (fun i hi => by rw [List.mem_singleton] at hi; subst hi; exact List.mem_cons_of_mem _ (HE.out.CE _ hyC)))), HMAP.out, HCL.out⟩ (rel_keep (by rw [HRL.out]; rfl))
end
end Go.Proofs.YtniogmefbjfoaaaGreat

namespace Go.Proofs.YtniogmefbjfoaaaGreat
set_option linter.unusedSimpArgs false
set_option linter.unusedVariables false
set_option linter.unusedSectionVars false
open Go.RowKit Go.Maps

set_option maxRecDepth 100000 in
theorem len64_0 (w : World) : Calls Tryz.prog 93 #[.int .u64 0] w fun e w' => e = .returned (.int .i64 0) ∧ w = w' := by
  go_enter Tryz.func93, Tryz.ntmps93
  go_wp2_with fail
  go_ret
  exact ⟨ret_i (show (0 : Int) = wrap64 (wrap64 (Lib.len8 0)) from by decide +kernel).symm, rfl⟩
set_option maxRecDepth 100000 in
theorem bitsLen_0 (w : World) : Calls Tryz.prog 65 #[.int .u64 0] w fun e w' => e = .returned (.int .i64 0) ∧ w = w' := by
  go_enter Tryz.func65, Tryz.ntmps65
  go_wp2_with (go_at_call 93; (with_reducible refine (len64_0 _).mono ?_); rintro e w1 ⟨rfl, rfl⟩)
  go_ret
  exact ⟨rfl, rfl⟩
set_option maxRecDepth 100000 in
theorem ins_0 (w : World) : Calls Tryz.prog 83 #[.slice none 0 0, .int .i64 0, .int .i64 0] w fun e w' => e = .returned (.tuple #[]) ∧ w = w' := by
  go_enter Tryz.func83, Tryz.ntmps83
  go_wp2_with fail
  go_loopw [6] (fun i wr => i = .int .i64 1 ∧ wr = w) (fun _ _ => 0)
  case atStart => exact ⟨rfl, rfl⟩
  case round =>
    obtain ⟨rfl, rfl⟩ := hrel
    go_wp2_with fail
    go_end0
    exact ⟨rfl, rfl⟩
set_option maxRecDepth 100000 in
theorem pdq_0 (w : World) : Calls Tryz.prog 64 #[.slice none 0 0, .int .i64 0, .int .i64 0, .int .i64 0] w fun e w' => e = .returned (.tuple #[]) ∧ w = w' := by
  go_enter Tryz.func64, Tryz.ntmps64
  go_wp2_with fail
  go_loopw [1, 2, 3, 8, 9] (fun p q z a b wr => p = .int .i64 0 ∧ q = .int .i64 0 ∧ z = .int .i64 0 ∧ a = .bool true ∧ b = .bool true ∧ wr = w) (fun _ _ _ _ _ _ => 0)
  case atStart => exact ⟨rfl, rfl, rfl, rfl, rfl, rfl⟩
  case round =>
    obtain ⟨rfl, rfl, rfl, rfl, rfl, rfl⟩ := hrel
    go_wp2_with (go_at_call 83; (with_reducible refine (ins_0 _).mono ?_); rintro e w1 ⟨rfl, rfl⟩)
    refine bodyPost_ret (results_none rfl _ _ _) rfl ?_
    exact ⟨rfl, rfl⟩
set_option maxRecDepth 100000 in
theorem sort_nil (w : World) : Calls Tryz.prog 41 #[.slice none 0 0] w fun e w' => e = .returned (.tuple #[]) ∧ w = w' := by
  go_enter Tryz.func41, Tryz.ntmps41
  go_wp2_with (first
    | (go_at_call 65; (with_reducible refine (bitsLen_0 _).mono ?_); rintro e w1 ⟨rfl, rfl⟩)
    | (go_at_call 64; (with_reducible refine (pdq_0 _).mono ?_); rintro e w1 ⟨rfl, rfl⟩))
  go_end0
  exact ⟨rfl, rfl⟩
section
variable {E C : List Nat} {x : Nat} {m : En} {rb fb : Nat} {rp cp : Int → Nat}
theorem tens_sorted : tens.Pairwise (· < ·) := by decide
theorem nodup_le16 : ∀ {l k : List Int}, l.Nodup → (∀ a ∈ l, a ∈ k) → l.length ≤ k.length
  | [], _, _, _ => Nat.zero_le _
  | a :: l, k, hn, hs => by
    obtain ⟨h1, h2⟩ := List.nodup_cons.1 hn
    have h3 := nodup_le16 (k := k.erase a) h2 (fun b hb => (List.mem_erase_of_ne (fun e => h1 (by rw [← e]; exact hb))).2 (hs b (List.mem_cons_of_mem _ hb)))
    have h4 := hs a List.mem_cons_self
    rw [List.length_erase_of_mem h4] at h3
    have := List.length_pos_of_mem h4
    simp only [List.length_cons]
    omega
theorem isR_iff {n : Int} : m.isR n = true ↔ m.oth n ∧ (m.rw n).rl = true := by unfold En.isR; simp
theorem nodes_perm {L : List Int} (hn : L.Nodup) (hm : ∀ n, n ∈ L ↔ m.isR n = true) : sortI L = m.nodes := by
  refine ssI_ext ?_ (tens_sorted.filter _) (fun n => ?_)
  · unfold sortI
    have h1 : (L.mergeSort fun x y => decide (x ≤ y)).Pairwise (fun x y => decide (x ≤ y) = true) := List.pairwise_mergeSort (fun a b c h1 h2 => by simp at *; omega) (fun a b => by simp; omega) L
    have h2 : (L.mergeSort fun x y => decide (x ≤ y)).Nodup := (List.mergeSort_perm L _).nodup_iff.2 hn
    exact (h1.and h2).imp (fun ⟨h3, h4⟩ => by simp at h3; omega)
  · unfold sortI
    rw [(List.mergeSort_perm L _).mem_iff, hm]
    unfold En.nodes
    rw [List.mem_filter, mem_tens]
    constructor
    · intro h
      refine ⟨?_, h⟩
      have h1 := (isR_iff.1 h).1
      unfold En.oth at h1
      omega
    · exact fun h => h.2
def RetNds (w : World) (l : List Int) (e : Ending) (w' : World) : Prop := ∃ v, e = .returned v ∧ w'.ownsRow w.heap.size 3 1 v l.length (ics l) ∧ Below w.heap.size w w'
theorem nodes_len (m : En) : m.nodes.length ≤ 10 := Nat.le_trans (List.length_filter_le _ _) (by decide)
theorem own_other16 {w w' : World} {base : Nat} {e : TypeId} {k n : Nat} {v : Value} {xs : List Value} {row : Option Nat} (h : w.ownsRow base e k v n xs) (hg : w.grownBy w' row) (hne : ∀ g, v.ownBlock = some g → row ≠ some g) : w'.ownsRow base e k v n xs := own_same h (fun i hi => hg.block i (h.lt i hi).2 (fun e => hne i hi e.symm))
theorem reads_i1y (W : World) (q : Nat) (y : Int) [h : BoxAt W q #[.int .i64 y] 3] : Reads W W.heap.size 1 (some ⟨q, 0, none⟩) 1 (ics [y]) :=
  ⟨rfl, fun _ => ⟨_, _, rfl, h.lt, fun j u hu => by
    match j, hu with
    | 0, hu => simp [ics] at hu; subst hu; rw [cell?_box]; rfl
    | j + 1, hu => simp [ics] at hu⟩⟩
set_option maxRecDepth 100000 in
set_option maxHeartbeats 4000000 in
theorem nodes16_s (w : World) (h : EnM w E C x m rb fb rp cp) : Calls Tryz.prog 19 #[.pointer (some ⟨x, 0, none⟩)] w (RetNds w m.nodes) := by
  have HE := hide h
  haveI := h.bx
  have hrm := hide h.rm
  clear h
  go_enter Tryz.func19, Tryz.ntmps19
  go_wp2_with (at_range; refine wpList_range_f (by rfl) (.tmp 11) 61 65 (by rfl) Tryz.underlying61 rb 9 (rowsF m rp) (by rfl) hrm.out ?_; intro w0 cnt0 hr0 hg0 hs0)
  go_frame
  go_loopw [3] (fun v wr => ∃ left cnt L, RanI wr rb w.heap.size 9 (rowsF m rp) left cnt ∧ wr.ownsRow (w.heap.size + 1) 3 1 v (L : List Int).length (ics L) ∧ L.Nodup ∧ L.length ≤ 10 ∧ (∀ n, n ∈ L ↔ m.isR n = true ∧ left n = false) ∧ Below w.heap.size w wr) (fun _ wr => wr.rangeLeft rb w.heap.size)
  case atStart =>
    refine ⟨_, _, [], hr0, World.ownsRow_nil _ _ _ _, List.nodup_nil, by simp, fun n => ?_, grown_belowT hg0 (Nat.le_refl _) (fun k hk => by cases hk)⟩
    constructor
    · intro h; cases h
    · rintro ⟨h1, h2⟩
      have h3 := (isR_iff.1 h1).1
      simp [rowsF, h3] at h2
  case round =>
    obtain ⟨left, cnt, L, hr, ho, hnd, hL10, hmem, hB⟩ := hrel
    obtain ⟨A5, c5, rfl, _, _⟩ := own_slice ho
    have HR := hide hr
    have HO := hide ho
    have HND := hide hnd
    have HMEM := hide hmem
    have HB := hide hB
    clear hr ho hnd hmem hB
    go_wp2_with (at_next; refine wpList_next_f (by rfl) (.tmp 12) (by rfl) rb w.heap.size 9 (rowsF m rp) left cnt (by rfl) HR.out ?_ ?_)
    · intro hd
      have hms : ∀ n, n ∈ L ↔ m.isR n = true := fun n => by
        rw [HMEM.out n]
        constructor
        · exact fun h => h.1
        · intro h
          refine ⟨h, hd n ?_⟩
          have h1 := (isR_iff.1 h).1
          unfold En.oth at h1
          exact ⟨by omega, by omega⟩
      have hsrt := nodes_perm HND.out hms
      have HS := hide hsrt
      clear hms hsrt hd
      rcases HO.out.2 with ⟨h1, h2⟩ | ⟨g, cap, cur, h1, hb', hg', _⟩
      · injection h1 with h1 h3 h4
        subst h1
        have hL0 : L = [] := List.eq_nil_of_length_eq_zero h3
        subst hL0
        subst h4
        clear h2 h3
        go_wp2_with (go_at_call 41; (with_reducible refine (sort_nil _).mono ?_); rintro e w2 ⟨rfl, rfl⟩)
        go_ret
        refine ⟨_, rfl, ?_, HB.out⟩
        rw [← HS.out, show sortI [] = [] from by simp [sortI]]
        exact World.ownsRow_nil _ _ _ _
      · injection h1 with h1 h3 h4
        subst h1 h4
        have HG := hide (Array.getElem?_eq_some_iff.1 hg').1
        have TS := hide (sortInt_own (w.heap.size + 1) g c5 L wr HO.out HG.out (by omega))
        have HBG := hide hb'
        clear hg' hb'
        go_wp2_with (go_at_call 41; (with_reducible refine TS.out.mono ?_); rintro e w2 ⟨rfl, ho2, hg2⟩; have HO2 := hide ho2; have HG2 := hide hg2; clear ho2 hg2)
        go_ret
        refine ⟨_, rfl, ?_, HB.out.trans (grown_belowT HG2.out HB.out.size (fun k hk => by injection hk with hk; have := HBG.out; omega))⟩
        have h5 := HO2.out
        unfold OwnI at h5
        rw [sortI_len] at h5
        have e : m.nodes.length = L.length := by rw [← HS.out, sortI_len]
        rw [e, ← HS.out]
        exact own_lo h5 (by omega)
    · intro y cv w1 cnt1 hw hly hf hr1 hlt hg1 hs1 hen
      obtain ⟨hoy, rfl⟩ := rowsF_some hf
      have hB1 : Below w.heap.size w w1 := HB.out.trans (grown_belowT hg1 HB.out.size (fun k hk => by injection hk with hk; omega))
      have hb1 := ((HE.out.below hB1).ro y hoy).1
      obtain ⟨_, A2, c2, ds, hb, _⟩ := hb1
      haveI := hb
      have HB1 := hide hB1
      have HR1 := hide hr1
      have HLT := hide hlt
      have HOY := hide hoy
      have HLY := hide hly
      have hO1 : w1.ownsRow (w.heap.size + 1) 3 1 (.slice A5 L.length c5) L.length (ics L) := own_other16 HO.out hg1 (fun g hg => by intro e; injection e with e; have := (HO.out.lt g hg).1; omega)
      have HO1 := hide hO1
      have z1 := hB1.size
      have hr1l := hr1.lt.1
      clear hB1 hr1 hlt hoy hly hf hg1 hs1 hO1
      cases hrl : (m.rw y).rl with
      | false =>
        rw [hrl] at hb
        haveI := hb
        have HRL := hide hrl
        clear hrl
        go_wp2_with fail
        refine ⟨⟨_, _, L, HR1.out, HO1.out, HND.out, hL10, fun n => ?_, HB1.out⟩, by rw [HR1.out.left_eq, HR.out.left_eq]; exact HLT.out⟩
        rw [HMEM.out n]
        by_cases e : n = y
        · subst e
          simp [HLY.out]
          cases hq : m.isR n with
          | false => rfl
          | true => have := (isR_iff.1 hq).2; rw [HRL.out] at this; cases this
        · simp [e]
      | true =>
        rw [hrl] at hb
        haveI := hb
        have HRL := hide hrl
        clear hrl
        have hynL : Hid (y ∉ L) := hide (fun hm => by have := (HMEM.out y).1 hm; rw [HLY.out] at this; cases this.2)
        have hL9 : Hid ((L ++ [y]).length ≤ 10) := hide (by
          have h1 : (L ++ [y]).Nodup := List.nodup_append.2 ⟨HND.out, by simp, fun a ha b hb e => by rw [List.mem_singleton] at hb; subst hb; subst e; exact hynL.out ha⟩
          have h2 : (L ++ [y]).length ≤ tens.length := nodup_le16 h1 (fun a ha => by
            rcases List.mem_append.1 ha with h3 | h3
            · have h4 := (isR_iff.1 ((HMEM.out a).1 h3).1).1
              unfold En.oth at h4
              exact mem_tens.2 ⟨h4.1, h4.2.1⟩
            · rw [List.mem_singleton] at h3
              subst h3
              have h4 := HOY.out
              unfold En.oth at h4
              exact mem_tens.2 ⟨h4.1, h4.2.1⟩)
          exact Nat.le_trans h2 (by decide))
        go_wp2_with ((at_builtin; refine wpList_append_x Tryz.okI rfl (.tmp 22) (.tmp 24) rfl (w.heap.size + 1) (.slice A5 L.length c5) L.length (ics L) 1 (ics [y]) ?_ ?_ ?_ ?_ ?_ ?_ ?_ ?_; go_must ((focus (first | rfl | (simp [Act.eval, Act.put]; done))); (focus (exact own_tc HO1.out)); (focus (refine ⟨_, _, rfl, ?_⟩; exact reads_i1y _ _ y)); (focus (exact ics_one _)); (focus (unfold maxLen; omega)); (focus omega); (focus (first | omega | (simp; done) | (simp; omega) | exact blw.size | exact BoxAt.lt (n := w.heap.size) inferInstance)); intro v7 w7 ho7 hg7 ha7; have HB7 := hide (grown_belowT hg7 (B := w.heap.size + 1) (by simp; omega) (fun q hq => (HO1.out.lt q hq).1)); have HG7 := hide hg7; obtain ⟨A7, c7, rfl, _, _⟩ := own_slice ho7; have O7 := hide ho7; clear ho7 hg7 ha7)))
        have hbx : Below (w.heap.size + 1) w1 w7 := ((below_alloc w1 _).mono (by omega)).trans HB7.out
        have hrb := hrm.out.lt
        have hR7 := HR1.out.same (hbx.block rb (by omega)) (hbx.block w.heap.size (by omega))
        refine ⟨⟨_, _, L ++ [y], hR7, ?_, ?_, hL9.out, fun n => ?_, HB1.out.trans (hbx.mono (by omega))⟩, by rw [hR7.left_eq, HR.out.left_eq]; exact HLT.out⟩
        · rw [List.length_append, ics_app]
          exact O7.out
        · exact List.nodup_append.2 ⟨HND.out, by simp, fun a ha b hb e => by rw [List.mem_singleton] at hb; subst hb; subst e; exact hynL.out ha⟩
        · rw [List.mem_append, HMEM.out n]
          by_cases e : n = y
          · subst e
            simp [HLY.out, isR_iff.2 ⟨HOY.out, HRL.out⟩]
          · simp [e]
end
end Go.Proofs.YtniogmefbjfoaaaGreat
