/-
  Layer 21: contracts: cmp.Or, the comparisons of cut.Keep, the library's sort by life, number and place.
-/
import Derived.Test.YtmleeohaaipdcaaLet7
namespace Go.Proofs.Ytmleeohaaipdcaa
set_option linter.unusedSimpArgs false
set_option linter.unusedVariables false
set_option linter.unusedSectionVars false
open Go.RowKit Go.Sort Go.Lib

/-- the first one that is not nought -/
def orL : List Int → Int
  | [] => 0
  | x :: l => if x = 0 then orL l else x
theorem orL_skip {l : List Int} {k : Nat} (h : l[k]? = some 0) (e : orL l = orL (l.drop k)) : orL l = orL (l.drop (k + 1)) := by
  obtain ⟨hl, h0⟩ := List.getElem?_eq_some_iff.1 h
  rw [e, List.drop_eq_getElem_cons hl, orL, if_pos h0]
theorem orL_hit {l : List Int} {k : Nat} {x : Int} (h : l[k]? = some x) (hx : x ≠ 0) (e : orL l = orL (l.drop k)) : orL l = x := by
  obtain ⟨hl, h0⟩ := List.getElem?_eq_some_iff.1 h
  rw [e, List.drop_eq_getElem_cons hl, orL, h0, if_neg hx]
set_option maxHeartbeats 1000000 in
theorem or_s (A : Option Addr) (c : Nat) (l : List Int) (w : World) (h : Il w A l) (hl : l.length ≤ 1000) :
    Calls Try.prog 46 #[.slice A l.length c] w fun e w' => e = .returned (.int .i64 (orL l)) ∧ w = w' := by
  have HL := hide h
  clear h
  go_enter Try.func46, Try.ntmps46
  go_wp2_with fail
  go_loopw [8] (fun j wr => ∃ k : Nat, k ≤ l.length ∧ j = .int .i64 k ∧ orL l = orL (l.drop k) ∧ wr = w) (fun j _ => l.length - (intOf j).toNat)
  case atStart => exact ⟨0, Nat.zero_le _, rfl, rfl, rfl⟩
  case round =>
    obtain ⟨k, hk, rfl, hno, rfl⟩ := hrel
    have HN := hide hno
    clear hno
    by_cases hlt : k < l.length
    · obtain ⟨b, off, x, rfl, hb, hp, g1⟩ := Reads.atI HL.out hlt
      have i0 : (0 : Int) ≤ (k : Int) := by omega
      have i1 : (k : Int) < (l.length : Int) := by omega
      by_cases hx : x = 0
      · subst hx
        have H := hide (orL_skip hp HN.out)
        clear hp
        go_wp2
        go_roundw
        case rel => exact ⟨k + 1, by omega, by go_num, H.out, by first | rfl | trivial⟩
        case measure => simp [intOf]; omega
      · have H := hide (orL_hit hp hx HN.out)
        have b1 : (x != 0) = true := by simp [hx]
        have b2 : (x == 0) = false := by simp [hx]
        clear hp hx
        go_wp2
        go_ret
        exact ⟨ret_i H.out.symm, rfl⟩
    · have H := hide (show orL l = 0 by have := HN.out; rwa [List.drop_of_length_le (by omega)] at this)
      go_wp2
      go_ret
      exact ⟨ret_i H.out.symm, rfl⟩
def cmpK3 (x y : Lr × Nat) : Int := orL [cmpP x.1.x.p y.1.x.p, cmpI x.1.x.cid y.1.x.cid, cmpI x.2 y.2]
theorem reads_i3 (W : World) (m : Nat) (a b c : Int) [h : BoxAt W m #[.int .i64 a, .int .i64 b, .int .i64 c] 3] : Il W (some ⟨m, 0, none⟩) [a, b, c] := by
  refine ⟨rfl, fun _ => ⟨_, _, rfl, h.lt, fun j u hu => ?_⟩⟩
  rw [Nat.zero_add, cell?_box]
  have e : ics [a, b, c] = (#[.int .i64 a, .int .i64 b, .int .i64 c] : Array Value).toList := rfl
  rw [e] at hu
  simpa using hu
theorem or3_s (a b c : Int) (m : Nat) (W : World) [h : BoxAt W m #[.int .i64 a, .int .i64 b, .int .i64 c] 3] : Calls Try.prog 46 #[.slice (some ⟨m, 0, none⟩) 3 3] W fun e w' => e = .returned (.int .i64 (orL [a, b, c])) ∧ W = w' := or_s _ _ [a, b, c] _ (reads_i3 _ _ a b c) (by simp)
abbrev kva (t : Lr × Nat) : Value := .agg #[.int .i64 t.1.x.k, .int .i64 t.1.x.p.1, .int .u64 t.1.x.p.2, .int .u64 t.1.x.r, .int .i64 t.1.x.s.1, .int .u64 t.1.x.s.2, .int .u64 t.1.x.n, .slice t.1.BA t.1.x.b.length t.1.bc, .int .u64 t.1.x.cid, .slice t.1.CA t.1.x.c.length t.1.cc, .bool t.1.x.w, .int .i64 t.2]
set_option maxRecDepth 100000 in
set_option maxHeartbeats 4000000 in
theorem keep2_s (x y : Lr × Nat) (w : World) : Calls Try.prog 43 #[kva x, kva y] w (RetB w (eqK (fun z : Lr × Nat => z.1.x.p) (fun z => z.1.x.cid) x y)) := by
  cases f1 : eqP x.1.x.p.1 x.1.x.p.2 y.1.x.p.1 y.1.x.p.2
  · have H := hide (show eqK (fun z : Lr × Nat => z.1.x.p) (fun z => z.1.x.cid) x y = false by
      cases h : eqK (fun z : Lr × Nat => z.1.x.p) (fun z => z.1.x.cid) x y with
      | false => rfl
      | true =>
        have := ((eqK_iff _ _).1 h).1
        have h2 := eqP_iff.2 (show ((x.1.x.p.1, x.1.x.p.2) : Int × Int) = (y.1.x.p.1, y.1.x.p.2) from this)
        rw [f1] at h2; cases h2)
    go_enter Try.func43, Try.ntmps43
    go_wp2
    go_ret
    exact ⟨ret_b H.out.symm, blw⟩
  · cases f2 : (x.1.x.cid == y.1.x.cid)
    · have H := hide (show eqK (fun z : Lr × Nat => z.1.x.p) (fun z => z.1.x.cid) x y = false by
        cases h : eqK (fun z : Lr × Nat => z.1.x.p) (fun z => z.1.x.cid) x y with
        | false => rfl
        | true => have := ((eqK_iff _ _).1 h).2; simp at f2; exact absurd this f2)
      go_enter Try.func43, Try.ntmps43
      go_wp2
      go_ret
      exact ⟨ret_b H.out.symm, blw⟩
    · have H := hide (show eqK (fun z : Lr × Nat => z.1.x.p) (fun z => z.1.x.cid) x y = true from (eqK_iff _ _).2 ⟨eqP_iff.1 f1, by simpa using f2⟩)
      go_enter Try.func43, Try.ntmps43
      go_wp2
      go_ret
      exact ⟨ret_b H.out.symm, blw⟩
/-- blocks and draws behind a world, nothing else -/
class Grw (a W : World) : Prop where
  h : ∃ q os, W = Go.Sort.grow (a.drewN q) os
instance (priority := high) Grw.rf (a : World) : Grw a a := ⟨0, #[], by simp [Go.Sort.grow, World.drewN]⟩
instance Grw.al (a W : World) (o : Obj) [k : Grw a W] : Grw a (W.alloc o) := ⟨by obtain ⟨q, os, h⟩ := k.h; exact ⟨q, os ++ #[o], by rw [h, alloc_eq_grow, grow_grow]⟩⟩
instance Grw.dr (a W : World) [k : Grw a W] : Grw a W.drew := ⟨by obtain ⟨q, os, h⟩ := k.h; exact ⟨q + 1, os, by rw [h]; rfl⟩⟩
instance Grw.drN (a W : World) (n : Nat) [k : Grw a W] : Grw a (W.drewN n) := ⟨by obtain ⟨q, os, h⟩ := k.h; exact ⟨q + n, os, by rw [h]; simp [Go.Sort.grow, World.drewN, Nat.add_assoc]⟩⟩
theorem Grw.bel {a W : World} (h : Grw a W) : Below a.heap.size a W := by
  obtain ⟨q, os, rfl⟩ := h.h
  exact ⟨rfl, rfl, rfl, by simp [Go.Sort.grow, World.drewN], fun k hk => by simp [Go.Sort.grow, World.drewN, Array.getElem?_append, hk]⟩
theorem cmpP_t (p q : Pr) (W : World) : Calls Try.prog 47 #[.agg #[.int .i64 p.1, .int .u64 p.2], .agg #[.int .i64 q.1, .int .u64 q.2]] W fun e w' => e = .returned (.int .i64 (cmpP p q)) ∧ (W.alloc (bx p.1 p.2)).alloc (bx q.1 q.2) = w' := compare_any p.1 p.2 q.1 q.2 W
set_option maxRecDepth 100000 in
set_option maxHeartbeats 4000000 in
theorem keep3_s (x y : Lr × Nat) (w : World) : Calls Try.prog 45 #[kva x, kva y] w fun e w' => e = .returned (.int .i64 (cmpK3 x y)) ∧ Grw w w' := by
  have T1 := hide (fun W => cmpP_t x.1.x.p y.1.x.p W)
  have T2 := hide (fun W => cmp_u64 x.1.x.cid y.1.x.cid W)
  have T3 := hide (fun W => cmp_int (x.2 : Int) (y.2 : Int) W)
  have H := hide (show cmpK3 x y = orL [cmpP x.1.x.p y.1.x.p, cmpI x.1.x.cid y.1.x.cid, cmpI x.2 y.2] from rfl)
  generalize cmpP x.1.x.p y.1.x.p = a at T1 H
  generalize cmpI x.1.x.cid y.1.x.cid = b at T2 H
  generalize cmpI (x.2 : Int) (y.2 : Int) = c at T3 H
  go_enter Try.func45, Try.ntmps45
  go_wp2_with fail
  go_region_held3 (fun w' => w'.cell? ⟨w.heap.size, 1, none⟩ = some (.int .i64 x.1.x.p.1) ∧ w'.cell? ⟨w.heap.size, 2, none⟩ = some (.int .u64 x.1.x.p.2) ∧ w'.cell? ⟨w.heap.size, 8, none⟩ = some (.int .u64 x.1.x.cid) ∧ w'.cell? ⟨w.heap.size, 11, none⟩ = some (.int .i64 x.2) ∧ w'.cell? ⟨w.heap.size + 1, 1, none⟩ = some (.int .i64 y.1.x.p.1) ∧ w'.cell? ⟨w.heap.size + 1, 2, none⟩ = some (.int .u64 y.1.x.p.2) ∧ w'.cell? ⟨w.heap.size + 1, 8, none⟩ = some (.int .u64 y.1.x.cid) ∧ w'.cell? ⟨w.heap.size + 1, 11, none⟩ = some (.int .i64 y.2)) ((refine ⟨?_, ?_, ?_, ?_, ?_, ?_, ?_, ?_⟩ <;> (rw [cell?_box]; rfl)))
    (first
    | (go_at_call 47; (with_reducible refine (T1.out _).mono ?_); rintro e w1 ⟨rfl, rfl⟩)
    | (go_at_call 48; (with_reducible refine (T2.out _).mono ?_); rintro e w2 ⟨rfl, rfl⟩)
    | (go_at_call 49; (with_reducible refine (T3.out _).mono ?_); rintro e w3 ⟨rfl, rfl⟩)
    | (go_at_call 46; (with_reducible refine (or3_s a b c _ _).mono ?_); rintro e w4 ⟨rfl, rfl⟩)
    | fail)
  all_goals
    go_wp2
    go_ret
    exact ⟨ret_i H.out.symm, inferInstance⟩
theorem cmpI_neg (a b : Int) : cmpI a b < 0 ↔ a < b := by
  rcases Int.lt_trichotomy a b with h | h | h
  · rw [cmpI_lt h]; omega
  · rw [cmpI_eq h]; omega
  · rw [cmpI_gt h]; omega
theorem cmpI_zero (a b : Int) : cmpI a b = 0 ↔ a = b := by
  rcases Int.lt_trichotomy a b with h | h | h
  · rw [cmpI_lt h]; omega
  · rw [cmpI_eq h]; omega
  · rw [cmpI_gt h]; omega
theorem cmpP_nil (p q : Pr) : cmpP p q = 0 ↔ p = q := by
  obtain ⟨a, b⟩ := p; obtain ⟨c, d⟩ := q
  unfold cmpP
  simp only [Prod.mk.injEq]
  split
  · rename_i h; rw [cmpI_zero] at h ⊢; simp [h]
  · rename_i h
    rw [cmpI_zero] at h
    constructor
    · intro h2; rw [cmpI_zero] at h2; exact absurd h2 h
    · rintro ⟨rfl, _⟩; exact absurd rfl h
theorem orL3_neg (a b c : Int) : orL [a, b, c] < 0 ↔ a < 0 ∨ a = 0 ∧ (b < 0 ∨ b = 0 ∧ c < 0) := by
  simp only [orL]
  by_cases ha : a = 0
  · rw [if_pos ha]
    by_cases hb : b = 0
    · rw [if_pos hb]
      by_cases hc : c = 0
      · rw [if_pos hc]; omega
      · rw [if_neg hc]; omega
    · rw [if_neg hb]; omega
  · rw [if_neg ha]; omega
theorem cmpK3_lt (x y : Lr × Nat) : cmpK3 x y < 0 ↔ lt3 (fun y : Lr => y.x.p) (fun y => y.x.cid) x y := by
  unfold cmpK3 lt3 ltK
  rw [orL3_neg, cmpI_neg, cmpI_neg, cmpI_zero, cmpP_nil, ← ltP_cmp]
  constructor
  · rintro (h | ⟨h1, h | ⟨h2, h3⟩⟩)
    · exact Or.inl (Or.inl h)
    · exact Or.inl (Or.inr ⟨h1, h⟩)
    · exact Or.inr ⟨⟨h1, h2⟩, by omega⟩
  · rintro ((h | ⟨h1, h⟩) | ⟨⟨h1, h2⟩, h3⟩)
    · exact Or.inl h
    · exact Or.inr ⟨h1, Or.inl h⟩
    · exact Or.inr ⟨h1, Or.inr ⟨h2, by omega⟩⟩
end Go.Proofs.Ytmleeohaaipdcaa
