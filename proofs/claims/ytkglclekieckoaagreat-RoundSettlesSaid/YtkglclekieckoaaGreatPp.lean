/-
  Layer 9: proposals in memory; contracts: apart, May, Same.
-/
import Derived.Test.YtkglclekieckoaaGreatView
import Derived.Test.YtkglclekieckoaaGreatRef4
import Derived.Test.YtkglclekieckoaaGreatVget
import Derived.Test.YtkglclekieckoaaGreatBack
import Derived.Test.YtkglclekieckoaaGreatInv
namespace Go.Proofs.YtkglclekieckoaaGreat
set_option linter.unusedSimpArgs false
set_option linter.unusedVariables false
set_option linter.unusedSectionVars false
open Go.RowKit

/-- a proposal, and where its rows lie -/
structure Pp where
  n : Int
  i : Int
  rd : Int
  SA : Option Addr
  sc : Nat
  ss : List Pr
  CA : Option Addr
  cc : Nat
  cs : List Pr
  UA : Option Addr
  uc : Nat
  us : List Int
  deriving Inhabited
def Pp.v (x : Pp) : Value := .agg #[.int .i64 x.n, .int .u64 x.i, .int .u64 x.rd, .slice x.SA x.ss.length x.sc, .slice x.CA x.cs.length x.cc, .slice x.UA x.us.length x.uc]
structure Pp.Ok (w : World) (x : Pp) : Prop where
  s : Sl w x.SA x.ss
  sl : x.ss.length ≤ 1000000
  c : Sl w x.CA x.cs
  cl : x.cs.length ≤ 1000000
  u : Ul w x.UA x.us
  ul : x.us.length ≤ 1000000
theorem Pp.Ok.step {w w' : World} {x : Pp} (h : x.Ok w) (hb : Below w.heap.size w w') : x.Ok w' := ⟨h.s.step hb, h.sl, h.c.step hb, h.cl, h.u.step hb, h.ul⟩
abbrev PpV (n i rd : Int) (SA : Option Addr) (sl sc : Nat) (CA : Option Addr) (cl cc : Nat) (UA : Option Addr) (ul uc : Nat) : Value := .agg #[.int .i64 n, .int .u64 i, .int .u64 rd, .slice SA sl sc, .slice CA cl cc, .slice UA ul uc]
abbrev csP (n i rd : Int) (SA : Option Addr) (sl sc : Nat) (CA : Option Addr) (cl cc : Nat) (UA : Option Addr) (ul uc : Nat) : Array Value := #[.int .i64 n, .int .u64 i, .int .u64 rd, .slice SA sl sc, .slice CA cl cc, .slice UA ul uc]
abbrev bxP (n i rd : Int) (SA : Option Addr) (sl sc : Nat) (CA : Option Addr) (cl cc : Nat) (UA : Option Addr) (ul uc : Nat) : Obj := .cells #[.int .i64 n, .int .u64 i, .int .u64 rd, .slice SA sl sc, .slice CA cl cc, .slice UA ul uc] 41
def RetBp (w : World) (b : Bool) (e : Ending) (w' : World) : Prop := e = .returned (.bool b) ∧ Below w.heap.size w w'
/-- the last one's node -/
def lastN (l : List Pr) : Int := (l.getD (l.length - 1) (0, 0)).1
/-- is a list a set of at most so many lives, no node twice, each node at most the last? -/
def apartB (l : List Pr) (most last : Int) : Bool := decide ((l.length : Int) ≤ most) && (setB l && ((((nodesL l).length : Int) == (l.length : Int)) && (((l.length : Int) == 0) || decide (lastN l ≤ last))))
set_option maxRecDepth 100000 in
set_option maxHeartbeats 2000000 in
theorem apart_s (A : Option Addr) (c : Nat) (l : List Pr) (most last : Int) (w : World) (h : Sl w A l) (hl : l.length ≤ 1000000) :
    Calls Tryz.prog 85 #[.slice A l.length c, .int .i64 most, .int .i64 last] w (RetBp w (apartB l most last)) := by
  have T4 := hide (fun W (hW : Sl W A l) => set_any A c l W hW hl)
  have T5 := hide (fun W (hW : Sl W A l) => nodes_s A c l W hW hl)
  have HS := hide h
  unfold apartB
  have e1 : decide ((l.length : Int) ≤ most) = !decide (most < (l.length : Int)) := by rw [← decide_not, decide_eq_decide]; omega
  have e3 : (((nodesL l).length : Int) == (l.length : Int)) = !(((nodesL l).length : Int) != (l.length : Int)) := by rw [bne, Bool.not_not]
  rw [e1, e3]
  clear e1 e3
  generalize setB l = b2 at T4 ⊢
  generalize nodesL l = N at T5 ⊢
  generalize f1 : decide (most < (l.length : Int)) = b1
  generalize f3 : ((N.length : Int) != (l.length : Int)) = b3
  have key : b1 = true ∨ (b1 = false ∧ b2 = false) ∨ (b1 = false ∧ b2 = true ∧ b3 = true) ∨ (b1 = false ∧ b2 = true ∧ b3 = false) := by
    cases b1 <;> cases b2 <;> cases b3 <;> simp
  rcases key with rfl | ⟨rfl, rfl⟩ | ⟨rfl, rfl, rfl⟩ | ⟨rfl, rfl, rfl⟩
  iterate 3
    · clear h
      go_enter Tryz.func85, Tryz.ntmps85
      go_wp2_with (first
        | (go_at_call 63; (with_reducible refine (T4.out _ (HS.out.step (by repeat (first | exact Below.refl _ _ | assumption | refine bel_al ?_ _ | refine bel_gw ?_ _ _ | refine bel_drew ?_ | refine bel_drewN ?_ _)))).mono ?_); rintro e w2 ⟨rfl, hb⟩; obtain ⟨⟨d3, os3⟩, rfl⟩ := gw_of_below hb; clear hb)
        | (go_at_call 40; (with_reducible refine (T5.out _ (HS.out.step (by repeat (first | exact Below.refl _ _ | assumption | refine bel_al ?_ _ | refine bel_gw ?_ _ _ | refine bel_drew ?_ | refine bel_drewN ?_ _)))).mono ?_); rintro e w3 ⟨NA, NC, rfl, hN, hb⟩; obtain ⟨⟨d4, os4⟩, rfl⟩ := gw_of_below hb; clear hb hN))
      go_ret
      exact ⟨ret_b (by simp), (by repeat (first | exact Below.refl _ _ | assumption | refine bel_al ?_ _ | refine bel_gw ?_ _ _ | refine bel_drew ?_ | refine bel_drewN ?_ _))⟩
  · rcases l with _ | ⟨q, l'⟩
    · clear h
      simp only [List.length_nil] at T4 T5 f1 f3 ⊢
      have f1' : decide (most < 0) = false := f1
      have f3' : ((N.length : Int) != 0) = false := f3
      clear f1 f3
      go_enter Tryz.func85, Tryz.ntmps85
      go_wp2_with (first
        | (go_at_call 63; (with_reducible refine (T4.out _ (HS.out.step (by repeat (first | exact Below.refl _ _ | assumption | refine bel_al ?_ _ | refine bel_gw ?_ _ _ | refine bel_drew ?_ | refine bel_drewN ?_ _)))).mono ?_); rintro e w2 ⟨rfl, hb⟩; obtain ⟨⟨d3, os3⟩, rfl⟩ := gw_of_below hb; clear hb)
        | (go_at_call 40; (with_reducible refine (T5.out _ (HS.out.step (by repeat (first | exact Below.refl _ _ | assumption | refine bel_al ?_ _ | refine bel_gw ?_ _ _ | refine bel_drew ?_ | refine bel_drewN ?_ _)))).mono ?_); rintro e w3 ⟨NA, NC, rfl, hN, hb⟩; obtain ⟨⟨d4, os4⟩, rfl⟩ := gw_of_below hb; clear hb hN))
      go_ret
      exact ⟨ret_b (by simp), (by repeat (first | exact Below.refl _ _ | assumption | refine bel_al ?_ _ | refine bel_gw ?_ _ _ | refine bel_drew ?_ | refine bel_drewN ?_ _))⟩
    · generalize hL : (q :: l') = L at *
      obtain ⟨m, hm⟩ : ∃ m, L.length = m + 1 := ⟨l'.length, by rw [← hL]; rfl⟩
      obtain ⟨b, off, ⟨pn, pi⟩, rfl, hb, hp, g1, g2⟩ := h.at2 (k := m) (by omega)
      have HL : Hid (lastN L = pn) := hide (by unfold lastN; rw [hm, Nat.add_sub_cancel, List.getD_eq_getElem?_getD, hp]; rfl)
      simp only at g1 g2
      rw [HL.out]
      haveI : InW b w := ⟨hb⟩
      clear h hb hp g2 HL hL
      generalize L.length = n at hm hl f1 f3 T4 T5 ⊢
      have h0 : ((n : Int) == 0) = false := by rw [beq_eq_false_iff_ne]; omega
      have i1 : IntKind.i64.wrap ((n : Int) - 1) = (m : Int) := by rw [IntWalk.i64_in _ (by omega)]; omega
      have i2 : (m : Int) < (n : Int) := by omega
      have i3 : m < n := by omega
      clear hm
      go_enter Tryz.func85, Tryz.ntmps85
      go_wp2_with (first
        | (go_at_call 63; (with_reducible refine (T4.out _ (HS.out.step (by repeat (first | exact Below.refl _ _ | assumption | refine bel_al ?_ _ | refine bel_gw ?_ _ _ | refine bel_drew ?_ | refine bel_drewN ?_ _)))).mono ?_); rintro e w2 ⟨rfl, hb⟩; obtain ⟨⟨d3, os3⟩, rfl⟩ := gw_of_below hb; clear hb)
        | (go_at_call 40; (with_reducible refine (T5.out _ (HS.out.step (by repeat (first | exact Below.refl _ _ | assumption | refine bel_al ?_ _ | refine bel_gw ?_ _ _ | refine bel_drew ?_ | refine bel_drewN ?_ _)))).mono ?_); rintro e w3 ⟨NA, NC, rfl, hN, hb⟩; obtain ⟨⟨d4, os4⟩, rfl⟩ := gw_of_below hb; clear hb hN))
      go_ret
      exact ⟨ret_b (by rw [h0]; simp), (by repeat (first | exact Below.refl _ _ | assumption | refine bel_al ?_ _ | refine bel_gw ?_ _ _ | refine bel_drew ?_ | refine bel_drewN ?_ _))⟩
end Go.Proofs.YtkglclekieckoaaGreat

namespace Go.Proofs.YtkglclekieckoaaGreat
set_option linter.unusedSimpArgs false
set_option linter.unusedVariables false
set_option linter.unusedSectionVars false
open Go.RowKit

/-- may a proposal be? -/
def Pp.mayB (x : Pp) : Bool := decide (1 ≤ (x.ss.length : Int)) && (apartB x.ss 4 4 && (decide ((x.n, x.i) ∈ x.ss) && (decide (0 < x.rd) && (apartB x.cs 6 10 && (((x.us.length : Int) == (x.cs.length : Int)) && !decide ((0 : Int) ∈ x.us))))))
def Pp.eqB (x y : Pp) : Bool := eqP x.n x.i y.n y.i && ((x.rd == y.rd) && (decide (x.ss = y.ss) && (decide (x.cs = y.cs) && decide (x.us = y.us))))
set_option maxRecDepth 100000 in
set_option maxHeartbeats 4000000 in
theorem pmay_s (x : Pp) (w : World) (h : x.Ok w) : Calls Tryz.prog 47 #[x.v] w (RetBp w x.mayB) := by
  obtain ⟨n, i, rd, SA, sc, ss, CA, cc, cs, UA, uc, us⟩ := x
  obtain ⟨h1, h2, h3, h4, h5, h6⟩ := h
  unfold Pp.mayB Pp.v
  simp only at h1 h2 h3 h4 h5 h6 ⊢
  have T2 := hide (fun W (hW : Sl W SA ss) => apart_s SA sc ss 4 4 W hW h2)
  have T3 := hide (fun W (hW : Sl W SA ss) => has_b SA sc ss n i W hW h2)
  have T5 := hide (fun W (hW : Sl W CA cs) => apart_s CA cc cs 6 10 W hW h4)
  have T7 := hide (fun W (hW : Ul W UA us) => containsU_s UA uc us 0 W hW h6)
  have H1 := hide h1
  have H3 := hide h3
  have H5 := hide h5
  clear h1 h3 h5
  generalize apartB ss 4 4 = b2 at T2 ⊢
  generalize decide ((n, i) ∈ ss) = b3 at T3 ⊢
  generalize apartB cs 6 10 = b5 at T5 ⊢
  generalize decide ((0 : Int) ∈ us) = b7 at T7 ⊢
  generalize f1 : decide (1 ≤ (ss.length : Int)) = b1
  generalize f4 : decide (0 < rd) = b4
  generalize f6 : ((us.length : Int) == (cs.length : Int)) = b6
  have key : b1 = false ∨ (b1 = true ∧ b2 = false) ∨ (b1 = true ∧ b2 = true ∧ b3 = false) ∨ (b1 = true ∧ b2 = true ∧ b3 = true ∧ b4 = false) ∨ (b1 = true ∧ b2 = true ∧ b3 = true ∧ b4 = true ∧ b5 = false) ∨ (b1 = true ∧ b2 = true ∧ b3 = true ∧ b4 = true ∧ b5 = true ∧ b6 = false) ∨ (b1 = true ∧ b2 = true ∧ b3 = true ∧ b4 = true ∧ b5 = true ∧ b6 = true) := by
    cases b1 <;> cases b2 <;> cases b3 <;> cases b4 <;> cases b5 <;> cases b6 <;> simp
  rcases key with rfl | ⟨rfl, rfl⟩ | ⟨rfl, rfl, rfl⟩ | ⟨rfl, rfl, rfl, rfl⟩ | ⟨rfl, rfl, rfl, rfl, rfl⟩ | ⟨rfl, rfl, rfl, rfl, rfl, rfl⟩ | ⟨rfl, rfl, rfl, rfl, rfl, rfl⟩
  all_goals
    go_enter Tryz.func47, Tryz.ntmps47
    go_wp2_with (first
        | (go_at_call 85; (with_reducible refine (T2.out _ (H1.out.step (by repeat (first | exact Below.refl _ _ | assumption | refine bel_al ?_ _ | refine bel_gw ?_ _ _ | refine bel_drew ?_ | refine bel_drewN ?_ _)))).mono ?_); rintro e w1 ⟨rfl, hb⟩; obtain ⟨⟨d1, os1⟩, rfl⟩ := gw_of_below hb; clear hb)
        | (go_at_call 30; (with_reducible refine (T3.out _ (H1.out.step (by repeat (first | exact Below.refl _ _ | assumption | refine bel_al ?_ _ | refine bel_gw ?_ _ _ | refine bel_drew ?_ | refine bel_drewN ?_ _)))).mono ?_); rintro e w2 ⟨rfl, hb⟩; obtain ⟨⟨d2, os2⟩, rfl⟩ := gw_of_below hb; clear hb)
        | (go_at_call 85; (with_reducible refine (T5.out _ (H3.out.step (by repeat (first | exact Below.refl _ _ | assumption | refine bel_al ?_ _ | refine bel_gw ?_ _ _ | refine bel_drew ?_ | refine bel_drewN ?_ _)))).mono ?_); rintro e w3 ⟨rfl, hb⟩; obtain ⟨⟨d3, os3⟩, rfl⟩ := gw_of_below hb; clear hb)
        | (go_at_call 86; (with_reducible refine (T7.out _ (H5.out.step (by repeat (first | exact Below.refl _ _ | assumption | refine bel_al ?_ _ | refine bel_gw ?_ _ _ | refine bel_drew ?_ | refine bel_drewN ?_ _)))).mono ?_); rintro e w4 ⟨rfl, rfl⟩))
    go_ret
    exact ⟨ret_b (by simp), (by repeat (first | exact Below.refl _ _ | assumption | refine bel_al ?_ _ | refine bel_gw ?_ _ _ | refine bel_drew ?_ | refine bel_drewN ?_ _))⟩
set_option maxRecDepth 100000 in
set_option maxHeartbeats 2000000 in
theorem numbers9_s (A A' : Option Addr) (c c' : Nat) (l m : List Int) (w : World) (h : Ul w A l) (h' : Ul w A' m) (hn : l.length ≤ 1000000) (hm : m.length ≤ 1000000) :
    Calls Tryz.prog 91 #[.slice A l.length c, .slice A' m.length c'] w fun e w' => e = .returned (.bool (decide (l = m))) ∧ Below w.heap.size w w' := by
  have HU := hide h
  have HU' := hide h'
  clear h h'
  by_cases hlen : l.length = m.length
  · have h0 : ((l.length : Int) != (m.length : Int)) = false := by simp [hlen]
    have HL := hide hlen
    clear hlen
    go_enter Tryz.func91, Tryz.ntmps91
    go_wp2
    go_loopw [5] (fun i wr => ∃ k q : Nat, k ≤ l.length ∧ i = .int .i64 k ∧ wr = w.drewN q ∧ l.take k = m.take k) (fun i _ => l.length - (intOf i).toNat)
    case atStart => exact ⟨0, 0, Nat.zero_le _, rfl, rfl, by simp⟩
    case round =>
      obtain ⟨k, q, hk, rfl, rfl, hnot⟩ := hrel
      have HN := hide hnot
      clear hnot
      by_cases hlt : k < l.length
      · obtain ⟨b, off, x, rfl, hb1, hp, g1⟩ := HU.out.atU hlt
        have hlt' : k < m.length := by rw [← HL.out]; exact hlt
        obtain ⟨b', off', y, rfl, hb2, hp', g1'⟩ := HU'.out.atU hlt'
        have HP := hide hp
        have HP' := hide hp'
        clear hp hp'
        by_cases he : x = y
        · have hxy : (x != y) = false := by simp [he]
          have H := hide (show l.take (k + 1) = m.take (k + 1) by rw [take_succ_of HP.out, take_succ_of HP'.out, HN.out, he])
          clear he
          go_wp2
          go_quiet (fail)
          go_wp2
          go_roundw
          case rel => exact ⟨k + 1, _, by omega, by go_num, rfl, H.out⟩
          case measure => simp [intOf]; omega
        · have hxy : (x != y) = true := by simp [he]
          have H := hide (show decide (l = m) = false from decide_eq_false (fun e => he (by have h1 := HP.out; have h2 := HP'.out; rw [e, h2] at h1; injection h1 with h1; exact h1.symm)))
          clear he
          go_wp2
          go_quiet (fail)
          go_wp2
          go_ret
          exact ⟨ret_b H.out.symm, (by repeat (first | exact Below.refl _ _ | assumption | refine bel_al ?_ _ | refine bel_gw ?_ _ _ | refine bel_drew ?_ | refine bel_drewN ?_ _))⟩
      · obtain rfl : k = l.length := by omega
        have H := hide (show decide (l = m) = true by
          have := HN.out
          rw [List.take_length, HL.out, List.take_length] at this; exact decide_eq_true this)
        go_wp2
        go_ret
        exact ⟨ret_b H.out.symm, (by repeat (first | exact Below.refl _ _ | assumption | refine bel_al ?_ _ | refine bel_gw ?_ _ _ | refine bel_drew ?_ | refine bel_drewN ?_ _))⟩
  · have h0 : ((l.length : Int) != (m.length : Int)) = true := by simp; omega
    have H := hide (show decide (l = m) = false from decide_eq_false (fun e => hlen (by rw [e])))
    clear hlen
    go_enter Tryz.func91, Tryz.ntmps91
    go_wp2
    go_ret
    exact ⟨ret_b H.out.symm, (by repeat (first | exact Below.refl _ _ | assumption | refine bel_al ?_ _ | refine bel_gw ?_ _ _ | refine bel_drew ?_ | refine bel_drewN ?_ _))⟩
set_option maxRecDepth 100000 in
set_option maxHeartbeats 4000000 in
theorem refPSame_s (x y : Pp) (w : World) (h : x.Ok w) (h' : y.Ok w) : Calls Tryz.prog 52 #[x.v, y.v] w (RetBp w (Pp.eqB x y)) := by
  obtain ⟨n, i, rd, SA, sc, ss, CA, cc, cs, UA, uc, us⟩ := x
  obtain ⟨n', i', rd', SA', sc', ss', CA', cc', cs', UA', uc', us'⟩ := y
  obtain ⟨h1, h2, h3, h4, h5, h6⟩ := h
  obtain ⟨g1, g2, g3, g4, g5, g6⟩ := h'
  unfold Pp.eqB Pp.v
  simp only at h1 h2 h3 h4 h5 h6 g1 g2 g3 g4 g5 g6 ⊢
  have T3 : Hid (∀ W, Sl W SA ss → Sl W SA' ss' → Calls Tryz.prog 49 #[.slice SA ss.length sc, .slice SA' ss'.length sc'] W (RetBp W (decide (ss = ss')))) := hide (fun W (hW : Sl W SA ss) (hW' : Sl W SA' ss') => refEqual_s SA SA' sc sc' ss ss' W hW hW' h2 g2)
  have T4 : Hid (∀ W, Sl W CA cs → Sl W CA' cs' → Calls Tryz.prog 49 #[.slice CA cs.length cc, .slice CA' cs'.length cc'] W (RetBp W (decide (cs = cs')))) := hide (fun W (hW : Sl W CA cs) (hW' : Sl W CA' cs') => refEqual_s CA CA' cc cc' cs cs' W hW hW' h4 g4)
  have T5 : Hid (∀ W, Ul W UA us → Ul W UA' us' → Calls Tryz.prog 91 #[.slice UA us.length uc, .slice UA' us'.length uc'] W (RetBp W (decide (us = us')))) := hide (fun W (hW : Ul W UA us) (hW' : Ul W UA' us') => numbers9_s UA UA' uc uc' us us' W hW hW' h6 g6)
  have H1 := hide h1
  have H3 := hide h3
  have H5 := hide h5
  have G1 := hide g1
  have G3 := hide g3
  have G5 := hide g5
  clear h1 h3 h5 g1 g3 g5
  generalize decide (ss = ss') = b3 at T3 ⊢
  generalize decide (cs = cs') = b4 at T4 ⊢
  generalize decide (us = us') = b5 at T5 ⊢
  generalize f1 : eqP n i n' i' = b1
  generalize f2 : (rd == rd') = b2
  have key : b1 = false ∨ (b1 = true ∧ b2 = false) ∨ (b1 = true ∧ b2 = true ∧ b3 = false) ∨ (b1 = true ∧ b2 = true ∧ b3 = true ∧ b4 = false) ∨ (b1 = true ∧ b2 = true ∧ b3 = true ∧ b4 = true) := by
    cases b1 <;> cases b2 <;> cases b3 <;> cases b4 <;> simp
  rcases key with rfl | ⟨rfl, rfl⟩ | ⟨rfl, rfl, rfl⟩ | ⟨rfl, rfl, rfl, rfl⟩ | ⟨rfl, rfl, rfl, rfl⟩
  all_goals
    go_enter Tryz.func52, Tryz.ntmps52
    go_wp2_with (first
        | (go_at_call 49; (with_reducible refine (T3.out _ (H1.out.step (by repeat (first | exact Below.refl _ _ | assumption | refine bel_al ?_ _ | refine bel_gw ?_ _ _ | refine bel_drew ?_ | refine bel_drewN ?_ _))) (G1.out.step (by repeat (first | exact Below.refl _ _ | assumption | refine bel_al ?_ _ | refine bel_gw ?_ _ _ | refine bel_drew ?_ | refine bel_drewN ?_ _)))).mono ?_); rintro e w1 ⟨rfl, hb⟩; obtain ⟨⟨d1, os1⟩, rfl⟩ := gw_of_below hb; clear hb)
        | (go_at_call 49; (with_reducible refine (T4.out _ (H3.out.step (by repeat (first | exact Below.refl _ _ | assumption | refine bel_al ?_ _ | refine bel_gw ?_ _ _ | refine bel_drew ?_ | refine bel_drewN ?_ _))) (G3.out.step (by repeat (first | exact Below.refl _ _ | assumption | refine bel_al ?_ _ | refine bel_gw ?_ _ _ | refine bel_drew ?_ | refine bel_drewN ?_ _)))).mono ?_); rintro e w2 ⟨rfl, hb⟩; obtain ⟨⟨d2, os2⟩, rfl⟩ := gw_of_below hb; clear hb)
        | (go_at_call 91; (with_reducible refine (T5.out _ (H5.out.step (by repeat (first | exact Below.refl _ _ | assumption | refine bel_al ?_ _ | refine bel_gw ?_ _ _ | refine bel_drew ?_ | refine bel_drewN ?_ _))) (G5.out.step (by repeat (first | exact Below.refl _ _ | assumption | refine bel_al ?_ _ | refine bel_gw ?_ _ _ | refine bel_drew ?_ | refine bel_drewN ?_ _)))).mono ?_); rintro e w3 ⟨rfl, hb⟩; obtain ⟨⟨d3, os3⟩, rfl⟩ := gw_of_below hb; clear hb))
    go_ret
    exact ⟨ret_b (by simp), (by repeat (first | exact Below.refl _ _ | assumption | refine bel_al ?_ _ | refine bel_gw ?_ _ _ | refine bel_drew ?_ | refine bel_drewN ?_ _))⟩
/-- the reference's May -/
def Pp.mayR (x : Pp) : Bool := !(decide ((x.ss.length : Int) < 1) || (decide (4 < (x.ss.length : Int)) || (decide (6 < (x.cs.length : Int)) || (((x.us.length : Int) != (x.cs.length : Int)) || (x.rd == 0))))) && (x.ss.all (fun p => decide (p.1 ≤ 4)) && (!decide ((0 : Int) ∈ x.us) && (setB x.ss && (livesB x.ss && (decide ((x.n, x.i) ∈ x.ss) && (setB x.cs && livesB x.cs))))))
set_option maxRecDepth 100000 in
set_option maxHeartbeats 4000000 in
theorem refPMay0_s (x : Pp) (w : World) (h : x.Ok w) (hs : ∀ p ∈ x.ss, 0 ≤ p.2) (hc : ∀ p ∈ x.cs, 0 ≤ p.2) : Calls Tryz.prog 17 #[x.v] w (RetBp w x.mayR) := by
  obtain ⟨n, i, rd, SA, sc, ss, CA, cc, cs, UA, uc, us⟩ := x
  obtain ⟨h1, h2, h3, h4, h5, h6⟩ := h
  unfold Pp.mayR Pp.v
  simp only at h1 h2 h3 h4 h5 h6 hs hc ⊢
  have T1 := hide (fun W (hW : Sl W SA ss) => refSet_b SA sc ss W hW h2 hs)
  have T2 := hide (fun W (hW : Sl W SA ss) => lives_s SA sc ss W hW h2)
  have T3 := hide (fun W (hW : Sl W SA ss) => refHas_any SA sc ss n i W hW h2)
  have T4 := hide (fun W (hW : Sl W CA cs) => refSet_b CA cc cs W hW h4 hc)
  have T5 := hide (fun W (hW : Sl W CA cs) => lives_s CA cc cs W hW h4)
  have H1 := hide h1
  have H3 := hide h3
  have H5 := hide h5
  clear h1 h3 h5 hs hc
  generalize setB ss = b1 at T1 ⊢
  generalize livesB ss = b2 at T2 ⊢
  generalize decide ((n, i) ∈ ss) = b3 at T3 ⊢
  generalize setB cs = b4 at T4 ⊢
  generalize livesB cs = b5 at T5 ⊢
  generalize f1 : decide ((ss.length : Int) < 1) = a1
  generalize f2 : decide (4 < (ss.length : Int)) = a2
  generalize f3 : decide (6 < (cs.length : Int)) = a3
  generalize f4 : ((us.length : Int) != (cs.length : Int)) = a4
  generalize f5 : (rd == 0) = a5
  have key : a1 = true ∨ (a1 = false ∧ a2 = true) ∨ (a1 = false ∧ a2 = false ∧ a3 = true) ∨ (a1 = false ∧ a2 = false ∧ a3 = false ∧ a4 = true) ∨ (a1 = false ∧ a2 = false ∧ a3 = false ∧ a4 = false ∧ a5 = true) ∨ (a1 = false ∧ a2 = false ∧ a3 = false ∧ a4 = false ∧ a5 = false) := by
    cases a1 <;> cases a2 <;> cases a3 <;> cases a4 <;> cases a5 <;> simp
  rcases key with rfl | ⟨rfl, rfl⟩ | ⟨rfl, rfl, rfl⟩ | ⟨rfl, rfl, rfl, rfl⟩ | ⟨rfl, rfl, rfl, rfl, rfl⟩ | ⟨rfl, rfl, rfl, rfl, rfl⟩
  iterate 5
    · go_enter Tryz.func17, Tryz.ntmps17
      go_wp2
      go_ret
      exact ⟨ret_b (by simp), (by repeat (first | exact Below.refl _ _ | assumption | refine bel_al ?_ _ | refine bel_gw ?_ _ _ | refine bel_drew ?_ | refine bel_drewN ?_ _))⟩
  · go_enter Tryz.func17, Tryz.ntmps17
    go_wp2
    go_loop [3] (fun j => ∃ k : Nat, k ≤ ss.length ∧ j = .int .i64 k ∧ ∀ p ∈ ss.take k, p.1 ≤ 4) (fun j => ss.length - (intOf j).toNat)
    case atStart => exact ⟨0, Nat.zero_le _, rfl, by simp⟩
    case round =>
      obtain ⟨k, hk, rfl, hnot⟩ := hrel
      have HN := hide hnot
      clear hnot
      by_cases hlt : k < ss.length
      · obtain ⟨b, off, ⟨pn, pi⟩, rfl, hb, hp, g1, g2⟩ := H1.out.at2 hlt
        simp only at g1 g2
        haveI : InW b w := ⟨hb⟩
        by_cases hy : 4 < pn
        · have hyb : decide (4 < pn) = true := decide_eq_true hy
          have H := hide (show ss.all (fun p => decide (p.1 ≤ 4)) = false by
            rw [List.all_eq_false]
            exact ⟨_, List.mem_of_getElem? hp, by simp; omega⟩)
          clear hp hy g2 hb
          go_wp2
          go_ret
          exact ⟨ret_b (by rw [H.out]; simp), (by repeat (first | exact Below.refl _ _ | assumption | refine bel_al ?_ _ | refine bel_gw ?_ _ _ | refine bel_drew ?_ | refine bel_drewN ?_ _))⟩
        · have hyb : decide (4 < pn) = false := decide_eq_false hy
          have H := hide (show ∀ p ∈ ss.take (k + 1), p.1 ≤ 4 by
            rw [take_succ_of hp]
            intro p hp
            rcases List.mem_append.1 hp with hp | hp
            · exact HN.out p hp
            · simp at hp; subst hp; show pn ≤ 4; omega)
          clear hp hy g2 hb
          go_wp2
          go_round
          case rel => exact ⟨k + 1, by omega, by go_num, H.out⟩
          case measure => simp [intOf]; omega
      · obtain rfl : k = ss.length := by omega
        have HA := hide (show ss.all (fun p => decide (p.1 ≤ 4)) = true by
          have := HN.out
          rw [List.take_length] at this
          rw [List.all_eq_true]
          intro p hp; simpa using this p hp)
        clear HN
        go_wp2
        go_loop [4] (fun j => ∃ k : Nat, k ≤ us.length ∧ j = .int .i64 k ∧ (0 : Int) ∉ us.take k) (fun j => us.length - (intOf j).toNat)
        case atStart => exact ⟨0, Nat.zero_le _, rfl, by simp⟩
        case round =>
          obtain ⟨k, hk, rfl, hnot⟩ := hrel
          have HN := hide hnot
          clear hnot
          by_cases hlt : k < us.length
          · obtain ⟨b, off, y, rfl, hb, hy, g1⟩ := H5.out.atU hlt
            haveI : InW b w := ⟨hb⟩
            by_cases hy0 : y = 0
            · have hyb : (y == 0) = true := by simp [hy0]
              have H := hide (show decide ((0 : Int) ∈ us) = true from decide_eq_true (hy0 ▸ List.mem_of_getElem? hy))
              clear hy hy0
              go_wp2
              go_ret
              exact ⟨ret_b (by rw [HA.out, H.out]; simp), (by repeat (first | exact Below.refl _ _ | assumption | refine bel_al ?_ _ | refine bel_gw ?_ _ _ | refine bel_drew ?_ | refine bel_drewN ?_ _))⟩
            · have hyb : (y == 0) = false := by simp [hy0]
              have H := hide (show (0 : Int) ∉ us.take (k + 1) by
                rw [take_succ_of hy, List.mem_append, List.mem_singleton]
                rintro (h | h)
                · exact HN.out h
                · exact hy0 h.symm)
              clear hy hy0
              go_wp2
              go_round
              case rel => exact ⟨k + 1, by omega, by go_num, H.out⟩
              case measure => simp [intOf]; omega
          · obtain rfl : k = us.length := by omega
            have HZ := hide (show decide ((0 : Int) ∈ us) = false by have := HN.out; rw [List.take_length] at this; exact decide_eq_false this)
            clear HN
            have key : b1 = false ∨ (b1 = true ∧ b2 = false) ∨ (b1 = true ∧ b2 = true ∧ b3 = false) ∨ (b1 = true ∧ b2 = true ∧ b3 = true ∧ b4 = false) ∨ (b1 = true ∧ b2 = true ∧ b3 = true ∧ b4 = true) := by
              cases b1 <;> cases b2 <;> cases b3 <;> cases b4 <;> simp
            rcases key with rfl | ⟨rfl, rfl⟩ | ⟨rfl, rfl, rfl⟩ | ⟨rfl, rfl, rfl, rfl⟩ | ⟨rfl, rfl, rfl, rfl⟩
            all_goals
              go_wp2_with (first
        | (go_at_call 54; (with_reducible refine (T1.out _ (H1.out.step (by repeat (first | exact Below.refl _ _ | assumption | refine bel_al ?_ _ | refine bel_gw ?_ _ _ | refine bel_drew ?_ | refine bel_drewN ?_ _)))).mono ?_); rintro e w1 ⟨rfl, hb⟩; obtain ⟨⟨d1, os1⟩, rfl⟩ := gw_of_below hb; clear hb)
        | (go_at_call 55; (with_reducible refine (T2.out _ (H1.out.step (by repeat (first | exact Below.refl _ _ | assumption | refine bel_al ?_ _ | refine bel_gw ?_ _ _ | refine bel_drew ?_ | refine bel_drewN ?_ _)))).mono ?_); rintro e w2 ⟨rfl, hb⟩; obtain ⟨⟨d2, os2⟩, rfl⟩ := gw_of_below hb; clear hb)
        | (go_at_call 56; (with_reducible refine (T3.out _ (H1.out.step (by repeat (first | exact Below.refl _ _ | assumption | refine bel_al ?_ _ | refine bel_gw ?_ _ _ | refine bel_drew ?_ | refine bel_drewN ?_ _)))).mono ?_); rintro e w3 ⟨rfl, hb⟩; obtain ⟨⟨d3, os3⟩, rfl⟩ := gw_of_below hb; clear hb)
        | (go_at_call 54; (with_reducible refine (T4.out _ (H3.out.step (by repeat (first | exact Below.refl _ _ | assumption | refine bel_al ?_ _ | refine bel_gw ?_ _ _ | refine bel_drew ?_ | refine bel_drewN ?_ _)))).mono ?_); rintro e w4 ⟨rfl, hb⟩; obtain ⟨⟨d4, os4⟩, rfl⟩ := gw_of_below hb; clear hb)
        | (go_at_call 55; (with_reducible refine (T5.out _ (H3.out.step (by repeat (first | exact Below.refl _ _ | assumption | refine bel_al ?_ _ | refine bel_gw ?_ _ _ | refine bel_drew ?_ | refine bel_drewN ?_ _)))).mono ?_); rintro e w5 ⟨rfl, hb⟩; obtain ⟨⟨d5, os5⟩, rfl⟩ := gw_of_below hb; clear hb))
              go_ret
              exact ⟨ret_b (by rw [HA.out, HZ.out]; simp), (by repeat (first | exact Below.refl _ _ | assumption | refine bel_al ?_ _ | refine bel_gw ?_ _ _ | refine bel_drew ?_ | refine bel_drewN ?_ _))⟩
end Go.Proofs.YtkglclekieckoaaGreat

namespace Go.Proofs.YtkglclekieckoaaGreat
set_option linter.unusedSimpArgs false
set_option linter.unusedVariables false
set_option linter.unusedSectionVars false
open Go.RowKit

def Pp.cl (x : Pp) : List Value := [.int .i64 x.n, .int .u64 x.i, .int .u64 x.rd, .slice x.SA x.ss.length x.sc, .slice x.CA x.cs.length x.cc, .slice x.UA x.us.length x.uc]
theorem Pp.cl_len (x : Pp) : x.cl.length = 6 := rfl
def pps (l : List Pp) : List Value := l.flatMap Pp.cl
theorem pps_len (l : List Pp) : (pps l).length = l.length * 6 := flat_length Pp.cl_len l
theorem pps_app (l m : List Pp) : pps (l ++ m) = pps l ++ pps m := List.flatMap_append
theorem pps_one (l : List Pp) : ∀ u ∈ pps l, u.oneCell' = true := by
  intro u hu
  obtain ⟨p, _, hp⟩ := List.mem_flatMap.1 hu
  simp [Pp.cl] at hp
  rcases hp with rfl | rfl | rfl | rfl | rfl | rfl <;> rfl
/-- a list of proposals, where it lies -/
structure Pl (w : World) (A : Option Addr) (l : List Pp) : Prop where
  r : Reads w w.heap.size 6 A l.length (pps l)
  ok : ∀ x ∈ l, x.Ok w
theorem Pl.step {w w' : World} {A : Option Addr} {l : List Pp} (h : Pl w A l) (hb : Below w.heap.size w w') : Pl w' A l := ⟨(Reads.below h.r hb).more hb.size, fun x hx => (h.ok x hx).step hb⟩
theorem Reads.at6 {w : World} {B : Nat} {A : Option Addr} {n k : Nat} {l : List Pp} (h : Reads w B 6 A n (pps l)) (hk : k < n) :
    ∃ b off x, A = some ⟨b, off, none⟩ ∧ b < B ∧ l[k]? = some x ∧ w.cell? ⟨b, off + k * 6, none⟩ = some (.int .i64 x.n) ∧ w.cell? ⟨b, off + k * 6 + 1, none⟩ = some (.int .u64 x.i) ∧ w.cell? ⟨b, off + k * 6 + 2, none⟩ = some (.int .u64 x.rd)
      ∧ w.cell? ⟨b, off + k * 6 + 3, none⟩ = some (.slice x.SA x.ss.length x.sc) ∧ w.cell? ⟨b, off + k * 6 + 4, none⟩ = some (.slice x.CA x.cs.length x.cc) ∧ w.cell? ⟨b, off + k * 6 + 5, none⟩ = some (.slice x.UA x.us.length x.uc) := by
  obtain ⟨b, off, rfl, hb, hc⟩ := h.2 (by omega)
  have hl : k < l.length := by have := h.1; rw [pps_len] at this; omega
  have hp : l[k]? = some l[k] := List.getElem?_eq_getElem hl
  refine ⟨b, off, l[k], rfl, hb, hp, ?_, ?_, ?_, ?_, ?_, ?_⟩
  · exact hc (k * 6 + 0) _ (by rw [pps, flat_get Pp.cl_len l k 0 _ hp (by omega)]; rfl)
  · rw [Nat.add_assoc]; exact hc (k * 6 + 1) _ (by rw [pps, flat_get Pp.cl_len l k 1 _ hp (by omega)]; rfl)
  · rw [Nat.add_assoc]; exact hc (k * 6 + 2) _ (by rw [pps, flat_get Pp.cl_len l k 2 _ hp (by omega)]; rfl)
  · rw [Nat.add_assoc]; exact hc (k * 6 + 3) _ (by rw [pps, flat_get Pp.cl_len l k 3 _ hp (by omega)]; rfl)
  · rw [Nat.add_assoc]; exact hc (k * 6 + 4) _ (by rw [pps, flat_get Pp.cl_len l k 4 _ hp (by omega)]; rfl)
  · rw [Nat.add_assoc]; exact hc (k * 6 + 5) _ (by rw [pps, flat_get Pp.cl_len l k 5 _ hp (by omega)]; rfl)
def hvP (x : Pp) : Bool := decide (100 < (x.ss.length : Int)) || (decide (100 < (x.cs.length : Int)) || decide (100 < (x.us.length : Int)))
def hvPL (l : List Pp) : Bool := decide (20 < l.length) || l.any hvP
/-! ### Agree -/
def Pp.sv (x : Pp) : Pr := (x.n, x.i)
/-- do proposals agree? -/
def agreeB (l : List Pp) : Bool :=
  match l with
  | [] => false
  | x :: _ => decide (l.length ≤ 4) && (decide (l.length = x.ss.length) && (l.all (fun p => p.mayB && (decide (p.rd = x.rd) && decide (p.ss = x.ss))) && decide (sortedL (l.map Pp.sv) = x.ss)))
end Go.Proofs.YtkglclekieckoaaGreat

namespace Go.Proofs.YtkglclekieckoaaGreat
set_option linter.unusedSimpArgs false
set_option linter.unusedVariables false
set_option linter.unusedSectionVars false
open Go.RowKit

theorem reads_oneP_at (w : World) (a b : Int) (n : Nat) (h : w.heap.size = n) : Reads (w.alloc (.cells #[.int .i64 a, .int .u64 b] 25)) (n + 1) 2 (some ⟨n, 0, none⟩) 1 (pcs [(a, b)]) := by subst h; exact reads_one w a b
theorem agreeB_few {l : List Pp} (h : agreeB l = true) : l.length ≤ 4 ∧ (∀ p ∈ l, p.mayB = true) ∧ 1 ≤ l.length := by
  cases l with
  | nil => cases h
  | cons x l' =>
    simp only [agreeB, Bool.and_eq_true, decide_eq_true_eq, List.all_eq_true] at h
    exact ⟨h.1, fun p hp => (h.2.2.1 p hp).1, by simp⟩
set_option maxRecDepth 100000 in
set_option maxHeartbeats 4000000 in
theorem agree_s (A : Option Addr) (c : Nat) (l : List Pp) (w : World) (h : Pl w A l) (hn : l.length ≤ 1000000) : Calls Tryz.prog 38 #[.slice A l.length c] w (RetBp w (agreeB l)) := by
  rcases l with _ | ⟨x, l'⟩
  · have h0 : ((([] : List Pp).length : Int) == 0) = true := rfl
    clear h
    go_enter Tryz.func38, Tryz.ntmps38
    go_wp2
    go_ret
    exact ⟨rfl, (by repeat (first | exact Below.refl _ _ | assumption | refine bel_al ?_ _ | refine bel_gw ?_ _ _ | refine bel_drew ?_ | refine bel_drewN ?_ _))⟩
  · have hQ : agreeB (x :: l') = (decide ((x :: l').length ≤ 4) && (decide ((x :: l').length = x.ss.length) && ((x :: l').all (fun p => p.mayB && (decide (p.rd = x.rd) && decide (p.ss = x.ss))) && decide (sortedL ((x :: l').map Pp.sv) = x.ss)))) := rfl
    rw [hQ]
    clear hQ
    have hx0 : (x :: l')[0]? = some x := rfl
    have hpos : 0 < (x :: l').length := by simp
    generalize (x :: l') = l at *
    have h0 : ((l.length : Int) == 0) = false := by rw [beq_eq_false_iff_ne]; omega
    obtain ⟨b, off, x', rfl, hb, hp, a1, a2, a3, a4, a5, a6⟩ := h.r.at6 (k := 0) hpos
    rw [hx0] at hp
    injection hp with hp
    subst hp
    have hxm : x ∈ l := List.mem_of_getElem? hx0
    have okx := h.ok x hxm
    rw [Nat.zero_mul, Nat.add_zero] at a1 a2 a3 a4 a5 a6
    haveI : InW b w := ⟨hb⟩
    have HP := hide h
    have HX := hide okx
    obtain ⟨n, i, rd, SA, sc, ss, CA, cc, cs, UA, uc, us⟩ := x
    simp only at a1 a2 a3 a4 a5 a6 ⊢
    have hsl := okx.sl
    have hss := hide okx.s
    simp only at hsl hss
    clear h okx hx0 hxm a1 a2 a5 a6
    by_cases h4 : 4 < l.length
    · have d4 : decide ((4 : Int) < (l.length : Int)) = true := decide_eq_true (by omega)
      have e4 : decide (l.length ≤ 4) = false := decide_eq_false (by omega)
      rw [e4]
      go_enter Tryz.func38, Tryz.ntmps38
      go_wp2
      go_ret
      exact ⟨rfl, (by repeat (first | exact Below.refl _ _ | assumption | refine bel_al ?_ _ | refine bel_gw ?_ _ _ | refine bel_drew ?_ | refine bel_drewN ?_ _))⟩
    · have d4 : decide ((4 : Int) < (l.length : Int)) = false := decide_eq_false (by omega)
      have e4 : decide (l.length ≤ 4) = true := decide_eq_true (by omega)
      rw [e4, Bool.true_and]
      by_cases hlen : l.length = ss.length
      · have dl : ((l.length : Int) != (ss.length : Int)) = false := by simp [hlen]
        have el : decide (l.length = ss.length) = true := decide_eq_true hlen
        rw [el, Bool.true_and]
        have hl4 : l.length ≤ 4 := by omega
        clear h4 hlen e4 el
        generalize hf : (fun p : Pp => p.mayB && (decide (p.rd = rd) && decide (p.ss = ss))) = good
        have HF := hide hf
        clear hf
        go_enter Tryz.func38, Tryz.ntmps38
        go_wp2
        go_loopw [3, 26] (fun v i wr => ∃ (k : Nat) (L : List Pr), k ≤ l.length ∧ i = .int .i64 k ∧ OwnP wr w.heap.size v L ∧ Below w.heap.size w wr ∧ (l.take k).all good = true ∧ L = (l.take k).map Pp.sv) (fun _ i _ => l.length - (intOf i).toNat)
        case atStart => exact ⟨0, [], Nat.zero_le _, rfl, own_nilP _ _, (by repeat (first | exact Below.refl _ _ | assumption | refine below_drewN ?_ _ | refine Below.drew ?_ | refine Below.alloc ?_ (by simp <;> omega) _)), rfl, rfl⟩
        case round =>
          obtain ⟨k, L, hk, rfl, hown, hB, hall, hLe⟩ := hrel
          have HLE := hide hLe
          have HLK := hide (show L.length = k by rw [hLe]; simp; omega)
          have HO := hide hown
          have HB := hide hB
          have HA := hide hall
          obtain ⟨FA, fc, rfl, _, _⟩ := own_slice hown
          have hszw := hB.size
          have a3' : wr.cell? ⟨b, off + 2, none⟩ = some (.int .u64 rd) := (hB.cell (p := ⟨b, off + 2, none⟩) hb).trans a3
          have a4' : wr.cell? ⟨b, off + 3, none⟩ = some (.slice SA ss.length sc) := (hB.cell (p := ⟨b, off + 3, none⟩) hb).trans a4
          haveI : InW b wr := ⟨Nat.lt_of_lt_of_le hb hszw⟩
          clear hown hB hall hLe
          by_cases hlt : k < l.length
          · obtain ⟨b', off', y, e1, hb', hp, g1, g2, g3, g4, g5, g6⟩ := (HP.out.step HB.out).r.at6 hlt
            injection e1 with e1
            injection e1 with e1 e2
            subst e1 e2
            have hy : y ∈ l := List.mem_of_getElem? hp
            have oky := (HP.out.step HB.out).ok y hy
            have HPk := hide hp
            have TM := hide (fun W (hW : y.Ok W) => pmay_s y W hW)
            have HY := hide oky
            have hgood : good y = (y.mayB && (decide (y.rd = rd) && decide (y.ss = ss))) := by rw [← HF.out]
            have HG := hide hgood
            have T2 := hide (fun W (hW : Sl W y.SA y.ss) (hW' : Sl W SA ss) => equal_any y.SA SA y.sc sc y.ss ss W hW hW' oky.sl hsl)
            have hys := hide oky.s
            have hys' := hide (hss.out.step HB.out)
            have HSV := hide (show y.sv = (y.n, y.i) from rfl)
            clear hp hy oky hgood
            generalize y.mayB = bm at TM HG
            generalize he : decide (y.ss = ss) = be at T2 HG
            clear he
            generalize hr : (y.rd != rd) = br
            have HR := hide (show decide (y.rd = rd) = !br by rw [← hr, bne, Bool.not_not]; rfl)
            obtain ⟨n', i', rd', SA', sc', ss', CA', cc', cs', UA', uc', us'⟩ := y
            unfold Pp.v at TM
            simp only at g1 g2 g3 g4 g5 g6 TM T2 hr HSV hys
            have i1 : (k : Int) < (l.length : Int) := by omega
            have key : bm = false ∨ (bm = true ∧ br = true) ∨ (bm = true ∧ br = false ∧ be = false) ∨ (bm = true ∧ br = false ∧ be = true) := by
              cases bm <;> cases br <;> cases be <;> simp
            rcases key with rfl | ⟨rfl, rfl⟩ | ⟨rfl, rfl, rfl⟩ | ⟨rfl, rfl, rfl⟩
            iterate 3
              · have H := hide (show l.all good = false by
                  rw [List.all_eq_false]
                  exact ⟨_, List.mem_of_getElem? HPk.out, by rw [HG.out, HR.out]; simp⟩)
                clear HG HR HO
                go_wp2_with fail
                (refine wp_region_gw (by kernel_rfl) (by kernel_rfl) ?_; (repeat (go_big_quiet_step ((first | (go_at_call 47; with_reducible exact calls_gw (TM.out _ (HY.out.step (by repeat (first | exact Below.refl _ _ | assumption | refine bel_al ?_ _ | refine bel_gw ?_ _ _ | refine bel_drew ?_ | refine bel_drewN ?_ _))))) | (go_at_call 44; with_reducible exact calls_gw (T2.out _ (hys.out.step (by repeat (first | exact Below.refl _ _ | assumption | refine bel_al ?_ _ | refine bel_gw ?_ _ _ | refine bel_drew ?_ | refine bel_drewN ?_ _))) (hys'.out.step (by repeat (first | exact Below.refl _ _ | assumption | refine bel_al ?_ _ | refine bel_gw ?_ _ _ | refine bel_drew ?_ | refine bel_drewN ?_ _))))))))); refine wpQuiet_nil ?_; intro _ hw'; obtain ⟨⟨dq, osq⟩, hw''⟩ := hw'; subst hw'')
                go_wp2
                go_ret
                exact ⟨ret_b (by rw [H.out]; rfl), below_step HB.out (by repeat (first | exact Below.refl _ _ | assumption | refine bel_al ?_ _ | refine bel_gw ?_ _ _ | refine bel_drew ?_ | refine bel_drewN ?_ _))⟩
            · have H := hide (show (l.take (k + 1)).all good = true by
                rw [take_succ_of HPk.out, List.all_append, HA.out, List.all_cons, HG.out, HR.out]; rfl)
              have HL := hide (show L ++ [(n', i')] = ((l.take (k + 1)).map Pp.sv) by rw [take_succ_of HPk.out, List.map_append, HLE.out]; rfl)
              clear HG HR
              go_wp2_with fail
              (refine wp_region_gw (by kernel_rfl) (by kernel_rfl) ?_; (repeat (go_big_quiet_step ((first | (go_at_call 47; with_reducible exact calls_gw (TM.out _ (HY.out.step (by repeat (first | exact Below.refl _ _ | assumption | refine bel_al ?_ _ | refine bel_gw ?_ _ _ | refine bel_drew ?_ | refine bel_drewN ?_ _))))) | (go_at_call 44; with_reducible exact calls_gw (T2.out _ (hys.out.step (by repeat (first | exact Below.refl _ _ | assumption | refine bel_al ?_ _ | refine bel_gw ?_ _ _ | refine bel_drew ?_ | refine bel_drewN ?_ _))) (hys'.out.step (by repeat (first | exact Below.refl _ _ | assumption | refine bel_al ?_ _ | refine bel_gw ?_ _ _ | refine bel_drew ?_ | refine bel_drewN ?_ _))))))))); refine wpQuiet_nil ?_; intro _ hw'; obtain ⟨⟨dq, osq⟩, hw''⟩ := hw'; subst hw'')
              have hbG : Below wr.heap.size wr (gw (wr.alloc (bxP n' i' rd' SA' ss'.length sc' CA' cs'.length cc' UA' us'.length uc')) dq osq) := (by repeat (first | exact Below.refl _ _ | assumption | refine bel_al ?_ _ | refine bel_gw ?_ _ _ | refine bel_drew ?_ | refine bel_drewN ?_ _))
              have pG := (boxTop wr (csP n' i' rd' SA' ss'.length sc' CA' cs'.length cc' UA' us'.length uc') 41).step (below_gw (wr.alloc (bxP n' i' rd' SA' ss'.length sc' CA' cs'.length cc' UA' us'.length uc')) dq osq)
              generalize gw (wr.alloc (bxP n' i' rd' SA' ss'.length sc' CA' cs'.length cc' UA' us'.length uc')) dq osq = W2 at hbG pG ⊢
              haveI := pG
              have hs2 := hbG.size
              have HB2 := hide (HB.out.trans (hbG.mono hszw))
              have HO2 := hide (own_below HO.out hbG (Nat.le_refl _))
              clear hbG
              go_wp2_with (at_builtin; go_must (refine wpList_append_any _ Tryz.okP (by rfl) (.tmp 52) (.tmp 55) (by rfl) w.heap.size (.slice FA L.length fc) L.length (pcs L) (by rfl) (HO2.out.alloc _) (W2.heap.size + 1) (some ⟨W2.heap.size, 0, none⟩) 1 1 (pcs [(n', i')]) (by rfl) (reads_one W2 n' i') (pc_one _) (by unfold maxLen; rw [HLK.out]; omega) (by rw [HLK.out]; omega) (by simp; omega) ?_); intro v1 w5 hown1 hg1 hnil1 hat1; go_must (have HB5 := hide ((HB2.out.alloc (by omega) _).grown hg1 (by simp; omega) (fun j hj => ((HO2.out.lt j hj).1)))); have HO5 := hide hown1; obtain ⟨A1, c1, e1, _, _⟩ := own_slice hown1; subst e1; clear hown1 hg1 hnil1 hat1)
              go_roundw
              case rel =>
                refine ⟨k + 1, L ++ [(n', i')], by omega, by go_num, ?_, HB5.out, H.out, HL.out⟩
                rw [OwnP, List.length_append, pcs_app]; exact HO5.out
              case measure => simp [intOf]; omega
          · obtain rfl : k = l.length := by omega
            have hown := HO.out
            rw [List.take_length] at HA HLE
            have T5 := hide (fun W hW => sorted_s FA fc L W hW (by have := HLK.out; omega))
            have hfs : Sl wr FA L := Reads.of_own hown
            have hll := sortedL_len L
            have T6 := hide (fun W A c (hW : Sl W A (sortedL L)) (hW' : Sl W SA ss) => equal_any A SA c sc (sortedL L) ss W hW hW' (by have := HLK.out; omega) hsl)
            generalize hsl2 : sortedL L = S at T5 T6
            generalize hbe : decide (S = ss) = be at T6
            have HBE := hide (show decide (sortedL (l.map Pp.sv) = ss) = be by rw [← HLE.out, hsl2]; exact hbe)
            have HFS := hide hfs
            have hys' := hide (hss.out.step HB.out)
            clear hown hfs HO hll hbe hsl2
            go_wp2
            go_region_law (first
              | (go_simp; go_at_call 41; (with_reducible refine (T5.out _ (HFS.out.step (by repeat (first | exact Below.refl _ _ | assumption | refine bel_al ?_ _ | refine bel_gw ?_ _ _ | refine bel_drew ?_ | refine bel_drewN ?_ _)))).mono ?_); rintro e w3 ⟨A3, c3, rfl, hs3, hb3⟩; obtain ⟨⟨d3, os3⟩, rfl⟩ := gw_of_below hb3; clear hb3)
              | (go_simp; go_at_call 44; (with_reducible refine (T6.out _ A3 c3 hs3 (hys'.out.step (by repeat (first | exact Below.refl _ _ | assumption | refine bel_al ?_ _ | refine bel_gw ?_ _ _ | refine bel_drew ?_ | refine bel_drewN ?_ _)))).mono ?_); rintro e w4 ⟨rfl, hb4⟩; obtain ⟨⟨d4, os4⟩, rfl⟩ := gw_of_below hb4; clear hb4))
            all_goals
              go_wp2
              go_ret
              exact ⟨ret_b (by rw [HA.out, HBE.out]; rfl), below_step HB.out (by repeat (first | exact Below.refl _ _ | assumption | refine bel_al ?_ _ | refine bel_gw ?_ _ _ | refine bel_drew ?_ | refine bel_drewN ?_ _))⟩
      · have dl : ((l.length : Int) != (ss.length : Int)) = true := by simp; omega
        have el : decide (l.length = ss.length) = false := decide_eq_false hlen
        rw [el]
        go_enter Tryz.func38, Tryz.ntmps38
        go_wp2
        go_ret
        exact ⟨rfl, (by repeat (first | exact Below.refl _ _ | assumption | refine bel_al ?_ _ | refine bel_gw ?_ _ _ | refine bel_drew ?_ | refine bel_drewN ?_ _))⟩
end Go.Proofs.YtkglclekieckoaaGreat

namespace Go.Proofs.YtkglclekieckoaaGreat
set_option linter.unusedSimpArgs false
set_option linter.unusedVariables false
set_option linter.unusedSectionVars false
open Go.RowKit

/-- the reference's -/
def agreeR (l : List Pp) : Bool :=
  match l with
  | [] => false
  | x :: _ => decide (l.length = x.ss.length) && (l.all (fun p => p.mayR && (decide (p.rd = x.rd) && decide (p.ss = x.ss))) && decide ((l.map Pp.sv).Nodup))
theorem sv_step {l : List Pp} {k : Nat} {p : Pp} (h : l[k]? = some p) : ((l.take (k + 1)).map Pp.sv) = (l.take k).map Pp.sv ++ [p.sv] := by
  rw [take_succ_of h]; simp
theorem sv_bad {l : List Pp} {k m : Nat} {p q : Pp} (h : l[k]? = some p) (hm : m < k) (h' : l[m]? = some q) (e : q.sv = p.sv) : ¬ (l.map Pp.sv).Nodup := by
  intro hn
  have hk := (List.getElem?_eq_some_iff.1 h).1
  have := List.pairwise_iff_getElem.1 hn m k (by simp; omega) (by simpa using hk) hm
  obtain ⟨h1, h2⟩ := List.getElem?_eq_some_iff.1 h
  obtain ⟨h3, h4⟩ := List.getElem?_eq_some_iff.1 h'
  rw [List.getElem_map, List.getElem_map, h2, h4] at this
  exact this e
/-- lives that are not below nought -/
def Pp.Nn (x : Pp) : Prop := (∀ p ∈ x.ss, 0 ≤ p.2) ∧ ∀ p ∈ x.cs, 0 ≤ p.2
/-! ### plain: both are one -/
theorem setB_ss {l : List Pr} (h : setB l = true) : SS l := by
  unfold setB at h
  rw [List.all_eq_true] at h
  have adj : ∀ i (hi : i + 1 < l.length), ltP l[i] l[i + 1] := by
    intro i hi
    have hh := h (i + 1) (List.mem_range.2 hi)
    have e : l[i + 1]? = some l[i + 1] := List.getElem?_eq_getElem hi
    have e' : l[i + 1 - 1]? = some l[i] := by rw [Nat.add_sub_cancel]; exact List.getElem?_eq_getElem (by omega)
    cases hm : mayB (l[i + 1]).1 (l[i + 1]).2
    · rw [okAt_may e hm] at hh; cases hh
    · rw [okAt_succ e e' (by omega) hm, decide_eq_true_eq, ← ltP_cmp] at hh; exact hh
  refine List.pairwise_iff_getElem.2 fun i j hi hj hij => ?_
  obtain ⟨d, rfl⟩ : ∃ d, j = i + 1 + d := ⟨j - (i + 1), by omega⟩
  induction d with
  | zero => exact adj i hj
  | succ d ih => exact ltP_trans (ih (by omega) (by omega)) (adj (i + 1 + d) hj)
theorem nodup_lenP : ∀ (N L : List Pr), N.Nodup → (∀ x ∈ N, x ∈ L) → N.length ≤ L.length := by
  intro N
  induction N with
  | nil => intro L _ _; simp
  | cons a N ih =>
    intro L hn hs
    obtain ⟨h1, h2⟩ := List.nodup_cons.1 hn
    have ha : a ∈ L := hs a (by simp)
    have := ih (L.erase a) h2 (fun x hx => by
      have hne : x ≠ a := fun e => h1 (e ▸ hx)
      exact (List.mem_erase_of_ne hne).2 (hs x (by simp [hx])))
    rw [List.length_erase_of_mem ha] at this
    have hp : 0 < L.length := List.length_pos_of_mem ha
    simp; omega
theorem dup_lessP : ∀ (L : List Pr), ¬ L.Nodup → ∃ L' : List Pr, L'.length + 1 = L.length ∧ ∀ x ∈ L, x ∈ L' := by
  intro L
  induction L with
  | nil => intro h; simp at h
  | cons a L ih =>
    intro h
    by_cases ha : a ∈ L
    · exact ⟨L, by simp, fun x hx => by rcases List.mem_cons.1 hx with rfl | hx <;> assumption⟩
    · obtain ⟨L', h1, h2⟩ := ih (fun hn => h (List.nodup_cons.2 ⟨ha, hn⟩))
      exact ⟨a :: L', by simp; omega, fun x hx => by
        rcases List.mem_cons.1 hx with rfl | hx
        · simp
        · simp [h2 x hx]⟩
theorem ss_nodup {l : List Pr} (h : SS l) : l.Nodup := List.Pairwise.imp (fun {a b} (hab : ltP a b) (e : a = b) => ltP_irrefl b (by rw [e] at hab; exact hab)) h
/-- a list of as many lives as a set has, all of them in it -/
theorem sorted_is {M s : List Pr} (hs : SS s) (hin : ∀ p ∈ M, p ∈ s) (hl : M.length = s.length) : sortedL M = s ↔ M.Nodup := by
  constructor
  · intro h
    cases hd : decide M.Nodup
    · obtain ⟨L', h1, h2⟩ := dup_lessP M (of_decide_eq_false hd)
      have := nodup_lenP s L' (ss_nodup hs) (fun x hx => h2 x (by rw [← h] at hx; exact mem_sortedL.1 hx))
      omega
    · exact of_decide_eq_true hd
  · intro h
    refine sortedL_eq hs fun x => ⟨fun hx => ?_, hin x⟩
    cases hd : decide (x ∈ M)
    · have hn : (x :: M).Nodup := List.nodup_cons.2 ⟨of_decide_eq_false hd, h⟩
      have := nodup_lenP (x :: M) s hn (fun y hy => by
        rcases List.mem_cons.1 hy with rfl | hy
        · exact hx
        · exact hin y hy)
      simp at this; omega
    · exact of_decide_eq_true hd
theorem last_max {l : List Pr} (hs : SS l) {p : Pr} (hp : p ∈ l) : p.1 ≤ lastN l := by
  have hne : 0 < l.length := List.length_pos_of_mem hp
  obtain ⟨k, hk, rfl⟩ := List.mem_iff_getElem.1 hp
  unfold lastN
  rw [List.getD_eq_getElem?_getD, List.getElem?_eq_getElem (by omega), Option.getD_some]
  by_cases e : k = l.length - 1
  · subst e; exact Int.le_refl _
  · have := List.pairwise_iff_getElem.1 hs k (l.length - 1) hk (by omega) (by omega)
    unfold ltP at this
    omega
theorem apartB_iff (l : List Pr) (most last : Int) : apartB l most last = true ↔ (l.length : Int) ≤ most ∧ setB l = true ∧ livesB l = true ∧ ∀ p ∈ l, p.1 ≤ last := by
  unfold apartB
  rw [lives_nodes]
  simp only [Bool.and_eq_true, decide_eq_true_eq, Bool.or_eq_true]
  constructor
  · rintro ⟨h1, h2, h3, h4⟩
    refine ⟨h1, h2, h3, fun p hp => ?_⟩
    rcases h4 with h4 | h4
    · have : l.length = 0 := by simpa using h4
      rw [List.eq_nil_of_length_eq_zero this] at hp; cases hp
    · exact Int.le_trans (last_max (setB_ss h2) hp) h4
  · rintro ⟨h1, h2, h3, h4⟩
    refine ⟨h1, h2, h3, ?_⟩
    by_cases hl : l.length = 0
    · left; simp [hl]
    · right
      have hlt : l.length - 1 < l.length := by omega
      unfold lastN
      rw [List.getD_eq_getElem?_getD, List.getElem?_eq_getElem hlt, Option.getD_some]
      exact h4 _ (List.getElem_mem hlt)
theorem may10 {l : List Pr} (h : setB l = true) : ∀ p ∈ l, p.1 ≤ 10 := fun p hp => by
  have := setB_may h p hp
  simp [mayB] at this; omega
theorem mayR_eq (x : Pp) (hr : 0 ≤ x.rd) : x.mayR = x.mayB := by
  rw [Bool.eq_iff_iff]
  unfold Pp.mayR Pp.mayB
  simp only [Bool.and_eq_true, apartB_iff, decide_eq_true_eq, Bool.not_eq_true', Bool.or_eq_false_iff, decide_eq_false_iff_not, List.all_eq_true, bne_eq_false_iff_eq, beq_eq_false_iff_ne, beq_iff_eq, ne_eq]
  constructor
  · rintro ⟨⟨h1, h2, h3, h4, h5⟩, h6, h7, h8, h9, h10, h11, h12⟩
    exact ⟨by omega, ⟨by omega, h8, h9, h6⟩, h10, by omega, ⟨by omega, h11, h12, may10 h11⟩, h4, h7⟩
  · rintro ⟨h1, ⟨h2, h3, h4, h5⟩, h6, h7, ⟨h8, h9, h10, h11⟩, h12, h13⟩
    exact ⟨⟨by omega, by omega, by omega, h12, by omega⟩, h5, h13, h3, h4, h6, h9, h10⟩
theorem mayB_facts {x : Pp} (h : x.mayB = true) : 1 ≤ x.ss.length ∧ x.ss.length ≤ 4 ∧ setB x.ss = true ∧ livesB x.ss = true ∧ x.sv ∈ x.ss ∧ 0 < x.rd ∧ x.cs.length ≤ 6 ∧ setB x.cs = true ∧ livesB x.cs = true ∧ x.us.length = x.cs.length ∧ (0 : Int) ∉ x.us := by
  unfold Pp.mayB at h
  simp only [Bool.and_eq_true, apartB_iff, decide_eq_true_eq, Bool.not_eq_true', decide_eq_false_iff_not, beq_iff_eq] at h
  obtain ⟨h1, ⟨h2, h3, h4, h5⟩, h6, h7, ⟨h8, h9, h10, h11⟩, h12, h13⟩ := h
  exact ⟨by omega, by omega, h3, h4, h6, h7, by omega, h9, h10, by omega, h13⟩
theorem agreeR_eq (l : List Pp) (hr : ∀ x ∈ l, 0 ≤ x.rd) : agreeR l = agreeB l := by
  cases l with
  | nil => rfl
  | cons x l' =>
    have hx : x ∈ x :: l' := by simp
    unfold agreeR agreeB
    simp only
    generalize (x :: l') = l at *
    rw [Bool.eq_iff_iff]
    simp only [Bool.and_eq_true, decide_eq_true_eq, List.all_eq_true]
    constructor
    · rintro ⟨h1, h2, h3⟩
      have h2' : ∀ p ∈ l, p.mayB = true ∧ p.rd = x.rd ∧ p.ss = x.ss := fun p hp => by have := h2 p hp; rw [mayR_eq p (hr p hp)] at this; exact this
      have f := mayB_facts (h2' x hx).1
      refine ⟨by omega, h1, h2', (sorted_is (setB_ss f.2.2.1) (fun p hp => ?_) (by simp; omega)).2 h3⟩
      obtain ⟨q, hq, rfl⟩ := List.mem_map.1 hp
      have := (mayB_facts (h2' q hq).1).2.2.2.2.1
      rw [(h2' q hq).2.2] at this; exact this
    · rintro ⟨h0, h1, h2, h3⟩
      have f := mayB_facts (h2 x hx).1
      refine ⟨h1, fun p hp => by rw [mayR_eq p (hr p hp)]; exact h2 p hp, (sorted_is (setB_ss f.2.2.1) (fun p hp => ?_) (by simp; omega)).1 h3⟩
      obtain ⟨q, hq, rfl⟩ := List.mem_map.1 hp
      have := (mayB_facts (h2 q hq).1).2.2.2.2.1
      rw [(h2 q hq).2.2] at this; exact this
theorem refPMay_s (x : Pp) (w : World) (h : x.Ok w) (hn : x.Nn) (hr : 0 ≤ x.rd) : Calls Tryz.prog 17 #[x.v] w (RetBp w x.mayB) := by
  have := refPMay0_s x w h hn.1 hn.2
  rw [mayR_eq x hr] at this; exact this
end Go.Proofs.YtkglclekieckoaaGreat
