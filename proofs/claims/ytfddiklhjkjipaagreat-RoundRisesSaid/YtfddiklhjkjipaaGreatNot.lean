/-
  Layer 8: notices in memory; contracts: notice.server, notice.May, notice.Same.
-/
import Derived.Test.YtfddiklhjkjipaaGreatView
import Derived.Test.YtfddiklhjkjipaaGreatRef4
namespace Go.Proofs.YtfddiklhjkjipaaGreat
set_option linter.unusedSimpArgs false
set_option linter.unusedVariables false
set_option linter.unusedSectionVars false
open Go.RowKit

/-- a notice where it lies -/
structure Nt where
  k : Int
  n : Int
  i : Int
  rd : Int
  cd : Int
  SA : Option Addr
  sc : Nat
  st : List Pr
  vw : Vw
  deriving Inhabited
def Nt.v (x : Nt) : Value := .agg #[.int .i64 x.k, .int .i64 x.n, .int .u64 x.i, .int .u64 x.rd, .int .u64 x.cd, .slice x.SA x.st.length x.sc, .int .u64 x.vw.r, .int .i64 x.vw.n, .int .u64 x.vw.i, .slice x.vw.MA x.vw.ms.length x.vw.mc, .slice x.vw.UA x.vw.us.length x.vw.uc]
structure Nt.Ok (w : World) (x : Nt) : Prop where
  s : Sl w x.SA x.st
  sl : x.st.length ≤ 1000000
  vk : x.vw.Ok w
theorem Nt.Ok.step {w w' : World} {x : Nt} (h : x.Ok w) (hb : Below w.heap.size w w') : x.Ok w' := ⟨h.s.step hb, h.sl, h.vk.step hb⟩
abbrev vw0 : Vw := ⟨0, 0, 0, none, 0, [], none, 0, []⟩
theorem vw0_ok (w : World) : vw0.Ok w := ⟨Reads.none_, Reads.none_, by simp, by simp⟩
/-- no view -/
def Vw.nilB (x : Vw) : Bool := Vw.eqB x vw0
def serverB (n i : Int) : Bool := mayB n i && decide (n ≤ 4)
/-- may a notice be? -/
def Nt.mayB (x : Nt) : Bool :=
  if x.k = 5 then eqP x.n x.i 0 0 && ((x.rd == 0) && ((x.cd == 0) && (((x.st.length : Int) == 0) && (decide (0 < x.vw.r) && x.vw.mayB))))
  else x.vw.nilB && (
    if x.k = 1 ∨ x.k = 3 then Go.Proofs.YtfddiklhjkjipaaGreat.mayB x.n x.i && (((x.st.length : Int) == 0) || (((x.st.length : Int) == 1) && serverB (x.st.getD 0 (0, 0)).1 (x.st.getD 0 (0, 0)).2))
    else if x.k = 2 then Go.Proofs.YtfddiklhjkjipaaGreat.mayB x.n x.i && ((x.rd == 0) && ((x.cd == 0) && ((x.st.length : Int) == 0)))
    else if x.k = 4 then serverB x.n x.i && ((x.rd == 0) && (decide (0 < x.cd) && (decide (1 ≤ (x.st.length : Int)) && (decide ((x.st.length : Int) ≤ 6) && (setB x.st && (((nodesL x.st).length : Int) == (x.st.length : Int)))))))
    else false)
set_option maxHeartbeats 400000 in
theorem server_s (n i : Int) (w : World) : Calls Tryz.prog 259 #[.agg #[.int .i64 n, .int .u64 i]] w fun e w' => e = .returned (.bool (serverB n i)) ∧ Below w.heap.size w w' := by
  have T := hide (fun W => may_any n i W)
  unfold serverB
  cases hm : mayB n i
  · rw [hm] at T
    clear hm
    go_enter Tryz.func259, Tryz.ntmps259
    go_wp2_with (go_at_call 112; (with_reducible refine (T.out _).mono ?_); rintro e w' ⟨rfl, rfl⟩)
    go_ret
    exact ⟨rfl, (by repeat (first | exact Below.refl _ _ | assumption | refine bel_al ?_ _ | refine bel_gw ?_ _ _ | refine bel_drew ?_ | refine bel_drewN ?_ _))⟩
  · rw [hm] at T
    clear hm
    go_enter Tryz.func259, Tryz.ntmps259
    go_wp2_with (go_at_call 112; (with_reducible refine (T.out _).mono ?_); rintro e w' ⟨rfl, rfl⟩)
    go_ret
    exact ⟨ret_b (by simp), (by repeat (first | exact Below.refl _ _ | assumption | refine bel_al ?_ _ | refine bel_gw ?_ _ _ | refine bel_drew ?_ | refine bel_drewN ?_ _))⟩
abbrev NtV (k n i rd cd : Int) (SA : Option Addr) (sl sc : Nat) (r vn vi : Int) (MA : Option Addr) (ml mc : Nat) (UA : Option Addr) (ul uc : Nat) : Value := .agg #[.int .i64 k, .int .i64 n, .int .u64 i, .int .u64 rd, .int .u64 cd, .slice SA sl sc, .int .u64 r, .int .i64 vn, .int .u64 vi, .slice MA ml mc, .slice UA ul uc]
def RetBb (w : World) (b : Bool) (e : Ending) (w' : World) : Prop := e = .returned (.bool b) ∧ Below w.heap.size w w'
section
variable (n i rd cd : Int) (SA : Option Addr) (sc : Nat) (st : List Pr) (r vn vi : Int) (MA : Option Addr) (mc : Nat) (ms : List Pr) (UA : Option Addr) (uc : Nat) (us : List Int)
theorem same0 (W : World) (h : Vw.Ok W ⟨r, vn, vi, MA, mc, ms, UA, uc, us⟩) : Calls Tryz.prog 15 #[.agg #[.int .u64 r, .int .i64 vn, .int .u64 vi, .slice MA ms.length mc, .slice UA us.length uc], .agg #[.int .u64 0, .int .i64 0, .int .u64 0, .slice none 0 0, .slice none 0 0]] W (RetBb W (Vw.nilB ⟨r, vn, vi, MA, mc, ms, UA, uc, us⟩)) := vsame_s ⟨r, vn, vi, MA, mc, ms, UA, uc, us⟩ vw0 W h (vw0_ok W)
set_option maxRecDepth 100000 in
set_option maxHeartbeats 2000000 in
theorem nmay_no (k : Int) (w : World) (hv : Vw.Ok w ⟨r, vn, vi, MA, mc, ms, UA, uc, us⟩) (hk : k ≠ 5) (hz : Vw.nilB ⟨r, vn, vi, MA, mc, ms, UA, uc, us⟩ = false) :
    Calls Tryz.prog 201 #[NtV k n i rd cd SA st.length sc r vn vi MA ms.length mc UA us.length uc] w (RetBb w false) := by
  have T := hide (fun W h => same0 r vn vi MA mc ms UA uc us W h)
  rw [hz] at T
  have k5 : (k != 5) = true := by simpa using hk
  have HV := hide hv
  clear hv hz hk
  go_enter Tryz.func201, Tryz.ntmps201
  go_wp2_with (go_at_call 15; (with_reducible refine (T.out _ (HV.out.step (by repeat (first | exact Below.refl _ _ | assumption | refine bel_al ?_ _ | refine bel_gw ?_ _ _ | refine bel_drew ?_ | refine bel_drewN ?_ _)))).mono ?_); rintro e w1 ⟨rfl, hb⟩; obtain ⟨⟨d1, os1⟩, rfl⟩ := gw_of_below hb; clear hb)
  go_ret
  exact ⟨rfl, (by repeat (first | exact Below.refl _ _ | assumption | refine bel_al ?_ _ | refine bel_gw ?_ _ _ | refine bel_drew ?_ | refine bel_drewN ?_ _))⟩
set_option maxRecDepth 100000 in
set_option maxHeartbeats 2000000 in
theorem nmay13 (k : Int) (w : World) (hv : Vw.Ok w ⟨r, vn, vi, MA, mc, ms, UA, uc, us⟩) (hs : Sl w SA st) (hk : k = 1 ∨ k = 3) (hz : Vw.nilB ⟨r, vn, vi, MA, mc, ms, UA, uc, us⟩ = true) :
    Calls Tryz.prog 201 #[NtV k n i rd cd SA st.length sc r vn vi MA ms.length mc UA us.length uc] w (RetBb w (mayB n i && (((st.length : Int) == 0) || (((st.length : Int) == 1) && serverB (st.getD 0 (0, 0)).1 (st.getD 0 (0, 0)).2)))) := by
  have T := hide (fun W h => same0 r vn vi MA mc ms UA uc us W h)
  have T2 := hide (fun W => may_any n i W)
  rw [hz] at T
  have HV := hide hv
  generalize hb1 : mayB n i = b1 at T2 ⊢
  clear hv hz hb1
  rcases st with _ | ⟨⟨pn, pi⟩, _ | ⟨q, l⟩⟩
  · clear hs
    rcases hk with rfl | rfl <;> cases b1
    all_goals
      go_enter Tryz.func201, Tryz.ntmps201
      go_wp2_with (first
        | (go_at_call 15; (with_reducible refine (T.out _ (HV.out.step (by repeat (first | exact Below.refl _ _ | assumption | refine bel_al ?_ _ | refine bel_gw ?_ _ _ | refine bel_drew ?_ | refine bel_drewN ?_ _)))).mono ?_); rintro e w1 ⟨rfl, hb⟩; obtain ⟨⟨d1, os1⟩, rfl⟩ := gw_of_below hb; clear hb)
        | (go_at_call 112; (with_reducible refine (T2.out _).mono ?_); rintro e w' ⟨rfl, rfl⟩))
      go_ret
      exact ⟨rfl, (by repeat (first | exact Below.refl _ _ | assumption | refine bel_al ?_ _ | refine bel_gw ?_ _ _ | refine bel_drew ?_ | refine bel_drewN ?_ _))⟩
  · obtain ⟨b, off, p, rfl, hb, hp, g1, g2⟩ := hs.at2 (k := 0) (by simp)
    simp at hp
    subst hp
    simp at g1 g2
    have T3 := hide (fun W => server_s pn pi W)
    haveI : InW b w := ⟨hb⟩
    clear hb hs
    generalize hb3 : serverB pn pi = b3 at T3
    have HB3 := hide hb3
    clear hb3
    rcases hk with rfl | rfl <;> cases b1
    all_goals
      go_enter Tryz.func201, Tryz.ntmps201
      go_wp2_with (first
        | (go_at_call 15; (with_reducible refine (T.out _ (HV.out.step (by repeat (first | exact Below.refl _ _ | assumption | refine bel_al ?_ _ | refine bel_gw ?_ _ _ | refine bel_drew ?_ | refine bel_drewN ?_ _)))).mono ?_); rintro e w1 ⟨rfl, hb⟩; obtain ⟨⟨d1, os1⟩, rfl⟩ := gw_of_below hb; clear hb)
        | (go_at_call 112; (with_reducible refine (T2.out _).mono ?_); rintro e w' ⟨rfl, rfl⟩)
        | (go_at_call 259; (with_reducible refine (T3.out _).mono ?_); rintro e w1 ⟨rfl, hb⟩; obtain ⟨⟨d2, os2⟩, rfl⟩ := gw_of_below hb; clear hb))
      go_ret
      exact ⟨ret_b (by simp [HB3.out]), (by repeat (first | exact Below.refl _ _ | assumption | refine bel_al ?_ _ | refine bel_gw ?_ _ _ | refine bel_drew ?_ | refine bel_drewN ?_ _))⟩
  · have e1 : ((((⟨pn, pi⟩ : Pr) :: q :: l).length : Int) == 0) = false := by simp; omega
    have e2 : ((((⟨pn, pi⟩ : Pr) :: q :: l).length : Int) == 1) = false := by simp; omega
    rw [e1, e2]
    generalize ((⟨pn, pi⟩ : Pr) :: q :: l).length = len at e1 e2
    clear hs
    rcases hk with rfl | rfl <;> cases b1
    all_goals
      go_enter Tryz.func201, Tryz.ntmps201
      go_wp2_with (first
        | (go_at_call 15; (with_reducible refine (T.out _ (HV.out.step (by repeat (first | exact Below.refl _ _ | assumption | refine bel_al ?_ _ | refine bel_gw ?_ _ _ | refine bel_drew ?_ | refine bel_drewN ?_ _)))).mono ?_); rintro e w1 ⟨rfl, hb⟩; obtain ⟨⟨d1, os1⟩, rfl⟩ := gw_of_below hb; clear hb)
        | (go_at_call 112; (with_reducible refine (T2.out _).mono ?_); rintro e w' ⟨rfl, rfl⟩))
      go_ret
      exact ⟨rfl, (by repeat (first | exact Below.refl _ _ | assumption | refine bel_al ?_ _ | refine bel_gw ?_ _ _ | refine bel_drew ?_ | refine bel_drewN ?_ _))⟩
set_option maxRecDepth 100000 in
set_option maxHeartbeats 2000000 in
theorem nmay2 (w : World) (hv : Vw.Ok w ⟨r, vn, vi, MA, mc, ms, UA, uc, us⟩) (hz : Vw.nilB ⟨r, vn, vi, MA, mc, ms, UA, uc, us⟩ = true) :
    Calls Tryz.prog 201 #[NtV 2 n i rd cd SA st.length sc r vn vi MA ms.length mc UA us.length uc] w (RetBb w (mayB n i && ((rd == 0) && ((cd == 0) && ((st.length : Int) == 0))))) := by
  have T := hide (fun W h => same0 r vn vi MA mc ms UA uc us W h)
  have T2 := hide (fun W => may_any n i W)
  rw [hz] at T
  have HV := hide hv
  generalize hb1 : mayB n i = b1 at T2 ⊢
  generalize f2 : (rd == 0) = b2
  generalize f3 : (cd == 0) = b3
  generalize f4 : ((st.length : Int) == 0) = b4
  generalize st.length = len at f4 ⊢
  clear hv hz hb1
  have key : b1 = false ∨ (b1 = true ∧ b2 = false) ∨ (b1 = true ∧ b2 = true ∧ b3 = false) ∨ (b1 = true ∧ b2 = true ∧ b3 = true) := by
    cases b1 <;> cases b2 <;> cases b3 <;> simp
  rcases key with rfl | ⟨rfl, rfl⟩ | ⟨rfl, rfl, rfl⟩ | ⟨rfl, rfl, rfl⟩
  all_goals
    go_enter Tryz.func201, Tryz.ntmps201
    go_wp2_with (first
      | (go_at_call 15; (with_reducible refine (T.out _ (HV.out.step (by repeat (first | exact Below.refl _ _ | assumption | refine bel_al ?_ _ | refine bel_gw ?_ _ _ | refine bel_drew ?_ | refine bel_drewN ?_ _)))).mono ?_); rintro e w1 ⟨rfl, hb⟩; obtain ⟨⟨d1, os1⟩, rfl⟩ := gw_of_below hb; clear hb)
      | (go_at_call 112; (with_reducible refine (T2.out _).mono ?_); rintro e w' ⟨rfl, rfl⟩)
      | (go_at_call 259; (with_reducible refine (T3.out _).mono ?_); rintro e w1 ⟨rfl, hb⟩; obtain ⟨⟨d2, os2⟩, rfl⟩ := gw_of_below hb; clear hb)
      | (go_at_call 110; (with_reducible refine (T4.out _ (HS.out.step (by repeat (first | exact Below.refl _ _ | assumption | refine bel_al ?_ _ | refine bel_gw ?_ _ _ | refine bel_drew ?_ | refine bel_drewN ?_ _)))).mono ?_); rintro e w2 ⟨rfl, hb⟩; obtain ⟨⟨d3, os3⟩, rfl⟩ := gw_of_below hb; clear hb)
      | (go_at_call 56; (with_reducible refine (T5.out _ (HS.out.step (by repeat (first | exact Below.refl _ _ | assumption | refine bel_al ?_ _ | refine bel_gw ?_ _ _ | refine bel_drew ?_ | refine bel_drewN ?_ _)))).mono ?_); rintro e w3 ⟨NA, NC, rfl, hN, hb⟩; obtain ⟨⟨d4, os4⟩, rfl⟩ := gw_of_below hb; clear hb hN)
      | (go_at_call 75; (with_reducible refine (T6.out _ (HV.out.step (by repeat (first | exact Below.refl _ _ | assumption | refine bel_al ?_ _ | refine bel_gw ?_ _ _ | refine bel_drew ?_ | refine bel_drewN ?_ _)))).mono ?_); rintro e w1 ⟨rfl, hb⟩; obtain ⟨⟨d5, os5⟩, rfl⟩ := gw_of_below hb; clear hb))
    go_ret
    exact ⟨ret_b (by simp), (by repeat (first | exact Below.refl _ _ | assumption | refine bel_al ?_ _ | refine bel_gw ?_ _ _ | refine bel_drew ?_ | refine bel_drewN ?_ _))⟩
set_option maxRecDepth 100000 in
set_option maxHeartbeats 4000000 in
theorem nmay4 (w : World) (hv : Vw.Ok w ⟨r, vn, vi, MA, mc, ms, UA, uc, us⟩) (hs : Sl w SA st) (hl : st.length ≤ 1000000) (hz : Vw.nilB ⟨r, vn, vi, MA, mc, ms, UA, uc, us⟩ = true) :
    Calls Tryz.prog 201 #[NtV 4 n i rd cd SA st.length sc r vn vi MA ms.length mc UA us.length uc] w (RetBb w (serverB n i && ((rd == 0) && (decide (0 < cd) && (decide (1 ≤ (st.length : Int)) && (decide ((st.length : Int) ≤ 6) && (setB st && (((nodesL st).length : Int) == (st.length : Int))))))))) := by
  have T := hide (fun W h => same0 r vn vi MA mc ms UA uc us W h)
  have T3 := hide (fun W => server_s n i W)
  have T4 := hide (fun W (hW : Sl W SA st) => set_any SA sc st W hW hl)
  have T5 := hide (fun W (hW : Sl W SA st) => nodes_s SA sc st W hW hl)
  rw [hz] at T
  have HV := hide hv
  have HS := hide hs
  generalize serverB n i = b1 at T3 ⊢
  generalize nodesL st = N at T5 ⊢
  generalize setB st = b6 at T4 ⊢
  generalize f2 : (rd == 0) = b2
  generalize f3 : decide (0 < cd) = b3
  generalize f4 : decide (1 ≤ (st.length : Int)) = b4
  generalize f5 : decide ((st.length : Int) ≤ 6) = b5
  generalize f7 : ((N.length : Int) == (st.length : Int)) = b7
  clear hv hz hs
  have key : b1 = false ∨ (b1 = true ∧ b2 = false) ∨ (b1 = true ∧ b2 = true ∧ b3 = false) ∨ (b1 = true ∧ b2 = true ∧ b3 = true ∧ b4 = false) ∨ (b1 = true ∧ b2 = true ∧ b3 = true ∧ b4 = true ∧ b5 = false) ∨ (b1 = true ∧ b2 = true ∧ b3 = true ∧ b4 = true ∧ b5 = true ∧ b6 = false) ∨ (b1 = true ∧ b2 = true ∧ b3 = true ∧ b4 = true ∧ b5 = true ∧ b6 = true) := by
    cases b1 <;> cases b2 <;> cases b3 <;> cases b4 <;> cases b5 <;> cases b6 <;> simp
  rcases key with rfl | ⟨rfl, rfl⟩ | ⟨rfl, rfl, rfl⟩ | ⟨rfl, rfl, rfl, rfl⟩ | ⟨rfl, rfl, rfl, rfl, rfl⟩ | ⟨rfl, rfl, rfl, rfl, rfl, rfl⟩ | ⟨rfl, rfl, rfl, rfl, rfl, rfl⟩
  all_goals
    go_enter Tryz.func201, Tryz.ntmps201
    go_wp2_with (first
      | (go_at_call 15; (with_reducible refine (T.out _ (HV.out.step (by repeat (first | exact Below.refl _ _ | assumption | refine bel_al ?_ _ | refine bel_gw ?_ _ _ | refine bel_drew ?_ | refine bel_drewN ?_ _)))).mono ?_); rintro e w1 ⟨rfl, hb⟩; obtain ⟨⟨d1, os1⟩, rfl⟩ := gw_of_below hb; clear hb)
      | (go_at_call 112; (with_reducible refine (T2.out _).mono ?_); rintro e w' ⟨rfl, rfl⟩)
      | (go_at_call 259; (with_reducible refine (T3.out _).mono ?_); rintro e w1 ⟨rfl, hb⟩; obtain ⟨⟨d2, os2⟩, rfl⟩ := gw_of_below hb; clear hb)
      | (go_at_call 110; (with_reducible refine (T4.out _ (HS.out.step (by repeat (first | exact Below.refl _ _ | assumption | refine bel_al ?_ _ | refine bel_gw ?_ _ _ | refine bel_drew ?_ | refine bel_drewN ?_ _)))).mono ?_); rintro e w2 ⟨rfl, hb⟩; obtain ⟨⟨d3, os3⟩, rfl⟩ := gw_of_below hb; clear hb)
      | (go_at_call 56; (with_reducible refine (T5.out _ (HS.out.step (by repeat (first | exact Below.refl _ _ | assumption | refine bel_al ?_ _ | refine bel_gw ?_ _ _ | refine bel_drew ?_ | refine bel_drewN ?_ _)))).mono ?_); rintro e w3 ⟨NA, NC, rfl, hN, hb⟩; obtain ⟨⟨d4, os4⟩, rfl⟩ := gw_of_below hb; clear hb hN)
      | (go_at_call 75; (with_reducible refine (T6.out _ (HV.out.step (by repeat (first | exact Below.refl _ _ | assumption | refine bel_al ?_ _ | refine bel_gw ?_ _ _ | refine bel_drew ?_ | refine bel_drewN ?_ _)))).mono ?_); rintro e w1 ⟨rfl, hb⟩; obtain ⟨⟨d5, os5⟩, rfl⟩ := gw_of_below hb; clear hb))
    go_ret
    exact ⟨ret_b (by simp), (by repeat (first | exact Below.refl _ _ | assumption | refine bel_al ?_ _ | refine bel_gw ?_ _ _ | refine bel_drew ?_ | refine bel_drewN ?_ _))⟩
set_option maxRecDepth 100000 in
set_option maxHeartbeats 4000000 in
theorem nmay5 (w : World) (hv : Vw.Ok w ⟨r, vn, vi, MA, mc, ms, UA, uc, us⟩) :
    Calls Tryz.prog 201 #[NtV 5 n i rd cd SA st.length sc r vn vi MA ms.length mc UA us.length uc] w (RetBb w (eqP n i 0 0 && ((rd == 0) && ((cd == 0) && (((st.length : Int) == 0) && (decide (0 < r) && Vw.mayB ⟨r, vn, vi, MA, mc, ms, UA, uc, us⟩)))))) := by
  have T6 : Hid (∀ W, Vw.Ok W ⟨r, vn, vi, MA, mc, ms, UA, uc, us⟩ → Calls Tryz.prog 75 #[.agg #[.int .u64 r, .int .i64 vn, .int .u64 vi, .slice MA ms.length mc, .slice UA us.length uc]] W (RetBb W (Vw.mayB ⟨r, vn, vi, MA, mc, ms, UA, uc, us⟩))) := hide (fun W h => vmay_s ⟨r, vn, vi, MA, mc, ms, UA, uc, us⟩ W h)
  have HV := hide hv
  generalize Vw.mayB ⟨r, vn, vi, MA, mc, ms, UA, uc, us⟩ = b6 at T6 ⊢
  generalize f1 : eqP n i 0 0 = b1
  generalize f2 : (rd == 0) = b2
  generalize f3 : (cd == 0) = b3
  generalize f4 : ((st.length : Int) == 0) = b4
  generalize f5 : decide (0 < r) = b5
  generalize st.length = len at f4 ⊢
  clear hv
  have key : b1 = false ∨ (b1 = true ∧ b2 = false) ∨ (b1 = true ∧ b2 = true ∧ b3 = false) ∨ (b1 = true ∧ b2 = true ∧ b3 = true ∧ b4 = false) ∨ (b1 = true ∧ b2 = true ∧ b3 = true ∧ b4 = true ∧ b5 = false) ∨ (b1 = true ∧ b2 = true ∧ b3 = true ∧ b4 = true ∧ b5 = true) := by
    cases b1 <;> cases b2 <;> cases b3 <;> cases b4 <;> cases b5 <;> simp
  rcases key with rfl | ⟨rfl, rfl⟩ | ⟨rfl, rfl, rfl⟩ | ⟨rfl, rfl, rfl, rfl⟩ | ⟨rfl, rfl, rfl, rfl, rfl⟩ | ⟨rfl, rfl, rfl, rfl, rfl⟩
  all_goals
    go_enter Tryz.func201, Tryz.ntmps201
    go_wp2_with (first
      | (go_at_call 15; (with_reducible refine (T.out _ (HV.out.step (by repeat (first | exact Below.refl _ _ | assumption | refine bel_al ?_ _ | refine bel_gw ?_ _ _ | refine bel_drew ?_ | refine bel_drewN ?_ _)))).mono ?_); rintro e w1 ⟨rfl, hb⟩; obtain ⟨⟨d1, os1⟩, rfl⟩ := gw_of_below hb; clear hb)
      | (go_at_call 112; (with_reducible refine (T2.out _).mono ?_); rintro e w' ⟨rfl, rfl⟩)
      | (go_at_call 259; (with_reducible refine (T3.out _).mono ?_); rintro e w1 ⟨rfl, hb⟩; obtain ⟨⟨d2, os2⟩, rfl⟩ := gw_of_below hb; clear hb)
      | (go_at_call 110; (with_reducible refine (T4.out _ (HS.out.step (by repeat (first | exact Below.refl _ _ | assumption | refine bel_al ?_ _ | refine bel_gw ?_ _ _ | refine bel_drew ?_ | refine bel_drewN ?_ _)))).mono ?_); rintro e w2 ⟨rfl, hb⟩; obtain ⟨⟨d3, os3⟩, rfl⟩ := gw_of_below hb; clear hb)
      | (go_at_call 56; (with_reducible refine (T5.out _ (HS.out.step (by repeat (first | exact Below.refl _ _ | assumption | refine bel_al ?_ _ | refine bel_gw ?_ _ _ | refine bel_drew ?_ | refine bel_drewN ?_ _)))).mono ?_); rintro e w3 ⟨NA, NC, rfl, hN, hb⟩; obtain ⟨⟨d4, os4⟩, rfl⟩ := gw_of_below hb; clear hb hN)
      | (go_at_call 75; (with_reducible refine (T6.out _ (HV.out.step (by repeat (first | exact Below.refl _ _ | assumption | refine bel_al ?_ _ | refine bel_gw ?_ _ _ | refine bel_drew ?_ | refine bel_drewN ?_ _)))).mono ?_); rintro e w1 ⟨rfl, hb⟩; obtain ⟨⟨d5, os5⟩, rfl⟩ := gw_of_below hb; clear hb))
    go_ret
    exact ⟨ret_b (by simp), (by repeat (first | exact Below.refl _ _ | assumption | refine bel_al ?_ _ | refine bel_gw ?_ _ _ | refine bel_drew ?_ | refine bel_drewN ?_ _))⟩
set_option maxRecDepth 100000 in
set_option maxHeartbeats 2000000 in
theorem nmay_else (k : Int) (w : World) (hv : Vw.Ok w ⟨r, vn, vi, MA, mc, ms, UA, uc, us⟩) (hk : k ≠ 5 ∧ k ≠ 1 ∧ k ≠ 3 ∧ k ≠ 2 ∧ k ≠ 4) (hz : Vw.nilB ⟨r, vn, vi, MA, mc, ms, UA, uc, us⟩ = true) :
    Calls Tryz.prog 201 #[NtV k n i rd cd SA st.length sc r vn vi MA ms.length mc UA us.length uc] w (RetBb w false) := by
  have T := hide (fun W h => same0 r vn vi MA mc ms UA uc us W h)
  rw [hz] at T
  obtain ⟨a5, a1, a3, a2, a4⟩ := hk
  have k5 : (k != 5) = true := by simpa using a5
  have k5' : (k == 5) = false := by simpa using a5
  have k1 : (k == 1) = false := by simpa using a1
  have k2 : (k == 2) = false := by simpa using a2
  have k3 : (k == 3) = false := by simpa using a3
  have k4 : (k == 4) = false := by simpa using a4
  have HV := hide hv
  clear hv hz a5 a1 a3 a2 a4
  go_enter Tryz.func201, Tryz.ntmps201
  go_wp2_with (go_at_call 15; (with_reducible refine (T.out _ (HV.out.step (by repeat (first | exact Below.refl _ _ | assumption | refine bel_al ?_ _ | refine bel_gw ?_ _ _ | refine bel_drew ?_ | refine bel_drewN ?_ _)))).mono ?_); rintro e w1 ⟨rfl, hb⟩; obtain ⟨⟨d1, os1⟩, rfl⟩ := gw_of_below hb; clear hb)
  go_ret
  exact ⟨rfl, (by repeat (first | exact Below.refl _ _ | assumption | refine bel_al ?_ _ | refine bel_gw ?_ _ _ | refine bel_drew ?_ | refine bel_drewN ?_ _))⟩
end
theorem nmay_s (x : Nt) (w : World) (h : x.Ok w) : Calls Tryz.prog 201 #[x.v] w fun e w' => e = .returned (.bool x.mayB) ∧ Below w.heap.size w w' := by
  obtain ⟨k, n, i, rd, cd, SA, sc, st, ⟨r, vn, vi, MA, mc, ms, UA, uc, us⟩⟩ := x
  obtain ⟨h1, h2, h3⟩ := h
  unfold Nt.mayB
  simp only at h1 h2 h3 ⊢
  by_cases k5 : k = 5
  · subst k5
    rw [if_pos rfl]
    exact nmay5 n i rd cd SA sc st r vn vi MA mc ms UA uc us w h3
  · rw [if_neg k5]
    cases hz : Vw.nilB ⟨r, vn, vi, MA, mc, ms, UA, uc, us⟩
    · rw [Bool.false_and]
      exact nmay_no n i rd cd SA sc st r vn vi MA mc ms UA uc us k w h3 k5 hz
    · rw [Bool.true_and]
      by_cases k1 : k = 1 ∨ k = 3
      · rw [if_pos k1]
        exact nmay13 n i rd cd SA sc st r vn vi MA mc ms UA uc us k w h3 h1 k1 hz
      · rw [if_neg k1]
        by_cases k2 : k = 2
        · subst k2
          rw [if_pos rfl]
          exact nmay2 n i rd cd SA sc st r vn vi MA mc ms UA uc us w h3 hz
        · rw [if_neg k2]
          by_cases k4 : k = 4
          · subst k4
            rw [if_pos rfl]
            exact nmay4 n i rd cd SA sc st r vn vi MA mc ms UA uc us w h3 h1 h2 hz
          · rw [if_neg k4]
            exact nmay_else n i rd cd SA sc st r vn vi MA mc ms UA uc us k w h3 ⟨k5, by omega, by omega, k2, k4⟩ hz
end Go.Proofs.YtfddiklhjkjipaaGreat

namespace Go.Proofs.YtfddiklhjkjipaaGreat
set_option linter.unusedSimpArgs false
set_option linter.unusedVariables false
set_option linter.unusedSectionVars false
open Go.RowKit

/-- two notices are the same -/
def Nt.eqB (x y : Nt) : Bool := (x.k == y.k) && (eqP x.n x.i y.n y.i && ((x.rd == y.rd) && ((x.cd == y.cd) && (decide (x.st = y.st) && Vw.eqB x.vw y.vw))))
/-- is it longer than is gone through? -/
def hvN (x : Nt) : Bool := decide (300 < (x.st.length : Int)) || (decide (300 < (x.vw.ms.length : Int)) || decide (300 < (x.vw.us.length : Int)))
theorem Nt.ok_of {w : World} {x : Nt} (hs : Sl w x.SA x.st) (hm : Sl w x.vw.MA x.vw.ms) (hu : Ul w x.vw.UA x.vw.us) (h : hvN x = false) : x.Ok w := by
  unfold hvN at h
  simp at h
  exact ⟨hs, by omega, ⟨hm, hu, by omega, by omega⟩⟩

/-! ### the reference's May -/
section
variable (n i rd cd : Int) (SA : Option Addr) (sc : Nat) (st : List Pr) (r vn vi : Int) (MA : Option Addr) (mc : Nat) (ms : List Pr) (UA : Option Addr) (uc : Nat) (us : List Int)
theorem refSame0 (W : World) (h : Vw.Ok W ⟨r, vn, vi, MA, mc, ms, UA, uc, us⟩) : Calls Tryz.prog 67 #[.agg #[.int .u64 r, .int .i64 vn, .int .u64 vi, .slice MA ms.length mc, .slice UA us.length uc], .agg #[.int .u64 0, .int .i64 0, .int .u64 0, .slice none 0 0, .slice none 0 0]] W (RetBb W (Vw.nilB ⟨r, vn, vi, MA, mc, ms, UA, uc, us⟩)) := refVSame_s ⟨r, vn, vi, MA, mc, ms, UA, uc, us⟩ vw0 W h (vw0_ok W)
set_option maxHeartbeats 1000000 in
theorem bare_s (k : Int) (w : World) (hv : Vw.Ok w ⟨r, vn, vi, MA, mc, ms, UA, uc, us⟩) :
    Calls Tryz.prog 174 #[NtV k n i rd cd SA st.length sc r vn vi MA ms.length mc UA us.length uc] w (RetBb w (((st.length : Int) == 0) && Vw.nilB ⟨r, vn, vi, MA, mc, ms, UA, uc, us⟩)) := by
  have T := hide (fun W h => refSame0 r vn vi MA mc ms UA uc us W h)
  generalize Vw.nilB ⟨r, vn, vi, MA, mc, ms, UA, uc, us⟩ = b2 at T ⊢
  generalize f1 : ((st.length : Int) == 0) = b1
  generalize st.length = len at f1 ⊢
  have HV := hide hv
  clear hv
  cases b1
  all_goals
    go_enter Tryz.func174, Tryz.ntmps174
    go_wp2_with (go_at_call 67; (with_reducible refine (T.out _ (HV.out.step (by repeat (first | exact Below.refl _ _ | assumption | refine bel_al ?_ _ | refine bel_gw ?_ _ _ | refine bel_drew ?_ | refine bel_drewN ?_ _)))).mono ?_); rintro e w1 ⟨rfl, hb⟩; obtain ⟨⟨d1, os1⟩, rfl⟩ := gw_of_below hb; clear hb)
    go_ret
    exact ⟨ret_b (by simp), (by repeat (first | exact Below.refl _ _ | assumption | refine bel_al ?_ _ | refine bel_gw ?_ _ _ | refine bel_drew ?_ | refine bel_drewN ?_ _))⟩
set_option maxRecDepth 100000 in
set_option maxHeartbeats 4000000 in
theorem refNMay1 (w : World) (hi : 0 ≤ i) (hv : Vw.Ok w ⟨r, vn, vi, MA, mc, ms, UA, uc, us⟩) (hs : Sl w SA st) (hl : st.length ≤ 1000000) (hst : ∀ p ∈ st, 0 ≤ p.2) :
    Calls Tryz.prog 107 #[NtV 1 n i rd cd SA st.length sc r vn vi MA ms.length mc UA us.length uc] w (RetBb w (mayB n i && (decide ((st.length : Int) ≤ 1) && (setB st && ((((st.length : Int) == 0) || decide ((st.getD 0 (0, 0)).1 ≤ 4)) && Vw.nilB ⟨r, vn, vi, MA, mc, ms, UA, uc, us⟩))))) := by
  have T := hide (fun W h => refSame0 r vn vi MA mc ms UA uc us W h)
  have T2 := hide (fun W => refMay_b n i W hi)
  have HV := hide hv
  have HS := hide hs
  have T4 := hide (fun W (hW : Sl W SA st) => refSet_b SA sc st W hW hl hst)
  clear hv hst
  generalize Vw.nilB ⟨r, vn, vi, MA, mc, ms, UA, uc, us⟩ = b5 at T ⊢
  generalize mayB n i = b1 at T2 ⊢
  generalize setB st = b3 at T4 ⊢
  by_cases hlen : st.length = 0
  · have f2 : decide ((st.length : Int) ≤ 1) = true := decide_eq_true (by omega)
    have f4 : ((st.length : Int) == 0) = true := by rw [beq_iff_eq]; omega
    rw [f2, f4]
    have f4' : (st.length : Int) = 0 := by omega
    clear hlen hs
    cases b1 <;> cases b3
    all_goals
      go_enter Tryz.func107, Tryz.ntmps107
      go_wp2_with (first
        | (go_at_call 67; (with_reducible refine (T.out _ (HV.out.step (by repeat (first | exact Below.refl _ _ | assumption | refine bel_al ?_ _ | refine bel_gw ?_ _ _ | refine bel_drew ?_ | refine bel_drewN ?_ _)))).mono ?_); rintro e w1 ⟨rfl, hb⟩; obtain ⟨⟨d1, os1⟩, rfl⟩ := gw_of_below hb; clear hb)
        | (go_at_call 139; (with_reducible refine (T2.out _).mono ?_); rintro e w1 ⟨rfl, hb⟩; obtain ⟨⟨d2, os2⟩, rfl⟩ := gw_of_below hb; clear hb)
        | (go_at_call 174; (with_reducible refine (T3.out _ (HV.out.step (by repeat (first | exact Below.refl _ _ | assumption | refine bel_al ?_ _ | refine bel_gw ?_ _ _ | refine bel_drew ?_ | refine bel_drewN ?_ _)))).mono ?_); rintro e w1 ⟨rfl, hb⟩; obtain ⟨⟨d6, os6⟩, rfl⟩ := gw_of_below hb; clear hb)
        | (go_at_call 70; (with_reducible refine (T4.out _ (HS.out.step (by repeat (first | exact Below.refl _ _ | assumption | refine bel_al ?_ _ | refine bel_gw ?_ _ _ | refine bel_drew ?_ | refine bel_drewN ?_ _)))).mono ?_); rintro e w2 ⟨rfl, hb⟩; obtain ⟨⟨d3, os3⟩, rfl⟩ := gw_of_below hb; clear hb)
        | (go_at_call 71; (with_reducible refine (T5.out _ (HS.out.step (by repeat (first | exact Below.refl _ _ | assumption | refine bel_al ?_ _ | refine bel_gw ?_ _ _ | refine bel_drew ?_ | refine bel_drewN ?_ _)))).mono ?_); rintro e w3 ⟨rfl, hb⟩; obtain ⟨⟨d4, os4⟩, rfl⟩ := gw_of_below hb; clear hb)
        | (go_at_call 173; (with_reducible refine (T6.out _ (HV.out.step (by repeat (first | exact Below.refl _ _ | assumption | refine bel_al ?_ _ | refine bel_gw ?_ _ _ | refine bel_drew ?_ | refine bel_drewN ?_ _)))).mono ?_); rintro e w1 ⟨rfl, hb⟩; obtain ⟨⟨d5, os5⟩, rfl⟩ := gw_of_below hb; clear hb))
      go_ret
      exact ⟨ret_b (by simp), (by repeat (first | exact Below.refl _ _ | assumption | refine bel_al ?_ _ | refine bel_gw ?_ _ _ | refine bel_drew ?_ | refine bel_drewN ?_ _))⟩
  · by_cases h1 : st.length = 1
    · obtain ⟨b, off, p, rfl, hb, hp, g1, g2⟩ := hs.at2 (k := 0) (by omega)
      have f2 : decide ((st.length : Int) ≤ 1) = true := decide_eq_true (by omega)
      have f4 : ((st.length : Int) == 0) = false := by rw [beq_eq_false_iff_ne]; omega
      have e : st.getD 0 (0, 0) = p := by simp [List.getD, hp]
      rw [f2, f4, e]
      obtain ⟨pn, pi⟩ := p
      simp only [Nat.zero_mul, Nat.add_zero] at g1 g2 ⊢
      haveI : InW b w := ⟨hb⟩
      have i0 : 0 < st.length := by omega
      generalize f5 : decide (pn ≤ 4) = b4
      clear hlen hs e hp h1
      cases b1 <;> cases b3 <;> cases b4
      all_goals
        go_enter Tryz.func107, Tryz.ntmps107
        go_wp2_with (first
          | (go_at_call 67; (with_reducible refine (T.out _ (HV.out.step (by repeat (first | exact Below.refl _ _ | assumption | refine bel_al ?_ _ | refine bel_gw ?_ _ _ | refine bel_drew ?_ | refine bel_drewN ?_ _)))).mono ?_); rintro e w1 ⟨rfl, hb⟩; obtain ⟨⟨d1, os1⟩, rfl⟩ := gw_of_below hb; clear hb)
          | (go_at_call 139; (with_reducible refine (T2.out _).mono ?_); rintro e w1 ⟨rfl, hb⟩; obtain ⟨⟨d2, os2⟩, rfl⟩ := gw_of_below hb; clear hb)
          | (go_at_call 174; (with_reducible refine (T3.out _ (HV.out.step (by repeat (first | exact Below.refl _ _ | assumption | refine bel_al ?_ _ | refine bel_gw ?_ _ _ | refine bel_drew ?_ | refine bel_drewN ?_ _)))).mono ?_); rintro e w1 ⟨rfl, hb⟩; obtain ⟨⟨d6, os6⟩, rfl⟩ := gw_of_below hb; clear hb)
          | (go_at_call 70; (with_reducible refine (T4.out _ (HS.out.step (by repeat (first | exact Below.refl _ _ | assumption | refine bel_al ?_ _ | refine bel_gw ?_ _ _ | refine bel_drew ?_ | refine bel_drewN ?_ _)))).mono ?_); rintro e w2 ⟨rfl, hb⟩; obtain ⟨⟨d3, os3⟩, rfl⟩ := gw_of_below hb; clear hb)
          | (go_at_call 71; (with_reducible refine (T5.out _ (HS.out.step (by repeat (first | exact Below.refl _ _ | assumption | refine bel_al ?_ _ | refine bel_gw ?_ _ _ | refine bel_drew ?_ | refine bel_drewN ?_ _)))).mono ?_); rintro e w3 ⟨rfl, hb⟩; obtain ⟨⟨d4, os4⟩, rfl⟩ := gw_of_below hb; clear hb)
          | (go_at_call 173; (with_reducible refine (T6.out _ (HV.out.step (by repeat (first | exact Below.refl _ _ | assumption | refine bel_al ?_ _ | refine bel_gw ?_ _ _ | refine bel_drew ?_ | refine bel_drewN ?_ _)))).mono ?_); rintro e w1 ⟨rfl, hb⟩; obtain ⟨⟨d5, os5⟩, rfl⟩ := gw_of_below hb; clear hb))
        go_ret
        exact ⟨ret_b (by simp), (by repeat (first | exact Below.refl _ _ | assumption | refine bel_al ?_ _ | refine bel_gw ?_ _ _ | refine bel_drew ?_ | refine bel_drewN ?_ _))⟩
    · have f2 : decide ((st.length : Int) ≤ 1) = false := decide_eq_false (by omega)
      rw [f2]
      clear hlen hs h1
      cases b1
      all_goals
        go_enter Tryz.func107, Tryz.ntmps107
        go_wp2_with (first
          | (go_at_call 67; (with_reducible refine (T.out _ (HV.out.step (by repeat (first | exact Below.refl _ _ | assumption | refine bel_al ?_ _ | refine bel_gw ?_ _ _ | refine bel_drew ?_ | refine bel_drewN ?_ _)))).mono ?_); rintro e w1 ⟨rfl, hb⟩; obtain ⟨⟨d1, os1⟩, rfl⟩ := gw_of_below hb; clear hb)
          | (go_at_call 139; (with_reducible refine (T2.out _).mono ?_); rintro e w1 ⟨rfl, hb⟩; obtain ⟨⟨d2, os2⟩, rfl⟩ := gw_of_below hb; clear hb)
          | (go_at_call 174; (with_reducible refine (T3.out _ (HV.out.step (by repeat (first | exact Below.refl _ _ | assumption | refine bel_al ?_ _ | refine bel_gw ?_ _ _ | refine bel_drew ?_ | refine bel_drewN ?_ _)))).mono ?_); rintro e w1 ⟨rfl, hb⟩; obtain ⟨⟨d6, os6⟩, rfl⟩ := gw_of_below hb; clear hb)
          | (go_at_call 70; (with_reducible refine (T4.out _ (HS.out.step (by repeat (first | exact Below.refl _ _ | assumption | refine bel_al ?_ _ | refine bel_gw ?_ _ _ | refine bel_drew ?_ | refine bel_drewN ?_ _)))).mono ?_); rintro e w2 ⟨rfl, hb⟩; obtain ⟨⟨d3, os3⟩, rfl⟩ := gw_of_below hb; clear hb)
          | (go_at_call 71; (with_reducible refine (T5.out _ (HS.out.step (by repeat (first | exact Below.refl _ _ | assumption | refine bel_al ?_ _ | refine bel_gw ?_ _ _ | refine bel_drew ?_ | refine bel_drewN ?_ _)))).mono ?_); rintro e w3 ⟨rfl, hb⟩; obtain ⟨⟨d4, os4⟩, rfl⟩ := gw_of_below hb; clear hb)
          | (go_at_call 173; (with_reducible refine (T6.out _ (HV.out.step (by repeat (first | exact Below.refl _ _ | assumption | refine bel_al ?_ _ | refine bel_gw ?_ _ _ | refine bel_drew ?_ | refine bel_drewN ?_ _)))).mono ?_); rintro e w1 ⟨rfl, hb⟩; obtain ⟨⟨d5, os5⟩, rfl⟩ := gw_of_below hb; clear hb))
        go_ret
        exact ⟨ret_b (by simp), (by repeat (first | exact Below.refl _ _ | assumption | refine bel_al ?_ _ | refine bel_gw ?_ _ _ | refine bel_drew ?_ | refine bel_drewN ?_ _))⟩
set_option maxRecDepth 100000 in
set_option maxHeartbeats 4000000 in
theorem refNMay3 (w : World) (hi : 0 ≤ i) (hv : Vw.Ok w ⟨r, vn, vi, MA, mc, ms, UA, uc, us⟩) (hs : Sl w SA st) (hl : st.length ≤ 1000000) (hst : ∀ p ∈ st, 0 ≤ p.2) :
    Calls Tryz.prog 107 #[NtV 3 n i rd cd SA st.length sc r vn vi MA ms.length mc UA us.length uc] w (RetBb w (mayB n i && (decide ((st.length : Int) ≤ 1) && (setB st && ((((st.length : Int) == 0) || decide ((st.getD 0 (0, 0)).1 ≤ 4)) && Vw.nilB ⟨r, vn, vi, MA, mc, ms, UA, uc, us⟩))))) := by
  have T := hide (fun W h => refSame0 r vn vi MA mc ms UA uc us W h)
  have T2 := hide (fun W => refMay_b n i W hi)
  have HV := hide hv
  have HS := hide hs
  have T4 := hide (fun W (hW : Sl W SA st) => refSet_b SA sc st W hW hl hst)
  clear hv hst
  generalize Vw.nilB ⟨r, vn, vi, MA, mc, ms, UA, uc, us⟩ = b5 at T ⊢
  generalize mayB n i = b1 at T2 ⊢
  generalize setB st = b3 at T4 ⊢
  by_cases hlen : st.length = 0
  · have f2 : decide ((st.length : Int) ≤ 1) = true := decide_eq_true (by omega)
    have f4 : ((st.length : Int) == 0) = true := by rw [beq_iff_eq]; omega
    rw [f2, f4]
    have f4' : (st.length : Int) = 0 := by omega
    clear hlen hs
    cases b1 <;> cases b3
    all_goals
      go_enter Tryz.func107, Tryz.ntmps107
      go_wp2_with (first
        | (go_at_call 67; (with_reducible refine (T.out _ (HV.out.step (by repeat (first | exact Below.refl _ _ | assumption | refine bel_al ?_ _ | refine bel_gw ?_ _ _ | refine bel_drew ?_ | refine bel_drewN ?_ _)))).mono ?_); rintro e w1 ⟨rfl, hb⟩; obtain ⟨⟨d1, os1⟩, rfl⟩ := gw_of_below hb; clear hb)
        | (go_at_call 139; (with_reducible refine (T2.out _).mono ?_); rintro e w1 ⟨rfl, hb⟩; obtain ⟨⟨d2, os2⟩, rfl⟩ := gw_of_below hb; clear hb)
        | (go_at_call 174; (with_reducible refine (T3.out _ (HV.out.step (by repeat (first | exact Below.refl _ _ | assumption | refine bel_al ?_ _ | refine bel_gw ?_ _ _ | refine bel_drew ?_ | refine bel_drewN ?_ _)))).mono ?_); rintro e w1 ⟨rfl, hb⟩; obtain ⟨⟨d6, os6⟩, rfl⟩ := gw_of_below hb; clear hb)
        | (go_at_call 70; (with_reducible refine (T4.out _ (HS.out.step (by repeat (first | exact Below.refl _ _ | assumption | refine bel_al ?_ _ | refine bel_gw ?_ _ _ | refine bel_drew ?_ | refine bel_drewN ?_ _)))).mono ?_); rintro e w2 ⟨rfl, hb⟩; obtain ⟨⟨d3, os3⟩, rfl⟩ := gw_of_below hb; clear hb)
        | (go_at_call 71; (with_reducible refine (T5.out _ (HS.out.step (by repeat (first | exact Below.refl _ _ | assumption | refine bel_al ?_ _ | refine bel_gw ?_ _ _ | refine bel_drew ?_ | refine bel_drewN ?_ _)))).mono ?_); rintro e w3 ⟨rfl, hb⟩; obtain ⟨⟨d4, os4⟩, rfl⟩ := gw_of_below hb; clear hb)
        | (go_at_call 173; (with_reducible refine (T6.out _ (HV.out.step (by repeat (first | exact Below.refl _ _ | assumption | refine bel_al ?_ _ | refine bel_gw ?_ _ _ | refine bel_drew ?_ | refine bel_drewN ?_ _)))).mono ?_); rintro e w1 ⟨rfl, hb⟩; obtain ⟨⟨d5, os5⟩, rfl⟩ := gw_of_below hb; clear hb))
      go_ret
      exact ⟨ret_b (by simp), (by repeat (first | exact Below.refl _ _ | assumption | refine bel_al ?_ _ | refine bel_gw ?_ _ _ | refine bel_drew ?_ | refine bel_drewN ?_ _))⟩
  · by_cases h1 : st.length = 1
    · obtain ⟨b, off, p, rfl, hb, hp, g1, g2⟩ := hs.at2 (k := 0) (by omega)
      have f2 : decide ((st.length : Int) ≤ 1) = true := decide_eq_true (by omega)
      have f4 : ((st.length : Int) == 0) = false := by rw [beq_eq_false_iff_ne]; omega
      have e : st.getD 0 (0, 0) = p := by simp [List.getD, hp]
      rw [f2, f4, e]
      obtain ⟨pn, pi⟩ := p
      simp only [Nat.zero_mul, Nat.add_zero] at g1 g2 ⊢
      haveI : InW b w := ⟨hb⟩
      have i0 : 0 < st.length := by omega
      generalize f5 : decide (pn ≤ 4) = b4
      clear hlen hs e hp h1
      cases b1 <;> cases b3 <;> cases b4
      all_goals
        go_enter Tryz.func107, Tryz.ntmps107
        go_wp2_with (first
          | (go_at_call 67; (with_reducible refine (T.out _ (HV.out.step (by repeat (first | exact Below.refl _ _ | assumption | refine bel_al ?_ _ | refine bel_gw ?_ _ _ | refine bel_drew ?_ | refine bel_drewN ?_ _)))).mono ?_); rintro e w1 ⟨rfl, hb⟩; obtain ⟨⟨d1, os1⟩, rfl⟩ := gw_of_below hb; clear hb)
          | (go_at_call 139; (with_reducible refine (T2.out _).mono ?_); rintro e w1 ⟨rfl, hb⟩; obtain ⟨⟨d2, os2⟩, rfl⟩ := gw_of_below hb; clear hb)
          | (go_at_call 174; (with_reducible refine (T3.out _ (HV.out.step (by repeat (first | exact Below.refl _ _ | assumption | refine bel_al ?_ _ | refine bel_gw ?_ _ _ | refine bel_drew ?_ | refine bel_drewN ?_ _)))).mono ?_); rintro e w1 ⟨rfl, hb⟩; obtain ⟨⟨d6, os6⟩, rfl⟩ := gw_of_below hb; clear hb)
          | (go_at_call 70; (with_reducible refine (T4.out _ (HS.out.step (by repeat (first | exact Below.refl _ _ | assumption | refine bel_al ?_ _ | refine bel_gw ?_ _ _ | refine bel_drew ?_ | refine bel_drewN ?_ _)))).mono ?_); rintro e w2 ⟨rfl, hb⟩; obtain ⟨⟨d3, os3⟩, rfl⟩ := gw_of_below hb; clear hb)
          | (go_at_call 71; (with_reducible refine (T5.out _ (HS.out.step (by repeat (first | exact Below.refl _ _ | assumption | refine bel_al ?_ _ | refine bel_gw ?_ _ _ | refine bel_drew ?_ | refine bel_drewN ?_ _)))).mono ?_); rintro e w3 ⟨rfl, hb⟩; obtain ⟨⟨d4, os4⟩, rfl⟩ := gw_of_below hb; clear hb)
          | (go_at_call 173; (with_reducible refine (T6.out _ (HV.out.step (by repeat (first | exact Below.refl _ _ | assumption | refine bel_al ?_ _ | refine bel_gw ?_ _ _ | refine bel_drew ?_ | refine bel_drewN ?_ _)))).mono ?_); rintro e w1 ⟨rfl, hb⟩; obtain ⟨⟨d5, os5⟩, rfl⟩ := gw_of_below hb; clear hb))
        go_ret
        exact ⟨ret_b (by simp), (by repeat (first | exact Below.refl _ _ | assumption | refine bel_al ?_ _ | refine bel_gw ?_ _ _ | refine bel_drew ?_ | refine bel_drewN ?_ _))⟩
    · have f2 : decide ((st.length : Int) ≤ 1) = false := decide_eq_false (by omega)
      rw [f2]
      clear hlen hs h1
      cases b1
      all_goals
        go_enter Tryz.func107, Tryz.ntmps107
        go_wp2_with (first
          | (go_at_call 67; (with_reducible refine (T.out _ (HV.out.step (by repeat (first | exact Below.refl _ _ | assumption | refine bel_al ?_ _ | refine bel_gw ?_ _ _ | refine bel_drew ?_ | refine bel_drewN ?_ _)))).mono ?_); rintro e w1 ⟨rfl, hb⟩; obtain ⟨⟨d1, os1⟩, rfl⟩ := gw_of_below hb; clear hb)
          | (go_at_call 139; (with_reducible refine (T2.out _).mono ?_); rintro e w1 ⟨rfl, hb⟩; obtain ⟨⟨d2, os2⟩, rfl⟩ := gw_of_below hb; clear hb)
          | (go_at_call 174; (with_reducible refine (T3.out _ (HV.out.step (by repeat (first | exact Below.refl _ _ | assumption | refine bel_al ?_ _ | refine bel_gw ?_ _ _ | refine bel_drew ?_ | refine bel_drewN ?_ _)))).mono ?_); rintro e w1 ⟨rfl, hb⟩; obtain ⟨⟨d6, os6⟩, rfl⟩ := gw_of_below hb; clear hb)
          | (go_at_call 70; (with_reducible refine (T4.out _ (HS.out.step (by repeat (first | exact Below.refl _ _ | assumption | refine bel_al ?_ _ | refine bel_gw ?_ _ _ | refine bel_drew ?_ | refine bel_drewN ?_ _)))).mono ?_); rintro e w2 ⟨rfl, hb⟩; obtain ⟨⟨d3, os3⟩, rfl⟩ := gw_of_below hb; clear hb)
          | (go_at_call 71; (with_reducible refine (T5.out _ (HS.out.step (by repeat (first | exact Below.refl _ _ | assumption | refine bel_al ?_ _ | refine bel_gw ?_ _ _ | refine bel_drew ?_ | refine bel_drewN ?_ _)))).mono ?_); rintro e w3 ⟨rfl, hb⟩; obtain ⟨⟨d4, os4⟩, rfl⟩ := gw_of_below hb; clear hb)
          | (go_at_call 173; (with_reducible refine (T6.out _ (HV.out.step (by repeat (first | exact Below.refl _ _ | assumption | refine bel_al ?_ _ | refine bel_gw ?_ _ _ | refine bel_drew ?_ | refine bel_drewN ?_ _)))).mono ?_); rintro e w1 ⟨rfl, hb⟩; obtain ⟨⟨d5, os5⟩, rfl⟩ := gw_of_below hb; clear hb))
        go_ret
        exact ⟨ret_b (by simp), (by repeat (first | exact Below.refl _ _ | assumption | refine bel_al ?_ _ | refine bel_gw ?_ _ _ | refine bel_drew ?_ | refine bel_drewN ?_ _))⟩
set_option maxRecDepth 100000 in
set_option maxHeartbeats 4000000 in
theorem refNMay2 (w : World) (hi : 0 ≤ i) (hv : Vw.Ok w ⟨r, vn, vi, MA, mc, ms, UA, uc, us⟩) (hs : Sl w SA st) (hl : st.length ≤ 1000000) (hst : ∀ p ∈ st, 0 ≤ p.2) :
    Calls Tryz.prog 107 #[NtV 2 n i rd cd SA st.length sc r vn vi MA ms.length mc UA us.length uc] w (RetBb w (mayB n i && ((((st.length : Int) == 0) && Vw.nilB ⟨r, vn, vi, MA, mc, ms, UA, uc, us⟩) && ((rd == 0) && (cd == 0))))) := by
  have T := hide (fun W h => refSame0 r vn vi MA mc ms UA uc us W h)
  have T2 := hide (fun W => refMay_b n i W hi)
  have HV := hide hv
  have HS := hide hs
  have T3 := hide (fun W h => bare_s n i rd cd SA sc st r vn vi MA mc ms UA uc us 2 W h)
  clear hv hst hs
  generalize (((st.length : Int) == 0) && Vw.nilB ⟨r, vn, vi, MA, mc, ms, UA, uc, us⟩) = b2 at T3 ⊢
  generalize mayB n i = b1 at T2 ⊢
  generalize f3 : (rd == 0) = b3
  generalize f4 : (cd == 0) = b4
  have key : (b1 = false) ∨ (b1 = true ∧ b2 = false) ∨ (b1 = true ∧ b2 = true ∧ b3 = false) ∨ (b1 = true ∧ b2 = true ∧ b3 = true) := by
    cases b1 <;> cases b2 <;> cases b3 <;> simp
  rcases key with rfl | ⟨rfl, rfl⟩ | ⟨rfl, rfl, rfl⟩ | ⟨rfl, rfl, rfl⟩
  all_goals
    go_enter Tryz.func107, Tryz.ntmps107
    go_wp2_with (first
      | (go_at_call 67; (with_reducible refine (T.out _ (HV.out.step (by repeat (first | exact Below.refl _ _ | assumption | refine bel_al ?_ _ | refine bel_gw ?_ _ _ | refine bel_drew ?_ | refine bel_drewN ?_ _)))).mono ?_); rintro e w1 ⟨rfl, hb⟩; obtain ⟨⟨d1, os1⟩, rfl⟩ := gw_of_below hb; clear hb)
      | (go_at_call 139; (with_reducible refine (T2.out _).mono ?_); rintro e w1 ⟨rfl, hb⟩; obtain ⟨⟨d2, os2⟩, rfl⟩ := gw_of_below hb; clear hb)
      | (go_at_call 174; (with_reducible refine (T3.out _ (HV.out.step (by repeat (first | exact Below.refl _ _ | assumption | refine bel_al ?_ _ | refine bel_gw ?_ _ _ | refine bel_drew ?_ | refine bel_drewN ?_ _)))).mono ?_); rintro e w1 ⟨rfl, hb⟩; obtain ⟨⟨d6, os6⟩, rfl⟩ := gw_of_below hb; clear hb)
      | (go_at_call 70; (with_reducible refine (T4.out _ (HS.out.step (by repeat (first | exact Below.refl _ _ | assumption | refine bel_al ?_ _ | refine bel_gw ?_ _ _ | refine bel_drew ?_ | refine bel_drewN ?_ _)))).mono ?_); rintro e w2 ⟨rfl, hb⟩; obtain ⟨⟨d3, os3⟩, rfl⟩ := gw_of_below hb; clear hb)
      | (go_at_call 71; (with_reducible refine (T5.out _ (HS.out.step (by repeat (first | exact Below.refl _ _ | assumption | refine bel_al ?_ _ | refine bel_gw ?_ _ _ | refine bel_drew ?_ | refine bel_drewN ?_ _)))).mono ?_); rintro e w3 ⟨rfl, hb⟩; obtain ⟨⟨d4, os4⟩, rfl⟩ := gw_of_below hb; clear hb)
      | (go_at_call 173; (with_reducible refine (T6.out _ (HV.out.step (by repeat (first | exact Below.refl _ _ | assumption | refine bel_al ?_ _ | refine bel_gw ?_ _ _ | refine bel_drew ?_ | refine bel_drewN ?_ _)))).mono ?_); rintro e w1 ⟨rfl, hb⟩; obtain ⟨⟨d5, os5⟩, rfl⟩ := gw_of_below hb; clear hb))
    go_ret
    exact ⟨ret_b (by simp), (by repeat (first | exact Below.refl _ _ | assumption | refine bel_al ?_ _ | refine bel_gw ?_ _ _ | refine bel_drew ?_ | refine bel_drewN ?_ _))⟩
set_option maxRecDepth 100000 in
set_option maxHeartbeats 4000000 in
theorem refNMay4 (w : World) (hi : 0 ≤ i) (hv : Vw.Ok w ⟨r, vn, vi, MA, mc, ms, UA, uc, us⟩) (hs : Sl w SA st) (hl : st.length ≤ 1000000) (hst : ∀ p ∈ st, 0 ≤ p.2) :
    Calls Tryz.prog 107 #[NtV 4 n i rd cd SA st.length sc r vn vi MA ms.length mc UA us.length uc] w (RetBb w (mayB n i && (decide (n ≤ 4) && ((rd == 0) && (decide (0 < cd) && (decide (1 ≤ (st.length : Int)) && (decide ((st.length : Int) ≤ 6) && (setB st && (livesB st && Vw.nilB ⟨r, vn, vi, MA, mc, ms, UA, uc, us⟩))))))))) := by
  have T := hide (fun W h => refSame0 r vn vi MA mc ms UA uc us W h)
  have T2 := hide (fun W => refMay_b n i W hi)
  have HV := hide hv
  have HS := hide hs
  have T4 := hide (fun W (hW : Sl W SA st) => refSet_b SA sc st W hW hl hst)
  have T5 := hide (fun W (hW : Sl W SA st) => lives_s SA sc st W hW hl)
  clear hv hst hs
  generalize Vw.nilB ⟨r, vn, vi, MA, mc, ms, UA, uc, us⟩ = b9 at T ⊢
  generalize mayB n i = b1 at T2 ⊢
  generalize setB st = b7 at T4 ⊢
  generalize livesB st = b8 at T5 ⊢
  generalize f2 : decide (n ≤ 4) = b2
  generalize f3 : (rd == 0) = b3
  generalize f4 : decide (0 < cd) = b4
  generalize f5 : decide (1 ≤ (st.length : Int)) = b5
  generalize f6 : decide ((st.length : Int) ≤ 6) = b6
  have key : (b1 = false) ∨ (b1 = true ∧ b2 = false) ∨ (b1 = true ∧ b2 = true ∧ b3 = false) ∨ (b1 = true ∧ b2 = true ∧ b3 = true ∧ b4 = false) ∨ (b1 = true ∧ b2 = true ∧ b3 = true ∧ b4 = true ∧ b5 = false) ∨ (b1 = true ∧ b2 = true ∧ b3 = true ∧ b4 = true ∧ b5 = true ∧ b6 = false) ∨ (b1 = true ∧ b2 = true ∧ b3 = true ∧ b4 = true ∧ b5 = true ∧ b6 = true ∧ b7 = false) ∨ (b1 = true ∧ b2 = true ∧ b3 = true ∧ b4 = true ∧ b5 = true ∧ b6 = true ∧ b7 = true ∧ b8 = false) ∨ (b1 = true ∧ b2 = true ∧ b3 = true ∧ b4 = true ∧ b5 = true ∧ b6 = true ∧ b7 = true ∧ b8 = true) := by
    cases b1 <;> cases b2 <;> cases b3 <;> cases b4 <;> cases b5 <;> cases b6 <;> cases b7 <;> cases b8 <;> simp
  rcases key with rfl | ⟨rfl, rfl⟩ | ⟨rfl, rfl, rfl⟩ | ⟨rfl, rfl, rfl, rfl⟩ | ⟨rfl, rfl, rfl, rfl, rfl⟩ | ⟨rfl, rfl, rfl, rfl, rfl, rfl⟩ | ⟨rfl, rfl, rfl, rfl, rfl, rfl, rfl⟩ | ⟨rfl, rfl, rfl, rfl, rfl, rfl, rfl, rfl⟩ | ⟨rfl, rfl, rfl, rfl, rfl, rfl, rfl, rfl⟩
  all_goals
    go_enter Tryz.func107, Tryz.ntmps107
    go_wp2_with (first
      | (go_at_call 67; (with_reducible refine (T.out _ (HV.out.step (by repeat (first | exact Below.refl _ _ | assumption | refine bel_al ?_ _ | refine bel_gw ?_ _ _ | refine bel_drew ?_ | refine bel_drewN ?_ _)))).mono ?_); rintro e w1 ⟨rfl, hb⟩; obtain ⟨⟨d1, os1⟩, rfl⟩ := gw_of_below hb; clear hb)
      | (go_at_call 139; (with_reducible refine (T2.out _).mono ?_); rintro e w1 ⟨rfl, hb⟩; obtain ⟨⟨d2, os2⟩, rfl⟩ := gw_of_below hb; clear hb)
      | (go_at_call 174; (with_reducible refine (T3.out _ (HV.out.step (by repeat (first | exact Below.refl _ _ | assumption | refine bel_al ?_ _ | refine bel_gw ?_ _ _ | refine bel_drew ?_ | refine bel_drewN ?_ _)))).mono ?_); rintro e w1 ⟨rfl, hb⟩; obtain ⟨⟨d6, os6⟩, rfl⟩ := gw_of_below hb; clear hb)
      | (go_at_call 70; (with_reducible refine (T4.out _ (HS.out.step (by repeat (first | exact Below.refl _ _ | assumption | refine bel_al ?_ _ | refine bel_gw ?_ _ _ | refine bel_drew ?_ | refine bel_drewN ?_ _)))).mono ?_); rintro e w2 ⟨rfl, hb⟩; obtain ⟨⟨d3, os3⟩, rfl⟩ := gw_of_below hb; clear hb)
      | (go_at_call 71; (with_reducible refine (T5.out _ (HS.out.step (by repeat (first | exact Below.refl _ _ | assumption | refine bel_al ?_ _ | refine bel_gw ?_ _ _ | refine bel_drew ?_ | refine bel_drewN ?_ _)))).mono ?_); rintro e w3 ⟨rfl, hb⟩; obtain ⟨⟨d4, os4⟩, rfl⟩ := gw_of_below hb; clear hb)
      | (go_at_call 173; (with_reducible refine (T6.out _ (HV.out.step (by repeat (first | exact Below.refl _ _ | assumption | refine bel_al ?_ _ | refine bel_gw ?_ _ _ | refine bel_drew ?_ | refine bel_drewN ?_ _)))).mono ?_); rintro e w1 ⟨rfl, hb⟩; obtain ⟨⟨d5, os5⟩, rfl⟩ := gw_of_below hb; clear hb))
    go_ret
    exact ⟨ret_b (by simp), (by repeat (first | exact Below.refl _ _ | assumption | refine bel_al ?_ _ | refine bel_gw ?_ _ _ | refine bel_drew ?_ | refine bel_drewN ?_ _))⟩
set_option maxRecDepth 100000 in
set_option maxHeartbeats 4000000 in
theorem refNMay5 (w : World) (hi : 0 ≤ i) (hv : Vw.Ok w ⟨r, vn, vi, MA, mc, ms, UA, uc, us⟩) (hs : Sl w SA st) (hl : st.length ≤ 1000000) (hst : ∀ p ∈ st, 0 ≤ p.2) (hvi : 0 ≤ vi) (hms : ∀ p ∈ ms, 0 ≤ p.2) :
    Calls Tryz.prog 107 #[NtV 5 n i rd cd SA st.length sc r vn vi MA ms.length mc UA us.length uc] w (RetBb w (eqP n i 0 0 && ((rd == 0) && ((cd == 0) && (((st.length : Int) == 0) && (decide (0 < r) && Vw.mayB ⟨r, vn, vi, MA, mc, ms, UA, uc, us⟩)))))) := by
  have T := hide (fun W h => refSame0 r vn vi MA mc ms UA uc us W h)
  have T2 := hide (fun W => refMay_b n i W hi)
  have HV := hide hv
  have HS := hide hs
  have T6 : Hid (∀ W, Vw.Ok W ⟨r, vn, vi, MA, mc, ms, UA, uc, us⟩ → Calls Tryz.prog 173 #[.agg #[.int .u64 r, .int .i64 vn, .int .u64 vi, .slice MA ms.length mc, .slice UA us.length uc]] W (RetBb W (Vw.mayB ⟨r, vn, vi, MA, mc, ms, UA, uc, us⟩))) := hide (fun W h => refVMay_s ⟨r, vn, vi, MA, mc, ms, UA, uc, us⟩ W h hvi hms)
  clear hv hst hs T T2
  generalize Vw.mayB ⟨r, vn, vi, MA, mc, ms, UA, uc, us⟩ = b6 at T6 ⊢
  generalize f1 : eqP n i 0 0 = b1
  generalize f2 : (rd == 0) = b2
  generalize f3 : (cd == 0) = b3
  generalize f4 : ((st.length : Int) == 0) = b4
  generalize f5 : decide (0 < r) = b5
  have key : (b1 = false) ∨ (b1 = true ∧ b2 = false) ∨ (b1 = true ∧ b2 = true ∧ b3 = false) ∨ (b1 = true ∧ b2 = true ∧ b3 = true ∧ b4 = false) ∨ (b1 = true ∧ b2 = true ∧ b3 = true ∧ b4 = true ∧ b5 = false) ∨ (b1 = true ∧ b2 = true ∧ b3 = true ∧ b4 = true ∧ b5 = true) := by
    cases b1 <;> cases b2 <;> cases b3 <;> cases b4 <;> cases b5 <;> simp
  rcases key with rfl | ⟨rfl, rfl⟩ | ⟨rfl, rfl, rfl⟩ | ⟨rfl, rfl, rfl, rfl⟩ | ⟨rfl, rfl, rfl, rfl, rfl⟩ | ⟨rfl, rfl, rfl, rfl, rfl⟩
  all_goals
    go_enter Tryz.func107, Tryz.ntmps107
    go_wp2_with (first
      | (go_at_call 67; (with_reducible refine (T.out _ (HV.out.step (by repeat (first | exact Below.refl _ _ | assumption | refine bel_al ?_ _ | refine bel_gw ?_ _ _ | refine bel_drew ?_ | refine bel_drewN ?_ _)))).mono ?_); rintro e w1 ⟨rfl, hb⟩; obtain ⟨⟨d1, os1⟩, rfl⟩ := gw_of_below hb; clear hb)
      | (go_at_call 139; (with_reducible refine (T2.out _).mono ?_); rintro e w1 ⟨rfl, hb⟩; obtain ⟨⟨d2, os2⟩, rfl⟩ := gw_of_below hb; clear hb)
      | (go_at_call 174; (with_reducible refine (T3.out _ (HV.out.step (by repeat (first | exact Below.refl _ _ | assumption | refine bel_al ?_ _ | refine bel_gw ?_ _ _ | refine bel_drew ?_ | refine bel_drewN ?_ _)))).mono ?_); rintro e w1 ⟨rfl, hb⟩; obtain ⟨⟨d6, os6⟩, rfl⟩ := gw_of_below hb; clear hb)
      | (go_at_call 70; (with_reducible refine (T4.out _ (HS.out.step (by repeat (first | exact Below.refl _ _ | assumption | refine bel_al ?_ _ | refine bel_gw ?_ _ _ | refine bel_drew ?_ | refine bel_drewN ?_ _)))).mono ?_); rintro e w2 ⟨rfl, hb⟩; obtain ⟨⟨d3, os3⟩, rfl⟩ := gw_of_below hb; clear hb)
      | (go_at_call 71; (with_reducible refine (T5.out _ (HS.out.step (by repeat (first | exact Below.refl _ _ | assumption | refine bel_al ?_ _ | refine bel_gw ?_ _ _ | refine bel_drew ?_ | refine bel_drewN ?_ _)))).mono ?_); rintro e w3 ⟨rfl, hb⟩; obtain ⟨⟨d4, os4⟩, rfl⟩ := gw_of_below hb; clear hb)
      | (go_at_call 173; (with_reducible refine (T6.out _ (HV.out.step (by repeat (first | exact Below.refl _ _ | assumption | refine bel_al ?_ _ | refine bel_gw ?_ _ _ | refine bel_drew ?_ | refine bel_drewN ?_ _)))).mono ?_); rintro e w1 ⟨rfl, hb⟩; obtain ⟨⟨d5, os5⟩, rfl⟩ := gw_of_below hb; clear hb))
    go_ret
    exact ⟨ret_b (by simp), (by repeat (first | exact Below.refl _ _ | assumption | refine bel_al ?_ _ | refine bel_gw ?_ _ _ | refine bel_drew ?_ | refine bel_drewN ?_ _))⟩
set_option maxRecDepth 100000 in
set_option maxHeartbeats 2000000 in
theorem refNMay_else (k : Int) (w : World) (hk : k ≠ 5 ∧ k ≠ 1 ∧ k ≠ 3 ∧ k ≠ 2 ∧ k ≠ 4) :
    Calls Tryz.prog 107 #[NtV k n i rd cd SA st.length sc r vn vi MA ms.length mc UA us.length uc] w (RetBb w false) := by
  obtain ⟨a5, a1, a3, a2, a4⟩ := hk
  have k5' : (k == 5) = false := by simpa using a5
  have k1 : (k == 1) = false := by simpa using a1
  have k2 : (k == 2) = false := by simpa using a2
  have k3 : (k == 3) = false := by simpa using a3
  have k4 : (k == 4) = false := by simpa using a4
  clear a5 a1 a3 a2 a4
  go_enter Tryz.func107, Tryz.ntmps107
  go_wp2
  go_ret
  exact ⟨rfl, (by repeat (first | exact Below.refl _ _ | assumption | refine bel_al ?_ _ | refine bel_gw ?_ _ _ | refine bel_drew ?_ | refine bel_drewN ?_ _))⟩
end
/-- what is asked of a notice's numbers -/
structure Nt.Wf (x : Nt) : Prop where
  p : wfP (x.n, x.i)
  rd : wfU64 x.rd
  cd : wfU64 x.cd
  st : ∀ p ∈ x.st, wfP p
  sl : x.st.length ≤ 9223372036854775807
  vw : x.vw.Wf
theorem setB_one (p : Pr) : setB [p] = mayB p.1 p.2 := by simp [setB, okAt, List.range_succ]
theorem refNMay_s (x : Nt) (w : World) (h : x.Ok w) (hi : 0 ≤ x.i) (hst : ∀ p ∈ x.st, 0 ≤ p.2) (hvi : 0 ≤ x.vw.i) (hms : ∀ p ∈ x.vw.ms, 0 ≤ p.2) : Calls Tryz.prog 107 #[x.v] w fun e w' => e = .returned (.bool x.mayB) ∧ Below w.heap.size w w' := by
  obtain ⟨k, n, i, rd, cd, SA, sc, st, ⟨r, vn, vi, MA, mc, ms, UA, uc, us⟩⟩ := x
  obtain ⟨h1, h2, h3⟩ := h
  unfold Nt.mayB
  simp only at h1 h2 h3 hi hst hvi hms ⊢
  have e13 : (mayB n i && (decide ((st.length : Int) ≤ 1) && (setB st && ((((st.length : Int) == 0) || decide ((st.getD 0 (0, 0)).1 ≤ 4)) && Vw.nilB ⟨r, vn, vi, MA, mc, ms, UA, uc, us⟩)))) = (Vw.nilB ⟨r, vn, vi, MA, mc, ms, UA, uc, us⟩ && (mayB n i && (((st.length : Int) == 0) || (((st.length : Int) == 1) && serverB (st.getD 0 (0, 0)).1 (st.getD 0 (0, 0)).2)))) := by
    rcases st with _ | ⟨p, _ | ⟨q, l⟩⟩
    · simp [setB]; rw [Bool.and_comm]
    · simp [setB_one, serverB]
      cases mayB n i <;> cases mayB p.1 p.2 <;> cases Vw.nilB ⟨r, vn, vi, MA, mc, ms, UA, uc, us⟩ <;> simp
    · have e1 : decide (((p :: q :: l).length : Int) ≤ 1) = false := by simp; omega
      have e2 : (((p :: q :: l).length : Int) == 1) = false := by simp; omega
      have e3 : (((p :: q :: l).length : Int) == 0) = false := by simp; omega
      rw [e1, e2, e3]; simp
  by_cases k5 : k = 5
  · subst k5
    rw [if_pos rfl]
    exact refNMay5 n i rd cd SA sc st r vn vi MA mc ms UA uc us w hi h3 h1 h2 hst hvi hms
  · rw [if_neg k5]
    by_cases k1 : k = 1 ∨ k = 3
    · rw [if_pos k1, ← e13]
      rcases k1 with rfl | rfl
      · exact refNMay1 n i rd cd SA sc st r vn vi MA mc ms UA uc us w hi h3 h1 h2 hst
      · exact refNMay3 n i rd cd SA sc st r vn vi MA mc ms UA uc us w hi h3 h1 h2 hst
    · rw [if_neg k1]
      by_cases k2 : k = 2
      · subst k2
        rw [if_pos rfl]
        have := refNMay2 n i rd cd SA sc st r vn vi MA mc ms UA uc us w hi h3 h1 h2 hst
        refine this.mono ?_
        rintro e w' ⟨rfl, hb⟩
        refine ⟨ret_b ?_, hb⟩
        generalize Vw.nilB _ = b1
        generalize ((st.length : Int) == 0) = b2
        generalize (rd == 0) = b3
        generalize (cd == 0) = b4
        cases mayB n i <;> cases b1 <;> cases b2 <;> cases b3 <;> cases b4 <;> rfl
      · rw [if_neg k2]
        by_cases k4 : k = 4
        · subst k4
          rw [if_pos rfl]
          have := refNMay4 n i rd cd SA sc st r vn vi MA mc ms UA uc us w hi h3 h1 h2 hst
          refine this.mono ?_
          rintro e w' ⟨rfl, hb⟩
          refine ⟨ret_b ?_, hb⟩
          rw [lives_nodes]
          unfold serverB
          generalize Vw.nilB _ = b1
          generalize (rd == 0) = b3
          generalize livesB st = b4
          generalize setB st = b5
          generalize decide (0 < cd) = b6
          generalize decide (1 ≤ (st.length : Int)) = b7
          generalize decide ((st.length : Int) ≤ 6) = b8
          generalize decide (n ≤ 4) = b9
          cases mayB n i <;> cases b1 <;> simp
        · rw [if_neg k4]
          refine (refNMay_else n i rd cd SA sc st r vn vi MA mc ms UA uc us k w ⟨k5, by omega, by omega, k2, k4⟩).mono ?_
          rintro e w' ⟨rfl, hb⟩
          exact ⟨ret_b (by simp), hb⟩
end Go.Proofs.YtfddiklhjkjipaaGreat
