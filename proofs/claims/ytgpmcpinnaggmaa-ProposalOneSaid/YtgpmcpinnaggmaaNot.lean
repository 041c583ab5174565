/-
  Layer 8: notices in memory; contracts: notice.server, notice.May, notice.Same.
-/
import Derived.Test.YtgpmcpinnaggmaaView3
namespace Go.Proofs.Ytgpmcpinnaggmaa
set_option linter.unusedSimpArgs false
set_option linter.unusedVariables false
set_option linter.unusedSectionVars false
open Go.RowKit

/-- a notice where it lies -/
structure Nt where
  k : Int
  n : Int
  i : Int
  rd : Int
  cd : Int
  SA : Option Addr
  sc : Nat
  st : List Pr
  vw : Vw
  deriving Inhabited
def Nt.v (x : Nt) : Value := .agg #[.int .i64 x.k, .int .i64 x.n, .int .u64 x.i, .int .u64 x.rd, .int .u64 x.cd, .slice x.SA x.st.length x.sc, .int .u64 x.vw.r, .int .i64 x.vw.n, .int .u64 x.vw.i, .slice x.vw.MA x.vw.ms.length x.vw.mc, .slice x.vw.UA x.vw.us.length x.vw.uc]
structure Nt.Ok (w : World) (x : Nt) : Prop where
  s : Sl w x.SA x.st
  sl : x.st.length ≤ 1000000
  vk : x.vw.Ok w
theorem Nt.Ok.step {w w' : World} {x : Nt} (h : x.Ok w) (hb : Below w.heap.size w w') : x.Ok w' := ⟨h.s.step hb, h.sl, h.vk.step hb⟩
abbrev vw0 : Vw := ⟨0, 0, 0, none, 0, [], none, 0, []⟩
theorem vw0_ok (w : World) : vw0.Ok w := ⟨Reads.none_, Reads.none_, by simp, by simp⟩
/-- no view -/
def Vw.nilB (x : Vw) : Bool := Vw.eqB x vw0
def serverB (n i : Int) : Bool := mayB n i && decide (n ≤ 4)
/-- may a notice be? -/
def Nt.mayB (x : Nt) : Bool :=
  if x.k = 5 then eqP x.n x.i 0 0 && ((x.rd == 0) && ((x.cd == 0) && (((x.st.length : Int) == 0) && (decide (0 < x.vw.r) && x.vw.mayB))))
  else x.vw.nilB && (
    if x.k = 1 ∨ x.k = 3 then Go.Proofs.Ytgpmcpinnaggmaa.mayB x.n x.i && (((x.st.length : Int) == 0) || (((x.st.length : Int) == 1) && serverB (x.st.getD 0 (0, 0)).1 (x.st.getD 0 (0, 0)).2))
    else if x.k = 2 then Go.Proofs.Ytgpmcpinnaggmaa.mayB x.n x.i && ((x.rd == 0) && ((x.cd == 0) && ((x.st.length : Int) == 0)))
    else if x.k = 4 then serverB x.n x.i && ((x.rd == 0) && (decide (0 < x.cd) && (decide (1 ≤ (x.st.length : Int)) && (decide ((x.st.length : Int) ≤ 6) && (setB x.st && (((nodesL x.st).length : Int) == (x.st.length : Int)))))))
    else false)
set_option maxHeartbeats 400000 in
theorem server_s (n i : Int) (w : World) : Calls Try.prog 87 #[.agg #[.int .i64 n, .int .u64 i]] w fun e w' => e = .returned (.bool (serverB n i)) ∧ Below w.heap.size w w' := by
  have T := hide (fun W => may_any n i W)
  unfold serverB
  cases hm : mayB n i
  · rw [hm] at T
    clear hm
    go_enter Try.func87, Try.ntmps87
    go_wp2_with (go_at_call 86; (with_reducible refine (T.out _).mono ?_); rintro e w' ⟨rfl, rfl⟩)
    go_ret
    exact ⟨rfl, (by repeat (first | exact Below.refl _ _ | assumption | refine bel_al ?_ _ | refine bel_gw ?_ _ _ | refine bel_drew ?_ | refine bel_drewN ?_ _))⟩
  · rw [hm] at T
    clear hm
    go_enter Try.func87, Try.ntmps87
    go_wp2_with (go_at_call 86; (with_reducible refine (T.out _).mono ?_); rintro e w' ⟨rfl, rfl⟩)
    go_ret
    exact ⟨ret_b (by simp), (by repeat (first | exact Below.refl _ _ | assumption | refine bel_al ?_ _ | refine bel_gw ?_ _ _ | refine bel_drew ?_ | refine bel_drewN ?_ _))⟩
abbrev NtV (k n i rd cd : Int) (SA : Option Addr) (sl sc : Nat) (r vn vi : Int) (MA : Option Addr) (ml mc : Nat) (UA : Option Addr) (ul uc : Nat) : Value := .agg #[.int .i64 k, .int .i64 n, .int .u64 i, .int .u64 rd, .int .u64 cd, .slice SA sl sc, .int .u64 r, .int .i64 vn, .int .u64 vi, .slice MA ml mc, .slice UA ul uc]
def RetBb (w : World) (b : Bool) (e : Ending) (w' : World) : Prop := e = .returned (.bool b) ∧ Below w.heap.size w w'
section
variable (n i rd cd : Int) (SA : Option Addr) (sc : Nat) (st : List Pr) (r vn vi : Int) (MA : Option Addr) (mc : Nat) (ms : List Pr) (UA : Option Addr) (uc : Nat) (us : List Int)
theorem same0 (W : World) (h : Vw.Ok W ⟨r, vn, vi, MA, mc, ms, UA, uc, us⟩) : Calls Try.prog 31 #[.agg #[.int .u64 r, .int .i64 vn, .int .u64 vi, .slice MA ms.length mc, .slice UA us.length uc], .agg #[.int .u64 0, .int .i64 0, .int .u64 0, .slice none 0 0, .slice none 0 0]] W (RetBb W (Vw.nilB ⟨r, vn, vi, MA, mc, ms, UA, uc, us⟩)) := vsame_s ⟨r, vn, vi, MA, mc, ms, UA, uc, us⟩ vw0 W h (vw0_ok W)
set_option maxRecDepth 100000 in
set_option maxHeartbeats 2000000 in
theorem nmay_no (k : Int) (w : World) (hv : Vw.Ok w ⟨r, vn, vi, MA, mc, ms, UA, uc, us⟩) (hk : k ≠ 5) (hz : Vw.nilB ⟨r, vn, vi, MA, mc, ms, UA, uc, us⟩ = false) :
    Calls Try.prog 35 #[NtV k n i rd cd SA st.length sc r vn vi MA ms.length mc UA us.length uc] w (RetBb w false) := by
  have T := hide (fun W h => same0 r vn vi MA mc ms UA uc us W h)
  rw [hz] at T
  have k5 : (k != 5) = true := by simpa using hk
  have HV := hide hv
  clear hv hz hk
  go_enter Try.func35, Try.ntmps35
  go_wp2_with (go_at_call 31; (with_reducible refine (T.out _ (HV.out.step (by repeat (first | exact Below.refl _ _ | assumption | refine bel_al ?_ _ | refine bel_gw ?_ _ _ | refine bel_drew ?_ | refine bel_drewN ?_ _)))).mono ?_); rintro e w1 ⟨rfl, hb⟩; obtain ⟨⟨d1, os1⟩, rfl⟩ := gw_of_below hb; clear hb)
  go_ret
  exact ⟨rfl, (by repeat (first | exact Below.refl _ _ | assumption | refine bel_al ?_ _ | refine bel_gw ?_ _ _ | refine bel_drew ?_ | refine bel_drewN ?_ _))⟩
set_option maxRecDepth 100000 in
set_option maxHeartbeats 2000000 in
theorem nmay13 (k : Int) (w : World) (hv : Vw.Ok w ⟨r, vn, vi, MA, mc, ms, UA, uc, us⟩) (hs : Sl w SA st) (hk : k = 1 ∨ k = 3) (hz : Vw.nilB ⟨r, vn, vi, MA, mc, ms, UA, uc, us⟩ = true) :
    Calls Try.prog 35 #[NtV k n i rd cd SA st.length sc r vn vi MA ms.length mc UA us.length uc] w (RetBb w (mayB n i && (((st.length : Int) == 0) || (((st.length : Int) == 1) && serverB (st.getD 0 (0, 0)).1 (st.getD 0 (0, 0)).2)))) := by
  have T := hide (fun W h => same0 r vn vi MA mc ms UA uc us W h)
  have T2 := hide (fun W => may_any n i W)
  rw [hz] at T
  have HV := hide hv
  generalize hb1 : mayB n i = b1 at T2 ⊢
  clear hv hz hb1
  rcases st with _ | ⟨⟨pn, pi⟩, _ | ⟨q, l⟩⟩
  · clear hs
    rcases hk with rfl | rfl <;> cases b1
    all_goals
      go_enter Try.func35, Try.ntmps35
      go_wp2_with (first
        | (go_at_call 31; (with_reducible refine (T.out _ (HV.out.step (by repeat (first | exact Below.refl _ _ | assumption | refine bel_al ?_ _ | refine bel_gw ?_ _ _ | refine bel_drew ?_ | refine bel_drewN ?_ _)))).mono ?_); rintro e w1 ⟨rfl, hb⟩; obtain ⟨⟨d1, os1⟩, rfl⟩ := gw_of_below hb; clear hb)
        | (go_at_call 86; (with_reducible refine (T2.out _).mono ?_); rintro e w' ⟨rfl, rfl⟩))
      go_ret
      exact ⟨rfl, (by repeat (first | exact Below.refl _ _ | assumption | refine bel_al ?_ _ | refine bel_gw ?_ _ _ | refine bel_drew ?_ | refine bel_drewN ?_ _))⟩
  · obtain ⟨b, off, p, rfl, hb, hp, g1, g2⟩ := hs.at2 (k := 0) (by simp)
    simp at hp
    subst hp
    simp at g1 g2
    have T3 := hide (fun W => server_s pn pi W)
    haveI : InW b w := ⟨hb⟩
    clear hb hs
    generalize hb3 : serverB pn pi = b3 at T3
    have HB3 := hide hb3
    clear hb3
    rcases hk with rfl | rfl <;> cases b1
    all_goals
      go_enter Try.func35, Try.ntmps35
      go_wp2_with (first
        | (go_at_call 31; (with_reducible refine (T.out _ (HV.out.step (by repeat (first | exact Below.refl _ _ | assumption | refine bel_al ?_ _ | refine bel_gw ?_ _ _ | refine bel_drew ?_ | refine bel_drewN ?_ _)))).mono ?_); rintro e w1 ⟨rfl, hb⟩; obtain ⟨⟨d1, os1⟩, rfl⟩ := gw_of_below hb; clear hb)
        | (go_at_call 86; (with_reducible refine (T2.out _).mono ?_); rintro e w' ⟨rfl, rfl⟩)
        | (go_at_call 87; (with_reducible refine (T3.out _).mono ?_); rintro e w1 ⟨rfl, hb⟩; obtain ⟨⟨d2, os2⟩, rfl⟩ := gw_of_below hb; clear hb))
      go_ret
      exact ⟨ret_b (by simp [HB3.out]), (by repeat (first | exact Below.refl _ _ | assumption | refine bel_al ?_ _ | refine bel_gw ?_ _ _ | refine bel_drew ?_ | refine bel_drewN ?_ _))⟩
  · have e1 : ((((⟨pn, pi⟩ : Pr) :: q :: l).length : Int) == 0) = false := by simp; omega
    have e2 : ((((⟨pn, pi⟩ : Pr) :: q :: l).length : Int) == 1) = false := by simp; omega
    rw [e1, e2]
    generalize ((⟨pn, pi⟩ : Pr) :: q :: l).length = len at e1 e2
    clear hs
    rcases hk with rfl | rfl <;> cases b1
    all_goals
      go_enter Try.func35, Try.ntmps35
      go_wp2_with (first
        | (go_at_call 31; (with_reducible refine (T.out _ (HV.out.step (by repeat (first | exact Below.refl _ _ | assumption | refine bel_al ?_ _ | refine bel_gw ?_ _ _ | refine bel_drew ?_ | refine bel_drewN ?_ _)))).mono ?_); rintro e w1 ⟨rfl, hb⟩; obtain ⟨⟨d1, os1⟩, rfl⟩ := gw_of_below hb; clear hb)
        | (go_at_call 86; (with_reducible refine (T2.out _).mono ?_); rintro e w' ⟨rfl, rfl⟩))
      go_ret
      exact ⟨rfl, (by repeat (first | exact Below.refl _ _ | assumption | refine bel_al ?_ _ | refine bel_gw ?_ _ _ | refine bel_drew ?_ | refine bel_drewN ?_ _))⟩
set_option maxRecDepth 100000 in
set_option maxHeartbeats 2000000 in
theorem nmay2 (w : World) (hv : Vw.Ok w ⟨r, vn, vi, MA, mc, ms, UA, uc, us⟩) (hz : Vw.nilB ⟨r, vn, vi, MA, mc, ms, UA, uc, us⟩ = true) :
    Calls Try.prog 35 #[NtV 2 n i rd cd SA st.length sc r vn vi MA ms.length mc UA us.length uc] w (RetBb w (mayB n i && ((rd == 0) && ((cd == 0) && ((st.length : Int) == 0))))) := by
  have T := hide (fun W h => same0 r vn vi MA mc ms UA uc us W h)
  have T2 := hide (fun W => may_any n i W)
  rw [hz] at T
  have HV := hide hv
  generalize hb1 : mayB n i = b1 at T2 ⊢
  generalize f2 : (rd == 0) = b2
  generalize f3 : (cd == 0) = b3
  generalize f4 : ((st.length : Int) == 0) = b4
  generalize st.length = len at f4 ⊢
  clear hv hz hb1
  have key : b1 = false ∨ (b1 = true ∧ b2 = false) ∨ (b1 = true ∧ b2 = true ∧ b3 = false) ∨ (b1 = true ∧ b2 = true ∧ b3 = true) := by
    cases b1 <;> cases b2 <;> cases b3 <;> simp
  rcases key with rfl | ⟨rfl, rfl⟩ | ⟨rfl, rfl, rfl⟩ | ⟨rfl, rfl, rfl⟩
  all_goals
    go_enter Try.func35, Try.ntmps35
    go_wp2_with (first
      | (go_at_call 31; (with_reducible refine (T.out _ (HV.out.step (by repeat (first | exact Below.refl _ _ | assumption | refine bel_al ?_ _ | refine bel_gw ?_ _ _ | refine bel_drew ?_ | refine bel_drewN ?_ _)))).mono ?_); rintro e w1 ⟨rfl, hb⟩; obtain ⟨⟨d1, os1⟩, rfl⟩ := gw_of_below hb; clear hb)
      | (go_at_call 86; (with_reducible refine (T2.out _).mono ?_); rintro e w' ⟨rfl, rfl⟩)
      | (go_at_call 87; (with_reducible refine (T3.out _).mono ?_); rintro e w1 ⟨rfl, hb⟩; obtain ⟨⟨d2, os2⟩, rfl⟩ := gw_of_below hb; clear hb)
      | (go_at_call 84; (with_reducible refine (T4.out _ (HS.out.step (by repeat (first | exact Below.refl _ _ | assumption | refine bel_al ?_ _ | refine bel_gw ?_ _ _ | refine bel_drew ?_ | refine bel_drewN ?_ _)))).mono ?_); rintro e w2 ⟨rfl, hb⟩; obtain ⟨⟨d3, os3⟩, rfl⟩ := gw_of_below hb; clear hb)
      | (go_at_call 66; (with_reducible refine (T5.out _ (HS.out.step (by repeat (first | exact Below.refl _ _ | assumption | refine bel_al ?_ _ | refine bel_gw ?_ _ _ | refine bel_drew ?_ | refine bel_drewN ?_ _)))).mono ?_); rintro e w3 ⟨NA, NC, rfl, hN, hb⟩; obtain ⟨⟨d4, os4⟩, rfl⟩ := gw_of_below hb; clear hb hN)
      | (go_at_call 32; (with_reducible refine (T6.out _ (HV.out.step (by repeat (first | exact Below.refl _ _ | assumption | refine bel_al ?_ _ | refine bel_gw ?_ _ _ | refine bel_drew ?_ | refine bel_drewN ?_ _)))).mono ?_); rintro e w1 ⟨rfl, hb⟩; obtain ⟨⟨d5, os5⟩, rfl⟩ := gw_of_below hb; clear hb))
    go_ret
    exact ⟨ret_b (by simp), (by repeat (first | exact Below.refl _ _ | assumption | refine bel_al ?_ _ | refine bel_gw ?_ _ _ | refine bel_drew ?_ | refine bel_drewN ?_ _))⟩
set_option maxRecDepth 100000 in
set_option maxHeartbeats 4000000 in
theorem nmay4 (w : World) (hv : Vw.Ok w ⟨r, vn, vi, MA, mc, ms, UA, uc, us⟩) (hs : Sl w SA st) (hl : st.length ≤ 1000000) (hz : Vw.nilB ⟨r, vn, vi, MA, mc, ms, UA, uc, us⟩ = true) :
    Calls Try.prog 35 #[NtV 4 n i rd cd SA st.length sc r vn vi MA ms.length mc UA us.length uc] w (RetBb w (serverB n i && ((rd == 0) && (decide (0 < cd) && (decide (1 ≤ (st.length : Int)) && (decide ((st.length : Int) ≤ 6) && (setB st && (((nodesL st).length : Int) == (st.length : Int))))))))) := by
  have T := hide (fun W h => same0 r vn vi MA mc ms UA uc us W h)
  have T3 := hide (fun W => server_s n i W)
  have T4 := hide (fun W (hW : Sl W SA st) => set_any SA sc st W hW hl)
  have T5 := hide (fun W (hW : Sl W SA st) => nodes_s SA sc st W hW hl)
  rw [hz] at T
  have HV := hide hv
  have HS := hide hs
  generalize serverB n i = b1 at T3 ⊢
  generalize nodesL st = N at T5 ⊢
  generalize setB st = b6 at T4 ⊢
  generalize f2 : (rd == 0) = b2
  generalize f3 : decide (0 < cd) = b3
  generalize f4 : decide (1 ≤ (st.length : Int)) = b4
  generalize f5 : decide ((st.length : Int) ≤ 6) = b5
  generalize f7 : ((N.length : Int) == (st.length : Int)) = b7
  clear hv hz hs
  have key : b1 = false ∨ (b1 = true ∧ b2 = false) ∨ (b1 = true ∧ b2 = true ∧ b3 = false) ∨ (b1 = true ∧ b2 = true ∧ b3 = true ∧ b4 = false) ∨ (b1 = true ∧ b2 = true ∧ b3 = true ∧ b4 = true ∧ b5 = false) ∨ (b1 = true ∧ b2 = true ∧ b3 = true ∧ b4 = true ∧ b5 = true ∧ b6 = false) ∨ (b1 = true ∧ b2 = true ∧ b3 = true ∧ b4 = true ∧ b5 = true ∧ b6 = true) := by
    cases b1 <;> cases b2 <;> cases b3 <;> cases b4 <;> cases b5 <;> cases b6 <;> simp
  rcases key with rfl | ⟨rfl, rfl⟩ | ⟨rfl, rfl, rfl⟩ | ⟨rfl, rfl, rfl, rfl⟩ | ⟨rfl, rfl, rfl, rfl, rfl⟩ | ⟨rfl, rfl, rfl, rfl, rfl, rfl⟩ | ⟨rfl, rfl, rfl, rfl, rfl, rfl⟩
  all_goals
    go_enter Try.func35, Try.ntmps35
    go_wp2_with (first
      | (go_at_call 31; (with_reducible refine (T.out _ (HV.out.step (by repeat (first | exact Below.refl _ _ | assumption | refine bel_al ?_ _ | refine bel_gw ?_ _ _ | refine bel_drew ?_ | refine bel_drewN ?_ _)))).mono ?_); rintro e w1 ⟨rfl, hb⟩; obtain ⟨⟨d1, os1⟩, rfl⟩ := gw_of_below hb; clear hb)
      | (go_at_call 86; (with_reducible refine (T2.out _).mono ?_); rintro e w' ⟨rfl, rfl⟩)
      | (go_at_call 87; (with_reducible refine (T3.out _).mono ?_); rintro e w1 ⟨rfl, hb⟩; obtain ⟨⟨d2, os2⟩, rfl⟩ := gw_of_below hb; clear hb)
      | (go_at_call 84; (with_reducible refine (T4.out _ (HS.out.step (by repeat (first | exact Below.refl _ _ | assumption | refine bel_al ?_ _ | refine bel_gw ?_ _ _ | refine bel_drew ?_ | refine bel_drewN ?_ _)))).mono ?_); rintro e w2 ⟨rfl, hb⟩; obtain ⟨⟨d3, os3⟩, rfl⟩ := gw_of_below hb; clear hb)
      | (go_at_call 66; (with_reducible refine (T5.out _ (HS.out.step (by repeat (first | exact Below.refl _ _ | assumption | refine bel_al ?_ _ | refine bel_gw ?_ _ _ | refine bel_drew ?_ | refine bel_drewN ?_ _)))).mono ?_); rintro e w3 ⟨NA, NC, rfl, hN, hb⟩; obtain ⟨⟨d4, os4⟩, rfl⟩ := gw_of_below hb; clear hb hN)
      | (go_at_call 32; (with_reducible refine (T6.out _ (HV.out.step (by repeat (first | exact Below.refl _ _ | assumption | refine bel_al ?_ _ | refine bel_gw ?_ _ _ | refine bel_drew ?_ | refine bel_drewN ?_ _)))).mono ?_); rintro e w1 ⟨rfl, hb⟩; obtain ⟨⟨d5, os5⟩, rfl⟩ := gw_of_below hb; clear hb))
    go_ret
    exact ⟨ret_b (by simp), (by repeat (first | exact Below.refl _ _ | assumption | refine bel_al ?_ _ | refine bel_gw ?_ _ _ | refine bel_drew ?_ | refine bel_drewN ?_ _))⟩
set_option maxRecDepth 100000 in
set_option maxHeartbeats 4000000 in
theorem nmay5 (w : World) (hv : Vw.Ok w ⟨r, vn, vi, MA, mc, ms, UA, uc, us⟩) :
    Calls Try.prog 35 #[NtV 5 n i rd cd SA st.length sc r vn vi MA ms.length mc UA us.length uc] w (RetBb w (eqP n i 0 0 && ((rd == 0) && ((cd == 0) && (((st.length : Int) == 0) && (decide (0 < r) && Vw.mayB ⟨r, vn, vi, MA, mc, ms, UA, uc, us⟩)))))) := by
  have T6 : Hid (∀ W, Vw.Ok W ⟨r, vn, vi, MA, mc, ms, UA, uc, us⟩ → Calls Try.prog 32 #[.agg #[.int .u64 r, .int .i64 vn, .int .u64 vi, .slice MA ms.length mc, .slice UA us.length uc]] W (RetBb W (Vw.mayB ⟨r, vn, vi, MA, mc, ms, UA, uc, us⟩))) := hide (fun W h => vmay_s ⟨r, vn, vi, MA, mc, ms, UA, uc, us⟩ W h)
  have HV := hide hv
  generalize Vw.mayB ⟨r, vn, vi, MA, mc, ms, UA, uc, us⟩ = b6 at T6 ⊢
  generalize f1 : eqP n i 0 0 = b1
  generalize f2 : (rd == 0) = b2
  generalize f3 : (cd == 0) = b3
  generalize f4 : ((st.length : Int) == 0) = b4
  generalize f5 : decide (0 < r) = b5
  generalize st.length = len at f4 ⊢
  clear hv
  have key : b1 = false ∨ (b1 = true ∧ b2 = false) ∨ (b1 = true ∧ b2 = true ∧ b3 = false) ∨ (b1 = true ∧ b2 = true ∧ b3 = true ∧ b4 = false) ∨ (b1 = true ∧ b2 = true ∧ b3 = true ∧ b4 = true ∧ b5 = false) ∨ (b1 = true ∧ b2 = true ∧ b3 = true ∧ b4 = true ∧ b5 = true) := by
    cases b1 <;> cases b2 <;> cases b3 <;> cases b4 <;> cases b5 <;> simp
  rcases key with rfl | ⟨rfl, rfl⟩ | ⟨rfl, rfl, rfl⟩ | ⟨rfl, rfl, rfl, rfl⟩ | ⟨rfl, rfl, rfl, rfl, rfl⟩ | ⟨rfl, rfl, rfl, rfl, rfl⟩
  all_goals
    go_enter Try.func35, Try.ntmps35
    go_wp2_with (first
      | (go_at_call 31; (with_reducible refine (T.out _ (HV.out.step (by repeat (first | exact Below.refl _ _ | assumption | refine bel_al ?_ _ | refine bel_gw ?_ _ _ | refine bel_drew ?_ | refine bel_drewN ?_ _)))).mono ?_); rintro e w1 ⟨rfl, hb⟩; obtain ⟨⟨d1, os1⟩, rfl⟩ := gw_of_below hb; clear hb)
      | (go_at_call 86; (with_reducible refine (T2.out _).mono ?_); rintro e w' ⟨rfl, rfl⟩)
      | (go_at_call 87; (with_reducible refine (T3.out _).mono ?_); rintro e w1 ⟨rfl, hb⟩; obtain ⟨⟨d2, os2⟩, rfl⟩ := gw_of_below hb; clear hb)
      | (go_at_call 84; (with_reducible refine (T4.out _ (HS.out.step (by repeat (first | exact Below.refl _ _ | assumption | refine bel_al ?_ _ | refine bel_gw ?_ _ _ | refine bel_drew ?_ | refine bel_drewN ?_ _)))).mono ?_); rintro e w2 ⟨rfl, hb⟩; obtain ⟨⟨d3, os3⟩, rfl⟩ := gw_of_below hb; clear hb)
      | (go_at_call 66; (with_reducible refine (T5.out _ (HS.out.step (by repeat (first | exact Below.refl _ _ | assumption | refine bel_al ?_ _ | refine bel_gw ?_ _ _ | refine bel_drew ?_ | refine bel_drewN ?_ _)))).mono ?_); rintro e w3 ⟨NA, NC, rfl, hN, hb⟩; obtain ⟨⟨d4, os4⟩, rfl⟩ := gw_of_below hb; clear hb hN)
      | (go_at_call 32; (with_reducible refine (T6.out _ (HV.out.step (by repeat (first | exact Below.refl _ _ | assumption | refine bel_al ?_ _ | refine bel_gw ?_ _ _ | refine bel_drew ?_ | refine bel_drewN ?_ _)))).mono ?_); rintro e w1 ⟨rfl, hb⟩; obtain ⟨⟨d5, os5⟩, rfl⟩ := gw_of_below hb; clear hb))
    go_ret
    exact ⟨ret_b (by simp), (by repeat (first | exact Below.refl _ _ | assumption | refine bel_al ?_ _ | refine bel_gw ?_ _ _ | refine bel_drew ?_ | refine bel_drewN ?_ _))⟩
set_option maxRecDepth 100000 in
set_option maxHeartbeats 2000000 in
theorem nmay_else (k : Int) (w : World) (hv : Vw.Ok w ⟨r, vn, vi, MA, mc, ms, UA, uc, us⟩) (hk : k ≠ 5 ∧ k ≠ 1 ∧ k ≠ 3 ∧ k ≠ 2 ∧ k ≠ 4) (hz : Vw.nilB ⟨r, vn, vi, MA, mc, ms, UA, uc, us⟩ = true) :
    Calls Try.prog 35 #[NtV k n i rd cd SA st.length sc r vn vi MA ms.length mc UA us.length uc] w (RetBb w false) := by
  have T := hide (fun W h => same0 r vn vi MA mc ms UA uc us W h)
  rw [hz] at T
  obtain ⟨a5, a1, a3, a2, a4⟩ := hk
  have k5 : (k != 5) = true := by simpa using a5
  have k5' : (k == 5) = false := by simpa using a5
  have k1 : (k == 1) = false := by simpa using a1
  have k2 : (k == 2) = false := by simpa using a2
  have k3 : (k == 3) = false := by simpa using a3
  have k4 : (k == 4) = false := by simpa using a4
  have HV := hide hv
  clear hv hz a5 a1 a3 a2 a4
  go_enter Try.func35, Try.ntmps35
  go_wp2_with (go_at_call 31; (with_reducible refine (T.out _ (HV.out.step (by repeat (first | exact Below.refl _ _ | assumption | refine bel_al ?_ _ | refine bel_gw ?_ _ _ | refine bel_drew ?_ | refine bel_drewN ?_ _)))).mono ?_); rintro e w1 ⟨rfl, hb⟩; obtain ⟨⟨d1, os1⟩, rfl⟩ := gw_of_below hb; clear hb)
  go_ret
  exact ⟨rfl, (by repeat (first | exact Below.refl _ _ | assumption | refine bel_al ?_ _ | refine bel_gw ?_ _ _ | refine bel_drew ?_ | refine bel_drewN ?_ _))⟩
end
theorem nmay_s (x : Nt) (w : World) (h : x.Ok w) : Calls Try.prog 35 #[x.v] w fun e w' => e = .returned (.bool x.mayB) ∧ Below w.heap.size w w' := by
  obtain ⟨k, n, i, rd, cd, SA, sc, st, ⟨r, vn, vi, MA, mc, ms, UA, uc, us⟩⟩ := x
  obtain ⟨h1, h2, h3⟩ := h
  unfold Nt.mayB
  simp only at h1 h2 h3 ⊢
  by_cases k5 : k = 5
  · subst k5
    rw [if_pos rfl]
    exact nmay5 n i rd cd SA sc st r vn vi MA mc ms UA uc us w h3
  · rw [if_neg k5]
    cases hz : Vw.nilB ⟨r, vn, vi, MA, mc, ms, UA, uc, us⟩
    · rw [Bool.false_and]
      exact nmay_no n i rd cd SA sc st r vn vi MA mc ms UA uc us k w h3 k5 hz
    · rw [Bool.true_and]
      by_cases k1 : k = 1 ∨ k = 3
      · rw [if_pos k1]
        exact nmay13 n i rd cd SA sc st r vn vi MA mc ms UA uc us k w h3 h1 k1 hz
      · rw [if_neg k1]
        by_cases k2 : k = 2
        · subst k2
          rw [if_pos rfl]
          exact nmay2 n i rd cd SA sc st r vn vi MA mc ms UA uc us w h3 hz
        · rw [if_neg k2]
          by_cases k4 : k = 4
          · subst k4
            rw [if_pos rfl]
            exact nmay4 n i rd cd SA sc st r vn vi MA mc ms UA uc us w h3 h1 h2 hz
          · rw [if_neg k4]
            exact nmay_else n i rd cd SA sc st r vn vi MA mc ms UA uc us k w h3 ⟨k5, by omega, by omega, k2, k4⟩ hz
end Go.Proofs.Ytgpmcpinnaggmaa
