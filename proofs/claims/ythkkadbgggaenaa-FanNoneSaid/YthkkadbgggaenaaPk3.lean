/-
  Layer 6: contracts: mayData, mayAck, mayAdvert, May.
-/
import Derived.Test.YthkkadbgggaenaaPk2
namespace Go.Proofs.Ythkkadbgggaenaa
set_option linter.unusedSimpArgs false
set_option linter.unusedVariables false
set_option linter.unusedSectionVars false
open Go.RowKit

theorem all_take {α : Type} {f : α → Bool} {l : List α} {m : Nat} {p : α} (h : l[m]? = some p) (ha : (l.take m).all f = true) (hp : f p = true) : (l.take (m + 1)).all f = true := by
  rw [take_succ_of h, List.all_append, ha]; simp [hp]
theorem all_no {α : Type} {f : α → Bool} {l : List α} {m : Nat} {p : α} (h : l[m]? = some p) (hp : f p = false) : l.all f = false := by
  rw [List.all_eq_false]; exact ⟨p, List.mem_of_getElem? h, by rw [hp]; simp⟩
def dataH (h : Hd) : Bool := countB h.s 1 && !(h.i != 0)
def ackH (h : Hd) : Bool := countB h.s 0 && countB h.i 1
def advP (an : Int) (p : Pr) : Bool := servB p.1 p.2 && !(p.1 == an)
section
variable (k n i hp : Int) (HA : Option Addr) (hcp : Nat) (hs : List Hd) (BA : Option Addr) (bcp : Nat) (bs : List Int) (an ai sq : Int) (PA : Option Addr) (pcp : Nat) (ps : List Pr)
def dataB : Bool := sentB n i hp hs an ai sq ps && (!decide ((bs.length : Int) < 1) && (!decide (320 < (bs.length : Int)) && hs.all dataH))
def ackB : Bool := sentB n i hp hs an ai sq ps && (!((hs.length : Int) != 1) && (!((bs.length : Int) != 0) && ackH (hs.getD 0 default)))
def advB : Bool := servB an ai && (countB sq 1 && (!decide (4 < (ps.length : Int)) && (setB ps && (ps.all (advP an) && (((nodesL ps).length : Int) == (ps.length : Int))))))
set_option maxRecDepth 100000 in
set_option maxHeartbeats 4000000 in
theorem mayData_s (w : World) (h : Reads w w.heap.size 4 HA hs.length (hcs hs)) (hl : hs.length ≤ 1000000) (hbl : bs.length ≤ 1000000) : Calls Try.prog 118 #[PkV k n i hp HA hs.length hcp BA bs.length bcp an ai sq PA ps.length pcp] w (RetB w (dataB n i hp hs bs an ai sq ps)) := by
  have TL := hide (fun W (h : Reads W W.heap.size 4 HA hs.length (hcs hs)) => sent_s k n i hp HA hcp hs BA bcp bs an ai sq PA pcp ps W h hl)
  have TC := hide (fun c W => count_s c 1 W)
  haveI : Src w HA hs.length 4 (hcs hs) := ⟨h⟩
  unfold dataB
  clear h
  cases f1 : sentB n i hp hs an ai sq ps
  · rw [f1] at TL
    go_enter Try.func118, Try.ntmps118
    go_wp2_with (go_at_call 152; (with_reducible refine (TL.out _ src).mono ?_); rintro e w1 ⟨rfl, hb1⟩; haveI : Stp _ w1 := ⟨hb1⟩; clear hb1)
    go_ret
    exact ⟨ret_b (by simp), blw⟩
  · rw [f1] at TL
    cases f2 : decide ((bs.length : Int) < 1)
    · cases f3 : decide (320 < (bs.length : Int))
      · go_enter Try.func118, Try.ntmps118
        go_wp2_with (go_at_call 152; (with_reducible refine (TL.out _ src).mono ?_); rintro e w1 ⟨rfl, hb1⟩; haveI : Stp _ w1 := ⟨hb1⟩; clear hb1)
        go_loopw [23] (fun j wr => ∃ m : Nat, m ≤ hs.length ∧ j = .int .i64 m ∧ Below w.heap.size w wr ∧ BoxAt wr w.heap.size (csK k n i hp HA hs.length hcp BA bs.length bcp an ai sq PA ps.length pcp) 68 ∧ (hs.take m).all (dataH) = true) (fun j _ => hs.length - (intOf j).toNat)
        case atStart => exact ⟨0, Nat.zero_le _, rfl, blw, inferInstance, by simp⟩
        case round =>
          obtain ⟨m, hm, rfl, hB, hbx, hall⟩ := hrel
          haveI : Blw w wr := ⟨hB⟩
          haveI := hbx
          have HN := hide hall
          clear hall hB
          by_cases hlt : m < hs.length
          · obtain ⟨b, off, p, rfl, hb, hp, g1, g2, g3, g4⟩ := (show Reads wr w.heap.size 4 HA hs.length (hcs hs) from srcB).at4 hlt
            have HP := hide hp
            haveI : InW b wr := ⟨Nat.lt_of_lt_of_le hb (Blw.h (a := w) (W := wr)).size⟩
            have i0 : (0 : Int) ≤ (m : Int) := by omega
            have i1 : (m : Int) < (hs.length : Int) := by omega
            have TC2 := hide (fun W => TC.out p.s W)
            clear hp
            cases q1 : countB p.s 1
            · rw [q1] at TC2
              have H := hide (all_no (f := dataH) HP.out (by simp [dataH, q1]))
              go_wp2_with (go_at_call 149; (with_reducible refine (TC2.out _).mono ?_); rintro e w2 ⟨rfl, rfl⟩)
              go_ret
              exact ⟨ret_b (by simp [H.out]), blw⟩
            · rw [q1] at TC2
              cases q2 : (p.i != 0)
              · have H := hide (all_take (f := dataH) HP.out HN.out (by simp [dataH, q1, q2]))
                go_wp2_with (go_at_call 149; (with_reducible refine (TC2.out _).mono ?_); rintro e w2 ⟨rfl, rfl⟩)
                go_roundw
                case rel => exact ⟨m + 1, by omega, by go_num, blw, inferInstance, H.out⟩
                case measure => simp [intOf]; omega
              · have H := hide (all_no (f := dataH) HP.out (by simp [dataH, q1, q2]))
                go_wp2_with (go_at_call 149; (with_reducible refine (TC2.out _).mono ?_); rintro e w2 ⟨rfl, rfl⟩)
                go_ret
                exact ⟨ret_b (by simp [H.out]), blw⟩
          · have H := hide (show hs.all (dataH) = true by
              have : m = hs.length := by omega
              subst this; have := HN.out; rw [List.take_length] at this; exact this)
            go_wp2
            go_ret
            exact ⟨ret_b (by simp [H.out]), blw⟩
      · go_enter Try.func118, Try.ntmps118
        go_wp2_with (go_at_call 152; (with_reducible refine (TL.out _ src).mono ?_); rintro e w1 ⟨rfl, hb1⟩; haveI : Stp _ w1 := ⟨hb1⟩; clear hb1)
        go_ret
        exact ⟨ret_b (by simp), blw⟩
    · go_enter Try.func118, Try.ntmps118
      go_wp2_with (go_at_call 152; (with_reducible refine (TL.out _ src).mono ?_); rintro e w1 ⟨rfl, hb1⟩; haveI : Stp _ w1 := ⟨hb1⟩; clear hb1)
      go_ret
      exact ⟨ret_b (by simp), blw⟩
set_option maxRecDepth 100000 in
set_option maxHeartbeats 4000000 in
theorem mayAck_s (w : World) (h : Reads w w.heap.size 4 HA hs.length (hcs hs)) (hl : hs.length ≤ 1000000) (hbl : bs.length ≤ 1000000) : Calls Try.prog 119 #[PkV k n i hp HA hs.length hcp BA bs.length bcp an ai sq PA ps.length pcp] w (RetB w (ackB n i hp hs bs an ai sq ps)) := by
  have TL := hide (fun W (h : Reads W W.heap.size 4 HA hs.length (hcs hs)) => sent_s k n i hp HA hcp hs BA bcp bs an ai sq PA pcp ps W h hl)
  have T0 := hide (fun c W => count_s c 0 W)
  have T1 := hide (fun c W => count_s c 1 W)
  have HR := hide h
  haveI : Src w HA hs.length 4 (hcs hs) := ⟨h⟩
  unfold ackB
  clear h
  cases f1 : sentB n i hp hs an ai sq ps
  · rw [f1] at TL
    go_enter Try.func119, Try.ntmps119
    go_wp2_with (go_at_call 152; (with_reducible refine (TL.out _ src).mono ?_); rintro e w1 ⟨rfl, hb1⟩; haveI : Stp _ w1 := ⟨hb1⟩; clear hb1)
    go_ret
    exact ⟨ret_b (by simp), blw⟩
  · rw [f1] at TL
    cases f2 : ((hs.length : Int) != 1)
    · cases f3 : ((bs.length : Int) != 0)
      · have hl1 : hs.length = 1 := by have := f2; simp at this; omega
        obtain ⟨b, off, p, rfl, hb, hp, g1, g2, g3, g4⟩ := HR.out.at4 (k := 0) (by omega)
        haveI : InW b w := ⟨hb⟩
        have e0 : hs.getD 0 default = p := getH hp
        haveI : Src w (some ⟨b, off, none⟩) 1 4 (hcs hs) := ⟨by rw [← hl1]; exact HR.out⟩
        rw [e0]
        rw [hl1] at TL f2 ⊢
        simp only [Nat.zero_mul, Nat.add_zero] at g1 g2 g3 g4
        haveI : CellAt w b off _ := ⟨hb, g1⟩
        haveI : CellAt w b (off + 1) _ := ⟨hb, g2⟩
        haveI : CellAt w b (off + 2) _ := ⟨hb, g3⟩
        haveI : CellAt w b (off + 3) _ := ⟨hb, g4⟩
        have TQ0 := hide (fun W => T0.out p.s W)
        have TQ1 := hide (fun W => T1.out p.i W)
        clear hp e0 HR hl1 hl f2
        unfold ackH
        cases q1 : countB p.s 0
        · rw [q1] at TQ0
          go_enter Try.func119, Try.ntmps119
          go_wp2_with (first | (go_at_call 152; (with_reducible refine (TL.out _ src).mono ?_); rintro e w1 ⟨rfl, hb1⟩; haveI : Stp _ w1 := ⟨hb1⟩; clear hb1) | (go_at_call 149; (with_reducible refine (TQ0.out _).mono ?_); rintro e w2 ⟨rfl, rfl⟩))
          go_ret
          exact ⟨ret_b (by simp), blw⟩
        · rw [q1] at TQ0
          cases q2 : countB p.i 1
          all_goals
            rw [q2] at TQ1
            go_enter Try.func119, Try.ntmps119
            go_wp2_with (first | (go_at_call 152; (with_reducible refine (TL.out _ src).mono ?_); rintro e w1 ⟨rfl, hb1⟩; haveI : Stp _ w1 := ⟨hb1⟩; clear hb1) | (go_at_call 149; (first | (with_reducible refine (TQ0.out _).mono ?_) | (with_reducible refine (TQ1.out _).mono ?_)); rintro e w2 ⟨rfl, rfl⟩))
            go_ret
            exact ⟨ret_b (by simp), blw⟩
      · go_enter Try.func119, Try.ntmps119
        go_wp2_with (go_at_call 152; (with_reducible refine (TL.out _ src).mono ?_); rintro e w1 ⟨rfl, hb1⟩; haveI : Stp _ w1 := ⟨hb1⟩; clear hb1)
        go_ret
        exact ⟨ret_b (by simp), blw⟩
    · go_enter Try.func119, Try.ntmps119
      go_wp2_with (go_at_call 152; (with_reducible refine (TL.out _ src).mono ?_); rintro e w1 ⟨rfl, hb1⟩; haveI : Stp _ w1 := ⟨hb1⟩; clear hb1)
      go_ret
      exact ⟨ret_b (by simp), blw⟩
end
set_option maxRecDepth 100000 in
set_option maxHeartbeats 4000000 in
theorem mayAdv_s (an ai sq : Int) (PA : Option Addr) (pcp : Nat) (ps : List Pr) (w : World) (h : Sl w PA ps) (hl : ps.length ≤ 1000000) : Calls Try.prog 117 #[.agg #[.int .i64 an, .int .u64 ai, .int .u64 sq, .slice PA ps.length pcp]] w (RetB w (advB an ai sq ps)) := by
  have TV := hide (fun a b W => serv_s a b W)
  have TC := hide (fun W => count_s sq 1 W)
  have TS := hide (fun W (h : Sl W PA ps) => set_any PA pcp ps W h hl)
  have TN := hide (fun W (h : Sl W PA ps) => nodes_s PA pcp ps W h hl)
  have TV1 := hide (fun W => TV.out an ai W)
  have HS := hide h
  haveI : Src w PA ps.length 2 (pcs ps) := ⟨h⟩
  unfold advB
  clear h
  cases f1 : servB an ai
  · rw [f1] at TV1
    go_enter Try.func117, Try.ntmps117
    go_wp2_with (first | (go_at_call 148; (with_reducible refine (TV1.out _).mono ?_); rintro e w1 ⟨rfl, hb1⟩; haveI : Stp _ w1 := ⟨hb1⟩; clear hb1) | (go_at_call 149; (with_reducible refine (TC.out _).mono ?_); rintro e w2 ⟨rfl, rfl⟩) | (go_at_call 150; (with_reducible refine (TS.out _ HS.out.tc).mono ?_); rintro e w3 ⟨rfl, hb3⟩; haveI : Stp _ w3 := ⟨hb3⟩; clear hb3))
    go_ret
    exact ⟨ret_b (by simp), blw⟩
  · rw [f1] at TV1
    cases f2 : countB sq 1
    · rw [f2] at TC
      go_enter Try.func117, Try.ntmps117
      go_wp2_with (first | (go_at_call 148; (with_reducible refine (TV1.out _).mono ?_); rintro e w1 ⟨rfl, hb1⟩; haveI : Stp _ w1 := ⟨hb1⟩; clear hb1) | (go_at_call 149; (with_reducible refine (TC.out _).mono ?_); rintro e w2 ⟨rfl, rfl⟩) | (go_at_call 150; (with_reducible refine (TS.out _ HS.out.tc).mono ?_); rintro e w3 ⟨rfl, hb3⟩; haveI : Stp _ w3 := ⟨hb3⟩; clear hb3))
      go_ret
      exact ⟨ret_b (by simp), blw⟩
    · rw [f2] at TC
      cases f3 : decide (4 < (ps.length : Int))
      · cases f4 : setB ps
        · rw [f4] at TS
          go_enter Try.func117, Try.ntmps117
          go_wp2_with (first | (go_at_call 148; (with_reducible refine (TV1.out _).mono ?_); rintro e w1 ⟨rfl, hb1⟩; haveI : Stp _ w1 := ⟨hb1⟩; clear hb1) | (go_at_call 149; (with_reducible refine (TC.out _).mono ?_); rintro e w2 ⟨rfl, rfl⟩) | (go_at_call 150; (with_reducible refine (TS.out _ HS.out.tc).mono ?_); rintro e w3 ⟨rfl, hb3⟩; haveI : Stp _ w3 := ⟨hb3⟩; clear hb3))
          go_ret
          exact ⟨ret_b (by simp), blw⟩
        · rw [f4] at TS
          go_enter Try.func117, Try.ntmps117
          go_wp2_with (first | (go_at_call 148; (with_reducible refine (TV1.out _).mono ?_); rintro e w1 ⟨rfl, hb1⟩; haveI : Stp _ w1 := ⟨hb1⟩; clear hb1) | (go_at_call 149; (with_reducible refine (TC.out _).mono ?_); rintro e w2 ⟨rfl, rfl⟩) | (go_at_call 150; (with_reducible refine (TS.out _ HS.out.tc).mono ?_); rintro e w3 ⟨rfl, hb3⟩; haveI : Stp _ w3 := ⟨hb3⟩; clear hb3))
          go_loopw [30] (fun j wr => ∃ m : Nat, m ≤ ps.length ∧ j = .int .i64 m ∧ Below w.heap.size w wr ∧ BoxAt wr w.heap.size (#[.int .i64 an, .int .u64 ai, .int .u64 sq, .slice PA ps.length pcp]) 66 ∧ (ps.take m).all (advP an) = true) (fun j _ => ps.length - (intOf j).toNat)
          case atStart => exact ⟨0, Nat.zero_le _, rfl, blw, inferInstance, by simp⟩
          case round =>
            obtain ⟨m, hm, rfl, hB, hbx, hall⟩ := hrel
            haveI : Blw w wr := ⟨hB⟩
            haveI := hbx
            have HN := hide hall
            clear hall hB
            by_cases hlt : m < ps.length
            · obtain ⟨b, off, p, rfl, hb, hp, g1, g2⟩ := (show Reads wr w.heap.size 2 PA ps.length (pcs ps) from srcB).at2 hlt
              have HP := hide hp
              haveI : InW b wr := ⟨Nat.lt_of_lt_of_le hb (Blw.h (a := w) (W := wr)).size⟩
              have i0 : (0 : Int) ≤ (m : Int) := by omega
              have i1 : (m : Int) < (ps.length : Int) := by omega
              have TC2 := hide (fun W => TV.out p.1 p.2 W)
              clear hp
              cases q1 : servB p.1 p.2
              · rw [q1] at TC2
                have H := hide (all_no (f := advP an) HP.out (by simp [advP, q1]))
                go_wp2_with (go_at_call 148; (with_reducible refine (TC2.out _).mono ?_); rintro e w5 ⟨rfl, hb5⟩; haveI : Stp _ w5 := ⟨hb5⟩; clear hb5)
                go_ret
                exact ⟨ret_b (by simp [H.out]), blw⟩
              · rw [q1] at TC2
                cases q2 : (p.1 == an)
                · have H := hide (all_take (f := advP an) HP.out HN.out (by simp [advP, q1, q2]))
                  go_wp2_with (go_at_call 148; (with_reducible refine (TC2.out _).mono ?_); rintro e w5 ⟨rfl, hb5⟩; haveI : Stp _ w5 := ⟨hb5⟩; clear hb5)
                  go_roundw
                  case rel => exact ⟨m + 1, by omega, by go_num, blw, inferInstance, H.out⟩
                  case measure => simp [intOf]; omega
                · have H := hide (all_no (f := advP an) HP.out (by simp [advP, q1, q2]))
                  go_wp2_with (go_at_call 148; (with_reducible refine (TC2.out _).mono ?_); rintro e w5 ⟨rfl, hb5⟩; haveI : Stp _ w5 := ⟨hb5⟩; clear hb5)
                  go_ret
                  exact ⟨ret_b (by simp [H.out]), blw⟩
            · have H := hide (show ps.all (advP an) = true by
                have : m = ps.length := by omega
                subst this; have := HN.out; rw [List.take_length] at this; exact this)
              have hnl := nodesL_len ps
              go_wp2_with fail
              go_region_held3 (fun w' => w'.cell? ⟨w.heap.size, 3, none⟩ = some (.slice PA ps.length pcp)) ((rw [cell?_box]; rfl))
                (first
                  | (go_at_call 151; (with_reducible refine (TN.out _ HS.out.tc).mono ?_); rintro e w6 ⟨A6, c6, rfl, _, hb6⟩; haveI : Stp _ w6 := ⟨hb6⟩; clear hb6)
                  | fail)
              all_goals
                go_wp2
                go_ret
                exact ⟨ret_b (by simp [H.out]), blw⟩
      · go_enter Try.func117, Try.ntmps117
        go_wp2_with (first | (go_at_call 148; (with_reducible refine (TV1.out _).mono ?_); rintro e w1 ⟨rfl, hb1⟩; haveI : Stp _ w1 := ⟨hb1⟩; clear hb1) | (go_at_call 149; (with_reducible refine (TC.out _).mono ?_); rintro e w2 ⟨rfl, rfl⟩) | (go_at_call 150; (with_reducible refine (TS.out _ HS.out.tc).mono ?_); rintro e w3 ⟨rfl, hb3⟩; haveI : Stp _ w3 := ⟨hb3⟩; clear hb3))
        go_ret
        exact ⟨ret_b (by simp), blw⟩
/-- may a packet be? -/
def mayKB (k n i hp : Int) (hs : List Hd) (bs : List Int) (an ai sq : Int) (ps : List Pr) : Bool :=
  if k = 1 then eqP n i 0 0 && ((hp == 0) && (((hs.length : Int) == 0) && (((bs.length : Int) == 0) && advB an ai sq ps)))
  else if k = 2 then dataB n i hp hs bs an ai sq ps
  else if k = 3 then ackB n i hp hs bs an ai sq ps
  else false
section
variable (k n i hp : Int) (HA : Option Addr) (hcp : Nat) (hs : List Hd) (BA : Option Addr) (bcp : Nat) (bs : List Int) (an ai sq : Int) (PA : Option Addr) (pcp : Nat) (ps : List Pr)
set_option maxRecDepth 100000 in
set_option maxHeartbeats 4000000 in
theorem kmay_s (w : World) (h : Reads w w.heap.size 4 HA hs.length (hcs hs)) (hpp : Sl w PA ps) (hl : hs.length ≤ 1000000) (hbl : bs.length ≤ 1000000) (hpl : ps.length ≤ 1000000) : Calls Try.prog 83 #[PkV k n i hp HA hs.length hcp BA bs.length bcp an ai sq PA ps.length pcp] w (RetB w (mayKB k n i hp hs bs an ai sq ps)) := by
  have HP := hide hpp
  haveI : Src w HA hs.length 4 (hcs hs) := ⟨h⟩
  clear h hpp
  by_cases h1 : k = 1
  · subst h1
    have TA := hide (fun W (h : Sl W PA ps) => mayAdv_s an ai sq PA pcp ps W h hpl)
    rw [show mayKB 1 n i hp hs bs an ai sq ps = (eqP n i 0 0 && ((hp == 0) && (((hs.length : Int) == 0) && (((bs.length : Int) == 0) && advB an ai sq ps)))) from rfl]
    cases f1 : eqP n i 0 0
    · go_enter Try.func83, Try.ntmps83
      go_wp2_with (go_at_call 117; (with_reducible refine (TA.out _ HP.out.tc).mono ?_); rintro e w1 ⟨rfl, hb1⟩; haveI : Stp _ w1 := ⟨hb1⟩; clear hb1)
      go_ret
      exact ⟨ret_b (by simp), blw⟩
    · cases f2 : (hp == 0)
      · go_enter Try.func83, Try.ntmps83
        go_wp2_with (go_at_call 117; (with_reducible refine (TA.out _ HP.out.tc).mono ?_); rintro e w1 ⟨rfl, hb1⟩; haveI : Stp _ w1 := ⟨hb1⟩; clear hb1)
        go_ret
        exact ⟨ret_b (by simp), blw⟩
      · cases f3 : ((hs.length : Int) == 0)
        · go_enter Try.func83, Try.ntmps83
          go_wp2_with (go_at_call 117; (with_reducible refine (TA.out _ HP.out.tc).mono ?_); rintro e w1 ⟨rfl, hb1⟩; haveI : Stp _ w1 := ⟨hb1⟩; clear hb1)
          go_ret
          exact ⟨ret_b (by simp), blw⟩
        · cases f4 : ((bs.length : Int) == 0)
          · go_enter Try.func83, Try.ntmps83
            go_wp2_with (go_at_call 117; (with_reducible refine (TA.out _ HP.out.tc).mono ?_); rintro e w1 ⟨rfl, hb1⟩; haveI : Stp _ w1 := ⟨hb1⟩; clear hb1)
            go_ret
            exact ⟨ret_b (by simp), blw⟩
          · go_enter Try.func83, Try.ntmps83
            go_wp2_with (go_at_call 117; (with_reducible refine (TA.out _ HP.out.tc).mono ?_); rintro e w1 ⟨rfl, hb1⟩; haveI : Stp _ w1 := ⟨hb1⟩; clear hb1)
            go_ret
            exact ⟨ret_b (by simp), blw⟩
  by_cases h2 : k = 2
  · subst h2
    have TA := hide (fun W (h : Reads W W.heap.size 4 HA hs.length (hcs hs)) => mayData_s 2 n i hp HA hcp hs BA bcp bs an ai sq PA pcp ps W h hl hbl)
    rw [show mayKB 2 n i hp hs bs an ai sq ps = dataB n i hp hs bs an ai sq ps from rfl]
    clear h1
    go_enter Try.func83, Try.ntmps83
    go_wp2_with fail
    (with_reducible refine (TA.out _ src).mono ?_)
    rintro e w1 ⟨rfl, hb1⟩
    haveI : Stp _ w1 := ⟨hb1⟩
    clear hb1
    go_wp2
    go_ret
    exact ⟨rfl, blw⟩
  by_cases h3 : k = 3
  · subst h3
    have TA := hide (fun W (h : Reads W W.heap.size 4 HA hs.length (hcs hs)) => mayAck_s 3 n i hp HA hcp hs BA bcp bs an ai sq PA pcp ps W h hl hbl)
    rw [show mayKB 3 n i hp hs bs an ai sq ps = ackB n i hp hs bs an ai sq ps from rfl]
    clear h1 h2
    go_enter Try.func83, Try.ntmps83
    go_wp2_with fail
    (with_reducible refine (TA.out _ src).mono ?_)
    rintro e w1 ⟨rfl, hb1⟩
    haveI : Stp _ w1 := ⟨hb1⟩
    clear hb1
    go_wp2
    go_ret
    exact ⟨rfl, blw⟩
  have H := hide (show mayKB k n i hp hs bs an ai sq ps = false by unfold mayKB; rw [if_neg h1, if_neg h2, if_neg h3])
  have g1 : (k == 1) = false := by simpa using h1
  have g2 : (k == 2) = false := by simpa using h2
  have g3 : (k == 3) = false := by simpa using h3
  clear h1 h2 h3
  go_enter Try.func83, Try.ntmps83
  go_wp2_with fail
  go_ret
  exact ⟨ret_b H.out.symm, blw⟩
end
end Go.Proofs.Ythkkadbgggaenaa
