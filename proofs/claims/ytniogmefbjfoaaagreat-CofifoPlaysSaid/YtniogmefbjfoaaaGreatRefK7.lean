/-
  Layer 6: contracts of the reference: May.
-/
import Derived.Test.YtniogmefbjfoaaaGreatRefK5
namespace Go.Proofs.YtniogmefbjfoaaaGreat
set_option linter.unusedSimpArgs false
set_option linter.unusedVariables false
set_option linter.unusedSectionVars false
open Go.RowKit

section
variable (n i hp : Int) (HA : Option Addr) (hcp : Nat) (hs : List Hd) (BA : Option Addr) (bcp : Nat) (bs : List Int) (an ai sq : Int) (PA : Option Addr) (pcp : Nat) (ps : List Pr)
set_option maxRecDepth 100000 in
set_option maxHeartbeats 4000000 in
theorem rmay1 (w : World) (h : Reads w w.heap.size 4 HA hs.length (hcs hs)) (hpp : Sl w PA ps) (hl : hs.length ≤ 1000000) (hpl : ps.length ≤ 999999) (h0 : 0 ≤ ai) (h1 : 0 ≤ i) (h2 : ∀ p ∈ ps, 0 ≤ p.2) : Calls Tryz.prog 48 #[PkV 1 n i hp HA hs.length hcp BA bs.length bcp an ai sq PA ps.length pcp] w (RetB w (rmayB 1 n i hp hs bs an ai sq ps)) := by
  have HP := hide hpp
  haveI : Src w HA hs.length 4 (hcs hs) := ⟨h⟩
  have TA := hide (fun W (h : Sl W PA ps) => radv_s an ai sq PA pcp ps W h hpl h0 h2)
  have TL := hide (fun W => rlife_s n i W h1)
  have TH := hide (fun W (h : Reads W W.heap.size 4 HA hs.length (hcs hs)) => rheads_s 1 n i hp HA hcp hs BA bcp bs an ai sq PA pcp ps W h hl)
  rw [show rmayB 1 n i hp hs bs an ai sq ps = (aloneB n i hp hs bs && radvB an ai sq ps) from rfl]
  obtain ⟨hv, hhv⟩ : ∃ b, b = (rheadsB 1 n hs && decide (1 ≤ (hs.length : Int))) := ⟨_, rfl⟩
  obtain ⟨bare, hbare⟩ : ∃ b, b = bareB an ai sq ps := ⟨_, rfl⟩
  obtain ⟨alone, halone⟩ : ∃ b, b = aloneB n i hp hs bs := ⟨_, rfl⟩
  obtain ⟨adv, hadv⟩ : ∃ b, b = radvB an ai sq ps := ⟨_, rfl⟩
  rw [← hadv] at TA
  rw [← hhv] at TH
  try rw [← hhv]
  try rw [← hbare]
  try rw [← halone, ← hadv]
  have HBR := hide hbare
  have HAL := hide halone
  clear h hpp h0 h1 h2 hhv hadv hbare halone
  go_enter Tryz.func48, Tryz.ntmps48
  go_upto_region 1 with fail
  go_cut [3] (fun s3 wx => s3 = .bool bare ∧ wx = (w.alloc (.cells (csK 1 n i hp HA hs.length hcp BA bs.length bcp an ai sq PA ps.length pcp) 43)))
  case first =>
    cases b0 : (an == 0)
    · skip
      go_wp2_with fail
      go_meet
      case rel => exact ⟨by rw [HBR.out, bareB]; simp [b0], rfl⟩
    · skip
      cases b1 : (ai == 0)
      · skip
        go_wp2_with fail
        go_meet
        case rel => exact ⟨by rw [HBR.out, bareB]; simp [b0, b1], rfl⟩
      · skip
        cases b2 : (sq == 0)
        · skip
          go_wp2_with fail
          go_meet
          case rel => exact ⟨by rw [HBR.out, bareB]; simp [b0, b1, b2], rfl⟩
        · skip
          cases b3 : ((ps.length : Int) == 0)
          · skip
            go_wp2_with fail
            go_meet
            case rel => exact ⟨by rw [HBR.out, bareB]; simp [b0, b1, b2, b3], rfl⟩
          · skip
            go_wp2_with fail
            go_meet
            case rel => exact ⟨by rw [HBR.out, bareB]; simp [b0, b1, b2, b3], rfl⟩
  case rest =>
    obtain ⟨rfl, rfl⟩ := hcut
    go_upto_region 2 with fail
    go_cut [4] (fun s4 wx => s4 = .bool alone ∧ wx = (w.alloc (.cells (csK 1 n i hp HA hs.length hcp BA bs.length bcp an ai sq PA ps.length pcp) 43)))
    case first =>
      cases b0 : (n == 0)
      · skip
        go_wp2_with fail
        go_meet
        case rel => exact ⟨by rw [HAL.out, aloneB]; simp [b0], rfl⟩
      · skip
        cases b1 : (i == 0)
        · skip
          go_wp2_with fail
          go_meet
          case rel => exact ⟨by rw [HAL.out, aloneB]; simp [b0, b1], rfl⟩
        · skip
          cases b2 : (hp == 0)
          · skip
            go_wp2_with fail
            go_meet
            case rel => exact ⟨by rw [HAL.out, aloneB]; simp [b0, b1, b2], rfl⟩
          · skip
            cases b3 : ((hs.length : Int) == 0)
            · skip
              go_wp2_with fail
              go_meet
              case rel => exact ⟨by rw [HAL.out, aloneB]; simp [b0, b1, b2, b3], rfl⟩
            · skip
              cases b4 : ((bs.length : Int) == 0)
              · skip
                go_wp2_with fail
                go_meet
                case rel => exact ⟨by rw [HAL.out, aloneB]; simp [b0, b1, b2, b3, b4], rfl⟩
              · skip
                go_wp2_with fail
                go_meet
                case rel => exact ⟨by rw [HAL.out, aloneB]; simp [b0, b1, b2, b3, b4], rfl⟩
    case rest =>
      obtain ⟨rfl, rfl⟩ := hcut
      clear HBR HAL
      cases alone
      · skip
        go_wp2_with (first | (go_at_call 71; (with_reducible refine (TL.out _).mono ?_); rintro e w1 ⟨rfl, hb1⟩; haveI : Stp _ w1 := ⟨hb1⟩; clear hb1) | (go_at_call 72; (with_reducible refine (TH.out _ src).mono ?_); rintro e w2 ⟨rfl, hb2⟩; haveI : Stp _ w2 := ⟨hb2⟩; clear hb2) | (go_at_call 70; (with_reducible refine (TA.out _ HP.out.tc).mono ?_); rintro e w3 ⟨rfl, hb3⟩; haveI : Stp _ w3 := ⟨hb3⟩; clear hb3))
        go_ret
        exact ⟨ret_b (by simp []), blw⟩
      · skip
        cases adv
        all_goals
          go_wp2_with (first | (go_at_call 71; (with_reducible refine (TL.out _).mono ?_); rintro e w1 ⟨rfl, hb1⟩; haveI : Stp _ w1 := ⟨hb1⟩; clear hb1) | (go_at_call 72; (with_reducible refine (TH.out _ src).mono ?_); rintro e w2 ⟨rfl, hb2⟩; haveI : Stp _ w2 := ⟨hb2⟩; clear hb2) | (go_at_call 70; (with_reducible refine (TA.out _ HP.out.tc).mono ?_); rintro e w3 ⟨rfl, hb3⟩; haveI : Stp _ w3 := ⟨hb3⟩; clear hb3))
          go_ret
          exact ⟨ret_b (by simp []), blw⟩
set_option maxRecDepth 100000 in
set_option maxHeartbeats 4000000 in
theorem rmay2 (w : World) (h : Reads w w.heap.size 4 HA hs.length (hcs hs)) (hpp : Sl w PA ps) (hl : hs.length ≤ 1000000) (hpl : ps.length ≤ 999999) (h0 : 0 ≤ ai) (h1 : 0 ≤ i) (h2 : ∀ p ∈ ps, 0 ≤ p.2) : Calls Tryz.prog 48 #[PkV 2 n i hp HA hs.length hcp BA bs.length bcp an ai sq PA ps.length pcp] w (RetB w (rmayB 2 n i hp hs bs an ai sq ps)) := by
  have HP := hide hpp
  haveI : Src w HA hs.length 4 (hcs hs) := ⟨h⟩
  have TA := hide (fun W (h : Sl W PA ps) => radv_s an ai sq PA pcp ps W h hpl h0 h2)
  have TL := hide (fun W => rlife_s n i W h1)
  have TH := hide (fun W (h : Reads W W.heap.size 4 HA hs.length (hcs hs)) => rheads_s 2 n i hp HA hcp hs BA bcp bs an ai sq PA pcp ps W h hl)
  rw [show rmayB 2 n i hp hs bs an ai sq ps = (bareB an ai sq ps && (lifeB n i && (!decide (hp < 0) && (!decide (8 < hp) && ((rheadsB 2 n hs && decide (1 ≤ (hs.length : Int))) && (decide (1 ≤ (bs.length : Int)) && decide ((bs.length : Int) ≤ 320))))))) from rfl]
  obtain ⟨hv, hhv⟩ : ∃ b, b = (rheadsB 2 n hs && decide (1 ≤ (hs.length : Int))) := ⟨_, rfl⟩
  obtain ⟨bare, hbare⟩ : ∃ b, b = bareB an ai sq ps := ⟨_, rfl⟩
  obtain ⟨alone, halone⟩ : ∃ b, b = aloneB n i hp hs bs := ⟨_, rfl⟩
  obtain ⟨adv, hadv⟩ : ∃ b, b = radvB an ai sq ps := ⟨_, rfl⟩
  rw [← hadv] at TA
  rw [← hhv] at TH
  try rw [← hhv]
  try rw [← hbare]
  try rw [← halone, ← hadv]
  have HBR := hide hbare
  have HAL := hide halone
  clear h hpp h0 h1 h2 hhv hadv hbare halone
  go_enter Tryz.func48, Tryz.ntmps48
  go_upto_region 1 with fail
  go_cut [3] (fun s3 wx => s3 = .bool bare ∧ wx = (w.alloc (.cells (csK 2 n i hp HA hs.length hcp BA bs.length bcp an ai sq PA ps.length pcp) 43)))
  case first =>
    cases b0 : (an == 0)
    · skip
      go_wp2_with fail
      go_meet
      case rel => exact ⟨by rw [HBR.out, bareB]; simp [b0], rfl⟩
    · skip
      cases b1 : (ai == 0)
      · skip
        go_wp2_with fail
        go_meet
        case rel => exact ⟨by rw [HBR.out, bareB]; simp [b0, b1], rfl⟩
      · skip
        cases b2 : (sq == 0)
        · skip
          go_wp2_with fail
          go_meet
          case rel => exact ⟨by rw [HBR.out, bareB]; simp [b0, b1, b2], rfl⟩
        · skip
          cases b3 : ((ps.length : Int) == 0)
          · skip
            go_wp2_with fail
            go_meet
            case rel => exact ⟨by rw [HBR.out, bareB]; simp [b0, b1, b2, b3], rfl⟩
          · skip
            go_wp2_with fail
            go_meet
            case rel => exact ⟨by rw [HBR.out, bareB]; simp [b0, b1, b2, b3], rfl⟩
  case rest =>
    obtain ⟨rfl, rfl⟩ := hcut
    go_upto_region 2 with fail
    go_cut [4] (fun s4 wx => s4 = .bool alone ∧ wx = (w.alloc (.cells (csK 2 n i hp HA hs.length hcp BA bs.length bcp an ai sq PA ps.length pcp) 43)))
    case first =>
      cases b0 : (n == 0)
      · skip
        go_wp2_with fail
        go_meet
        case rel => exact ⟨by rw [HAL.out, aloneB]; simp [b0], rfl⟩
      · skip
        cases b1 : (i == 0)
        · skip
          go_wp2_with fail
          go_meet
          case rel => exact ⟨by rw [HAL.out, aloneB]; simp [b0, b1], rfl⟩
        · skip
          cases b2 : (hp == 0)
          · skip
            go_wp2_with fail
            go_meet
            case rel => exact ⟨by rw [HAL.out, aloneB]; simp [b0, b1, b2], rfl⟩
          · skip
            cases b3 : ((hs.length : Int) == 0)
            · skip
              go_wp2_with fail
              go_meet
              case rel => exact ⟨by rw [HAL.out, aloneB]; simp [b0, b1, b2, b3], rfl⟩
            · skip
              cases b4 : ((bs.length : Int) == 0)
              · skip
                go_wp2_with fail
                go_meet
                case rel => exact ⟨by rw [HAL.out, aloneB]; simp [b0, b1, b2, b3, b4], rfl⟩
              · skip
                go_wp2_with fail
                go_meet
                case rel => exact ⟨by rw [HAL.out, aloneB]; simp [b0, b1, b2, b3, b4], rfl⟩
    case rest =>
      obtain ⟨rfl, rfl⟩ := hcut
      clear HBR HAL
      cases bare
      · skip
        go_wp2_with (first | (go_at_call 71; (with_reducible refine (TL.out _).mono ?_); rintro e w1 ⟨rfl, hb1⟩; haveI : Stp _ w1 := ⟨hb1⟩; clear hb1) | (go_at_call 72; (with_reducible refine (TH.out _ src).mono ?_); rintro e w2 ⟨rfl, hb2⟩; haveI : Stp _ w2 := ⟨hb2⟩; clear hb2) | (go_at_call 70; (with_reducible refine (TA.out _ HP.out.tc).mono ?_); rintro e w3 ⟨rfl, hb3⟩; haveI : Stp _ w3 := ⟨hb3⟩; clear hb3))
        go_ret
        exact ⟨ret_b (by simp []), blw⟩
      · skip
        cases f1 : lifeB n i
        · rw [f1] at TL
          go_wp2_with (first | (go_at_call 71; (with_reducible refine (TL.out _).mono ?_); rintro e w1 ⟨rfl, hb1⟩; haveI : Stp _ w1 := ⟨hb1⟩; clear hb1) | (go_at_call 72; (with_reducible refine (TH.out _ src).mono ?_); rintro e w2 ⟨rfl, hb2⟩; haveI : Stp _ w2 := ⟨hb2⟩; clear hb2) | (go_at_call 70; (with_reducible refine (TA.out _ HP.out.tc).mono ?_); rintro e w3 ⟨rfl, hb3⟩; haveI : Stp _ w3 := ⟨hb3⟩; clear hb3))
          go_ret
          exact ⟨ret_b (by simp [f1]), blw⟩
        · rw [f1] at TL
          cases f2 : decide (hp < 0)
          · skip
            cases f3 : decide (8 < hp)
            · skip
              cases hv
              · skip
                go_wp2_with (first | (go_at_call 71; (with_reducible refine (TL.out _).mono ?_); rintro e w1 ⟨rfl, hb1⟩; haveI : Stp _ w1 := ⟨hb1⟩; clear hb1) | (go_at_call 72; (with_reducible refine (TH.out _ src).mono ?_); rintro e w2 ⟨rfl, hb2⟩; haveI : Stp _ w2 := ⟨hb2⟩; clear hb2) | (go_at_call 70; (with_reducible refine (TA.out _ HP.out.tc).mono ?_); rintro e w3 ⟨rfl, hb3⟩; haveI : Stp _ w3 := ⟨hb3⟩; clear hb3))
                go_ret
                exact ⟨ret_b (by simp [f1, f2, f3]), blw⟩
              · skip
                cases f4 : decide (1 ≤ (bs.length : Int))
                · skip
                  go_wp2_with (first | (go_at_call 71; (with_reducible refine (TL.out _).mono ?_); rintro e w1 ⟨rfl, hb1⟩; haveI : Stp _ w1 := ⟨hb1⟩; clear hb1) | (go_at_call 72; (with_reducible refine (TH.out _ src).mono ?_); rintro e w2 ⟨rfl, hb2⟩; haveI : Stp _ w2 := ⟨hb2⟩; clear hb2) | (go_at_call 70; (with_reducible refine (TA.out _ HP.out.tc).mono ?_); rintro e w3 ⟨rfl, hb3⟩; haveI : Stp _ w3 := ⟨hb3⟩; clear hb3))
                  go_ret
                  exact ⟨ret_b (by simp [f1, f2, f3, f4]), blw⟩
                · skip
                  cases f5 : decide ((bs.length : Int) ≤ 320)
                  all_goals
                    go_wp2_with (first | (go_at_call 71; (with_reducible refine (TL.out _).mono ?_); rintro e w1 ⟨rfl, hb1⟩; haveI : Stp _ w1 := ⟨hb1⟩; clear hb1) | (go_at_call 72; (with_reducible refine (TH.out _ src).mono ?_); rintro e w2 ⟨rfl, hb2⟩; haveI : Stp _ w2 := ⟨hb2⟩; clear hb2) | (go_at_call 70; (with_reducible refine (TA.out _ HP.out.tc).mono ?_); rintro e w3 ⟨rfl, hb3⟩; haveI : Stp _ w3 := ⟨hb3⟩; clear hb3))
                    go_ret
                    exact ⟨ret_b (by simp [f1, f2, f3, f4, f5]), blw⟩
            · skip
              go_wp2_with (first | (go_at_call 71; (with_reducible refine (TL.out _).mono ?_); rintro e w1 ⟨rfl, hb1⟩; haveI : Stp _ w1 := ⟨hb1⟩; clear hb1) | (go_at_call 72; (with_reducible refine (TH.out _ src).mono ?_); rintro e w2 ⟨rfl, hb2⟩; haveI : Stp _ w2 := ⟨hb2⟩; clear hb2) | (go_at_call 70; (with_reducible refine (TA.out _ HP.out.tc).mono ?_); rintro e w3 ⟨rfl, hb3⟩; haveI : Stp _ w3 := ⟨hb3⟩; clear hb3))
              go_ret
              exact ⟨ret_b (by simp [f1, f2, f3]), blw⟩
          · skip
            go_wp2_with (first | (go_at_call 71; (with_reducible refine (TL.out _).mono ?_); rintro e w1 ⟨rfl, hb1⟩; haveI : Stp _ w1 := ⟨hb1⟩; clear hb1) | (go_at_call 72; (with_reducible refine (TH.out _ src).mono ?_); rintro e w2 ⟨rfl, hb2⟩; haveI : Stp _ w2 := ⟨hb2⟩; clear hb2) | (go_at_call 70; (with_reducible refine (TA.out _ HP.out.tc).mono ?_); rintro e w3 ⟨rfl, hb3⟩; haveI : Stp _ w3 := ⟨hb3⟩; clear hb3))
            go_ret
            exact ⟨ret_b (by simp [f1, f2]), blw⟩
end
end Go.Proofs.YtniogmefbjfoaaaGreat

namespace Go.Proofs.YtniogmefbjfoaaaGreat
set_option linter.unusedSimpArgs false
set_option linter.unusedVariables false
set_option linter.unusedSectionVars false
open Go.RowKit

section
variable (n i hp : Int) (HA : Option Addr) (hcp : Nat) (hs : List Hd) (BA : Option Addr) (bcp : Nat) (bs : List Int) (an ai sq : Int) (PA : Option Addr) (pcp : Nat) (ps : List Pr)
set_option maxRecDepth 100000 in
set_option maxHeartbeats 4000000 in
theorem rmay3 (w : World) (h : Reads w w.heap.size 4 HA hs.length (hcs hs)) (hpp : Sl w PA ps) (hl : hs.length ≤ 1000000) (hpl : ps.length ≤ 999999) (h0 : 0 ≤ ai) (h1 : 0 ≤ i) (h2 : ∀ p ∈ ps, 0 ≤ p.2) : Calls Tryz.prog 48 #[PkV 3 n i hp HA hs.length hcp BA bs.length bcp an ai sq PA ps.length pcp] w (RetB w (rmayB 3 n i hp hs bs an ai sq ps)) := by
  have HP := hide hpp
  haveI : Src w HA hs.length 4 (hcs hs) := ⟨h⟩
  have TA := hide (fun W (h : Sl W PA ps) => radv_s an ai sq PA pcp ps W h hpl h0 h2)
  have TL := hide (fun W => rlife_s n i W h1)
  have TH := hide (fun W (h : Reads W W.heap.size 4 HA hs.length (hcs hs)) => rheads_s 3 n i hp HA hcp hs BA bcp bs an ai sq PA pcp ps W h hl)
  rw [show rmayB 3 n i hp hs bs an ai sq ps = (bareB an ai sq ps && (lifeB n i && (!decide (hp < 0) && (!decide (8 < hp) && ((rheadsB 3 n hs && decide (1 ≤ (hs.length : Int))) && (((bs.length : Int) == 0) && ((hs.length : Int) == 1))))))) from rfl]
  obtain ⟨hv, hhv⟩ : ∃ b, b = (rheadsB 3 n hs && decide (1 ≤ (hs.length : Int))) := ⟨_, rfl⟩
  obtain ⟨bare, hbare⟩ : ∃ b, b = bareB an ai sq ps := ⟨_, rfl⟩
  obtain ⟨alone, halone⟩ : ∃ b, b = aloneB n i hp hs bs := ⟨_, rfl⟩
  obtain ⟨adv, hadv⟩ : ∃ b, b = radvB an ai sq ps := ⟨_, rfl⟩
  rw [← hadv] at TA
  rw [← hhv] at TH
  try rw [← hhv]
  try rw [← hbare]
  try rw [← halone, ← hadv]
  have HBR := hide hbare
  have HAL := hide halone
  clear h hpp h0 h1 h2 hhv hadv hbare halone
  go_enter Tryz.func48, Tryz.ntmps48
  go_upto_region 1 with fail
  go_cut [3] (fun s3 wx => s3 = .bool bare ∧ wx = (w.alloc (.cells (csK 3 n i hp HA hs.length hcp BA bs.length bcp an ai sq PA ps.length pcp) 43)))
  case first =>
    cases b0 : (an == 0)
    · skip
      go_wp2_with fail
      go_meet
      case rel => exact ⟨by rw [HBR.out, bareB]; simp [b0], rfl⟩
    · skip
      cases b1 : (ai == 0)
      · skip
        go_wp2_with fail
        go_meet
        case rel => exact ⟨by rw [HBR.out, bareB]; simp [b0, b1], rfl⟩
      · skip
        cases b2 : (sq == 0)
        · skip
          go_wp2_with fail
          go_meet
          case rel => exact ⟨by rw [HBR.out, bareB]; simp [b0, b1, b2], rfl⟩
        · skip
          cases b3 : ((ps.length : Int) == 0)
          · skip
            go_wp2_with fail
            go_meet
            case rel => exact ⟨by rw [HBR.out, bareB]; simp [b0, b1, b2, b3], rfl⟩
          · skip
            go_wp2_with fail
            go_meet
            case rel => exact ⟨by rw [HBR.out, bareB]; simp [b0, b1, b2, b3], rfl⟩
  case rest =>
    obtain ⟨rfl, rfl⟩ := hcut
    go_upto_region 2 with fail
    go_cut [4] (fun s4 wx => s4 = .bool alone ∧ wx = (w.alloc (.cells (csK 3 n i hp HA hs.length hcp BA bs.length bcp an ai sq PA ps.length pcp) 43)))
    case first =>
      cases b0 : (n == 0)
      · skip
        go_wp2_with fail
        go_meet
        case rel => exact ⟨by rw [HAL.out, aloneB]; simp [b0], rfl⟩
      · skip
        cases b1 : (i == 0)
        · skip
          go_wp2_with fail
          go_meet
          case rel => exact ⟨by rw [HAL.out, aloneB]; simp [b0, b1], rfl⟩
        · skip
          cases b2 : (hp == 0)
          · skip
            go_wp2_with fail
            go_meet
            case rel => exact ⟨by rw [HAL.out, aloneB]; simp [b0, b1, b2], rfl⟩
          · skip
            cases b3 : ((hs.length : Int) == 0)
            · skip
              go_wp2_with fail
              go_meet
              case rel => exact ⟨by rw [HAL.out, aloneB]; simp [b0, b1, b2, b3], rfl⟩
            · skip
              cases b4 : ((bs.length : Int) == 0)
              · skip
                go_wp2_with fail
                go_meet
                case rel => exact ⟨by rw [HAL.out, aloneB]; simp [b0, b1, b2, b3, b4], rfl⟩
              · skip
                go_wp2_with fail
                go_meet
                case rel => exact ⟨by rw [HAL.out, aloneB]; simp [b0, b1, b2, b3, b4], rfl⟩
    case rest =>
      obtain ⟨rfl, rfl⟩ := hcut
      clear HBR HAL
      cases bare
      · skip
        go_wp2_with (first | (go_at_call 71; (with_reducible refine (TL.out _).mono ?_); rintro e w1 ⟨rfl, hb1⟩; haveI : Stp _ w1 := ⟨hb1⟩; clear hb1) | (go_at_call 72; (with_reducible refine (TH.out _ src).mono ?_); rintro e w2 ⟨rfl, hb2⟩; haveI : Stp _ w2 := ⟨hb2⟩; clear hb2) | (go_at_call 70; (with_reducible refine (TA.out _ HP.out.tc).mono ?_); rintro e w3 ⟨rfl, hb3⟩; haveI : Stp _ w3 := ⟨hb3⟩; clear hb3))
        go_ret
        exact ⟨ret_b (by simp []), blw⟩
      · skip
        cases f1 : lifeB n i
        · rw [f1] at TL
          go_wp2_with (first | (go_at_call 71; (with_reducible refine (TL.out _).mono ?_); rintro e w1 ⟨rfl, hb1⟩; haveI : Stp _ w1 := ⟨hb1⟩; clear hb1) | (go_at_call 72; (with_reducible refine (TH.out _ src).mono ?_); rintro e w2 ⟨rfl, hb2⟩; haveI : Stp _ w2 := ⟨hb2⟩; clear hb2) | (go_at_call 70; (with_reducible refine (TA.out _ HP.out.tc).mono ?_); rintro e w3 ⟨rfl, hb3⟩; haveI : Stp _ w3 := ⟨hb3⟩; clear hb3))
          go_ret
          exact ⟨ret_b (by simp [f1]), blw⟩
        · rw [f1] at TL
          cases f2 : decide (hp < 0)
          · skip
            cases f3 : decide (8 < hp)
            · skip
              cases hv
              · skip
                go_wp2_with (first | (go_at_call 71; (with_reducible refine (TL.out _).mono ?_); rintro e w1 ⟨rfl, hb1⟩; haveI : Stp _ w1 := ⟨hb1⟩; clear hb1) | (go_at_call 72; (with_reducible refine (TH.out _ src).mono ?_); rintro e w2 ⟨rfl, hb2⟩; haveI : Stp _ w2 := ⟨hb2⟩; clear hb2) | (go_at_call 70; (with_reducible refine (TA.out _ HP.out.tc).mono ?_); rintro e w3 ⟨rfl, hb3⟩; haveI : Stp _ w3 := ⟨hb3⟩; clear hb3))
                go_ret
                exact ⟨ret_b (by simp [f1, f2, f3]), blw⟩
              · skip
                cases f4 : ((bs.length : Int) == 0)
                · skip
                  go_wp2_with (first | (go_at_call 71; (with_reducible refine (TL.out _).mono ?_); rintro e w1 ⟨rfl, hb1⟩; haveI : Stp _ w1 := ⟨hb1⟩; clear hb1) | (go_at_call 72; (with_reducible refine (TH.out _ src).mono ?_); rintro e w2 ⟨rfl, hb2⟩; haveI : Stp _ w2 := ⟨hb2⟩; clear hb2) | (go_at_call 70; (with_reducible refine (TA.out _ HP.out.tc).mono ?_); rintro e w3 ⟨rfl, hb3⟩; haveI : Stp _ w3 := ⟨hb3⟩; clear hb3))
                  go_ret
                  exact ⟨ret_b (by simp [f1, f2, f3, f4]), blw⟩
                · skip
                  cases f5 : ((hs.length : Int) == 1)
                  all_goals
                    go_wp2_with (first | (go_at_call 71; (with_reducible refine (TL.out _).mono ?_); rintro e w1 ⟨rfl, hb1⟩; haveI : Stp _ w1 := ⟨hb1⟩; clear hb1) | (go_at_call 72; (with_reducible refine (TH.out _ src).mono ?_); rintro e w2 ⟨rfl, hb2⟩; haveI : Stp _ w2 := ⟨hb2⟩; clear hb2) | (go_at_call 70; (with_reducible refine (TA.out _ HP.out.tc).mono ?_); rintro e w3 ⟨rfl, hb3⟩; haveI : Stp _ w3 := ⟨hb3⟩; clear hb3))
                    go_ret
                    exact ⟨ret_b (by simp [f1, f2, f3, f4, f5]), blw⟩
            · skip
              go_wp2_with (first | (go_at_call 71; (with_reducible refine (TL.out _).mono ?_); rintro e w1 ⟨rfl, hb1⟩; haveI : Stp _ w1 := ⟨hb1⟩; clear hb1) | (go_at_call 72; (with_reducible refine (TH.out _ src).mono ?_); rintro e w2 ⟨rfl, hb2⟩; haveI : Stp _ w2 := ⟨hb2⟩; clear hb2) | (go_at_call 70; (with_reducible refine (TA.out _ HP.out.tc).mono ?_); rintro e w3 ⟨rfl, hb3⟩; haveI : Stp _ w3 := ⟨hb3⟩; clear hb3))
              go_ret
              exact ⟨ret_b (by simp [f1, f2, f3]), blw⟩
          · skip
            go_wp2_with (first | (go_at_call 71; (with_reducible refine (TL.out _).mono ?_); rintro e w1 ⟨rfl, hb1⟩; haveI : Stp _ w1 := ⟨hb1⟩; clear hb1) | (go_at_call 72; (with_reducible refine (TH.out _ src).mono ?_); rintro e w2 ⟨rfl, hb2⟩; haveI : Stp _ w2 := ⟨hb2⟩; clear hb2) | (go_at_call 70; (with_reducible refine (TA.out _ HP.out.tc).mono ?_); rintro e w3 ⟨rfl, hb3⟩; haveI : Stp _ w3 := ⟨hb3⟩; clear hb3))
            go_ret
            exact ⟨ret_b (by simp [f1, f2]), blw⟩
set_option maxRecDepth 100000 in
set_option maxHeartbeats 4000000 in
theorem rmayk (k : Int) (w : World) (h : Reads w w.heap.size 4 HA hs.length (hcs hs)) (hpp : Sl w PA ps) (hl : hs.length ≤ 1000000) (hpl : ps.length ≤ 999999) (h0 : 0 ≤ ai) (h1 : 0 ≤ i) (h2 : ∀ p ∈ ps, 0 ≤ p.2) (k1 : k ≠ 1) (k2 : k ≠ 2) (k3 : k ≠ 3) : Calls Tryz.prog 48 #[PkV k n i hp HA hs.length hcp BA bs.length bcp an ai sq PA ps.length pcp] w (RetB w (rmayB k n i hp hs bs an ai sq ps)) := by
  have HP := hide hpp
  haveI : Src w HA hs.length 4 (hcs hs) := ⟨h⟩
  have TA := hide (fun W (h : Sl W PA ps) => radv_s an ai sq PA pcp ps W h hpl h0 h2)
  have TL := hide (fun W => rlife_s n i W h1)
  have TH := hide (fun W (h : Reads W W.heap.size 4 HA hs.length (hcs hs)) => rheads_s k n i hp HA hcp hs BA bcp bs an ai sq PA pcp ps W h hl)
  rw [show rmayB k n i hp hs bs an ai sq ps = (bareB an ai sq ps && (lifeB n i && (!decide (hp < 0) && (!decide (8 < hp) && ((rheadsB k n hs && decide (1 ≤ (hs.length : Int))) && tailB k hs bs))))) from by unfold rmayB; rw [if_neg k1]]
  obtain ⟨hv, hhv⟩ : ∃ b, b = (rheadsB k n hs && decide (1 ≤ (hs.length : Int))) := ⟨_, rfl⟩
  obtain ⟨bare, hbare⟩ : ∃ b, b = bareB an ai sq ps := ⟨_, rfl⟩
  obtain ⟨alone, halone⟩ : ∃ b, b = aloneB n i hp hs bs := ⟨_, rfl⟩
  obtain ⟨adv, hadv⟩ : ∃ b, b = radvB an ai sq ps := ⟨_, rfl⟩
  rw [← hadv] at TA
  rw [← hhv] at TH
  try rw [← hhv]
  try rw [← hbare]
  try rw [← halone, ← hadv]
  have g1 : (k == 1) = false := by simpa using k1
  have g2 : (k == 2) = false := by simpa using k2
  have g3 : (k == 3) = false := by simpa using k3
  rw [show tailB k hs bs = false by unfold tailB; rw [if_neg k2, if_neg k3]]
  clear k1 k2 k3
  have HBR := hide hbare
  have HAL := hide halone
  clear h hpp h0 h1 h2 hhv hadv hbare halone
  go_enter Tryz.func48, Tryz.ntmps48
  go_upto_region 1 with fail
  go_cut [3] (fun s3 wx => s3 = .bool bare ∧ wx = (w.alloc (.cells (csK k n i hp HA hs.length hcp BA bs.length bcp an ai sq PA ps.length pcp) 43)))
  case first =>
    cases b0 : (an == 0)
    · skip
      go_wp2_with fail
      go_meet
      case rel => exact ⟨by rw [HBR.out, bareB]; simp [b0], rfl⟩
    · skip
      cases b1 : (ai == 0)
      · skip
        go_wp2_with fail
        go_meet
        case rel => exact ⟨by rw [HBR.out, bareB]; simp [b0, b1], rfl⟩
      · skip
        cases b2 : (sq == 0)
        · skip
          go_wp2_with fail
          go_meet
          case rel => exact ⟨by rw [HBR.out, bareB]; simp [b0, b1, b2], rfl⟩
        · skip
          cases b3 : ((ps.length : Int) == 0)
          · skip
            go_wp2_with fail
            go_meet
            case rel => exact ⟨by rw [HBR.out, bareB]; simp [b0, b1, b2, b3], rfl⟩
          · skip
            go_wp2_with fail
            go_meet
            case rel => exact ⟨by rw [HBR.out, bareB]; simp [b0, b1, b2, b3], rfl⟩
  case rest =>
    obtain ⟨rfl, rfl⟩ := hcut
    go_upto_region 2 with fail
    go_cut [4] (fun s4 wx => s4 = .bool alone ∧ wx = (w.alloc (.cells (csK k n i hp HA hs.length hcp BA bs.length bcp an ai sq PA ps.length pcp) 43)))
    case first =>
      cases b0 : (n == 0)
      · skip
        go_wp2_with fail
        go_meet
        case rel => exact ⟨by rw [HAL.out, aloneB]; simp [b0], rfl⟩
      · skip
        cases b1 : (i == 0)
        · skip
          go_wp2_with fail
          go_meet
          case rel => exact ⟨by rw [HAL.out, aloneB]; simp [b0, b1], rfl⟩
        · skip
          cases b2 : (hp == 0)
          · skip
            go_wp2_with fail
            go_meet
            case rel => exact ⟨by rw [HAL.out, aloneB]; simp [b0, b1, b2], rfl⟩
          · skip
            cases b3 : ((hs.length : Int) == 0)
            · skip
              go_wp2_with fail
              go_meet
              case rel => exact ⟨by rw [HAL.out, aloneB]; simp [b0, b1, b2, b3], rfl⟩
            · skip
              cases b4 : ((bs.length : Int) == 0)
              · skip
                go_wp2_with fail
                go_meet
                case rel => exact ⟨by rw [HAL.out, aloneB]; simp [b0, b1, b2, b3, b4], rfl⟩
              · skip
                go_wp2_with fail
                go_meet
                case rel => exact ⟨by rw [HAL.out, aloneB]; simp [b0, b1, b2, b3, b4], rfl⟩
    case rest =>
      obtain ⟨rfl, rfl⟩ := hcut
      clear HBR HAL
      cases bare
      · skip
        go_wp2_with (first | (go_at_call 71; (with_reducible refine (TL.out _).mono ?_); rintro e w1 ⟨rfl, hb1⟩; haveI : Stp _ w1 := ⟨hb1⟩; clear hb1) | (go_at_call 72; (with_reducible refine (TH.out _ src).mono ?_); rintro e w2 ⟨rfl, hb2⟩; haveI : Stp _ w2 := ⟨hb2⟩; clear hb2) | (go_at_call 70; (with_reducible refine (TA.out _ HP.out.tc).mono ?_); rintro e w3 ⟨rfl, hb3⟩; haveI : Stp _ w3 := ⟨hb3⟩; clear hb3))
        go_ret
        exact ⟨ret_b (by simp []), blw⟩
      · skip
        cases f1 : lifeB n i
        · rw [f1] at TL
          go_wp2_with (first | (go_at_call 71; (with_reducible refine (TL.out _).mono ?_); rintro e w1 ⟨rfl, hb1⟩; haveI : Stp _ w1 := ⟨hb1⟩; clear hb1) | (go_at_call 72; (with_reducible refine (TH.out _ src).mono ?_); rintro e w2 ⟨rfl, hb2⟩; haveI : Stp _ w2 := ⟨hb2⟩; clear hb2) | (go_at_call 70; (with_reducible refine (TA.out _ HP.out.tc).mono ?_); rintro e w3 ⟨rfl, hb3⟩; haveI : Stp _ w3 := ⟨hb3⟩; clear hb3))
          go_ret
          exact ⟨ret_b (by simp [f1]), blw⟩
        · rw [f1] at TL
          cases f2 : decide (hp < 0)
          · skip
            cases f3 : decide (8 < hp)
            · skip
              cases hv
              · skip
                go_wp2_with (first | (go_at_call 71; (with_reducible refine (TL.out _).mono ?_); rintro e w1 ⟨rfl, hb1⟩; haveI : Stp _ w1 := ⟨hb1⟩; clear hb1) | (go_at_call 72; (with_reducible refine (TH.out _ src).mono ?_); rintro e w2 ⟨rfl, hb2⟩; haveI : Stp _ w2 := ⟨hb2⟩; clear hb2) | (go_at_call 70; (with_reducible refine (TA.out _ HP.out.tc).mono ?_); rintro e w3 ⟨rfl, hb3⟩; haveI : Stp _ w3 := ⟨hb3⟩; clear hb3))
                go_ret
                exact ⟨ret_b (by simp [f1, f2, f3]), blw⟩
              · skip
                go_wp2_with (first | (go_at_call 71; (with_reducible refine (TL.out _).mono ?_); rintro e w1 ⟨rfl, hb1⟩; haveI : Stp _ w1 := ⟨hb1⟩; clear hb1) | (go_at_call 72; (with_reducible refine (TH.out _ src).mono ?_); rintro e w2 ⟨rfl, hb2⟩; haveI : Stp _ w2 := ⟨hb2⟩; clear hb2) | (go_at_call 70; (with_reducible refine (TA.out _ HP.out.tc).mono ?_); rintro e w3 ⟨rfl, hb3⟩; haveI : Stp _ w3 := ⟨hb3⟩; clear hb3))
                go_ret
                exact ⟨ret_b (by simp [f1, f2, f3]), blw⟩
            · skip
              go_wp2_with (first | (go_at_call 71; (with_reducible refine (TL.out _).mono ?_); rintro e w1 ⟨rfl, hb1⟩; haveI : Stp _ w1 := ⟨hb1⟩; clear hb1) | (go_at_call 72; (with_reducible refine (TH.out _ src).mono ?_); rintro e w2 ⟨rfl, hb2⟩; haveI : Stp _ w2 := ⟨hb2⟩; clear hb2) | (go_at_call 70; (with_reducible refine (TA.out _ HP.out.tc).mono ?_); rintro e w3 ⟨rfl, hb3⟩; haveI : Stp _ w3 := ⟨hb3⟩; clear hb3))
              go_ret
              exact ⟨ret_b (by simp [f1, f2, f3]), blw⟩
          · skip
            go_wp2_with (first | (go_at_call 71; (with_reducible refine (TL.out _).mono ?_); rintro e w1 ⟨rfl, hb1⟩; haveI : Stp _ w1 := ⟨hb1⟩; clear hb1) | (go_at_call 72; (with_reducible refine (TH.out _ src).mono ?_); rintro e w2 ⟨rfl, hb2⟩; haveI : Stp _ w2 := ⟨hb2⟩; clear hb2) | (go_at_call 70; (with_reducible refine (TA.out _ HP.out.tc).mono ?_); rintro e w3 ⟨rfl, hb3⟩; haveI : Stp _ w3 := ⟨hb3⟩; clear hb3))
            go_ret
            exact ⟨ret_b (by simp [f1, f2]), blw⟩
end
theorem rmay_s (x : Pk) (HA : Option Addr) (hcp : Nat) (BA : Option Addr) (bcp : Nat) (PA : Option Addr) (pcp : Nat) (w : World) (h : PkIn w x HA BA PA) (hf : PkF x) (hl : x.ps.length ≤ 999999) :
    Calls Tryz.prog 48 #[x.at HA hcp BA bcp PA pcp] w (RetB w x.mayB) := by
  have e := rmay_eq x.k x.n x.i x.hp x.hs x.bs x.an x.ai x.sq x.ps hf.sq.1 (fun p hp => ⟨(hf.hs p hp).1.1, (hf.hs p hp).2.1.1, (hf.hs p hp).2.2.1⟩)
  rw [show x.mayB = mayKB x.k x.n x.i x.hp x.hs x.bs x.an x.ai x.sq x.ps from rfl, ← e]
  have h0 := hf.ai.1
  have h1 := hf.i.1
  have h2 := fun p hp => (hf.ps p hp).1
  obtain ⟨k, n, i, hp, hs, bs, an, ai, sq, ps⟩ := x
  by_cases k1 : k = 1
  · subst k1; exact rmay1 n i hp HA hcp hs BA bcp bs an ai sq PA pcp ps w h.h h.p h.hl hl h0 h1 h2
  by_cases k2 : k = 2
  · subst k2; exact rmay2 n i hp HA hcp hs BA bcp bs an ai sq PA pcp ps w h.h h.p h.hl hl h0 h1 h2
  by_cases k3 : k = 3
  · subst k3; exact rmay3 n i hp HA hcp hs BA bcp bs an ai sq PA pcp ps w h.h h.p h.hl hl h0 h1 h2
  exact rmayk n i hp HA hcp hs BA bcp bs an ai sq PA pcp ps k w h.h h.p h.hl hl h0 h1 h2 k1 k2 k3
end Go.Proofs.YtniogmefbjfoaaaGreat
