/-
  Layer 6: the law PacketMay: true for every input.
-/
import Derived.Test.YtggmninbpnolgaaOpenK
import Derived.Test.YtggmninbpnolgaaPkA
import Derived.Test.YtggmninbpnolgaaRefK7
namespace Go.Proofs.Ytggmninbpnolgaa
set_option linter.unusedSimpArgs false
set_option linter.unusedVariables false
set_option linter.unusedSectionVars false
open Go.RowKit

set_option maxRecDepth 100000 in
set_option maxHeartbeats 4000000 in
theorem packetMay_true (x : Pk) (HA : Option Addr) (hcp : Nat) (BA : Option Addr) (bcp : Nat) (PA : Option Addr) (pcp : Nat) (w : World) (h : PkRd w x HA BA PA) :
    Calls Try.prog 7 #[x.at HA hcp BA bcp PA pcp] w (RetB w true) := by
  have TA := hide (fun W => awake6_t W)
  have TL := hide (fun W => long_s x HA hcp BA bcp PA pcp W)
  cases hh : longB x
  · rw [hh] at TL
    have HX := hide (h.ok hh)
    have hpl : x.ps.length ≤ 999999 := by have := hh; simp [longB] at this; omega
    have TM := hide (fun W (h : PkIn W x HA BA PA) => kmayc_s x HA hcp BA bcp PA pcp W h)
    have TR := hide (fun W (h' : PkIn W x HA BA PA) => rmay_s x HA hcp BA bcp PA pcp W h' h.f hpl)
    generalize x.mayB = mb at TM TR
    have e1 : (mb == mb) = true := by simp
    obtain ⟨k, n, i, hp, hs, bo, an, ai, sq, ps⟩ := x
    simp only [Pk.at] at TM TR TL ⊢
    clear h hh hpl
    go_enter Try.func7, Try.ntmps7
    go_wp2_with fail
    (refine wp_region_gw (by kernel_rfl) (by kernel_rfl) ?_; (repeat (go_big_quiet_step ((first | (go_at_call 34; with_reducible exact calls_gw (TL.out _)) | (go_at_call 35; with_reducible exact calls_gw (TM.out _ HX.out.tc)) | (go_at_call 36; with_reducible exact calls_gw (TR.out _ HX.out.tc)) | (go_at_call 37; with_reducible exact calls_gw (TA.out _)))))); refine wpQuiet_nil ?_; intro _ hw'; obtain ⟨⟨dq, osq⟩, hw''⟩ := hw'; subst hw'')
    go_wp2
    go_ret
    exact ⟨rfl, blw⟩
  · rw [hh] at TL
    obtain ⟨k, n, i, hp, hs, bo, an, ai, sq, ps⟩ := x
    simp only [Pk.at] at TL ⊢
    clear h hh
    go_enter Try.func7, Try.ntmps7
    go_wp2_with fail
    (refine wp_region_gw (by kernel_rfl) (by kernel_rfl) ?_; (repeat (go_big_quiet_step ((first | (go_at_call 34; with_reducible exact calls_gw (TL.out _)) | (go_at_call 37; with_reducible exact calls_gw (TA.out _)))))); refine wpQuiet_nil ?_; intro _ hw'; obtain ⟨⟨dq, osq⟩, hw''⟩ := hw'; subst hw'')
    go_wp2
    go_ret
    exact ⟨rfl, blw⟩
end Go.Proofs.Ytggmninbpnolgaa
