/-
  Layer 8: the law NoticeBack: true for every input.
-/
import Derived.Test.YtgpmcpinnaggmaaLNot
namespace Go.Proofs.Ytgpmcpinnaggmaa
set_option linter.unusedSimpArgs false
set_option linter.unusedVariables false
set_option linter.unusedSectionVars false
open Go.RowKit

theorem may_lens {x : Nt} (hm : x.mayB = true) : x.st.length ≤ 300 ∧ x.vw.ms.length ≤ 300 ∧ x.vw.us.length ≤ 300 := by
  rcases may_kinds hm with ⟨h1, h2, h3, h4, h5⟩ | ⟨h1, h2, h3, h4, h5, h6⟩ | ⟨h1, h2, h3, h4, h5, h6⟩ | ⟨h1, h2, h3, h4, h5, h6, h7⟩
  · obtain ⟨_, _, _, v4, v5⟩ := nil_facts h3
    rw [v4, v5]; simp; omega
  · obtain ⟨_, _, _, v4, v5⟩ := nil_facts h3
    rw [v4, v5, h6]; simp
  · obtain ⟨_, _, _, v4, v5⟩ := nil_facts h3
    rw [v4, v5]; simp; omega
  · have f := mayT_facts (x := ((x.vw.r, x.vw.n, x.vw.i), x.vw.ms, x.vw.us)) h7
    simp only at f
    rw [h6]; simp; omega
theorem NtF.of {x : Nt} (h : x.Wf) : NtF x := ⟨⟨h.p.2.2.1, h.p.2.2.2⟩, h.rd, h.cd, fun p hp => ⟨(h.st p hp).2.2.1, (h.st p hp).2.2.2⟩, ⟨h.vw.r, ⟨h.vw.p.2.2.1, h.vw.p.2.2.2⟩, fun p hp => ⟨(h.vw.ms p hp).2.2.1, (h.vw.ms p hp).2.2.2⟩, h.vw.us⟩⟩
theorem nt0_ok (w : World) : nt0.Ok w := ⟨Reads.none_, by simp, vw0_ok w⟩
theorem eqB_at (x : Nt) (SA : Option Addr) (sc : Nat) (MA : Option Addr) (mc : Nat) (UA : Option Addr) (uc : Nat) : Nt.eqB (x.at SA sc MA mc UA uc) x = true := by simp [Nt.eqB, Nt.at, eqP, Vw.eqB]
end Go.Proofs.Ytgpmcpinnaggmaa
