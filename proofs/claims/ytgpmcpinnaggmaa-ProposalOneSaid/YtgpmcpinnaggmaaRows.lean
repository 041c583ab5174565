/-
  No cell of these rows narrows 'for every input' (looked for: loops, veiled, ifaces, maps, wideKeys, modest, calm, conditions, laid).
  DERIVED. THE GIVEN ROWS OF THIS SEAT. 9 by the template 'for every input the law returns true; each argument reads behind the call as it read before'; 0 by the template 'total and deterministic' (their statements: YtgpmcpinnaggmaaTotals.lean).
  GIVEN WITH THE SEED: the statements are not yours to turn. If you find one false, say at which input.
  Laid BY PROGRAM, IN A SANDBOX (cutbox-rows.mjs): the forced cells as the released guide's own fill.sh prints them over the translation 843276bf338913e1… (all of the seat's roots in one cut). By AI agents, Wed Nov 11 2026. No macro, syntax, notation, axiom, sorry.
-/
import Derived.Test.YtgpmcpinnaggmaaChecked
import GoSem.Claim
import GoSem.ClaimJoined
import GoSem.ClaimMapViews
import Derived.JoinedTies
import Derived.KernelRfl
namespace Go.Proofs.Ytgpmcpinnaggmaa
/- THE CELL 'sum', in the pinned program and in every row, IS THE sha256 OF THE DUMP (.gsa) THAT YtgpmcpinnaggmaaProg.lean LOADS. Nothing in Lean hashes anything: it is a label: what it is worth is what the hold of that sum in a sandbox is worth. -/
noncomputable def Try.pinned : Pinned := { name := "ytgpmcpinnaggmaa", sum := "843276bf338913e1dabcf0b82fc80ec37c9b201b68f456b574e31999b88d7810", checked := Try.checked }
namespace Rows
def none {H : Type} : Left H := { results := [], args := [] }

/-- 'caucuslaw08.NoticeReads': WHATEVER THE INPUT: true; the input reads as it did. -/
def noticeReadsSpec : ChangeSpec := { name := "noticeReads", fn := fun _ => fun
  | [d] => { results := [.lit (.bool true)], args := [d] }
  | _ => none }
def noticeReadsRow : OpenClaim := { program := "ytgpmcpinnaggmaa", sum := "843276bf338913e1dabcf0b82fc80ec37c9b201b68f456b574e31999b88d7810", func := "caucus/caucuslaw08.NoticeReads", spec := "noticeReads", unfollowed := true, recurses := true, plainKeys := false, apart := false }
def NoticeReadsSaid : Prop := noticeReadsRow.holds Try.pinned (OpenSpec.ofChange noticeReadsSpec)

/-- ITS FALSE NEIGHBOUR: 'it returns false'. Refute it at one input. -/
def noticeReadsWrong : ChangeSpec := { name := "noticeReads", fn := fun _ => fun
  | [d] => { results := [.lit (.bool false)], args := [d] }
  | _ => none }
def NoticeReadsWrongFalsely : Prop := noticeReadsRow.holds Try.pinned (OpenSpec.ofChange noticeReadsWrong)

/-- 'caucuslaw08.NoticeUnlike': WHATEVER THE INPUT: true; the input reads as it did. -/
def noticeUnlikeSpec : ChangeSpec := { name := "noticeUnlike", fn := fun _ => fun
  | [d1, d2] => { results := [.lit (.bool true)], args := [d1, d2] }
  | _ => none }
def noticeUnlikeRow : OpenClaim := { program := "ytgpmcpinnaggmaa", sum := "843276bf338913e1dabcf0b82fc80ec37c9b201b68f456b574e31999b88d7810", func := "caucus/caucuslaw08.NoticeUnlike", spec := "noticeUnlike", unfollowed := true, recurses := true, plainKeys := false, apart := false }
def NoticeUnlikeSaid : Prop := noticeUnlikeRow.holds Try.pinned (OpenSpec.ofChange noticeUnlikeSpec)

/-- ITS FALSE NEIGHBOUR: 'it returns false'. Refute it at one input. -/
def noticeUnlikeWrong : ChangeSpec := { name := "noticeUnlike", fn := fun _ => fun
  | [d1, d2] => { results := [.lit (.bool false)], args := [d1, d2] }
  | _ => none }
def NoticeUnlikeWrongFalsely : Prop := noticeUnlikeRow.holds Try.pinned (OpenSpec.ofChange noticeUnlikeWrong)

/-- 'caucuslaw09.ProposalViews': WHATEVER THE INPUT: true; the input reads as it did. -/
def proposalViewsSpec : ChangeSpec := { name := "proposalViews", fn := fun _ => fun
  | [d] => { results := [.lit (.bool true)], args := [d] }
  | _ => none }
def proposalViewsRow : OpenClaim := { program := "ytgpmcpinnaggmaa", sum := "843276bf338913e1dabcf0b82fc80ec37c9b201b68f456b574e31999b88d7810", func := "caucus/caucuslaw09.ProposalViews", spec := "proposalViews", unfollowed := true, recurses := true, plainKeys := false, apart := false }
def ProposalViewsSaid : Prop := proposalViewsRow.holds Try.pinned (OpenSpec.ofChange proposalViewsSpec)

/-- ITS FALSE NEIGHBOUR: 'it returns false'. Refute it at one input. -/
def proposalViewsWrong : ChangeSpec := { name := "proposalViews", fn := fun _ => fun
  | [d] => { results := [.lit (.bool false)], args := [d] }
  | _ => none }
def ProposalViewsWrongFalsely : Prop := proposalViewsRow.holds Try.pinned (OpenSpec.ofChange proposalViewsWrong)

/-- 'caucuslaw09.ProposalOne': WHATEVER THE INPUT: true; the input reads as it did. -/
def proposalOneSpec : ChangeSpec := { name := "proposalOne", fn := fun _ => fun
  | [d] => { results := [.lit (.bool true)], args := [d] }
  | _ => none }
def proposalOneRow : OpenClaim := { program := "ytgpmcpinnaggmaa", sum := "843276bf338913e1dabcf0b82fc80ec37c9b201b68f456b574e31999b88d7810", func := "caucus/caucuslaw09.ProposalOne", spec := "proposalOne", unfollowed := true, recurses := true, plainKeys := false, apart := false }
def ProposalOneSaid : Prop := proposalOneRow.holds Try.pinned (OpenSpec.ofChange proposalOneSpec)

/-- ITS FALSE NEIGHBOUR: 'it returns false'. Refute it at one input. -/
def proposalOneWrong : ChangeSpec := { name := "proposalOne", fn := fun _ => fun
  | [d] => { results := [.lit (.bool false)], args := [d] }
  | _ => none }
def ProposalOneWrongFalsely : Prop := proposalOneRow.holds Try.pinned (OpenSpec.ofChange proposalOneWrong)

/-- 'caucuslaw09.ProposalMay': WHATEVER THE INPUT: true; the input reads as it did. -/
def proposalMaySpec : ChangeSpec := { name := "proposalMay", fn := fun _ => fun
  | [d1, d2] => { results := [.lit (.bool true)], args := [d1, d2] }
  | _ => none }
def proposalMayRow : OpenClaim := { program := "ytgpmcpinnaggmaa", sum := "843276bf338913e1dabcf0b82fc80ec37c9b201b68f456b574e31999b88d7810", func := "caucus/caucuslaw09.ProposalMay", spec := "proposalMay", unfollowed := true, recurses := true, plainKeys := false, apart := false }
def ProposalMaySaid : Prop := proposalMayRow.holds Try.pinned (OpenSpec.ofChange proposalMaySpec)

/-- ITS FALSE NEIGHBOUR: 'it returns false'. Refute it at one input. -/
def proposalMayWrong : ChangeSpec := { name := "proposalMay", fn := fun _ => fun
  | [d1, d2] => { results := [.lit (.bool false)], args := [d1, d2] }
  | _ => none }
def ProposalMayWrongFalsely : Prop := proposalMayRow.holds Try.pinned (OpenSpec.ofChange proposalMayWrong)

/-- 'caucuslaw09.ProposalUnlike': WHATEVER THE INPUT: true; the input reads as it did. -/
def proposalUnlikeSpec : ChangeSpec := { name := "proposalUnlike", fn := fun _ => fun
  | [d1, d2] => { results := [.lit (.bool true)], args := [d1, d2] }
  | _ => none }
def proposalUnlikeRow : OpenClaim := { program := "ytgpmcpinnaggmaa", sum := "843276bf338913e1dabcf0b82fc80ec37c9b201b68f456b574e31999b88d7810", func := "caucus/caucuslaw09.ProposalUnlike", spec := "proposalUnlike", unfollowed := true, recurses := true, plainKeys := false, apart := false }
def ProposalUnlikeSaid : Prop := proposalUnlikeRow.holds Try.pinned (OpenSpec.ofChange proposalUnlikeSpec)

/-- ITS FALSE NEIGHBOUR: 'it returns false'. Refute it at one input. -/
def proposalUnlikeWrong : ChangeSpec := { name := "proposalUnlike", fn := fun _ => fun
  | [d1, d2] => { results := [.lit (.bool false)], args := [d1, d2] }
  | _ => none }
def ProposalUnlikeWrongFalsely : Prop := proposalUnlikeRow.holds Try.pinned (OpenSpec.ofChange proposalUnlikeWrong)

/-- 'caucuslaw09.ProposalTurns': WHATEVER THE INPUT: true; the input reads as it did. -/
def proposalTurnsSpec : ChangeSpec := { name := "proposalTurns", fn := fun _ => fun
  | [d1, d2] => { results := [.lit (.bool true)], args := [d1, d2] }
  | _ => none }
def proposalTurnsRow : OpenClaim := { program := "ytgpmcpinnaggmaa", sum := "843276bf338913e1dabcf0b82fc80ec37c9b201b68f456b574e31999b88d7810", func := "caucus/caucuslaw09.ProposalTurns", spec := "proposalTurns", unfollowed := true, recurses := true, plainKeys := false, apart := false }
def ProposalTurnsSaid : Prop := proposalTurnsRow.holds Try.pinned (OpenSpec.ofChange proposalTurnsSpec)

/-- ITS FALSE NEIGHBOUR: 'it returns false'. Refute it at one input. -/
def proposalTurnsWrong : ChangeSpec := { name := "proposalTurns", fn := fun _ => fun
  | [d1, d2] => { results := [.lit (.bool false)], args := [d1, d2] }
  | _ => none }
def ProposalTurnsWrongFalsely : Prop := proposalTurnsRow.holds Try.pinned (OpenSpec.ofChange proposalTurnsWrong)

/-- 'caucuslaw09.ProposalBack': WHATEVER THE INPUT: true; the input reads as it did. -/
def proposalBackSpec : ChangeSpec := { name := "proposalBack", fn := fun _ => fun
  | [d1, d2] => { results := [.lit (.bool true)], args := [d1, d2] }
  | _ => none }
def proposalBackRow : OpenClaim := { program := "ytgpmcpinnaggmaa", sum := "843276bf338913e1dabcf0b82fc80ec37c9b201b68f456b574e31999b88d7810", func := "caucus/caucuslaw09.ProposalBack", spec := "proposalBack", unfollowed := true, recurses := true, plainKeys := false, apart := false }
def ProposalBackSaid : Prop := proposalBackRow.holds Try.pinned (OpenSpec.ofChange proposalBackSpec)

/-- ITS FALSE NEIGHBOUR: 'it returns false'. Refute it at one input. -/
def proposalBackWrong : ChangeSpec := { name := "proposalBack", fn := fun _ => fun
  | [d1, d2] => { results := [.lit (.bool false)], args := [d1, d2] }
  | _ => none }
def ProposalBackWrongFalsely : Prop := proposalBackRow.holds Try.pinned (OpenSpec.ofChange proposalBackWrong)

/-- 'caucuslaw09.ProposalEnds': WHATEVER THE INPUT: true; the input reads as it did. -/
def proposalEndsSpec : ChangeSpec := { name := "proposalEnds", fn := fun _ => fun
  | [d1, d2, d3] => { results := [.lit (.bool true)], args := [d1, d2, d3] }
  | _ => none }
def proposalEndsRow : OpenClaim := { program := "ytgpmcpinnaggmaa", sum := "843276bf338913e1dabcf0b82fc80ec37c9b201b68f456b574e31999b88d7810", func := "caucus/caucuslaw09.ProposalEnds", spec := "proposalEnds", unfollowed := true, recurses := true, plainKeys := false, apart := false }
def ProposalEndsSaid : Prop := proposalEndsRow.holds Try.pinned (OpenSpec.ofChange proposalEndsSpec)

/-- ITS FALSE NEIGHBOUR: 'it returns false'. Refute it at one input. -/
def proposalEndsWrong : ChangeSpec := { name := "proposalEnds", fn := fun _ => fun
  | [d1, d2, d3] => { results := [.lit (.bool false)], args := [d1, d2, d3] }
  | _ => none }
def ProposalEndsWrongFalsely : Prop := proposalEndsRow.holds Try.pinned (OpenSpec.ofChange proposalEndsWrong)

/- THE SECOND FORM. 'bulk': how many values and letters a reading holds, each counted each time it is reached (what is shared counts as often as it is met; a slice's spare places count too). A statement '..UptoSaid' is the law's where the arguments, and the package variables that the reading takes, are together of bulk at most 1048576: NARROWER than '..Said'. Prove '..Said' where nothing that the law and all that it calls make is longer than what came in: it says more and counts as full. Else prove '..UptoSaid'. A law counts once. -/
mutual
def uptoBulk {H : Type} : DataW H → Nat
  | .lit (.string bytes) => bytes.length + 1
  | .lit _ => 1
  | .nil => 1
  | .ptr d => uptoBulk d + 1
  | .slice elems spare => uptoBulkAll elems + uptoBulkAll spare + 1
  | .agg parts => uptoBulkAll parts + 1
  | .iface _ d => uptoBulk d + 1
  | .map entries => uptoBulkEntries entries + 1
  | .held _ => 1
def uptoBulkAll {H : Type} : List (DataW H) → Nat
  | [] => 0
  | d :: r => uptoBulk d + uptoBulkAll r
def uptoBulkEntries {H : Type} : List (Lit × DataW H) → Nat
  | [] => 0
  | x :: r => uptoBulkEntry x + uptoBulkEntries r
def uptoBulkEntry {H : Type} : Lit × DataW H → Nat
  | (.string bytes, d) => bytes.length + uptoBulk d + 1
  | (_, d) => uptoBulk d + 1
 end
def uptoSmall : (H : Type) → List (DataW H) → Bool := fun _ ds => decide (uptoBulkAll ds ≤ 1048576)
def OpenSpec.upto (s : _root_.Go.ChangeSpec) : _root_.Go.OpenSpec := { _root_.Go.OpenSpec.ofChange s with cond := some uptoSmall }

/-- 'caucuslaw08.NoticeReads', WHERE WHAT IT READS IS OF BULK AT MOST 1048576: true; the input reads as it did. -/
def noticeReadsUptoRow : OpenClaim := { program := "ytgpmcpinnaggmaa", sum := "843276bf338913e1dabcf0b82fc80ec37c9b201b68f456b574e31999b88d7810", func := "caucus/caucuslaw08.NoticeReads", spec := "noticeReads", unfollowed := true, recurses := true, plainKeys := false, apart := false, narrowed := true }
def NoticeReadsUptoSaid : Prop := noticeReadsUptoRow.holds Try.pinned (OpenSpec.upto noticeReadsSpec)

/-- 'caucuslaw08.NoticeUnlike', WHERE WHAT IT READS IS OF BULK AT MOST 1048576: true; the input reads as it did. -/
def noticeUnlikeUptoRow : OpenClaim := { program := "ytgpmcpinnaggmaa", sum := "843276bf338913e1dabcf0b82fc80ec37c9b201b68f456b574e31999b88d7810", func := "caucus/caucuslaw08.NoticeUnlike", spec := "noticeUnlike", unfollowed := true, recurses := true, plainKeys := false, apart := false, narrowed := true }
def NoticeUnlikeUptoSaid : Prop := noticeUnlikeUptoRow.holds Try.pinned (OpenSpec.upto noticeUnlikeSpec)

/-- 'caucuslaw09.ProposalViews', WHERE WHAT IT READS IS OF BULK AT MOST 1048576: true; the input reads as it did. -/
def proposalViewsUptoRow : OpenClaim := { program := "ytgpmcpinnaggmaa", sum := "843276bf338913e1dabcf0b82fc80ec37c9b201b68f456b574e31999b88d7810", func := "caucus/caucuslaw09.ProposalViews", spec := "proposalViews", unfollowed := true, recurses := true, plainKeys := false, apart := false, narrowed := true }
def ProposalViewsUptoSaid : Prop := proposalViewsUptoRow.holds Try.pinned (OpenSpec.upto proposalViewsSpec)

/-- 'caucuslaw09.ProposalOne', WHERE WHAT IT READS IS OF BULK AT MOST 1048576: true; the input reads as it did. -/
def proposalOneUptoRow : OpenClaim := { program := "ytgpmcpinnaggmaa", sum := "843276bf338913e1dabcf0b82fc80ec37c9b201b68f456b574e31999b88d7810", func := "caucus/caucuslaw09.ProposalOne", spec := "proposalOne", unfollowed := true, recurses := true, plainKeys := false, apart := false, narrowed := true }
def ProposalOneUptoSaid : Prop := proposalOneUptoRow.holds Try.pinned (OpenSpec.upto proposalOneSpec)

/-- 'caucuslaw09.ProposalMay', WHERE WHAT IT READS IS OF BULK AT MOST 1048576: true; the input reads as it did. -/
def proposalMayUptoRow : OpenClaim := { program := "ytgpmcpinnaggmaa", sum := "843276bf338913e1dabcf0b82fc80ec37c9b201b68f456b574e31999b88d7810", func := "caucus/caucuslaw09.ProposalMay", spec := "proposalMay", unfollowed := true, recurses := true, plainKeys := false, apart := false, narrowed := true }
def ProposalMayUptoSaid : Prop := proposalMayUptoRow.holds Try.pinned (OpenSpec.upto proposalMaySpec)

/-- 'caucuslaw09.ProposalUnlike', WHERE WHAT IT READS IS OF BULK AT MOST 1048576: true; the input reads as it did. -/
def proposalUnlikeUptoRow : OpenClaim := { program := "ytgpmcpinnaggmaa", sum := "843276bf338913e1dabcf0b82fc80ec37c9b201b68f456b574e31999b88d7810", func := "caucus/caucuslaw09.ProposalUnlike", spec := "proposalUnlike", unfollowed := true, recurses := true, plainKeys := false, apart := false, narrowed := true }
def ProposalUnlikeUptoSaid : Prop := proposalUnlikeUptoRow.holds Try.pinned (OpenSpec.upto proposalUnlikeSpec)

/-- 'caucuslaw09.ProposalTurns', WHERE WHAT IT READS IS OF BULK AT MOST 1048576: true; the input reads as it did. -/
def proposalTurnsUptoRow : OpenClaim := { program := "ytgpmcpinnaggmaa", sum := "843276bf338913e1dabcf0b82fc80ec37c9b201b68f456b574e31999b88d7810", func := "caucus/caucuslaw09.ProposalTurns", spec := "proposalTurns", unfollowed := true, recurses := true, plainKeys := false, apart := false, narrowed := true }
def ProposalTurnsUptoSaid : Prop := proposalTurnsUptoRow.holds Try.pinned (OpenSpec.upto proposalTurnsSpec)

/-- 'caucuslaw09.ProposalBack', WHERE WHAT IT READS IS OF BULK AT MOST 1048576: true; the input reads as it did. -/
def proposalBackUptoRow : OpenClaim := { program := "ytgpmcpinnaggmaa", sum := "843276bf338913e1dabcf0b82fc80ec37c9b201b68f456b574e31999b88d7810", func := "caucus/caucuslaw09.ProposalBack", spec := "proposalBack", unfollowed := true, recurses := true, plainKeys := false, apart := false, narrowed := true }
def ProposalBackUptoSaid : Prop := proposalBackUptoRow.holds Try.pinned (OpenSpec.upto proposalBackSpec)

/-- 'caucuslaw09.ProposalEnds', WHERE WHAT IT READS IS OF BULK AT MOST 1048576: true; the input reads as it did. -/
def proposalEndsUptoRow : OpenClaim := { program := "ytgpmcpinnaggmaa", sum := "843276bf338913e1dabcf0b82fc80ec37c9b201b68f456b574e31999b88d7810", func := "caucus/caucuslaw09.ProposalEnds", spec := "proposalEnds", unfollowed := true, recurses := true, plainKeys := false, apart := false, narrowed := true }
def ProposalEndsUptoSaid : Prop := proposalEndsUptoRow.holds Try.pinned (OpenSpec.upto proposalEndsSpec)

end Rows
end Go.Proofs.Ytgpmcpinnaggmaa
