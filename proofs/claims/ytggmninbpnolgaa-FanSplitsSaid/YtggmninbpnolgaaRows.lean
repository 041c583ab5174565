/-
  No cell of these rows narrows 'for every input' (looked for: loops, veiled, ifaces, maps, wideKeys, modest, calm, conditions, laid).
  DERIVED. THE GIVEN ROWS OF THIS SEAT. 9 by the template 'for every input the law returns true; each argument reads behind the call as it read before'; 0 by the template 'total and deterministic' (their statements: YtggmninbpnolgaaTotals.lean).
  GIVEN WITH THE SEED: the statements are not yours to turn. If you find one false, say at which input.
  Laid BY PROGRAM, IN A SANDBOX (cutbox-rows.mjs): the forced cells as the released guide's own fill.sh prints them over the translation a19f5831aeafa227… (all of the seat's roots in one cut). By AI agents, Wed Nov 11 2026. No macro, syntax, notation, axiom, sorry.
-/
import Derived.Test.YtggmninbpnolgaaChecked
import GoSem.Claim
import GoSem.ClaimJoined
import GoSem.ClaimMapViews
import Derived.JoinedTies
import Derived.KernelRfl
namespace Go.Proofs.Ytggmninbpnolgaa
/- THE CELL 'sum', in the pinned program and in every row, IS THE sha256 OF THE DUMP (.gsa) THAT YtggmninbpnolgaaProg.lean LOADS. Nothing in Lean hashes anything: it is a label: what it is worth is what the hold of that sum in a sandbox is worth. -/
noncomputable def Try.pinned : Pinned := { name := "ytggmninbpnolgaa", sum := "a19f5831aeafa227f8036ba97fb82c9b88fae0fd5e5c072149e61efd998823b6", checked := Try.checked }
namespace Rows
def none {H : Type} : Left H := { results := [], args := [] }

/-- 'caucuslaw14.FanSplits': WHATEVER THE INPUT: true; the input reads as it did. -/
def fanSplitsSpec : ChangeSpec := { name := "fanSplits", fn := fun _ => fun
  | [d1, d2] => { results := [.lit (.bool true)], args := [d1, d2] }
  | _ => none }
def fanSplitsRow : OpenClaim := { program := "ytggmninbpnolgaa", sum := "a19f5831aeafa227f8036ba97fb82c9b88fae0fd5e5c072149e61efd998823b6", func := "caucus/caucuslaw14.FanSplits", spec := "fanSplits", unfollowed := true, recurses := true, apart := false }
def FanSplitsSaid : Prop := fanSplitsRow.holds Try.pinned (OpenSpec.ofChange fanSplitsSpec)

/-- ITS FALSE NEIGHBOUR: 'it returns false'. Refute it at one input. -/
def fanSplitsWrong : ChangeSpec := { name := "fanSplits", fn := fun _ => fun
  | [d1, d2] => { results := [.lit (.bool false)], args := [d1, d2] }
  | _ => none }
def FanSplitsWrongFalsely : Prop := fanSplitsRow.holds Try.pinned (OpenSpec.ofChange fanSplitsWrong)

/-- 'caucuslaw14.FanBares': WHATEVER THE INPUT: true; the input reads as it did. -/
def fanBaresSpec : ChangeSpec := { name := "fanBares", fn := fun _ => fun
  | [d] => { results := [.lit (.bool true)], args := [d] }
  | _ => none }
def fanBaresRow : OpenClaim := { program := "ytggmninbpnolgaa", sum := "a19f5831aeafa227f8036ba97fb82c9b88fae0fd5e5c072149e61efd998823b6", func := "caucus/caucuslaw14.FanBares", spec := "fanBares", unfollowed := true, recurses := true, apart := false }
def FanBaresSaid : Prop := fanBaresRow.holds Try.pinned (OpenSpec.ofChange fanBaresSpec)

/-- ITS FALSE NEIGHBOUR: 'it returns false'. Refute it at one input. -/
def fanBaresWrong : ChangeSpec := { name := "fanBares", fn := fun _ => fun
  | [d] => { results := [.lit (.bool false)], args := [d] }
  | _ => none }
def FanBaresWrongFalsely : Prop := fanBaresRow.holds Try.pinned (OpenSpec.ofChange fanBaresWrong)

/-- 'caucuslaw14.FanNone': WHATEVER THE INPUT: true; the input reads as it did. -/
def fanNoneSpec : ChangeSpec := { name := "fanNone", fn := fun _ => fun
  | [d1, d2] => { results := [.lit (.bool true)], args := [d1, d2] }
  | _ => none }
def fanNoneRow : OpenClaim := { program := "ytggmninbpnolgaa", sum := "a19f5831aeafa227f8036ba97fb82c9b88fae0fd5e5c072149e61efd998823b6", func := "caucus/caucuslaw14.FanNone", spec := "fanNone", unfollowed := true, recurses := true, apart := false }
def FanNoneSaid : Prop := fanNoneRow.holds Try.pinned (OpenSpec.ofChange fanNoneSpec)

/-- ITS FALSE NEIGHBOUR: 'it returns false'. Refute it at one input. -/
def fanNoneWrong : ChangeSpec := { name := "fanNone", fn := fun _ => fun
  | [d1, d2] => { results := [.lit (.bool false)], args := [d1, d2] }
  | _ => none }
def FanNoneWrongFalsely : Prop := fanNoneRow.holds Try.pinned (OpenSpec.ofChange fanNoneWrong)

/-- 'caucuslaw21.CutKeeps': WHATEVER THE INPUT: true; the input reads as it did. -/
def cutKeepsSpec : ChangeSpec := { name := "cutKeeps", fn := fun _ => fun
  | [d1, d2, d3, d4] => { results := [.lit (.bool true)], args := [d1, d2, d3, d4] }
  | _ => none }
def cutKeepsRow : OpenClaim := { program := "ytggmninbpnolgaa", sum := "a19f5831aeafa227f8036ba97fb82c9b88fae0fd5e5c072149e61efd998823b6", func := "caucus/caucuslaw21.CutKeeps", spec := "cutKeeps", unfollowed := true, recurses := true, apart := false }
def CutKeepsSaid : Prop := cutKeepsRow.holds Try.pinned (OpenSpec.ofChange cutKeepsSpec)

/-- ITS FALSE NEIGHBOUR: 'it returns false'. Refute it at one input. -/
def cutKeepsWrong : ChangeSpec := { name := "cutKeeps", fn := fun _ => fun
  | [d1, d2, d3, d4] => { results := [.lit (.bool false)], args := [d1, d2, d3, d4] }
  | _ => none }
def CutKeepsWrongFalsely : Prop := cutKeepsRow.holds Try.pinned (OpenSpec.ofChange cutKeepsWrong)

/-- 'caucuslaw06.PacketMay': WHATEVER THE INPUT: true; the input reads as it did. -/
def packetMaySpec : ChangeSpec := { name := "packetMay", fn := fun _ => fun
  | [d] => { results := [.lit (.bool true)], args := [d] }
  | _ => none }
def packetMayRow : OpenClaim := { program := "ytggmninbpnolgaa", sum := "a19f5831aeafa227f8036ba97fb82c9b88fae0fd5e5c072149e61efd998823b6", func := "caucus/caucuslaw06.PacketMay", spec := "packetMay", unfollowed := true, recurses := true, apart := false }
def PacketMaySaid : Prop := packetMayRow.holds Try.pinned (OpenSpec.ofChange packetMaySpec)

/-- ITS FALSE NEIGHBOUR: 'it returns false'. Refute it at one input. -/
def packetMayWrong : ChangeSpec := { name := "packetMay", fn := fun _ => fun
  | [d] => { results := [.lit (.bool false)], args := [d] }
  | _ => none }
def PacketMayWrongFalsely : Prop := packetMayRow.holds Try.pinned (OpenSpec.ofChange packetMayWrong)

/-- 'caucuslaw06.PacketBack': WHATEVER THE INPUT: true; the input reads as it did. -/
def packetBackSpec : ChangeSpec := { name := "packetBack", fn := fun _ => fun
  | [d] => { results := [.lit (.bool true)], args := [d] }
  | _ => none }
def packetBackRow : OpenClaim := { program := "ytggmninbpnolgaa", sum := "a19f5831aeafa227f8036ba97fb82c9b88fae0fd5e5c072149e61efd998823b6", func := "caucus/caucuslaw06.PacketBack", spec := "packetBack", unfollowed := true, recurses := true, apart := false }
def PacketBackSaid : Prop := packetBackRow.holds Try.pinned (OpenSpec.ofChange packetBackSpec)

/-- ITS FALSE NEIGHBOUR: 'it returns false'. Refute it at one input. -/
def packetBackWrong : ChangeSpec := { name := "packetBack", fn := fun _ => fun
  | [d] => { results := [.lit (.bool false)], args := [d] }
  | _ => none }
def PacketBackWrongFalsely : Prop := packetBackRow.holds Try.pinned (OpenSpec.ofChange packetBackWrong)

/-- 'caucuslaw06.PacketOneForm': WHATEVER THE INPUT: true; the input reads as it did. -/
def packetOneFormSpec : ChangeSpec := { name := "packetOneForm", fn := fun _ => fun
  | [d] => { results := [.lit (.bool true)], args := [d] }
  | _ => none }
def packetOneFormRow : OpenClaim := { program := "ytggmninbpnolgaa", sum := "a19f5831aeafa227f8036ba97fb82c9b88fae0fd5e5c072149e61efd998823b6", func := "caucus/caucuslaw06.PacketOneForm", spec := "packetOneForm", unfollowed := true, recurses := true, apart := false }
def PacketOneFormSaid : Prop := packetOneFormRow.holds Try.pinned (OpenSpec.ofChange packetOneFormSpec)

/-- ITS FALSE NEIGHBOUR: 'it returns false'. Refute it at one input. -/
def packetOneFormWrong : ChangeSpec := { name := "packetOneForm", fn := fun _ => fun
  | [d] => { results := [.lit (.bool false)], args := [d] }
  | _ => none }
def PacketOneFormWrongFalsely : Prop := packetOneFormRow.holds Try.pinned (OpenSpec.ofChange packetOneFormWrong)

/-- 'caucuslaw06.PacketApart': WHATEVER THE INPUT: true; the input reads as it did. -/
def packetApartSpec : ChangeSpec := { name := "packetApart", fn := fun _ => fun
  | [d1, d2] => { results := [.lit (.bool true)], args := [d1, d2] }
  | _ => none }
def packetApartRow : OpenClaim := { program := "ytggmninbpnolgaa", sum := "a19f5831aeafa227f8036ba97fb82c9b88fae0fd5e5c072149e61efd998823b6", func := "caucus/caucuslaw06.PacketApart", spec := "packetApart", unfollowed := true, recurses := true, apart := false }
def PacketApartSaid : Prop := packetApartRow.holds Try.pinned (OpenSpec.ofChange packetApartSpec)

/-- ITS FALSE NEIGHBOUR: 'it returns false'. Refute it at one input. -/
def packetApartWrong : ChangeSpec := { name := "packetApart", fn := fun _ => fun
  | [d1, d2] => { results := [.lit (.bool false)], args := [d1, d2] }
  | _ => none }
def PacketApartWrongFalsely : Prop := packetApartRow.holds Try.pinned (OpenSpec.ofChange packetApartWrong)

/-- 'caucuslaw06.PacketEnds': WHATEVER THE INPUT: true; the input reads as it did. -/
def packetEndsSpec : ChangeSpec := { name := "packetEnds", fn := fun _ => fun
  | [d1, d2, d3] => { results := [.lit (.bool true)], args := [d1, d2, d3] }
  | _ => none }
def packetEndsRow : OpenClaim := { program := "ytggmninbpnolgaa", sum := "a19f5831aeafa227f8036ba97fb82c9b88fae0fd5e5c072149e61efd998823b6", func := "caucus/caucuslaw06.PacketEnds", spec := "packetEnds", unfollowed := true, recurses := true, apart := false }
def PacketEndsSaid : Prop := packetEndsRow.holds Try.pinned (OpenSpec.ofChange packetEndsSpec)

/-- ITS FALSE NEIGHBOUR: 'it returns false'. Refute it at one input. -/
def packetEndsWrong : ChangeSpec := { name := "packetEnds", fn := fun _ => fun
  | [d1, d2, d3] => { results := [.lit (.bool false)], args := [d1, d2, d3] }
  | _ => none }
def PacketEndsWrongFalsely : Prop := packetEndsRow.holds Try.pinned (OpenSpec.ofChange packetEndsWrong)

/- THE SECOND FORM. 'bulk': how many values and letters a reading holds, each counted each time it is reached (what is shared counts as often as it is met; a slice's spare places count too). A statement '..UptoSaid' is the law's where the arguments, and the package variables that the reading takes, are together of bulk at most 1048576: NARROWER than '..Said'. Prove '..Said' where nothing that the law and all that it calls make is longer than what came in: it says more and counts as full. Else prove '..UptoSaid'. A law counts once. -/
mutual
def uptoBulk {H : Type} : DataW H → Nat
  | .lit (.string bytes) => bytes.length + 1
  | .lit _ => 1
  | .nil => 1
  | .ptr d => uptoBulk d + 1
  | .slice elems spare => uptoBulkAll elems + uptoBulkAll spare + 1
  | .agg parts => uptoBulkAll parts + 1
  | .iface _ d => uptoBulk d + 1
  | .map entries => uptoBulkEntries entries + 1
  | .held _ => 1
def uptoBulkAll {H : Type} : List (DataW H) → Nat
  | [] => 0
  | d :: r => uptoBulk d + uptoBulkAll r
def uptoBulkEntries {H : Type} : List (Lit × DataW H) → Nat
  | [] => 0
  | x :: r => uptoBulkEntry x + uptoBulkEntries r
def uptoBulkEntry {H : Type} : Lit × DataW H → Nat
  | (.string bytes, d) => bytes.length + uptoBulk d + 1
  | (_, d) => uptoBulk d + 1
 end
def uptoSmall : (H : Type) → List (DataW H) → Bool := fun _ ds => decide (uptoBulkAll ds ≤ 1048576)
def OpenSpec.upto (s : _root_.Go.ChangeSpec) : _root_.Go.OpenSpec := { _root_.Go.OpenSpec.ofChange s with cond := some uptoSmall }

/-- 'caucuslaw14.FanSplits', WHERE WHAT IT READS IS OF BULK AT MOST 1048576: true; the input reads as it did. -/
def fanSplitsUptoRow : OpenClaim := { program := "ytggmninbpnolgaa", sum := "a19f5831aeafa227f8036ba97fb82c9b88fae0fd5e5c072149e61efd998823b6", func := "caucus/caucuslaw14.FanSplits", spec := "fanSplits", unfollowed := true, recurses := true, apart := false, narrowed := true }
def FanSplitsUptoSaid : Prop := fanSplitsUptoRow.holds Try.pinned (OpenSpec.upto fanSplitsSpec)

/-- 'caucuslaw14.FanBares', WHERE WHAT IT READS IS OF BULK AT MOST 1048576: true; the input reads as it did. -/
def fanBaresUptoRow : OpenClaim := { program := "ytggmninbpnolgaa", sum := "a19f5831aeafa227f8036ba97fb82c9b88fae0fd5e5c072149e61efd998823b6", func := "caucus/caucuslaw14.FanBares", spec := "fanBares", unfollowed := true, recurses := true, apart := false, narrowed := true }
def FanBaresUptoSaid : Prop := fanBaresUptoRow.holds Try.pinned (OpenSpec.upto fanBaresSpec)

/-- 'caucuslaw14.FanNone', WHERE WHAT IT READS IS OF BULK AT MOST 1048576: true; the input reads as it did. -/
def fanNoneUptoRow : OpenClaim := { program := "ytggmninbpnolgaa", sum := "a19f5831aeafa227f8036ba97fb82c9b88fae0fd5e5c072149e61efd998823b6", func := "caucus/caucuslaw14.FanNone", spec := "fanNone", unfollowed := true, recurses := true, apart := false, narrowed := true }
def FanNoneUptoSaid : Prop := fanNoneUptoRow.holds Try.pinned (OpenSpec.upto fanNoneSpec)

/-- 'caucuslaw21.CutKeeps', WHERE WHAT IT READS IS OF BULK AT MOST 1048576: true; the input reads as it did. -/
def cutKeepsUptoRow : OpenClaim := { program := "ytggmninbpnolgaa", sum := "a19f5831aeafa227f8036ba97fb82c9b88fae0fd5e5c072149e61efd998823b6", func := "caucus/caucuslaw21.CutKeeps", spec := "cutKeeps", unfollowed := true, recurses := true, apart := false, narrowed := true }
def CutKeepsUptoSaid : Prop := cutKeepsUptoRow.holds Try.pinned (OpenSpec.upto cutKeepsSpec)

/-- 'caucuslaw06.PacketMay', WHERE WHAT IT READS IS OF BULK AT MOST 1048576: true; the input reads as it did. -/
def packetMayUptoRow : OpenClaim := { program := "ytggmninbpnolgaa", sum := "a19f5831aeafa227f8036ba97fb82c9b88fae0fd5e5c072149e61efd998823b6", func := "caucus/caucuslaw06.PacketMay", spec := "packetMay", unfollowed := true, recurses := true, apart := false, narrowed := true }
def PacketMayUptoSaid : Prop := packetMayUptoRow.holds Try.pinned (OpenSpec.upto packetMaySpec)

/-- 'caucuslaw06.PacketBack', WHERE WHAT IT READS IS OF BULK AT MOST 1048576: true; the input reads as it did. -/
def packetBackUptoRow : OpenClaim := { program := "ytggmninbpnolgaa", sum := "a19f5831aeafa227f8036ba97fb82c9b88fae0fd5e5c072149e61efd998823b6", func := "caucus/caucuslaw06.PacketBack", spec := "packetBack", unfollowed := true, recurses := true, apart := false, narrowed := true }
def PacketBackUptoSaid : Prop := packetBackUptoRow.holds Try.pinned (OpenSpec.upto packetBackSpec)

/-- 'caucuslaw06.PacketOneForm', WHERE WHAT IT READS IS OF BULK AT MOST 1048576: true; the input reads as it did. -/
def packetOneFormUptoRow : OpenClaim := { program := "ytggmninbpnolgaa", sum := "a19f5831aeafa227f8036ba97fb82c9b88fae0fd5e5c072149e61efd998823b6", func := "caucus/caucuslaw06.PacketOneForm", spec := "packetOneForm", unfollowed := true, recurses := true, apart := false, narrowed := true }
def PacketOneFormUptoSaid : Prop := packetOneFormUptoRow.holds Try.pinned (OpenSpec.upto packetOneFormSpec)

/-- 'caucuslaw06.PacketApart', WHERE WHAT IT READS IS OF BULK AT MOST 1048576: true; the input reads as it did. -/
def packetApartUptoRow : OpenClaim := { program := "ytggmninbpnolgaa", sum := "a19f5831aeafa227f8036ba97fb82c9b88fae0fd5e5c072149e61efd998823b6", func := "caucus/caucuslaw06.PacketApart", spec := "packetApart", unfollowed := true, recurses := true, apart := false, narrowed := true }
def PacketApartUptoSaid : Prop := packetApartUptoRow.holds Try.pinned (OpenSpec.upto packetApartSpec)

/-- 'caucuslaw06.PacketEnds', WHERE WHAT IT READS IS OF BULK AT MOST 1048576: true; the input reads as it did. -/
def packetEndsUptoRow : OpenClaim := { program := "ytggmninbpnolgaa", sum := "a19f5831aeafa227f8036ba97fb82c9b88fae0fd5e5c072149e61efd998823b6", func := "caucus/caucuslaw06.PacketEnds", spec := "packetEnds", unfollowed := true, recurses := true, apart := false, narrowed := true }
def PacketEndsUptoSaid : Prop := packetEndsUptoRow.holds Try.pinned (OpenSpec.upto packetEndsSpec)

end Rows
end Go.Proofs.Ytggmninbpnolgaa
