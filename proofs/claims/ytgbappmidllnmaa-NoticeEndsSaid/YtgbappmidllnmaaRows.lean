/-
  No cell of these rows narrows 'for every input' (looked for: loops, veiled, ifaces, maps, wideKeys, modest, calm, conditions, laid).
  DERIVED. THE GIVEN ROWS OF THIS SEAT. 11 by the template 'for every input the law returns true; each argument reads behind the call as it read before'; 0 by the template 'total and deterministic' (their statements: YtgbappmidllnmaaTotals.lean).
  GIVEN WITH THE SEED: the statements are not yours to turn. If you find one false, say at which input.
  Laid BY PROGRAM, IN A SANDBOX (cutbox-rows.mjs): the forced cells as the released guide's own fill.sh prints them over the translation 847f8e8ef770d918… (all of the seat's roots in one cut). By AI agents, Wed Nov 11 2026. No macro, syntax, notation, axiom, sorry.
-/
import Derived.Test.YtgbappmidllnmaaChecked
import GoSem.Claim
import GoSem.ClaimJoined
import GoSem.ClaimMapViews
import Derived.JoinedTies
import Derived.KernelRfl
namespace Go.Proofs.Ytgbappmidllnmaa
/- THE CELL 'sum', in the pinned program and in every row, IS THE sha256 OF THE DUMP (.gsa) THAT YtgbappmidllnmaaProg.lean LOADS. Nothing in Lean hashes anything: it is a label: what it is worth is what the hold of that sum in a sandbox is worth. -/
noncomputable def Try.pinned : Pinned := { name := "ytgbappmidllnmaa", sum := "847f8e8ef770d918c2082a5b225e8da87bbb4c9383a24f99d726d176a1a4d00d", checked := Try.checked }
namespace Rows
def none {H : Type} : Left H := { results := [], args := [] }

/-- 'caucuslaw04.ViewMay': WHATEVER THE INPUT: true; the input reads as it did. -/
def viewMaySpec : ChangeSpec := { name := "viewMay", fn := fun _ => fun
  | [d1, d2] => { results := [.lit (.bool true)], args := [d1, d2] }
  | _ => none }
def viewMayRow : OpenClaim := { program := "ytgbappmidllnmaa", sum := "847f8e8ef770d918c2082a5b225e8da87bbb4c9383a24f99d726d176a1a4d00d", func := "caucus/caucuslaw04.ViewMay", spec := "viewMay", unfollowed := true, recurses := true, apart := false }
def ViewMaySaid : Prop := viewMayRow.holds Try.pinned (OpenSpec.ofChange viewMaySpec)

/-- ITS FALSE NEIGHBOUR: 'it returns false'. Refute it at one input. -/
def viewMayWrong : ChangeSpec := { name := "viewMay", fn := fun _ => fun
  | [d1, d2] => { results := [.lit (.bool false)], args := [d1, d2] }
  | _ => none }
def ViewMayWrongFalsely : Prop := viewMayRow.holds Try.pinned (OpenSpec.ofChange viewMayWrong)

/-- 'caucuslaw04.ViewPlaces': WHATEVER THE INPUT: true; the input reads as it did. -/
def viewPlacesSpec : ChangeSpec := { name := "viewPlaces", fn := fun _ => fun
  | [d1, d2] => { results := [.lit (.bool true)], args := [d1, d2] }
  | _ => none }
def viewPlacesRow : OpenClaim := { program := "ytgbappmidllnmaa", sum := "847f8e8ef770d918c2082a5b225e8da87bbb4c9383a24f99d726d176a1a4d00d", func := "caucus/caucuslaw04.ViewPlaces", spec := "viewPlaces", unfollowed := true, recurses := true, apart := false }
def ViewPlacesSaid : Prop := viewPlacesRow.holds Try.pinned (OpenSpec.ofChange viewPlacesSpec)

/-- ITS FALSE NEIGHBOUR: 'it returns false'. Refute it at one input. -/
def viewPlacesWrong : ChangeSpec := { name := "viewPlaces", fn := fun _ => fun
  | [d1, d2] => { results := [.lit (.bool false)], args := [d1, d2] }
  | _ => none }
def ViewPlacesWrongFalsely : Prop := viewPlacesRow.holds Try.pinned (OpenSpec.ofChange viewPlacesWrong)

/-- 'caucuslaw04.ViewOrder': WHATEVER THE INPUT: true; the input reads as it did. -/
def viewOrderSpec : ChangeSpec := { name := "viewOrder", fn := fun _ => fun
  | [d1, d2, d3] => { results := [.lit (.bool true)], args := [d1, d2, d3] }
  | _ => none }
def viewOrderRow : OpenClaim := { program := "ytgbappmidllnmaa", sum := "847f8e8ef770d918c2082a5b225e8da87bbb4c9383a24f99d726d176a1a4d00d", func := "caucus/caucuslaw04.ViewOrder", spec := "viewOrder", unfollowed := true, recurses := true, apart := false }
def ViewOrderSaid : Prop := viewOrderRow.holds Try.pinned (OpenSpec.ofChange viewOrderSpec)

/-- ITS FALSE NEIGHBOUR: 'it returns false'. Refute it at one input. -/
def viewOrderWrong : ChangeSpec := { name := "viewOrder", fn := fun _ => fun
  | [d1, d2, d3] => { results := [.lit (.bool false)], args := [d1, d2, d3] }
  | _ => none }
def ViewOrderWrongFalsely : Prop := viewOrderRow.holds Try.pinned (OpenSpec.ofChange viewOrderWrong)

/-- 'caucuslaw04.ViewFirst': WHATEVER THE INPUT: true; the input reads as it did. -/
def viewFirstSpec : ChangeSpec := { name := "viewFirst", fn := fun _ => fun
  | [d1, d2] => { results := [.lit (.bool true)], args := [d1, d2] }
  | _ => none }
def viewFirstRow : OpenClaim := { program := "ytgbappmidllnmaa", sum := "847f8e8ef770d918c2082a5b225e8da87bbb4c9383a24f99d726d176a1a4d00d", func := "caucus/caucuslaw04.ViewFirst", spec := "viewFirst", unfollowed := true, recurses := true, apart := false }
def ViewFirstSaid : Prop := viewFirstRow.holds Try.pinned (OpenSpec.ofChange viewFirstSpec)

/-- ITS FALSE NEIGHBOUR: 'it returns false'. Refute it at one input. -/
def viewFirstWrong : ChangeSpec := { name := "viewFirst", fn := fun _ => fun
  | [d1, d2] => { results := [.lit (.bool false)], args := [d1, d2] }
  | _ => none }
def ViewFirstWrongFalsely : Prop := viewFirstRow.holds Try.pinned (OpenSpec.ofChange viewFirstWrong)

/-- 'caucuslaw03.ProcBack': WHATEVER THE INPUT: true; the input reads as it did. -/
def procBackSpec : ChangeSpec := { name := "procBack", fn := fun _ => fun
  | [d1, d2] => { results := [.lit (.bool true)], args := [d1, d2] }
  | _ => none }
def procBackRow : OpenClaim := { program := "ytgbappmidllnmaa", sum := "847f8e8ef770d918c2082a5b225e8da87bbb4c9383a24f99d726d176a1a4d00d", func := "caucus/caucuslaw03.ProcBack", spec := "procBack", unfollowed := true, recurses := true, apart := false }
def ProcBackSaid : Prop := procBackRow.holds Try.pinned (OpenSpec.ofChange procBackSpec)

/-- ITS FALSE NEIGHBOUR: 'it returns false'. Refute it at one input. -/
def procBackWrong : ChangeSpec := { name := "procBack", fn := fun _ => fun
  | [d1, d2] => { results := [.lit (.bool false)], args := [d1, d2] }
  | _ => none }
def ProcBackWrongFalsely : Prop := procBackRow.holds Try.pinned (OpenSpec.ofChange procBackWrong)

/-- 'caucuslaw04.ViewBack': WHATEVER THE INPUT: true; the input reads as it did. -/
def viewBackSpec : ChangeSpec := { name := "viewBack", fn := fun _ => fun
  | [d1, d2, d3] => { results := [.lit (.bool true)], args := [d1, d2, d3] }
  | _ => none }
def viewBackRow : OpenClaim := { program := "ytgbappmidllnmaa", sum := "847f8e8ef770d918c2082a5b225e8da87bbb4c9383a24f99d726d176a1a4d00d", func := "caucus/caucuslaw04.ViewBack", spec := "viewBack", unfollowed := true, recurses := true, apart := false }
def ViewBackSaid : Prop := viewBackRow.holds Try.pinned (OpenSpec.ofChange viewBackSpec)

/-- ITS FALSE NEIGHBOUR: 'it returns false'. Refute it at one input. -/
def viewBackWrong : ChangeSpec := { name := "viewBack", fn := fun _ => fun
  | [d1, d2, d3] => { results := [.lit (.bool false)], args := [d1, d2, d3] }
  | _ => none }
def ViewBackWrongFalsely : Prop := viewBackRow.holds Try.pinned (OpenSpec.ofChange viewBackWrong)

/-- 'caucuslaw08.NoticeMay': WHATEVER THE INPUT: true; the input reads as it did. -/
def noticeMaySpec : ChangeSpec := { name := "noticeMay", fn := fun _ => fun
  | [d1, d2] => { results := [.lit (.bool true)], args := [d1, d2] }
  | _ => none }
def noticeMayRow : OpenClaim := { program := "ytgbappmidllnmaa", sum := "847f8e8ef770d918c2082a5b225e8da87bbb4c9383a24f99d726d176a1a4d00d", func := "caucus/caucuslaw08.NoticeMay", spec := "noticeMay", unfollowed := true, recurses := true, apart := false }
def NoticeMaySaid : Prop := noticeMayRow.holds Try.pinned (OpenSpec.ofChange noticeMaySpec)

/-- ITS FALSE NEIGHBOUR: 'it returns false'. Refute it at one input. -/
def noticeMayWrong : ChangeSpec := { name := "noticeMay", fn := fun _ => fun
  | [d1, d2] => { results := [.lit (.bool false)], args := [d1, d2] }
  | _ => none }
def NoticeMayWrongFalsely : Prop := noticeMayRow.holds Try.pinned (OpenSpec.ofChange noticeMayWrong)

/-- 'caucuslaw08.NoticeReads': WHATEVER THE INPUT: true; the input reads as it did. -/
def noticeReadsSpec : ChangeSpec := { name := "noticeReads", fn := fun _ => fun
  | [d] => { results := [.lit (.bool true)], args := [d] }
  | _ => none }
def noticeReadsRow : OpenClaim := { program := "ytgbappmidllnmaa", sum := "847f8e8ef770d918c2082a5b225e8da87bbb4c9383a24f99d726d176a1a4d00d", func := "caucus/caucuslaw08.NoticeReads", spec := "noticeReads", unfollowed := true, recurses := true, apart := false }
def NoticeReadsSaid : Prop := noticeReadsRow.holds Try.pinned (OpenSpec.ofChange noticeReadsSpec)

/-- ITS FALSE NEIGHBOUR: 'it returns false'. Refute it at one input. -/
def noticeReadsWrong : ChangeSpec := { name := "noticeReads", fn := fun _ => fun
  | [d] => { results := [.lit (.bool false)], args := [d] }
  | _ => none }
def NoticeReadsWrongFalsely : Prop := noticeReadsRow.holds Try.pinned (OpenSpec.ofChange noticeReadsWrong)

/-- 'caucuslaw08.NoticeBack': WHATEVER THE INPUT: true; the input reads as it did. -/
def noticeBackSpec : ChangeSpec := { name := "noticeBack", fn := fun _ => fun
  | [d1, d2] => { results := [.lit (.bool true)], args := [d1, d2] }
  | _ => none }
def noticeBackRow : OpenClaim := { program := "ytgbappmidllnmaa", sum := "847f8e8ef770d918c2082a5b225e8da87bbb4c9383a24f99d726d176a1a4d00d", func := "caucus/caucuslaw08.NoticeBack", spec := "noticeBack", unfollowed := true, recurses := true, apart := false }
def NoticeBackSaid : Prop := noticeBackRow.holds Try.pinned (OpenSpec.ofChange noticeBackSpec)

/-- ITS FALSE NEIGHBOUR: 'it returns false'. Refute it at one input. -/
def noticeBackWrong : ChangeSpec := { name := "noticeBack", fn := fun _ => fun
  | [d1, d2] => { results := [.lit (.bool false)], args := [d1, d2] }
  | _ => none }
def NoticeBackWrongFalsely : Prop := noticeBackRow.holds Try.pinned (OpenSpec.ofChange noticeBackWrong)

/-- 'caucuslaw08.NoticeEnds': WHATEVER THE INPUT: true; the input reads as it did. -/
def noticeEndsSpec : ChangeSpec := { name := "noticeEnds", fn := fun _ => fun
  | [d1, d2, d3] => { results := [.lit (.bool true)], args := [d1, d2, d3] }
  | _ => none }
def noticeEndsRow : OpenClaim := { program := "ytgbappmidllnmaa", sum := "847f8e8ef770d918c2082a5b225e8da87bbb4c9383a24f99d726d176a1a4d00d", func := "caucus/caucuslaw08.NoticeEnds", spec := "noticeEnds", unfollowed := true, recurses := true, apart := false }
def NoticeEndsSaid : Prop := noticeEndsRow.holds Try.pinned (OpenSpec.ofChange noticeEndsSpec)

/-- ITS FALSE NEIGHBOUR: 'it returns false'. Refute it at one input. -/
def noticeEndsWrong : ChangeSpec := { name := "noticeEnds", fn := fun _ => fun
  | [d1, d2, d3] => { results := [.lit (.bool false)], args := [d1, d2, d3] }
  | _ => none }
def NoticeEndsWrongFalsely : Prop := noticeEndsRow.holds Try.pinned (OpenSpec.ofChange noticeEndsWrong)

/-- 'caucuslaw04.ViewCompares': WHATEVER THE INPUT: true; the input reads as it did. -/
def viewComparesSpec : ChangeSpec := { name := "viewCompares", fn := fun _ => fun
  | [d1, d2] => { results := [.lit (.bool true)], args := [d1, d2] }
  | _ => none }
def viewComparesRow : OpenClaim := { program := "ytgbappmidllnmaa", sum := "847f8e8ef770d918c2082a5b225e8da87bbb4c9383a24f99d726d176a1a4d00d", func := "caucus/caucuslaw04.ViewCompares", spec := "viewCompares", unfollowed := true, recurses := true, apart := false }
def ViewComparesSaid : Prop := viewComparesRow.holds Try.pinned (OpenSpec.ofChange viewComparesSpec)

/-- ITS FALSE NEIGHBOUR: 'it returns false'. Refute it at one input. -/
def viewComparesWrong : ChangeSpec := { name := "viewCompares", fn := fun _ => fun
  | [d1, d2] => { results := [.lit (.bool false)], args := [d1, d2] }
  | _ => none }
def ViewComparesWrongFalsely : Prop := viewComparesRow.holds Try.pinned (OpenSpec.ofChange viewComparesWrong)

/- THE SECOND FORM. 'bulk': how many values and letters a reading holds, each counted each time it is reached (what is shared counts as often as it is met; a slice's spare places count too). A statement '..UptoSaid' is the law's where the arguments, and the package variables that the reading takes, are together of bulk at most 1048576: NARROWER than '..Said'. Prove '..Said' where nothing that the law and all that it calls make is longer than what came in: it says more and counts as full. Else prove '..UptoSaid'. A law counts once. -/
mutual
def uptoBulk {H : Type} : DataW H → Nat
  | .lit (.string bytes) => bytes.length + 1
  | .lit _ => 1
  | .nil => 1
  | .ptr d => uptoBulk d + 1
  | .slice elems spare => uptoBulkAll elems + uptoBulkAll spare + 1
  | .agg parts => uptoBulkAll parts + 1
  | .iface _ d => uptoBulk d + 1
  | .map entries => uptoBulkEntries entries + 1
  | .held _ => 1
def uptoBulkAll {H : Type} : List (DataW H) → Nat
  | [] => 0
  | d :: r => uptoBulk d + uptoBulkAll r
def uptoBulkEntries {H : Type} : List (Lit × DataW H) → Nat
  | [] => 0
  | x :: r => uptoBulkEntry x + uptoBulkEntries r
def uptoBulkEntry {H : Type} : Lit × DataW H → Nat
  | (.string bytes, d) => bytes.length + uptoBulk d + 1
  | (_, d) => uptoBulk d + 1
 end
def uptoSmall : (H : Type) → List (DataW H) → Bool := fun _ ds => decide (uptoBulkAll ds ≤ 1048576)
def OpenSpec.upto (s : _root_.Go.ChangeSpec) : _root_.Go.OpenSpec := { _root_.Go.OpenSpec.ofChange s with cond := some uptoSmall }

/-- 'caucuslaw04.ViewMay', WHERE WHAT IT READS IS OF BULK AT MOST 1048576: true; the input reads as it did. -/
def viewMayUptoRow : OpenClaim := { program := "ytgbappmidllnmaa", sum := "847f8e8ef770d918c2082a5b225e8da87bbb4c9383a24f99d726d176a1a4d00d", func := "caucus/caucuslaw04.ViewMay", spec := "viewMay", unfollowed := true, recurses := true, apart := false, narrowed := true }
def ViewMayUptoSaid : Prop := viewMayUptoRow.holds Try.pinned (OpenSpec.upto viewMaySpec)

/-- 'caucuslaw04.ViewPlaces', WHERE WHAT IT READS IS OF BULK AT MOST 1048576: true; the input reads as it did. -/
def viewPlacesUptoRow : OpenClaim := { program := "ytgbappmidllnmaa", sum := "847f8e8ef770d918c2082a5b225e8da87bbb4c9383a24f99d726d176a1a4d00d", func := "caucus/caucuslaw04.ViewPlaces", spec := "viewPlaces", unfollowed := true, recurses := true, apart := false, narrowed := true }
def ViewPlacesUptoSaid : Prop := viewPlacesUptoRow.holds Try.pinned (OpenSpec.upto viewPlacesSpec)

/-- 'caucuslaw04.ViewOrder', WHERE WHAT IT READS IS OF BULK AT MOST 1048576: true; the input reads as it did. -/
def viewOrderUptoRow : OpenClaim := { program := "ytgbappmidllnmaa", sum := "847f8e8ef770d918c2082a5b225e8da87bbb4c9383a24f99d726d176a1a4d00d", func := "caucus/caucuslaw04.ViewOrder", spec := "viewOrder", unfollowed := true, recurses := true, apart := false, narrowed := true }
def ViewOrderUptoSaid : Prop := viewOrderUptoRow.holds Try.pinned (OpenSpec.upto viewOrderSpec)

/-- 'caucuslaw04.ViewFirst', WHERE WHAT IT READS IS OF BULK AT MOST 1048576: true; the input reads as it did. -/
def viewFirstUptoRow : OpenClaim := { program := "ytgbappmidllnmaa", sum := "847f8e8ef770d918c2082a5b225e8da87bbb4c9383a24f99d726d176a1a4d00d", func := "caucus/caucuslaw04.ViewFirst", spec := "viewFirst", unfollowed := true, recurses := true, apart := false, narrowed := true }
def ViewFirstUptoSaid : Prop := viewFirstUptoRow.holds Try.pinned (OpenSpec.upto viewFirstSpec)

/-- 'caucuslaw03.ProcBack', WHERE WHAT IT READS IS OF BULK AT MOST 1048576: true; the input reads as it did. -/
def procBackUptoRow : OpenClaim := { program := "ytgbappmidllnmaa", sum := "847f8e8ef770d918c2082a5b225e8da87bbb4c9383a24f99d726d176a1a4d00d", func := "caucus/caucuslaw03.ProcBack", spec := "procBack", unfollowed := true, recurses := true, apart := false, narrowed := true }
def ProcBackUptoSaid : Prop := procBackUptoRow.holds Try.pinned (OpenSpec.upto procBackSpec)

/-- 'caucuslaw04.ViewBack', WHERE WHAT IT READS IS OF BULK AT MOST 1048576: true; the input reads as it did. -/
def viewBackUptoRow : OpenClaim := { program := "ytgbappmidllnmaa", sum := "847f8e8ef770d918c2082a5b225e8da87bbb4c9383a24f99d726d176a1a4d00d", func := "caucus/caucuslaw04.ViewBack", spec := "viewBack", unfollowed := true, recurses := true, apart := false, narrowed := true }
def ViewBackUptoSaid : Prop := viewBackUptoRow.holds Try.pinned (OpenSpec.upto viewBackSpec)

/-- 'caucuslaw08.NoticeMay', WHERE WHAT IT READS IS OF BULK AT MOST 1048576: true; the input reads as it did. -/
def noticeMayUptoRow : OpenClaim := { program := "ytgbappmidllnmaa", sum := "847f8e8ef770d918c2082a5b225e8da87bbb4c9383a24f99d726d176a1a4d00d", func := "caucus/caucuslaw08.NoticeMay", spec := "noticeMay", unfollowed := true, recurses := true, apart := false, narrowed := true }
def NoticeMayUptoSaid : Prop := noticeMayUptoRow.holds Try.pinned (OpenSpec.upto noticeMaySpec)

/-- 'caucuslaw08.NoticeReads', WHERE WHAT IT READS IS OF BULK AT MOST 1048576: true; the input reads as it did. -/
def noticeReadsUptoRow : OpenClaim := { program := "ytgbappmidllnmaa", sum := "847f8e8ef770d918c2082a5b225e8da87bbb4c9383a24f99d726d176a1a4d00d", func := "caucus/caucuslaw08.NoticeReads", spec := "noticeReads", unfollowed := true, recurses := true, apart := false, narrowed := true }
def NoticeReadsUptoSaid : Prop := noticeReadsUptoRow.holds Try.pinned (OpenSpec.upto noticeReadsSpec)

/-- 'caucuslaw08.NoticeBack', WHERE WHAT IT READS IS OF BULK AT MOST 1048576: true; the input reads as it did. -/
def noticeBackUptoRow : OpenClaim := { program := "ytgbappmidllnmaa", sum := "847f8e8ef770d918c2082a5b225e8da87bbb4c9383a24f99d726d176a1a4d00d", func := "caucus/caucuslaw08.NoticeBack", spec := "noticeBack", unfollowed := true, recurses := true, apart := false, narrowed := true }
def NoticeBackUptoSaid : Prop := noticeBackUptoRow.holds Try.pinned (OpenSpec.upto noticeBackSpec)

/-- 'caucuslaw08.NoticeEnds', WHERE WHAT IT READS IS OF BULK AT MOST 1048576: true; the input reads as it did. -/
def noticeEndsUptoRow : OpenClaim := { program := "ytgbappmidllnmaa", sum := "847f8e8ef770d918c2082a5b225e8da87bbb4c9383a24f99d726d176a1a4d00d", func := "caucus/caucuslaw08.NoticeEnds", spec := "noticeEnds", unfollowed := true, recurses := true, apart := false, narrowed := true }
def NoticeEndsUptoSaid : Prop := noticeEndsUptoRow.holds Try.pinned (OpenSpec.upto noticeEndsSpec)

/-- 'caucuslaw04.ViewCompares', WHERE WHAT IT READS IS OF BULK AT MOST 1048576: true; the input reads as it did. -/
def viewComparesUptoRow : OpenClaim := { program := "ytgbappmidllnmaa", sum := "847f8e8ef770d918c2082a5b225e8da87bbb4c9383a24f99d726d176a1a4d00d", func := "caucus/caucuslaw04.ViewCompares", spec := "viewCompares", unfollowed := true, recurses := true, apart := false, narrowed := true }
def ViewComparesUptoSaid : Prop := viewComparesUptoRow.holds Try.pinned (OpenSpec.upto viewComparesSpec)

end Rows
end Go.Proofs.Ytgbappmidllnmaa
