/-
  No cell of these rows narrows 'for every input' (looked for: loops, veiled, ifaces, maps, wideKeys, modest, calm, conditions, laid).
  DERIVED. THE GIVEN ROWS OF THIS SEAT. 4 by the template 'for every input the law returns true; each argument reads behind the call as it read before'; 0 by the template 'total and deterministic' (their statements: YtniogmefbjfoaaaTotals.lean).
  GIVEN WITH THE SEED: the statements are not yours to turn. If you find one false, say at which input.
  Laid BY PROGRAM, IN A SANDBOX (cutbox-rows.mjs): the forced cells as the released guide's own fill.sh prints them over the translation 750ef52b405027cc… (all of the seat's roots in one cut). By AI agents, Wed Nov 11 2026. No macro, syntax, notation, axiom, sorry.
-/
import Derived.Test.YtniogmefbjfoaaaChecked
import GoSem.Claim
import GoSem.ClaimJoined
import GoSem.ClaimMapViews
import Derived.JoinedTies
import Derived.KernelRfl
namespace Go.Proofs.Ytniogmefbjfoaaa
/- THE CELL 'sum', in the pinned program and in every row, IS THE sha256 OF THE DUMP (.gsa) THAT YtniogmefbjfoaaaProg.lean LOADS. Nothing in Lean hashes anything: it is a label: what it is worth is what the hold of that sum in a sandbox is worth. -/
noncomputable def Try.pinned : Pinned := { name := "ytniogmefbjfoaaa", sum := "750ef52b405027cc12328c09390f0af2cff367c8578b18765c8d28849210145e", checked := Try.checked }
namespace Rows
def none {H : Type} : Left H := { results := [], args := [] }

/-- 'caucuslaw16.CofifoNobody': WHATEVER THE INPUT: true; the input reads as it did. -/
def cofifoNobodySpec : ChangeSpec := { name := "cofifoNobody", fn := fun _ => fun
  | [d] => { results := [.lit (.bool true)], args := [d] }
  | _ => none }
def cofifoNobodyRow : OpenClaim := { program := "ytniogmefbjfoaaa", sum := "750ef52b405027cc12328c09390f0af2cff367c8578b18765c8d28849210145e", func := "caucus/caucuslaw16.CofifoNobody", spec := "cofifoNobody", unfollowed := true, recurses := true, plainKeys := false, apart := false }
def CofifoNobodySaid : Prop := cofifoNobodyRow.holds Try.pinned (OpenSpec.ofChange cofifoNobodySpec)

/-- ITS FALSE NEIGHBOUR: 'it returns false'. Refute it at one input. -/
def cofifoNobodyWrong : ChangeSpec := { name := "cofifoNobody", fn := fun _ => fun
  | [d] => { results := [.lit (.bool false)], args := [d] }
  | _ => none }
def CofifoNobodyWrongFalsely : Prop := cofifoNobodyRow.holds Try.pinned (OpenSpec.ofChange cofifoNobodyWrong)

/-- 'caucuslaw16.CofifoOrder': WHATEVER THE INPUT: true; the input reads as it did. -/
def cofifoOrderSpec : ChangeSpec := { name := "cofifoOrder", fn := fun _ => fun
  | [d] => { results := [.lit (.bool true)], args := [d] }
  | _ => none }
def cofifoOrderRow : OpenClaim := { program := "ytniogmefbjfoaaa", sum := "750ef52b405027cc12328c09390f0af2cff367c8578b18765c8d28849210145e", func := "caucus/caucuslaw16.CofifoOrder", spec := "cofifoOrder", unfollowed := true, recurses := true, plainKeys := false, apart := false }
def CofifoOrderSaid : Prop := cofifoOrderRow.holds Try.pinned (OpenSpec.ofChange cofifoOrderSpec)

/-- ITS FALSE NEIGHBOUR: 'it returns false'. Refute it at one input. -/
def cofifoOrderWrong : ChangeSpec := { name := "cofifoOrder", fn := fun _ => fun
  | [d] => { results := [.lit (.bool false)], args := [d] }
  | _ => none }
def CofifoOrderWrongFalsely : Prop := cofifoOrderRow.holds Try.pinned (OpenSpec.ofChange cofifoOrderWrong)

/-- 'caucuslaw16.CofifoGoes': WHATEVER THE INPUT: true; the input reads as it did. -/
def cofifoGoesSpec : ChangeSpec := { name := "cofifoGoes", fn := fun _ => fun
  | [d1, d2] => { results := [.lit (.bool true)], args := [d1, d2] }
  | _ => none }
def cofifoGoesRow : OpenClaim := { program := "ytniogmefbjfoaaa", sum := "750ef52b405027cc12328c09390f0af2cff367c8578b18765c8d28849210145e", func := "caucus/caucuslaw16.CofifoGoes", spec := "cofifoGoes", unfollowed := true, recurses := true, plainKeys := false, apart := false }
def CofifoGoesSaid : Prop := cofifoGoesRow.holds Try.pinned (OpenSpec.ofChange cofifoGoesSpec)

/-- ITS FALSE NEIGHBOUR: 'it returns false'. Refute it at one input. -/
def cofifoGoesWrong : ChangeSpec := { name := "cofifoGoes", fn := fun _ => fun
  | [d1, d2] => { results := [.lit (.bool false)], args := [d1, d2] }
  | _ => none }
def CofifoGoesWrongFalsely : Prop := cofifoGoesRow.holds Try.pinned (OpenSpec.ofChange cofifoGoesWrong)

/-- 'caucuslaw16.CofifoTwice': WHATEVER THE INPUT: true; the input reads as it did. -/
def cofifoTwiceSpec : ChangeSpec := { name := "cofifoTwice", fn := fun _ => fun
  | [d1, d2, d3, d4] => { results := [.lit (.bool true)], args := [d1, d2, d3, d4] }
  | _ => none }
def cofifoTwiceRow : OpenClaim := { program := "ytniogmefbjfoaaa", sum := "750ef52b405027cc12328c09390f0af2cff367c8578b18765c8d28849210145e", func := "caucus/caucuslaw16.CofifoTwice", spec := "cofifoTwice", unfollowed := true, recurses := true, plainKeys := false, apart := false }
def CofifoTwiceSaid : Prop := cofifoTwiceRow.holds Try.pinned (OpenSpec.ofChange cofifoTwiceSpec)

/-- ITS FALSE NEIGHBOUR: 'it returns false'. Refute it at one input. -/
def cofifoTwiceWrong : ChangeSpec := { name := "cofifoTwice", fn := fun _ => fun
  | [d1, d2, d3, d4] => { results := [.lit (.bool false)], args := [d1, d2, d3, d4] }
  | _ => none }
def CofifoTwiceWrongFalsely : Prop := cofifoTwiceRow.holds Try.pinned (OpenSpec.ofChange cofifoTwiceWrong)

/- THE SECOND FORM. 'bulk': how many values and letters a reading holds, each counted each time it is reached (what is shared counts as often as it is met; a slice's spare places count too). A statement '..UptoSaid' is the law's where the arguments, and the package variables that the reading takes, are together of bulk at most 1048576: NARROWER than '..Said'. Prove '..Said' where nothing that the law and all that it calls make is longer than what came in: it says more and counts as full. Else prove '..UptoSaid'. A law counts once. -/
mutual
def uptoBulk {H : Type} : DataW H → Nat
  | .lit (.string bytes) => bytes.length + 1
  | .lit _ => 1
  | .nil => 1
  | .ptr d => uptoBulk d + 1
  | .slice elems spare => uptoBulkAll elems + uptoBulkAll spare + 1
  | .agg parts => uptoBulkAll parts + 1
  | .iface _ d => uptoBulk d + 1
  | .map entries => uptoBulkEntries entries + 1
  | .held _ => 1
def uptoBulkAll {H : Type} : List (DataW H) → Nat
  | [] => 0
  | d :: r => uptoBulk d + uptoBulkAll r
def uptoBulkEntries {H : Type} : List (Lit × DataW H) → Nat
  | [] => 0
  | x :: r => uptoBulkEntry x + uptoBulkEntries r
def uptoBulkEntry {H : Type} : Lit × DataW H → Nat
  | (.string bytes, d) => bytes.length + uptoBulk d + 1
  | (_, d) => uptoBulk d + 1
 end
def uptoSmall : (H : Type) → List (DataW H) → Bool := fun _ ds => decide (uptoBulkAll ds ≤ 1048576)
def OpenSpec.upto (s : _root_.Go.ChangeSpec) : _root_.Go.OpenSpec := { _root_.Go.OpenSpec.ofChange s with cond := some uptoSmall }

/-- 'caucuslaw16.CofifoNobody', WHERE WHAT IT READS IS OF BULK AT MOST 1048576: true; the input reads as it did. -/
def cofifoNobodyUptoRow : OpenClaim := { program := "ytniogmefbjfoaaa", sum := "750ef52b405027cc12328c09390f0af2cff367c8578b18765c8d28849210145e", func := "caucus/caucuslaw16.CofifoNobody", spec := "cofifoNobody", unfollowed := true, recurses := true, plainKeys := false, apart := false, narrowed := true }
def CofifoNobodyUptoSaid : Prop := cofifoNobodyUptoRow.holds Try.pinned (OpenSpec.upto cofifoNobodySpec)

/-- 'caucuslaw16.CofifoOrder', WHERE WHAT IT READS IS OF BULK AT MOST 1048576: true; the input reads as it did. -/
def cofifoOrderUptoRow : OpenClaim := { program := "ytniogmefbjfoaaa", sum := "750ef52b405027cc12328c09390f0af2cff367c8578b18765c8d28849210145e", func := "caucus/caucuslaw16.CofifoOrder", spec := "cofifoOrder", unfollowed := true, recurses := true, plainKeys := false, apart := false, narrowed := true }
def CofifoOrderUptoSaid : Prop := cofifoOrderUptoRow.holds Try.pinned (OpenSpec.upto cofifoOrderSpec)

/-- 'caucuslaw16.CofifoGoes', WHERE WHAT IT READS IS OF BULK AT MOST 1048576: true; the input reads as it did. -/
def cofifoGoesUptoRow : OpenClaim := { program := "ytniogmefbjfoaaa", sum := "750ef52b405027cc12328c09390f0af2cff367c8578b18765c8d28849210145e", func := "caucus/caucuslaw16.CofifoGoes", spec := "cofifoGoes", unfollowed := true, recurses := true, plainKeys := false, apart := false, narrowed := true }
def CofifoGoesUptoSaid : Prop := cofifoGoesUptoRow.holds Try.pinned (OpenSpec.upto cofifoGoesSpec)

/-- 'caucuslaw16.CofifoTwice', WHERE WHAT IT READS IS OF BULK AT MOST 1048576: true; the input reads as it did. -/
def cofifoTwiceUptoRow : OpenClaim := { program := "ytniogmefbjfoaaa", sum := "750ef52b405027cc12328c09390f0af2cff367c8578b18765c8d28849210145e", func := "caucus/caucuslaw16.CofifoTwice", spec := "cofifoTwice", unfollowed := true, recurses := true, plainKeys := false, apart := false, narrowed := true }
def CofifoTwiceUptoSaid : Prop := cofifoTwiceUptoRow.holds Try.pinned (OpenSpec.upto cofifoTwiceSpec)

end Rows
end Go.Proofs.Ytniogmefbjfoaaa
