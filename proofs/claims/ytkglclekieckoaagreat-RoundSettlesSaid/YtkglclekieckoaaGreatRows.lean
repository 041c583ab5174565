/-
  No cell of these rows narrows 'for every input' (looked for: loops, veiled, ifaces, maps, wideKeys, modest, calm, conditions, laid).
  DERIVED. THE GIVEN ROWS OF THIS SEAT. 4 by the template 'for every input the law returns true; each argument reads behind the call as it read before'; 0 by the template 'total and deterministic' (their statements: YtkglclekieckoaaGreatTotals.lean).
  GIVEN WITH THE SEED: the statements are not yours to turn. If you find one false, say at which input.
  Laid BY PROGRAM, IN A SANDBOX (cutbox-rows.mjs): the forced cells as the released guide's own fill.sh prints them over the translation bcfb61818b5f5062… (all of the seat's roots in one cut). By AI agents, Wed Nov 11 2026. No macro, syntax, notation, axiom, sorry.
-/
import Derived.Test.YtkglclekieckoaaGreatChecked
import GoSem.Claim
import GoSem.ClaimJoined
import GoSem.ClaimMapViews
import Derived.JoinedTies
import Derived.KernelRfl
namespace Go.Proofs.YtkglclekieckoaaGreat
/- THE CELL 'sum', in the pinned program and in every row, IS THE sha256 OF THE DUMP (.gsa) THAT YtkglclekieckoaaGreatProg.lean LOADS. Nothing in Lean hashes anything: it is a label: what it is worth is what the hold of that sum in a sandbox is worth. -/
noncomputable def Tryz.pinned : Pinned := { name := "ytkglclekieckoaagreat", sum := "bcfb61818b5f50623ab77dd49ec09b2000f94f14362e170134cbdc2c46c2b70f", checked := Tryz.checked }
namespace Rows
def none {H : Type} : Left H := { results := [], args := [] }

/-- 'caucuslaw18.RoundAlone': WHATEVER THE INPUT: true; the input reads as it did. -/
def roundAloneSpec : ChangeSpec := { name := "roundAlone", fn := fun _ => fun
  | [d1, d2, d3] => { results := [.lit (.bool true)], args := [d1, d2, d3] }
  | _ => none }
def roundAloneRow : OpenClaim := { program := "ytkglclekieckoaagreat", sum := "bcfb61818b5f50623ab77dd49ec09b2000f94f14362e170134cbdc2c46c2b70f", func := "caucus/caucuslaw18.RoundAlone", spec := "roundAlone", unfollowed := true, recurses := true, plainKeys := false, apart := false }
def RoundAloneSaid : Prop := roundAloneRow.holds Tryz.pinned (OpenSpec.ofChange roundAloneSpec)

/-- ITS FALSE NEIGHBOUR: 'it returns false'. Refute it at one input. -/
def roundAloneWrong : ChangeSpec := { name := "roundAlone", fn := fun _ => fun
  | [d1, d2, d3] => { results := [.lit (.bool false)], args := [d1, d2, d3] }
  | _ => none }
def RoundAloneWrongFalsely : Prop := roundAloneRow.holds Tryz.pinned (OpenSpec.ofChange roundAloneWrong)

/-- 'caucuslaw18.RoundRises': WHATEVER THE INPUT: true; the input reads as it did. -/
def roundRisesSpec : ChangeSpec := { name := "roundRises", fn := fun _ => fun
  | [d1, d2] => { results := [.lit (.bool true)], args := [d1, d2] }
  | _ => none }
def roundRisesRow : OpenClaim := { program := "ytkglclekieckoaagreat", sum := "bcfb61818b5f50623ab77dd49ec09b2000f94f14362e170134cbdc2c46c2b70f", func := "caucus/caucuslaw18.RoundRises", spec := "roundRises", unfollowed := true, recurses := true, plainKeys := false, apart := false }
def RoundRisesSaid : Prop := roundRisesRow.holds Tryz.pinned (OpenSpec.ofChange roundRisesSpec)

/-- ITS FALSE NEIGHBOUR: 'it returns false'. Refute it at one input. -/
def roundRisesWrong : ChangeSpec := { name := "roundRises", fn := fun _ => fun
  | [d1, d2] => { results := [.lit (.bool false)], args := [d1, d2] }
  | _ => none }
def RoundRisesWrongFalsely : Prop := roundRisesRow.holds Tryz.pinned (OpenSpec.ofChange roundRisesWrong)

/-- 'caucuslaw18.RoundOne': WHATEVER THE INPUT: true; the input reads as it did. -/
def roundOneSpec : ChangeSpec := { name := "roundOne", fn := fun _ => fun
  | [d] => { results := [.lit (.bool true)], args := [d] }
  | _ => none }
def roundOneRow : OpenClaim := { program := "ytkglclekieckoaagreat", sum := "bcfb61818b5f50623ab77dd49ec09b2000f94f14362e170134cbdc2c46c2b70f", func := "caucus/caucuslaw18.RoundOne", spec := "roundOne", unfollowed := true, recurses := true, plainKeys := false, apart := false }
def RoundOneSaid : Prop := roundOneRow.holds Tryz.pinned (OpenSpec.ofChange roundOneSpec)

/-- ITS FALSE NEIGHBOUR: 'it returns false'. Refute it at one input. -/
def roundOneWrong : ChangeSpec := { name := "roundOne", fn := fun _ => fun
  | [d] => { results := [.lit (.bool false)], args := [d] }
  | _ => none }
def RoundOneWrongFalsely : Prop := roundOneRow.holds Tryz.pinned (OpenSpec.ofChange roundOneWrong)

/-- 'caucuslaw18.RoundSettles': WHATEVER THE INPUT: true; the input reads as it did. -/
def roundSettlesSpec : ChangeSpec := { name := "roundSettles", fn := fun _ => fun
  | [d1, d2, d3, d4] => { results := [.lit (.bool true)], args := [d1, d2, d3, d4] }
  | _ => none }
def roundSettlesRow : OpenClaim := { program := "ytkglclekieckoaagreat", sum := "bcfb61818b5f50623ab77dd49ec09b2000f94f14362e170134cbdc2c46c2b70f", func := "caucus/caucuslaw18.RoundSettles", spec := "roundSettles", unfollowed := true, recurses := true, plainKeys := false, apart := false }
def RoundSettlesSaid : Prop := roundSettlesRow.holds Tryz.pinned (OpenSpec.ofChange roundSettlesSpec)

/-- ITS FALSE NEIGHBOUR: 'it returns false'. Refute it at one input. -/
def roundSettlesWrong : ChangeSpec := { name := "roundSettles", fn := fun _ => fun
  | [d1, d2, d3, d4] => { results := [.lit (.bool false)], args := [d1, d2, d3, d4] }
  | _ => none }
def RoundSettlesWrongFalsely : Prop := roundSettlesRow.holds Tryz.pinned (OpenSpec.ofChange roundSettlesWrong)

/- THE SECOND FORM. 'bulk': how many values and letters a reading holds, each counted each time it is reached (what is shared counts as often as it is met; a slice's spare places count too). A statement '..UptoSaid' is the law's where the arguments, and the package variables that the reading takes, are together of bulk at most 1048576: NARROWER than '..Said'. Prove '..Said' where nothing that the law and all that it calls make is longer than what came in: it says more and counts as full. Else prove '..UptoSaid'. A law counts once. -/
mutual
def uptoBulk {H : Type} : DataW H → Nat
  | .lit (.string bytes) => bytes.length + 1
  | .lit _ => 1
  | .nil => 1
  | .ptr d => uptoBulk d + 1
  | .slice elems spare => uptoBulkAll elems + uptoBulkAll spare + 1
  | .agg parts => uptoBulkAll parts + 1
  | .iface _ d => uptoBulk d + 1
  | .map entries => uptoBulkEntries entries + 1
  | .held _ => 1
def uptoBulkAll {H : Type} : List (DataW H) → Nat
  | [] => 0
  | d :: r => uptoBulk d + uptoBulkAll r
def uptoBulkEntries {H : Type} : List (Lit × DataW H) → Nat
  | [] => 0
  | x :: r => uptoBulkEntry x + uptoBulkEntries r
def uptoBulkEntry {H : Type} : Lit × DataW H → Nat
  | (.string bytes, d) => bytes.length + uptoBulk d + 1
  | (_, d) => uptoBulk d + 1
 end
def uptoSmall : (H : Type) → List (DataW H) → Bool := fun _ ds => decide (uptoBulkAll ds ≤ 1048576)
def OpenSpec.upto (s : _root_.Go.ChangeSpec) : _root_.Go.OpenSpec := { _root_.Go.OpenSpec.ofChange s with cond := some uptoSmall }

/-- 'caucuslaw18.RoundAlone', WHERE WHAT IT READS IS OF BULK AT MOST 1048576: true; the input reads as it did. -/
def roundAloneUptoRow : OpenClaim := { program := "ytkglclekieckoaagreat", sum := "bcfb61818b5f50623ab77dd49ec09b2000f94f14362e170134cbdc2c46c2b70f", func := "caucus/caucuslaw18.RoundAlone", spec := "roundAlone", unfollowed := true, recurses := true, plainKeys := false, apart := false, narrowed := true }
def RoundAloneUptoSaid : Prop := roundAloneUptoRow.holds Tryz.pinned (OpenSpec.upto roundAloneSpec)

/-- 'caucuslaw18.RoundRises', WHERE WHAT IT READS IS OF BULK AT MOST 1048576: true; the input reads as it did. -/
def roundRisesUptoRow : OpenClaim := { program := "ytkglclekieckoaagreat", sum := "bcfb61818b5f50623ab77dd49ec09b2000f94f14362e170134cbdc2c46c2b70f", func := "caucus/caucuslaw18.RoundRises", spec := "roundRises", unfollowed := true, recurses := true, plainKeys := false, apart := false, narrowed := true }
def RoundRisesUptoSaid : Prop := roundRisesUptoRow.holds Tryz.pinned (OpenSpec.upto roundRisesSpec)

/-- 'caucuslaw18.RoundOne', WHERE WHAT IT READS IS OF BULK AT MOST 1048576: true; the input reads as it did. -/
def roundOneUptoRow : OpenClaim := { program := "ytkglclekieckoaagreat", sum := "bcfb61818b5f50623ab77dd49ec09b2000f94f14362e170134cbdc2c46c2b70f", func := "caucus/caucuslaw18.RoundOne", spec := "roundOne", unfollowed := true, recurses := true, plainKeys := false, apart := false, narrowed := true }
def RoundOneUptoSaid : Prop := roundOneUptoRow.holds Tryz.pinned (OpenSpec.upto roundOneSpec)

/-- 'caucuslaw18.RoundSettles', WHERE WHAT IT READS IS OF BULK AT MOST 1048576: true; the input reads as it did. -/
def roundSettlesUptoRow : OpenClaim := { program := "ytkglclekieckoaagreat", sum := "bcfb61818b5f50623ab77dd49ec09b2000f94f14362e170134cbdc2c46c2b70f", func := "caucus/caucuslaw18.RoundSettles", spec := "roundSettles", unfollowed := true, recurses := true, plainKeys := false, apart := false, narrowed := true }
def RoundSettlesUptoSaid : Prop := roundSettlesUptoRow.holds Tryz.pinned (OpenSpec.upto roundSettlesSpec)

end Rows
end Go.Proofs.YtkglclekieckoaaGreat
