/-
  No cell of these rows narrows 'for every input' (looked for: loops, veiled, ifaces, maps, wideKeys, modest, calm, conditions, laid).
  DERIVED. THE GIVEN ROWS OF THIS SEAT. 5 by the template 'for every input the law returns true; each argument reads behind the call as it read before'; 0 by the template 'total and deterministic' (their statements: YtoajcdcdbkjefaaTotals.lean).
  GIVEN WITH THE SEED: the statements are not yours to turn. If you find one false, say at which input.
  Laid BY PROGRAM, IN A SANDBOX (cutbox-rows.mjs): the forced cells as the released guide's own fill.sh prints them over the translation bf3df22fe2e467f2… (all of the seat's roots in one cut). By AI agents, Wed Nov 11 2026. No macro, syntax, notation, axiom, sorry.
-/
import Derived.Test.YtoajcdcdbkjefaaChecked
import GoSem.Claim
import GoSem.ClaimJoined
import GoSem.ClaimMapViews
import Derived.JoinedTies
import Derived.KernelRfl
namespace Go.Proofs.Ytoajcdcdbkjefaa
/- THE CELL 'sum', in the pinned program and in every row, IS THE sha256 OF THE DUMP (.gsa) THAT YtoajcdcdbkjefaaProg.lean LOADS. Nothing in Lean hashes anything: it is a label: what it is worth is what the hold of that sum in a sandbox is worth. -/
noncomputable def Try.pinned : Pinned := { name := "ytoajcdcdbkjefaa", sum := "bf3df22fe2e467f25aa3f1baa8a230df5492fd0be7a259b766ce62ea5dbe9d67", checked := Try.checked }
namespace Rows
def none {H : Type} : Left H := { results := [], args := [] }

/-- 'caucuslaw17.RegistryOther': WHATEVER THE INPUT: true; the input reads as it did. -/
def registryOtherSpec : ChangeSpec := { name := "registryOther", fn := fun _ => fun
  | [d1, d2, d3, d4] => { results := [.lit (.bool true)], args := [d1, d2, d3, d4] }
  | _ => none }
def registryOtherRow : OpenClaim := { program := "ytoajcdcdbkjefaa", sum := "bf3df22fe2e467f25aa3f1baa8a230df5492fd0be7a259b766ce62ea5dbe9d67", func := "caucus/caucuslaw17.RegistryOther", spec := "registryOther", unfollowed := true, recurses := true, apart := false }
def RegistryOtherSaid : Prop := registryOtherRow.holds Try.pinned (OpenSpec.ofChange registryOtherSpec)

/-- ITS FALSE NEIGHBOUR: 'it returns false'. Refute it at one input. -/
def registryOtherWrong : ChangeSpec := { name := "registryOther", fn := fun _ => fun
  | [d1, d2, d3, d4] => { results := [.lit (.bool false)], args := [d1, d2, d3, d4] }
  | _ => none }
def RegistryOtherWrongFalsely : Prop := registryOtherRow.holds Try.pinned (OpenSpec.ofChange registryOtherWrong)

/-- 'caucuslaw17.RegistryDrops': WHATEVER THE INPUT: true; the input reads as it did. -/
def registryDropsSpec : ChangeSpec := { name := "registryDrops", fn := fun _ => fun
  | [d1, d2, d3] => { results := [.lit (.bool true)], args := [d1, d2, d3] }
  | _ => none }
def registryDropsRow : OpenClaim := { program := "ytoajcdcdbkjefaa", sum := "bf3df22fe2e467f25aa3f1baa8a230df5492fd0be7a259b766ce62ea5dbe9d67", func := "caucus/caucuslaw17.RegistryDrops", spec := "registryDrops", unfollowed := true, recurses := true, apart := false }
def RegistryDropsSaid : Prop := registryDropsRow.holds Try.pinned (OpenSpec.ofChange registryDropsSpec)

/-- ITS FALSE NEIGHBOUR: 'it returns false'. Refute it at one input. -/
def registryDropsWrong : ChangeSpec := { name := "registryDrops", fn := fun _ => fun
  | [d1, d2, d3] => { results := [.lit (.bool false)], args := [d1, d2, d3] }
  | _ => none }
def RegistryDropsWrongFalsely : Prop := registryDropsRow.holds Try.pinned (OpenSpec.ofChange registryDropsWrong)

/-- 'caucuslaw17.RegistryGoes': WHATEVER THE INPUT: true; the input reads as it did. -/
def registryGoesSpec : ChangeSpec := { name := "registryGoes", fn := fun _ => fun
  | [d] => { results := [.lit (.bool true)], args := [d] }
  | _ => none }
def registryGoesRow : OpenClaim := { program := "ytoajcdcdbkjefaa", sum := "bf3df22fe2e467f25aa3f1baa8a230df5492fd0be7a259b766ce62ea5dbe9d67", func := "caucus/caucuslaw17.RegistryGoes", spec := "registryGoes", unfollowed := true, recurses := true, apart := false }
def RegistryGoesSaid : Prop := registryGoesRow.holds Try.pinned (OpenSpec.ofChange registryGoesSpec)

/-- ITS FALSE NEIGHBOUR: 'it returns false'. Refute it at one input. -/
def registryGoesWrong : ChangeSpec := { name := "registryGoes", fn := fun _ => fun
  | [d] => { results := [.lit (.bool false)], args := [d] }
  | _ => none }
def RegistryGoesWrongFalsely : Prop := registryGoesRow.holds Try.pinned (OpenSpec.ofChange registryGoesWrong)

/-- 'caucuslaw17.RegistryTells': WHATEVER THE INPUT: true; the input reads as it did. -/
def registryTellsSpec : ChangeSpec := { name := "registryTells", fn := fun _ => fun
  | [d1, d2] => { results := [.lit (.bool true)], args := [d1, d2] }
  | _ => none }
def registryTellsRow : OpenClaim := { program := "ytoajcdcdbkjefaa", sum := "bf3df22fe2e467f25aa3f1baa8a230df5492fd0be7a259b766ce62ea5dbe9d67", func := "caucus/caucuslaw17.RegistryTells", spec := "registryTells", unfollowed := true, recurses := true, apart := false }
def RegistryTellsSaid : Prop := registryTellsRow.holds Try.pinned (OpenSpec.ofChange registryTellsSpec)

/-- ITS FALSE NEIGHBOUR: 'it returns false'. Refute it at one input. -/
def registryTellsWrong : ChangeSpec := { name := "registryTells", fn := fun _ => fun
  | [d1, d2] => { results := [.lit (.bool false)], args := [d1, d2] }
  | _ => none }
def RegistryTellsWrongFalsely : Prop := registryTellsRow.holds Try.pinned (OpenSpec.ofChange registryTellsWrong)

/-- 'caucuslaw17.RegistryRaised': WHATEVER THE INPUT: true; the input reads as it did. -/
def registryRaisedSpec : ChangeSpec := { name := "registryRaised", fn := fun _ => fun
  | [d] => { results := [.lit (.bool true)], args := [d] }
  | _ => none }
def registryRaisedRow : OpenClaim := { program := "ytoajcdcdbkjefaa", sum := "bf3df22fe2e467f25aa3f1baa8a230df5492fd0be7a259b766ce62ea5dbe9d67", func := "caucus/caucuslaw17.RegistryRaised", spec := "registryRaised", unfollowed := true, recurses := true, apart := false }
def RegistryRaisedSaid : Prop := registryRaisedRow.holds Try.pinned (OpenSpec.ofChange registryRaisedSpec)

/-- ITS FALSE NEIGHBOUR: 'it returns false'. Refute it at one input. -/
def registryRaisedWrong : ChangeSpec := { name := "registryRaised", fn := fun _ => fun
  | [d] => { results := [.lit (.bool false)], args := [d] }
  | _ => none }
def RegistryRaisedWrongFalsely : Prop := registryRaisedRow.holds Try.pinned (OpenSpec.ofChange registryRaisedWrong)

/- THE SECOND FORM. 'bulk': how many values and letters a reading holds, each counted each time it is reached (what is shared counts as often as it is met; a slice's spare places count too). A statement '..UptoSaid' is the law's where the arguments, and the package variables that the reading takes, are together of bulk at most 1048576: NARROWER than '..Said'. Prove '..Said' where nothing that the law and all that it calls make is longer than what came in: it says more and counts as full. Else prove '..UptoSaid'. A law counts once. -/
mutual
def uptoBulk {H : Type} : DataW H → Nat
  | .lit (.string bytes) => bytes.length + 1
  | .lit _ => 1
  | .nil => 1
  | .ptr d => uptoBulk d + 1
  | .slice elems spare => uptoBulkAll elems + uptoBulkAll spare + 1
  | .agg parts => uptoBulkAll parts + 1
  | .iface _ d => uptoBulk d + 1
  | .map entries => uptoBulkEntries entries + 1
  | .held _ => 1
def uptoBulkAll {H : Type} : List (DataW H) → Nat
  | [] => 0
  | d :: r => uptoBulk d + uptoBulkAll r
def uptoBulkEntries {H : Type} : List (Lit × DataW H) → Nat
  | [] => 0
  | x :: r => uptoBulkEntry x + uptoBulkEntries r
def uptoBulkEntry {H : Type} : Lit × DataW H → Nat
  | (.string bytes, d) => bytes.length + uptoBulk d + 1
  | (_, d) => uptoBulk d + 1
 end
def uptoSmall : (H : Type) → List (DataW H) → Bool := fun _ ds => decide (uptoBulkAll ds ≤ 1048576)
def OpenSpec.upto (s : _root_.Go.ChangeSpec) : _root_.Go.OpenSpec := { _root_.Go.OpenSpec.ofChange s with cond := some uptoSmall }

/-- 'caucuslaw17.RegistryOther', WHERE WHAT IT READS IS OF BULK AT MOST 1048576: true; the input reads as it did. -/
def registryOtherUptoRow : OpenClaim := { program := "ytoajcdcdbkjefaa", sum := "bf3df22fe2e467f25aa3f1baa8a230df5492fd0be7a259b766ce62ea5dbe9d67", func := "caucus/caucuslaw17.RegistryOther", spec := "registryOther", unfollowed := true, recurses := true, apart := false, narrowed := true }
def RegistryOtherUptoSaid : Prop := registryOtherUptoRow.holds Try.pinned (OpenSpec.upto registryOtherSpec)

/-- 'caucuslaw17.RegistryDrops', WHERE WHAT IT READS IS OF BULK AT MOST 1048576: true; the input reads as it did. -/
def registryDropsUptoRow : OpenClaim := { program := "ytoajcdcdbkjefaa", sum := "bf3df22fe2e467f25aa3f1baa8a230df5492fd0be7a259b766ce62ea5dbe9d67", func := "caucus/caucuslaw17.RegistryDrops", spec := "registryDrops", unfollowed := true, recurses := true, apart := false, narrowed := true }
def RegistryDropsUptoSaid : Prop := registryDropsUptoRow.holds Try.pinned (OpenSpec.upto registryDropsSpec)

/-- 'caucuslaw17.RegistryGoes', WHERE WHAT IT READS IS OF BULK AT MOST 1048576: true; the input reads as it did. -/
def registryGoesUptoRow : OpenClaim := { program := "ytoajcdcdbkjefaa", sum := "bf3df22fe2e467f25aa3f1baa8a230df5492fd0be7a259b766ce62ea5dbe9d67", func := "caucus/caucuslaw17.RegistryGoes", spec := "registryGoes", unfollowed := true, recurses := true, apart := false, narrowed := true }
def RegistryGoesUptoSaid : Prop := registryGoesUptoRow.holds Try.pinned (OpenSpec.upto registryGoesSpec)

/-- 'caucuslaw17.RegistryTells', WHERE WHAT IT READS IS OF BULK AT MOST 1048576: true; the input reads as it did. -/
def registryTellsUptoRow : OpenClaim := { program := "ytoajcdcdbkjefaa", sum := "bf3df22fe2e467f25aa3f1baa8a230df5492fd0be7a259b766ce62ea5dbe9d67", func := "caucus/caucuslaw17.RegistryTells", spec := "registryTells", unfollowed := true, recurses := true, apart := false, narrowed := true }
def RegistryTellsUptoSaid : Prop := registryTellsUptoRow.holds Try.pinned (OpenSpec.upto registryTellsSpec)

/-- 'caucuslaw17.RegistryRaised', WHERE WHAT IT READS IS OF BULK AT MOST 1048576: true; the input reads as it did. -/
def registryRaisedUptoRow : OpenClaim := { program := "ytoajcdcdbkjefaa", sum := "bf3df22fe2e467f25aa3f1baa8a230df5492fd0be7a259b766ce62ea5dbe9d67", func := "caucus/caucuslaw17.RegistryRaised", spec := "registryRaised", unfollowed := true, recurses := true, apart := false, narrowed := true }
def RegistryRaisedUptoSaid : Prop := registryRaisedUptoRow.holds Try.pinned (OpenSpec.upto registryRaisedSpec)

end Rows
end Go.Proofs.Ytoajcdcdbkjefaa
