/-
  No cell of these rows narrows 'for every input' (looked for: loops, veiled, ifaces, maps, wideKeys, modest, calm, conditions, laid).
  DERIVED. THE GIVEN ROWS OF THIS SEAT. 4 by the template 'for every input the law returns true; each argument reads behind the call as it read before'; 0 by the template 'total and deterministic' (their statements: YtkmacjdigkaabaaGreatTotals.lean).
  GIVEN WITH THE SEED: the statements are not yours to turn. If you find one false, say at which input.
  Laid BY PROGRAM, IN A SANDBOX (cutbox-rows.mjs): the forced cells as the released guide's own fill.sh prints them over the translation 1e35e687c109328e… (all of the seat's roots in one cut). By AI agents, Wed Nov 11 2026. No macro, syntax, notation, axiom, sorry.
-/
import Derived.Test.YtkmacjdigkaabaaGreatChecked
import GoSem.Claim
import GoSem.ClaimJoined
import GoSem.ClaimMapViews
import Derived.JoinedTies
import Derived.KernelRfl
namespace Go.Proofs.YtkmacjdigkaabaaGreat
/- THE CELL 'sum', in the pinned program and in every row, IS THE sha256 OF THE DUMP (.gsa) THAT YtkmacjdigkaabaaGreatProg.lean LOADS. Nothing in Lean hashes anything: it is a label: what it is worth is what the hold of that sum in a sandbox is worth. -/
noncomputable def Tryz.pinned : Pinned := { name := "ytkmacjdigkaabaagreat", sum := "1e35e687c109328ef7c474bdda6646678f9e2ad1b21d894c1c8c0a2b2d4b7b40", checked := Tryz.checked }
namespace Rows
def none {H : Type} : Left H := { results := [], args := [] }

/-- 'laws.FnExactRunGoes': WHATEVER THE INPUT: true; the input reads as it did. -/
def fnExactRunGoesSpec : ChangeSpec := { name := "fnExactRunGoes", fn := fun _ => fun
  | [d] => { results := [.lit (.bool true)], args := [d] }
  | _ => none }
def fnExactRunGoesRow : OpenClaim := { program := "ytkmacjdigkaabaagreat", sum := "1e35e687c109328ef7c474bdda6646678f9e2ad1b21d894c1c8c0a2b2d4b7b40", func := "loop.example/malthouse/laws.FnExactRunGoes", spec := "fnExactRunGoes", recurses := true, apart := false }
def FnExactRunGoesSaid : Prop := fnExactRunGoesRow.holds Tryz.pinned (OpenSpec.ofChange fnExactRunGoesSpec)

/-- ITS FALSE NEIGHBOUR: 'it returns false'. Refute it at one input. -/
def fnExactRunGoesWrong : ChangeSpec := { name := "fnExactRunGoes", fn := fun _ => fun
  | [d] => { results := [.lit (.bool false)], args := [d] }
  | _ => none }
def FnExactRunGoesWrongFalsely : Prop := fnExactRunGoesRow.holds Tryz.pinned (OpenSpec.ofChange fnExactRunGoesWrong)

/-- 'laws.FnShareTop': WHATEVER THE INPUT: true; the input reads as it did. -/
def fnShareTopSpec : ChangeSpec := { name := "fnShareTop", fn := fun _ => fun
  | [d] => { results := [.lit (.bool true)], args := [d] }
  | _ => none }
def fnShareTopRow : OpenClaim := { program := "ytkmacjdigkaabaagreat", sum := "1e35e687c109328ef7c474bdda6646678f9e2ad1b21d894c1c8c0a2b2d4b7b40", func := "loop.example/malthouse/laws.FnShareTop", spec := "fnShareTop", inPlace := ["internal/reflectlite.ValueOf", "internal/reflectlite.Swapper", "(internal/reflectlite.Value).Len"], unfollowed := true, recurses := true, apart := false }
def FnShareTopSaid : Prop := fnShareTopRow.holds Tryz.pinned (OpenSpec.ofChange fnShareTopSpec)

/-- ITS FALSE NEIGHBOUR: 'it returns false'. Refute it at one input. -/
def fnShareTopWrong : ChangeSpec := { name := "fnShareTop", fn := fun _ => fun
  | [d] => { results := [.lit (.bool false)], args := [d] }
  | _ => none }
def FnShareTopWrongFalsely : Prop := fnShareTopRow.holds Tryz.pinned (OpenSpec.ofChange fnShareTopWrong)

/-- 'laws.FnRunThings': WHATEVER THE INPUT: true; the input reads as it did. -/
def fnRunThingsSpec : ChangeSpec := { name := "fnRunThings", fn := fun _ => fun
  | [d1, d2] => { results := [.lit (.bool true)], args := [d1, d2] }
  | _ => none }
def fnRunThingsRow : OpenClaim := { program := "ytkmacjdigkaabaagreat", sum := "1e35e687c109328ef7c474bdda6646678f9e2ad1b21d894c1c8c0a2b2d4b7b40", func := "loop.example/malthouse/laws.FnRunThings", spec := "fnRunThings", recurses := true, apart := false }
def FnRunThingsSaid : Prop := fnRunThingsRow.holds Tryz.pinned (OpenSpec.ofChange fnRunThingsSpec)

/-- ITS FALSE NEIGHBOUR: 'it returns false'. Refute it at one input. -/
def fnRunThingsWrong : ChangeSpec := { name := "fnRunThings", fn := fun _ => fun
  | [d1, d2] => { results := [.lit (.bool false)], args := [d1, d2] }
  | _ => none }
def FnRunThingsWrongFalsely : Prop := fnRunThingsRow.holds Tryz.pinned (OpenSpec.ofChange fnRunThingsWrong)

/-- 'laws.FnRunEnds': WHATEVER THE INPUT: true; the input reads as it did. -/
def fnRunEndsSpec : ChangeSpec := { name := "fnRunEnds", fn := fun _ => fun
  | [d1, d2] => { results := [.lit (.bool true)], args := [d1, d2] }
  | _ => none }
def fnRunEndsRow : OpenClaim := { program := "ytkmacjdigkaabaagreat", sum := "1e35e687c109328ef7c474bdda6646678f9e2ad1b21d894c1c8c0a2b2d4b7b40", func := "loop.example/malthouse/laws.FnRunEnds", spec := "fnRunEnds", recurses := true, apart := false }
def FnRunEndsSaid : Prop := fnRunEndsRow.holds Tryz.pinned (OpenSpec.ofChange fnRunEndsSpec)

/-- ITS FALSE NEIGHBOUR: 'it returns false'. Refute it at one input. -/
def fnRunEndsWrong : ChangeSpec := { name := "fnRunEnds", fn := fun _ => fun
  | [d1, d2] => { results := [.lit (.bool false)], args := [d1, d2] }
  | _ => none }
def FnRunEndsWrongFalsely : Prop := fnRunEndsRow.holds Tryz.pinned (OpenSpec.ofChange fnRunEndsWrong)

/- THE SECOND FORM. 'bulk': how many values and letters a reading holds, each counted each time it is reached (what is shared counts as often as it is met; a slice's spare places count too). A statement '..UptoSaid' is the law's where the arguments, and the package variables that the reading takes, are together of bulk at most 1048576: NARROWER than '..Said'. Prove '..Said' where nothing that the law and all that it calls make is longer than what came in: it says more and counts as full. Else prove '..UptoSaid'. A law counts once. -/
mutual
def uptoBulk {H : Type} : DataW H → Nat
  | .lit (.string bytes) => bytes.length + 1
  | .lit _ => 1
  | .nil => 1
  | .ptr d => uptoBulk d + 1
  | .slice elems spare => uptoBulkAll elems + uptoBulkAll spare + 1
  | .agg parts => uptoBulkAll parts + 1
  | .iface _ d => uptoBulk d + 1
  | .map entries => uptoBulkEntries entries + 1
  | .held _ => 1
def uptoBulkAll {H : Type} : List (DataW H) → Nat
  | [] => 0
  | d :: r => uptoBulk d + uptoBulkAll r
def uptoBulkEntries {H : Type} : List (Lit × DataW H) → Nat
  | [] => 0
  | x :: r => uptoBulkEntry x + uptoBulkEntries r
def uptoBulkEntry {H : Type} : Lit × DataW H → Nat
  | (.string bytes, d) => bytes.length + uptoBulk d + 1
  | (_, d) => uptoBulk d + 1
 end
def uptoSmall : (H : Type) → List (DataW H) → Bool := fun _ ds => decide (uptoBulkAll ds ≤ 1048576)
def OpenSpec.upto (s : _root_.Go.ChangeSpec) : _root_.Go.OpenSpec := { _root_.Go.OpenSpec.ofChange s with cond := some uptoSmall }

/-- 'laws.FnExactRunGoes', WHERE WHAT IT READS IS OF BULK AT MOST 1048576: true; the input reads as it did. -/
def fnExactRunGoesUptoRow : OpenClaim := { program := "ytkmacjdigkaabaagreat", sum := "1e35e687c109328ef7c474bdda6646678f9e2ad1b21d894c1c8c0a2b2d4b7b40", func := "loop.example/malthouse/laws.FnExactRunGoes", spec := "fnExactRunGoes", recurses := true, apart := false, narrowed := true }
def FnExactRunGoesUptoSaid : Prop := fnExactRunGoesUptoRow.holds Tryz.pinned (OpenSpec.upto fnExactRunGoesSpec)

/-- 'laws.FnShareTop', WHERE WHAT IT READS IS OF BULK AT MOST 1048576: true; the input reads as it did. -/
def fnShareTopUptoRow : OpenClaim := { program := "ytkmacjdigkaabaagreat", sum := "1e35e687c109328ef7c474bdda6646678f9e2ad1b21d894c1c8c0a2b2d4b7b40", func := "loop.example/malthouse/laws.FnShareTop", spec := "fnShareTop", inPlace := ["internal/reflectlite.ValueOf", "internal/reflectlite.Swapper", "(internal/reflectlite.Value).Len"], unfollowed := true, recurses := true, apart := false, narrowed := true }
def FnShareTopUptoSaid : Prop := fnShareTopUptoRow.holds Tryz.pinned (OpenSpec.upto fnShareTopSpec)

/-- 'laws.FnRunThings', WHERE WHAT IT READS IS OF BULK AT MOST 1048576: true; the input reads as it did. -/
def fnRunThingsUptoRow : OpenClaim := { program := "ytkmacjdigkaabaagreat", sum := "1e35e687c109328ef7c474bdda6646678f9e2ad1b21d894c1c8c0a2b2d4b7b40", func := "loop.example/malthouse/laws.FnRunThings", spec := "fnRunThings", recurses := true, apart := false, narrowed := true }
def FnRunThingsUptoSaid : Prop := fnRunThingsUptoRow.holds Tryz.pinned (OpenSpec.upto fnRunThingsSpec)

/-- 'laws.FnRunEnds', WHERE WHAT IT READS IS OF BULK AT MOST 1048576: true; the input reads as it did. -/
def fnRunEndsUptoRow : OpenClaim := { program := "ytkmacjdigkaabaagreat", sum := "1e35e687c109328ef7c474bdda6646678f9e2ad1b21d894c1c8c0a2b2d4b7b40", func := "loop.example/malthouse/laws.FnRunEnds", spec := "fnRunEnds", recurses := true, apart := false, narrowed := true }
def FnRunEndsUptoSaid : Prop := fnRunEndsUptoRow.holds Tryz.pinned (OpenSpec.upto fnRunEndsSpec)

end Rows
end Go.Proofs.YtkmacjdigkaabaaGreat
