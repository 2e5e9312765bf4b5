/-
  No cell of these rows narrows 'for every input' (looked for: loops, veiled, ifaces, maps, wideKeys, modest, calm, conditions, laid).
  DERIVED. THE GIVEN ROWS OF THIS SEAT. 4 by the template 'for every input the law returns true; each argument reads behind the call as it read before'; 0 by the template 'total and deterministic' (their statements: YtnedadngbhndkaaTotals.lean).
  GIVEN WITH THE SEED: the statements are not yours to turn. If you find one false, say at which input.
  Laid BY PROGRAM, IN A SANDBOX (cutbox-rows.mjs): the forced cells as the released guide's own fill.sh prints them over the translation c231291b0426a8b5… (all of the seat's roots in one cut). By AI agents, Wed Nov 11 2026. No macro, syntax, notation, axiom, sorry.
-/
import Derived.Test.YtnedadngbhndkaaChecked
import GoSem.Claim
import GoSem.ClaimJoined
import GoSem.ClaimMapViews
import Derived.JoinedTies
import Derived.KernelRfl
namespace Go.Proofs.Ytnedadngbhndkaa
/- THE CELL 'sum', in the pinned program and in every row, IS THE sha256 OF THE DUMP (.gsa) THAT YtnedadngbhndkaaProg.lean LOADS. Nothing in Lean hashes anything: it is a label: what it is worth is what the hold of that sum in a sandbox is worth. -/
noncomputable def Try.pinned : Pinned := { name := "ytnedadngbhndkaa", sum := "c231291b0426a8b5b527e7469320e66a8b69d03ad83b6b5944827e884c0f395f", checked := Try.checked }
namespace Rows
def none {H : Type} : Left H := { results := [], args := [] }

/-- 'laws.FnExactRecRun': WHATEVER THE INPUT: true; the input reads as it did. -/
def fnExactRecRunSpec : ChangeSpec := { name := "fnExactRecRun", fn := fun _ => fun
  | [d1, d2] => { results := [.lit (.bool true)], args := [d1, d2] }
  | _ => none }
def fnExactRecRunRow : OpenClaim := { program := "ytnedadngbhndkaa", sum := "c231291b0426a8b5b527e7469320e66a8b69d03ad83b6b5944827e884c0f395f", func := "loop.example/malthouse/laws.FnExactRecRun", spec := "fnExactRecRun", recurses := true, apart := false }
def FnExactRecRunSaid : Prop := fnExactRecRunRow.holds Try.pinned (OpenSpec.ofChange fnExactRecRunSpec)

/-- ITS FALSE NEIGHBOUR: 'it returns false'. Refute it at one input. -/
def fnExactRecRunWrong : ChangeSpec := { name := "fnExactRecRun", fn := fun _ => fun
  | [d1, d2] => { results := [.lit (.bool false)], args := [d1, d2] }
  | _ => none }
def FnExactRecRunWrongFalsely : Prop := fnExactRecRunRow.holds Try.pinned (OpenSpec.ofChange fnExactRecRunWrong)

/-- 'laws.FnExactRunOpen': WHATEVER THE INPUT: true; the input reads as it did. -/
def fnExactRunOpenSpec : ChangeSpec := { name := "fnExactRunOpen", fn := fun _ => fun
  | [d] => { results := [.lit (.bool true)], args := [d] }
  | _ => none }
def fnExactRunOpenRow : OpenClaim := { program := "ytnedadngbhndkaa", sum := "c231291b0426a8b5b527e7469320e66a8b69d03ad83b6b5944827e884c0f395f", func := "loop.example/malthouse/laws.FnExactRunOpen", spec := "fnExactRunOpen", apart := false }
def FnExactRunOpenSaid : Prop := fnExactRunOpenRow.holds Try.pinned (OpenSpec.ofChange fnExactRunOpenSpec)

/-- ITS FALSE NEIGHBOUR: 'it returns false'. Refute it at one input. -/
def fnExactRunOpenWrong : ChangeSpec := { name := "fnExactRunOpen", fn := fun _ => fun
  | [d] => { results := [.lit (.bool false)], args := [d] }
  | _ => none }
def FnExactRunOpenWrongFalsely : Prop := fnExactRunOpenRow.holds Try.pinned (OpenSpec.ofChange fnExactRunOpenWrong)

/-- 'laws.FnExactShareEnter': WHATEVER THE INPUT: true; the input reads as it did. -/
def fnExactShareEnterSpec : ChangeSpec := { name := "fnExactShareEnter", fn := fun _ => fun
  | [d1, d2, d3] => { results := [.lit (.bool true)], args := [d1, d2, d3] }
  | _ => none }
def fnExactShareEnterRow : OpenClaim := { program := "ytnedadngbhndkaa", sum := "c231291b0426a8b5b527e7469320e66a8b69d03ad83b6b5944827e884c0f395f", func := "loop.example/malthouse/laws.FnExactShareEnter", spec := "fnExactShareEnter", inPlace := ["internal/reflectlite.ValueOf", "internal/reflectlite.Swapper", "(internal/reflectlite.Value).Len"], unfollowed := true, recurses := true, apart := false }
def FnExactShareEnterSaid : Prop := fnExactShareEnterRow.holds Try.pinned (OpenSpec.ofChange fnExactShareEnterSpec)

/-- ITS FALSE NEIGHBOUR: 'it returns false'. Refute it at one input. -/
def fnExactShareEnterWrong : ChangeSpec := { name := "fnExactShareEnter", fn := fun _ => fun
  | [d1, d2, d3] => { results := [.lit (.bool false)], args := [d1, d2, d3] }
  | _ => none }
def FnExactShareEnterWrongFalsely : Prop := fnExactShareEnterRow.holds Try.pinned (OpenSpec.ofChange fnExactShareEnterWrong)

/-- 'laws.FnExactShareAsk': WHATEVER THE INPUT: true; the input reads as it did. -/
def fnExactShareAskSpec : ChangeSpec := { name := "fnExactShareAsk", fn := fun _ => fun
  | [d1, d2, d3] => { results := [.lit (.bool true)], args := [d1, d2, d3] }
  | _ => none }
def fnExactShareAskRow : OpenClaim := { program := "ytnedadngbhndkaa", sum := "c231291b0426a8b5b527e7469320e66a8b69d03ad83b6b5944827e884c0f395f", func := "loop.example/malthouse/laws.FnExactShareAsk", spec := "fnExactShareAsk", recurses := true, apart := false }
def FnExactShareAskSaid : Prop := fnExactShareAskRow.holds Try.pinned (OpenSpec.ofChange fnExactShareAskSpec)

/-- ITS FALSE NEIGHBOUR: 'it returns false'. Refute it at one input. -/
def fnExactShareAskWrong : ChangeSpec := { name := "fnExactShareAsk", fn := fun _ => fun
  | [d1, d2, d3] => { results := [.lit (.bool false)], args := [d1, d2, d3] }
  | _ => none }
def FnExactShareAskWrongFalsely : Prop := fnExactShareAskRow.holds Try.pinned (OpenSpec.ofChange fnExactShareAskWrong)

/- THE SECOND FORM. 'bulk': how many values and letters a reading holds, each counted each time it is reached (what is shared counts as often as it is met; a slice's spare places count too). A statement '..UptoSaid' is the law's where the arguments, and the package variables that the reading takes, are together of bulk at most 1048576: NARROWER than '..Said'. Prove '..Said' where nothing that the law and all that it calls make is longer than what came in: it says more and counts as full. Else prove '..UptoSaid'. A law counts once. -/
mutual
def uptoBulk {H : Type} : DataW H → Nat
  | .lit (.string bytes) => bytes.length + 1
  | .lit _ => 1
  | .nil => 1
  | .ptr d => uptoBulk d + 1
  | .slice elems spare => uptoBulkAll elems + uptoBulkAll spare + 1
  | .agg parts => uptoBulkAll parts + 1
  | .iface _ d => uptoBulk d + 1
  | .map entries => uptoBulkEntries entries + 1
  | .held _ => 1
def uptoBulkAll {H : Type} : List (DataW H) → Nat
  | [] => 0
  | d :: r => uptoBulk d + uptoBulkAll r
def uptoBulkEntries {H : Type} : List (Lit × DataW H) → Nat
  | [] => 0
  | x :: r => uptoBulkEntry x + uptoBulkEntries r
def uptoBulkEntry {H : Type} : Lit × DataW H → Nat
  | (.string bytes, d) => bytes.length + uptoBulk d + 1
  | (_, d) => uptoBulk d + 1
 end
def uptoSmall : (H : Type) → List (DataW H) → Bool := fun _ ds => decide (uptoBulkAll ds ≤ 1048576)
def OpenSpec.upto (s : _root_.Go.ChangeSpec) : _root_.Go.OpenSpec := { _root_.Go.OpenSpec.ofChange s with cond := some uptoSmall }

/-- 'laws.FnExactRecRun', WHERE WHAT IT READS IS OF BULK AT MOST 1048576: true; the input reads as it did. -/
def fnExactRecRunUptoRow : OpenClaim := { program := "ytnedadngbhndkaa", sum := "c231291b0426a8b5b527e7469320e66a8b69d03ad83b6b5944827e884c0f395f", func := "loop.example/malthouse/laws.FnExactRecRun", spec := "fnExactRecRun", recurses := true, apart := false, narrowed := true }
def FnExactRecRunUptoSaid : Prop := fnExactRecRunUptoRow.holds Try.pinned (OpenSpec.upto fnExactRecRunSpec)

/-- 'laws.FnExactRunOpen', WHERE WHAT IT READS IS OF BULK AT MOST 1048576: true; the input reads as it did. -/
def fnExactRunOpenUptoRow : OpenClaim := { program := "ytnedadngbhndkaa", sum := "c231291b0426a8b5b527e7469320e66a8b69d03ad83b6b5944827e884c0f395f", func := "loop.example/malthouse/laws.FnExactRunOpen", spec := "fnExactRunOpen", apart := false, narrowed := true }
def FnExactRunOpenUptoSaid : Prop := fnExactRunOpenUptoRow.holds Try.pinned (OpenSpec.upto fnExactRunOpenSpec)

/-- 'laws.FnExactShareEnter', WHERE WHAT IT READS IS OF BULK AT MOST 1048576: true; the input reads as it did. -/
def fnExactShareEnterUptoRow : OpenClaim := { program := "ytnedadngbhndkaa", sum := "c231291b0426a8b5b527e7469320e66a8b69d03ad83b6b5944827e884c0f395f", func := "loop.example/malthouse/laws.FnExactShareEnter", spec := "fnExactShareEnter", inPlace := ["internal/reflectlite.ValueOf", "internal/reflectlite.Swapper", "(internal/reflectlite.Value).Len"], unfollowed := true, recurses := true, apart := false, narrowed := true }
def FnExactShareEnterUptoSaid : Prop := fnExactShareEnterUptoRow.holds Try.pinned (OpenSpec.upto fnExactShareEnterSpec)

/-- 'laws.FnExactShareAsk', WHERE WHAT IT READS IS OF BULK AT MOST 1048576: true; the input reads as it did. -/
def fnExactShareAskUptoRow : OpenClaim := { program := "ytnedadngbhndkaa", sum := "c231291b0426a8b5b527e7469320e66a8b69d03ad83b6b5944827e884c0f395f", func := "loop.example/malthouse/laws.FnExactShareAsk", spec := "fnExactShareAsk", recurses := true, apart := false, narrowed := true }
def FnExactShareAskUptoSaid : Prop := fnExactShareAskUptoRow.holds Try.pinned (OpenSpec.upto fnExactShareAskSpec)

end Rows
end Go.Proofs.Ytnedadngbhndkaa
