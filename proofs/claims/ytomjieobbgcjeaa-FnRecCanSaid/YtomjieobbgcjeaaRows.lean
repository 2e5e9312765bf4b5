/-
  No cell of these rows narrows 'for every input' (looked for: loops, veiled, ifaces, maps, wideKeys, modest, calm, conditions, laid).
  DERIVED. THE GIVEN ROWS OF THIS SEAT. 10 by the template 'for every input the law returns true; each argument reads behind the call as it read before'; 0 by the template 'total and deterministic' (their statements: YtomjieobbgcjeaaTotals.lean).
  GIVEN WITH THE SEED: the statements are not yours to turn. If you find one false, say at which input.
  Laid BY PROGRAM, IN A SANDBOX (cutbox-rows.mjs): the forced cells as the released guide's own fill.sh prints them over the translation 77296e87ef3d75cb… (all of the seat's roots in one cut). By AI agents, Wed Nov 11 2026. No macro, syntax, notation, axiom, sorry.
-/
import Derived.Test.YtomjieobbgcjeaaChecked
import GoSem.Claim
import GoSem.ClaimJoined
import GoSem.ClaimMapViews
import Derived.JoinedTies
import Derived.KernelRfl
namespace Go.Proofs.Ytomjieobbgcjeaa
/- THE CELL 'sum', in the pinned program and in every row, IS THE sha256 OF THE DUMP (.gsa) THAT YtomjieobbgcjeaaProg.lean LOADS. Nothing in Lean hashes anything: it is a label: what it is worth is what the hold of that sum in a sandbox is worth. -/
noncomputable def Try.pinned : Pinned := { name := "ytomjieobbgcjeaa", sum := "77296e87ef3d75cbd364f46e746016063bb7a38ae88ed106ec4fe17dbd4c9020", checked := Try.checked }
namespace Rows
def none {H : Type} : Left H := { results := [], args := [] }

/-- 'laws.FnRecCan': WHATEVER THE INPUT: true; the input reads as it did. -/
def fnRecCanSpec : ChangeSpec := { name := "fnRecCan", fn := fun _ => fun
  | [d] => { results := [.lit (.bool true)], args := [d] }
  | _ => none }
def fnRecCanRow : OpenClaim := { program := "ytomjieobbgcjeaa", sum := "77296e87ef3d75cbd364f46e746016063bb7a38ae88ed106ec4fe17dbd4c9020", func := "loop.example/malthouse/laws.FnRecCan", spec := "fnRecCan", recurses := true, apart := false }
def FnRecCanSaid : Prop := fnRecCanRow.holds Try.pinned (OpenSpec.ofChange fnRecCanSpec)

/-- ITS FALSE NEIGHBOUR: 'it returns false'. Refute it at one input. -/
def fnRecCanWrong : ChangeSpec := { name := "fnRecCan", fn := fun _ => fun
  | [d] => { results := [.lit (.bool false)], args := [d] }
  | _ => none }
def FnRecCanWrongFalsely : Prop := fnRecCanRow.holds Try.pinned (OpenSpec.ofChange fnRecCanWrong)

/-- 'laws.FnExactShareLeave': WHATEVER THE INPUT: true; the input reads as it did. -/
def fnExactShareLeaveSpec : ChangeSpec := { name := "fnExactShareLeave", fn := fun _ => fun
  | [d1, d2] => { results := [.lit (.bool true)], args := [d1, d2] }
  | _ => none }
def fnExactShareLeaveRow : OpenClaim := { program := "ytomjieobbgcjeaa", sum := "77296e87ef3d75cbd364f46e746016063bb7a38ae88ed106ec4fe17dbd4c9020", func := "loop.example/malthouse/laws.FnExactShareLeave", spec := "fnExactShareLeave", apart := false }
def FnExactShareLeaveSaid : Prop := fnExactShareLeaveRow.holds Try.pinned (OpenSpec.ofChange fnExactShareLeaveSpec)

/-- ITS FALSE NEIGHBOUR: 'it returns false'. Refute it at one input. -/
def fnExactShareLeaveWrong : ChangeSpec := { name := "fnExactShareLeave", fn := fun _ => fun
  | [d1, d2] => { results := [.lit (.bool false)], args := [d1, d2] }
  | _ => none }
def FnExactShareLeaveWrongFalsely : Prop := fnExactShareLeaveRow.holds Try.pinned (OpenSpec.ofChange fnExactShareLeaveWrong)

/-- 'laws.FnShareWho': WHATEVER THE INPUT: true; the input reads as it did. -/
def fnShareWhoSpec : ChangeSpec := { name := "fnShareWho", fn := fun _ => fun
  | [d] => { results := [.lit (.bool true)], args := [d] }
  | _ => none }
def fnShareWhoRow : OpenClaim := { program := "ytomjieobbgcjeaa", sum := "77296e87ef3d75cbd364f46e746016063bb7a38ae88ed106ec4fe17dbd4c9020", func := "loop.example/malthouse/laws.FnShareWho", spec := "fnShareWho", recurses := true, apart := false }
def FnShareWhoSaid : Prop := fnShareWhoRow.holds Try.pinned (OpenSpec.ofChange fnShareWhoSpec)

/-- ITS FALSE NEIGHBOUR: 'it returns false'. Refute it at one input. -/
def fnShareWhoWrong : ChangeSpec := { name := "fnShareWho", fn := fun _ => fun
  | [d] => { results := [.lit (.bool false)], args := [d] }
  | _ => none }
def FnShareWhoWrongFalsely : Prop := fnShareWhoRow.holds Try.pinned (OpenSpec.ofChange fnShareWhoWrong)

/-- 'laws.FnShareMoves': WHATEVER THE INPUT: true; the input reads as it did. -/
def fnShareMovesSpec : ChangeSpec := { name := "fnShareMoves", fn := fun _ => fun
  | [d1, d2] => { results := [.lit (.bool true)], args := [d1, d2] }
  | _ => none }
def fnShareMovesRow : OpenClaim := { program := "ytomjieobbgcjeaa", sum := "77296e87ef3d75cbd364f46e746016063bb7a38ae88ed106ec4fe17dbd4c9020", func := "loop.example/malthouse/laws.FnShareMoves", spec := "fnShareMoves", recurses := true, apart := false }
def FnShareMovesSaid : Prop := fnShareMovesRow.holds Try.pinned (OpenSpec.ofChange fnShareMovesSpec)

/-- ITS FALSE NEIGHBOUR: 'it returns false'. Refute it at one input. -/
def fnShareMovesWrong : ChangeSpec := { name := "fnShareMoves", fn := fun _ => fun
  | [d1, d2] => { results := [.lit (.bool false)], args := [d1, d2] }
  | _ => none }
def FnShareMovesWrongFalsely : Prop := fnShareMovesRow.holds Try.pinned (OpenSpec.ofChange fnShareMovesWrong)

/-- 'laws.FnExactRunOpen': WHATEVER THE INPUT: true; the input reads as it did. -/
def fnExactRunOpenSpec : ChangeSpec := { name := "fnExactRunOpen", fn := fun _ => fun
  | [d] => { results := [.lit (.bool true)], args := [d] }
  | _ => none }
def fnExactRunOpenRow : OpenClaim := { program := "ytomjieobbgcjeaa", sum := "77296e87ef3d75cbd364f46e746016063bb7a38ae88ed106ec4fe17dbd4c9020", func := "loop.example/malthouse/laws.FnExactRunOpen", spec := "fnExactRunOpen", apart := false }
def FnExactRunOpenSaid : Prop := fnExactRunOpenRow.holds Try.pinned (OpenSpec.ofChange fnExactRunOpenSpec)

/-- ITS FALSE NEIGHBOUR: 'it returns false'. Refute it at one input. -/
def fnExactRunOpenWrong : ChangeSpec := { name := "fnExactRunOpen", fn := fun _ => fun
  | [d] => { results := [.lit (.bool false)], args := [d] }
  | _ => none }
def FnExactRunOpenWrongFalsely : Prop := fnExactRunOpenRow.holds Try.pinned (OpenSpec.ofChange fnExactRunOpenWrong)

/-- 'laws.FnExactRunBatchOk': WHATEVER THE INPUT: true; the input reads as it did. -/
def fnExactRunBatchOkSpec : ChangeSpec := { name := "fnExactRunBatchOk", fn := fun _ => fun
  | [d] => { results := [.lit (.bool true)], args := [d] }
  | _ => none }
def fnExactRunBatchOkRow : OpenClaim := { program := "ytomjieobbgcjeaa", sum := "77296e87ef3d75cbd364f46e746016063bb7a38ae88ed106ec4fe17dbd4c9020", func := "loop.example/malthouse/laws.FnExactRunBatchOk", spec := "fnExactRunBatchOk", recurses := true, apart := false }
def FnExactRunBatchOkSaid : Prop := fnExactRunBatchOkRow.holds Try.pinned (OpenSpec.ofChange fnExactRunBatchOkSpec)

/-- ITS FALSE NEIGHBOUR: 'it returns false'. Refute it at one input. -/
def fnExactRunBatchOkWrong : ChangeSpec := { name := "fnExactRunBatchOk", fn := fun _ => fun
  | [d] => { results := [.lit (.bool false)], args := [d] }
  | _ => none }
def FnExactRunBatchOkWrongFalsely : Prop := fnExactRunBatchOkRow.holds Try.pinned (OpenSpec.ofChange fnExactRunBatchOkWrong)

/-- 'laws.FnExactShareEnter': WHATEVER THE INPUT: true; the input reads as it did. -/
def fnExactShareEnterSpec : ChangeSpec := { name := "fnExactShareEnter", fn := fun _ => fun
  | [d1, d2, d3] => { results := [.lit (.bool true)], args := [d1, d2, d3] }
  | _ => none }
def fnExactShareEnterRow : OpenClaim := { program := "ytomjieobbgcjeaa", sum := "77296e87ef3d75cbd364f46e746016063bb7a38ae88ed106ec4fe17dbd4c9020", func := "loop.example/malthouse/laws.FnExactShareEnter", spec := "fnExactShareEnter", inPlace := ["internal/reflectlite.ValueOf", "internal/reflectlite.Swapper", "(internal/reflectlite.Value).Len"], unfollowed := true, recurses := true, apart := false }
def FnExactShareEnterSaid : Prop := fnExactShareEnterRow.holds Try.pinned (OpenSpec.ofChange fnExactShareEnterSpec)

/-- ITS FALSE NEIGHBOUR: 'it returns false'. Refute it at one input. -/
def fnExactShareEnterWrong : ChangeSpec := { name := "fnExactShareEnter", fn := fun _ => fun
  | [d1, d2, d3] => { results := [.lit (.bool false)], args := [d1, d2, d3] }
  | _ => none }
def FnExactShareEnterWrongFalsely : Prop := fnExactShareEnterRow.holds Try.pinned (OpenSpec.ofChange fnExactShareEnterWrong)

/-- 'laws.FnExactShareAsk': WHATEVER THE INPUT: true; the input reads as it did. -/
def fnExactShareAskSpec : ChangeSpec := { name := "fnExactShareAsk", fn := fun _ => fun
  | [d1, d2, d3] => { results := [.lit (.bool true)], args := [d1, d2, d3] }
  | _ => none }
def fnExactShareAskRow : OpenClaim := { program := "ytomjieobbgcjeaa", sum := "77296e87ef3d75cbd364f46e746016063bb7a38ae88ed106ec4fe17dbd4c9020", func := "loop.example/malthouse/laws.FnExactShareAsk", spec := "fnExactShareAsk", recurses := true, apart := false }
def FnExactShareAskSaid : Prop := fnExactShareAskRow.holds Try.pinned (OpenSpec.ofChange fnExactShareAskSpec)

/-- ITS FALSE NEIGHBOUR: 'it returns false'. Refute it at one input. -/
def fnExactShareAskWrong : ChangeSpec := { name := "fnExactShareAsk", fn := fun _ => fun
  | [d1, d2, d3] => { results := [.lit (.bool false)], args := [d1, d2, d3] }
  | _ => none }
def FnExactShareAskWrongFalsely : Prop := fnExactShareAskRow.holds Try.pinned (OpenSpec.ofChange fnExactShareAskWrong)

/-- 'laws.FnExactRunThings': WHATEVER THE INPUT: true; the input reads as it did. -/
def fnExactRunThingsSpec : ChangeSpec := { name := "fnExactRunThings", fn := fun _ => fun
  | [d1, d2] => { results := [.lit (.bool true)], args := [d1, d2] }
  | _ => none }
def fnExactRunThingsRow : OpenClaim := { program := "ytomjieobbgcjeaa", sum := "77296e87ef3d75cbd364f46e746016063bb7a38ae88ed106ec4fe17dbd4c9020", func := "loop.example/malthouse/laws.FnExactRunThings", spec := "fnExactRunThings", recurses := true, apart := false }
def FnExactRunThingsSaid : Prop := fnExactRunThingsRow.holds Try.pinned (OpenSpec.ofChange fnExactRunThingsSpec)

/-- ITS FALSE NEIGHBOUR: 'it returns false'. Refute it at one input. -/
def fnExactRunThingsWrong : ChangeSpec := { name := "fnExactRunThings", fn := fun _ => fun
  | [d1, d2] => { results := [.lit (.bool false)], args := [d1, d2] }
  | _ => none }
def FnExactRunThingsWrongFalsely : Prop := fnExactRunThingsRow.holds Try.pinned (OpenSpec.ofChange fnExactRunThingsWrong)

/-- 'laws.FnExactRunOwn': WHATEVER THE INPUT: true; the input reads as it did. -/
def fnExactRunOwnSpec : ChangeSpec := { name := "fnExactRunOwn", fn := fun _ => fun
  | [d] => { results := [.lit (.bool true)], args := [d] }
  | _ => none }
def fnExactRunOwnRow : OpenClaim := { program := "ytomjieobbgcjeaa", sum := "77296e87ef3d75cbd364f46e746016063bb7a38ae88ed106ec4fe17dbd4c9020", func := "loop.example/malthouse/laws.FnExactRunOwn", spec := "fnExactRunOwn", recurses := true, apart := false }
def FnExactRunOwnSaid : Prop := fnExactRunOwnRow.holds Try.pinned (OpenSpec.ofChange fnExactRunOwnSpec)

/-- ITS FALSE NEIGHBOUR: 'it returns false'. Refute it at one input. -/
def fnExactRunOwnWrong : ChangeSpec := { name := "fnExactRunOwn", fn := fun _ => fun
  | [d] => { results := [.lit (.bool false)], args := [d] }
  | _ => none }
def FnExactRunOwnWrongFalsely : Prop := fnExactRunOwnRow.holds Try.pinned (OpenSpec.ofChange fnExactRunOwnWrong)

/- THE SECOND FORM. 'bulk': how many values and letters a reading holds, each counted each time it is reached (what is shared counts as often as it is met; a slice's spare places count too). A statement '..UptoSaid' is the law's where the arguments, and the package variables that the reading takes, are together of bulk at most 1048576: NARROWER than '..Said'. Prove '..Said' where nothing that the law and all that it calls make is longer than what came in: it says more and counts as full. Else prove '..UptoSaid'. A law counts once. -/
mutual
def uptoBulk {H : Type} : DataW H → Nat
  | .lit (.string bytes) => bytes.length + 1
  | .lit _ => 1
  | .nil => 1
  | .ptr d => uptoBulk d + 1
  | .slice elems spare => uptoBulkAll elems + uptoBulkAll spare + 1
  | .agg parts => uptoBulkAll parts + 1
  | .iface _ d => uptoBulk d + 1
  | .map entries => uptoBulkEntries entries + 1
  | .held _ => 1
def uptoBulkAll {H : Type} : List (DataW H) → Nat
  | [] => 0
  | d :: r => uptoBulk d + uptoBulkAll r
def uptoBulkEntries {H : Type} : List (Lit × DataW H) → Nat
  | [] => 0
  | x :: r => uptoBulkEntry x + uptoBulkEntries r
def uptoBulkEntry {H : Type} : Lit × DataW H → Nat
  | (.string bytes, d) => bytes.length + uptoBulk d + 1
  | (_, d) => uptoBulk d + 1
 end
def uptoSmall : (H : Type) → List (DataW H) → Bool := fun _ ds => decide (uptoBulkAll ds ≤ 1048576)
def OpenSpec.upto (s : _root_.Go.ChangeSpec) : _root_.Go.OpenSpec := { _root_.Go.OpenSpec.ofChange s with cond := some uptoSmall }

/-- 'laws.FnRecCan', WHERE WHAT IT READS IS OF BULK AT MOST 1048576: true; the input reads as it did. -/
def fnRecCanUptoRow : OpenClaim := { program := "ytomjieobbgcjeaa", sum := "77296e87ef3d75cbd364f46e746016063bb7a38ae88ed106ec4fe17dbd4c9020", func := "loop.example/malthouse/laws.FnRecCan", spec := "fnRecCan", recurses := true, apart := false, narrowed := true }
def FnRecCanUptoSaid : Prop := fnRecCanUptoRow.holds Try.pinned (OpenSpec.upto fnRecCanSpec)

/-- 'laws.FnExactShareLeave', WHERE WHAT IT READS IS OF BULK AT MOST 1048576: true; the input reads as it did. -/
def fnExactShareLeaveUptoRow : OpenClaim := { program := "ytomjieobbgcjeaa", sum := "77296e87ef3d75cbd364f46e746016063bb7a38ae88ed106ec4fe17dbd4c9020", func := "loop.example/malthouse/laws.FnExactShareLeave", spec := "fnExactShareLeave", apart := false, narrowed := true }
def FnExactShareLeaveUptoSaid : Prop := fnExactShareLeaveUptoRow.holds Try.pinned (OpenSpec.upto fnExactShareLeaveSpec)

/-- 'laws.FnShareWho', WHERE WHAT IT READS IS OF BULK AT MOST 1048576: true; the input reads as it did. -/
def fnShareWhoUptoRow : OpenClaim := { program := "ytomjieobbgcjeaa", sum := "77296e87ef3d75cbd364f46e746016063bb7a38ae88ed106ec4fe17dbd4c9020", func := "loop.example/malthouse/laws.FnShareWho", spec := "fnShareWho", recurses := true, apart := false, narrowed := true }
def FnShareWhoUptoSaid : Prop := fnShareWhoUptoRow.holds Try.pinned (OpenSpec.upto fnShareWhoSpec)

/-- 'laws.FnShareMoves', WHERE WHAT IT READS IS OF BULK AT MOST 1048576: true; the input reads as it did. -/
def fnShareMovesUptoRow : OpenClaim := { program := "ytomjieobbgcjeaa", sum := "77296e87ef3d75cbd364f46e746016063bb7a38ae88ed106ec4fe17dbd4c9020", func := "loop.example/malthouse/laws.FnShareMoves", spec := "fnShareMoves", recurses := true, apart := false, narrowed := true }
def FnShareMovesUptoSaid : Prop := fnShareMovesUptoRow.holds Try.pinned (OpenSpec.upto fnShareMovesSpec)

/-- 'laws.FnExactRunOpen', WHERE WHAT IT READS IS OF BULK AT MOST 1048576: true; the input reads as it did. -/
def fnExactRunOpenUptoRow : OpenClaim := { program := "ytomjieobbgcjeaa", sum := "77296e87ef3d75cbd364f46e746016063bb7a38ae88ed106ec4fe17dbd4c9020", func := "loop.example/malthouse/laws.FnExactRunOpen", spec := "fnExactRunOpen", apart := false, narrowed := true }
def FnExactRunOpenUptoSaid : Prop := fnExactRunOpenUptoRow.holds Try.pinned (OpenSpec.upto fnExactRunOpenSpec)

/-- 'laws.FnExactRunBatchOk', WHERE WHAT IT READS IS OF BULK AT MOST 1048576: true; the input reads as it did. -/
def fnExactRunBatchOkUptoRow : OpenClaim := { program := "ytomjieobbgcjeaa", sum := "77296e87ef3d75cbd364f46e746016063bb7a38ae88ed106ec4fe17dbd4c9020", func := "loop.example/malthouse/laws.FnExactRunBatchOk", spec := "fnExactRunBatchOk", recurses := true, apart := false, narrowed := true }
def FnExactRunBatchOkUptoSaid : Prop := fnExactRunBatchOkUptoRow.holds Try.pinned (OpenSpec.upto fnExactRunBatchOkSpec)

/-- 'laws.FnExactShareEnter', WHERE WHAT IT READS IS OF BULK AT MOST 1048576: true; the input reads as it did. -/
def fnExactShareEnterUptoRow : OpenClaim := { program := "ytomjieobbgcjeaa", sum := "77296e87ef3d75cbd364f46e746016063bb7a38ae88ed106ec4fe17dbd4c9020", func := "loop.example/malthouse/laws.FnExactShareEnter", spec := "fnExactShareEnter", inPlace := ["internal/reflectlite.ValueOf", "internal/reflectlite.Swapper", "(internal/reflectlite.Value).Len"], unfollowed := true, recurses := true, apart := false, narrowed := true }
def FnExactShareEnterUptoSaid : Prop := fnExactShareEnterUptoRow.holds Try.pinned (OpenSpec.upto fnExactShareEnterSpec)

/-- 'laws.FnExactShareAsk', WHERE WHAT IT READS IS OF BULK AT MOST 1048576: true; the input reads as it did. -/
def fnExactShareAskUptoRow : OpenClaim := { program := "ytomjieobbgcjeaa", sum := "77296e87ef3d75cbd364f46e746016063bb7a38ae88ed106ec4fe17dbd4c9020", func := "loop.example/malthouse/laws.FnExactShareAsk", spec := "fnExactShareAsk", recurses := true, apart := false, narrowed := true }
def FnExactShareAskUptoSaid : Prop := fnExactShareAskUptoRow.holds Try.pinned (OpenSpec.upto fnExactShareAskSpec)

/-- 'laws.FnExactRunThings', WHERE WHAT IT READS IS OF BULK AT MOST 1048576: true; the input reads as it did. -/
def fnExactRunThingsUptoRow : OpenClaim := { program := "ytomjieobbgcjeaa", sum := "77296e87ef3d75cbd364f46e746016063bb7a38ae88ed106ec4fe17dbd4c9020", func := "loop.example/malthouse/laws.FnExactRunThings", spec := "fnExactRunThings", recurses := true, apart := false, narrowed := true }
def FnExactRunThingsUptoSaid : Prop := fnExactRunThingsUptoRow.holds Try.pinned (OpenSpec.upto fnExactRunThingsSpec)

/-- 'laws.FnExactRunOwn', WHERE WHAT IT READS IS OF BULK AT MOST 1048576: true; the input reads as it did. -/
def fnExactRunOwnUptoRow : OpenClaim := { program := "ytomjieobbgcjeaa", sum := "77296e87ef3d75cbd364f46e746016063bb7a38ae88ed106ec4fe17dbd4c9020", func := "loop.example/malthouse/laws.FnExactRunOwn", spec := "fnExactRunOwn", recurses := true, apart := false, narrowed := true }
def FnExactRunOwnUptoSaid : Prop := fnExactRunOwnUptoRow.holds Try.pinned (OpenSpec.upto fnExactRunOwnSpec)

end Rows
end Go.Proofs.Ytomjieobbgcjeaa
