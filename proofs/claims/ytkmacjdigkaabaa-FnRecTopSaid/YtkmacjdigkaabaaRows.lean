/-
  No cell of these rows narrows 'for every input' (looked for: loops, veiled, ifaces, maps, wideKeys, modest, calm, conditions, laid).
  DERIVED. THE GIVEN ROWS OF THIS SEAT. 8 by the template 'for every input the law returns true; each argument reads behind the call as it read before'; 0 by the template 'total and deterministic' (their statements: YtkmacjdigkaabaaTotals.lean).
  GIVEN WITH THE SEED: the statements are not yours to turn. If you find one false, say at which input.
  Laid BY PROGRAM, IN A SANDBOX (cutbox-rows.mjs): the forced cells as the released guide's own fill.sh prints them over the translation 3ed41c0d65cdc873… (all of the seat's roots in one cut). By AI agents, Wed Nov 11 2026. No macro, syntax, notation, axiom, sorry.
-/
import Derived.Test.YtkmacjdigkaabaaChecked
import GoSem.Claim
import GoSem.ClaimJoined
import GoSem.ClaimMapViews
import Derived.JoinedTies
import Derived.KernelRfl
namespace Go.Proofs.Ytkmacjdigkaabaa
/- THE CELL 'sum', in the pinned program and in every row, IS THE sha256 OF THE DUMP (.gsa) THAT YtkmacjdigkaabaaProg.lean LOADS. Nothing in Lean hashes anything: it is a label: what it is worth is what the hold of that sum in a sandbox is worth. -/
noncomputable def Try.pinned : Pinned := { name := "ytkmacjdigkaabaa", sum := "3ed41c0d65cdc873e96537ef3814d4760850cf5014637814384a3244c80757e7", checked := Try.checked }
namespace Rows
def none {H : Type} : Left H := { results := [], args := [] }

/-- 'laws.FnExactShareLeave': WHATEVER THE INPUT: true; the input reads as it did. -/
def fnExactShareLeaveSpec : ChangeSpec := { name := "fnExactShareLeave", fn := fun _ => fun
  | [d1, d2] => { results := [.lit (.bool true)], args := [d1, d2] }
  | _ => none }
def fnExactShareLeaveRow : OpenClaim := { program := "ytkmacjdigkaabaa", sum := "3ed41c0d65cdc873e96537ef3814d4760850cf5014637814384a3244c80757e7", func := "loop.example/malthouse/laws.FnExactShareLeave", spec := "fnExactShareLeave", apart := false }
def FnExactShareLeaveSaid : Prop := fnExactShareLeaveRow.holds Try.pinned (OpenSpec.ofChange fnExactShareLeaveSpec)

/-- ITS FALSE NEIGHBOUR: 'it returns false'. Refute it at one input. -/
def fnExactShareLeaveWrong : ChangeSpec := { name := "fnExactShareLeave", fn := fun _ => fun
  | [d1, d2] => { results := [.lit (.bool false)], args := [d1, d2] }
  | _ => none }
def FnExactShareLeaveWrongFalsely : Prop := fnExactShareLeaveRow.holds Try.pinned (OpenSpec.ofChange fnExactShareLeaveWrong)

/-- 'laws.FnExactShareEnter': WHATEVER THE INPUT: true; the input reads as it did. -/
def fnExactShareEnterSpec : ChangeSpec := { name := "fnExactShareEnter", fn := fun _ => fun
  | [d1, d2, d3] => { results := [.lit (.bool true)], args := [d1, d2, d3] }
  | _ => none }
def fnExactShareEnterRow : OpenClaim := { program := "ytkmacjdigkaabaa", sum := "3ed41c0d65cdc873e96537ef3814d4760850cf5014637814384a3244c80757e7", func := "loop.example/malthouse/laws.FnExactShareEnter", spec := "fnExactShareEnter", inPlace := ["internal/reflectlite.ValueOf", "internal/reflectlite.Swapper", "(internal/reflectlite.Value).Len"], unfollowed := true, recurses := true, apart := false }
def FnExactShareEnterSaid : Prop := fnExactShareEnterRow.holds Try.pinned (OpenSpec.ofChange fnExactShareEnterSpec)

/-- ITS FALSE NEIGHBOUR: 'it returns false'. Refute it at one input. -/
def fnExactShareEnterWrong : ChangeSpec := { name := "fnExactShareEnter", fn := fun _ => fun
  | [d1, d2, d3] => { results := [.lit (.bool false)], args := [d1, d2, d3] }
  | _ => none }
def FnExactShareEnterWrongFalsely : Prop := fnExactShareEnterRow.holds Try.pinned (OpenSpec.ofChange fnExactShareEnterWrong)

/-- 'laws.FnShareWho': WHATEVER THE INPUT: true; the input reads as it did. -/
def fnShareWhoSpec : ChangeSpec := { name := "fnShareWho", fn := fun _ => fun
  | [d] => { results := [.lit (.bool true)], args := [d] }
  | _ => none }
def fnShareWhoRow : OpenClaim := { program := "ytkmacjdigkaabaa", sum := "3ed41c0d65cdc873e96537ef3814d4760850cf5014637814384a3244c80757e7", func := "loop.example/malthouse/laws.FnShareWho", spec := "fnShareWho", recurses := true, apart := false }
def FnShareWhoSaid : Prop := fnShareWhoRow.holds Try.pinned (OpenSpec.ofChange fnShareWhoSpec)

/-- ITS FALSE NEIGHBOUR: 'it returns false'. Refute it at one input. -/
def fnShareWhoWrong : ChangeSpec := { name := "fnShareWho", fn := fun _ => fun
  | [d] => { results := [.lit (.bool false)], args := [d] }
  | _ => none }
def FnShareWhoWrongFalsely : Prop := fnShareWhoRow.holds Try.pinned (OpenSpec.ofChange fnShareWhoWrong)

/-- 'laws.FnShareMoves': WHATEVER THE INPUT: true; the input reads as it did. -/
def fnShareMovesSpec : ChangeSpec := { name := "fnShareMoves", fn := fun _ => fun
  | [d1, d2] => { results := [.lit (.bool true)], args := [d1, d2] }
  | _ => none }
def fnShareMovesRow : OpenClaim := { program := "ytkmacjdigkaabaa", sum := "3ed41c0d65cdc873e96537ef3814d4760850cf5014637814384a3244c80757e7", func := "loop.example/malthouse/laws.FnShareMoves", spec := "fnShareMoves", recurses := true, apart := false }
def FnShareMovesSaid : Prop := fnShareMovesRow.holds Try.pinned (OpenSpec.ofChange fnShareMovesSpec)

/-- ITS FALSE NEIGHBOUR: 'it returns false'. Refute it at one input. -/
def fnShareMovesWrong : ChangeSpec := { name := "fnShareMoves", fn := fun _ => fun
  | [d1, d2] => { results := [.lit (.bool false)], args := [d1, d2] }
  | _ => none }
def FnShareMovesWrongFalsely : Prop := fnShareMovesRow.holds Try.pinned (OpenSpec.ofChange fnShareMovesWrong)

/-- 'laws.FnShareOrder': WHATEVER THE INPUT: true; the input reads as it did. -/
def fnShareOrderSpec : ChangeSpec := { name := "fnShareOrder", fn := fun _ => fun
  | [d1, d2] => { results := [.lit (.bool true)], args := [d1, d2] }
  | _ => none }
def fnShareOrderRow : OpenClaim := { program := "ytkmacjdigkaabaa", sum := "3ed41c0d65cdc873e96537ef3814d4760850cf5014637814384a3244c80757e7", func := "loop.example/malthouse/laws.FnShareOrder", spec := "fnShareOrder", recurses := true, apart := false }
def FnShareOrderSaid : Prop := fnShareOrderRow.holds Try.pinned (OpenSpec.ofChange fnShareOrderSpec)

/-- ITS FALSE NEIGHBOUR: 'it returns false'. Refute it at one input. -/
def fnShareOrderWrong : ChangeSpec := { name := "fnShareOrder", fn := fun _ => fun
  | [d1, d2] => { results := [.lit (.bool false)], args := [d1, d2] }
  | _ => none }
def FnShareOrderWrongFalsely : Prop := fnShareOrderRow.holds Try.pinned (OpenSpec.ofChange fnShareOrderWrong)

/-- 'laws.FnShareAsk': WHATEVER THE INPUT: true; the input reads as it did. -/
def fnShareAskSpec : ChangeSpec := { name := "fnShareAsk", fn := fun _ => fun
  | [d] => { results := [.lit (.bool true)], args := [d] }
  | _ => none }
def fnShareAskRow : OpenClaim := { program := "ytkmacjdigkaabaa", sum := "3ed41c0d65cdc873e96537ef3814d4760850cf5014637814384a3244c80757e7", func := "loop.example/malthouse/laws.FnShareAsk", spec := "fnShareAsk", recurses := true, apart := false }
def FnShareAskSaid : Prop := fnShareAskRow.holds Try.pinned (OpenSpec.ofChange fnShareAskSpec)

/-- ITS FALSE NEIGHBOUR: 'it returns false'. Refute it at one input. -/
def fnShareAskWrong : ChangeSpec := { name := "fnShareAsk", fn := fun _ => fun
  | [d] => { results := [.lit (.bool false)], args := [d] }
  | _ => none }
def FnShareAskWrongFalsely : Prop := fnShareAskRow.holds Try.pinned (OpenSpec.ofChange fnShareAskWrong)

/-- 'laws.FnShareLess': WHATEVER THE INPUT: true; the input reads as it did. -/
def fnShareLessSpec : ChangeSpec := { name := "fnShareLess", fn := fun _ => fun
  | [d1, d2] => { results := [.lit (.bool true)], args := [d1, d2] }
  | _ => none }
def fnShareLessRow : OpenClaim := { program := "ytkmacjdigkaabaa", sum := "3ed41c0d65cdc873e96537ef3814d4760850cf5014637814384a3244c80757e7", func := "loop.example/malthouse/laws.FnShareLess", spec := "fnShareLess", inPlace := ["internal/reflectlite.ValueOf", "internal/reflectlite.Swapper", "(internal/reflectlite.Value).Len"], unfollowed := true, recurses := true, apart := false }
def FnShareLessSaid : Prop := fnShareLessRow.holds Try.pinned (OpenSpec.ofChange fnShareLessSpec)

/-- ITS FALSE NEIGHBOUR: 'it returns false'. Refute it at one input. -/
def fnShareLessWrong : ChangeSpec := { name := "fnShareLess", fn := fun _ => fun
  | [d1, d2] => { results := [.lit (.bool false)], args := [d1, d2] }
  | _ => none }
def FnShareLessWrongFalsely : Prop := fnShareLessRow.holds Try.pinned (OpenSpec.ofChange fnShareLessWrong)

/-- 'laws.FnRecTop': WHATEVER THE INPUT: true; the input reads as it did. -/
def fnRecTopSpec : ChangeSpec := { name := "fnRecTop", fn := fun _ => fun
  | [d] => { results := [.lit (.bool true)], args := [d] }
  | _ => none }
def fnRecTopRow : OpenClaim := { program := "ytkmacjdigkaabaa", sum := "3ed41c0d65cdc873e96537ef3814d4760850cf5014637814384a3244c80757e7", func := "loop.example/malthouse/laws.FnRecTop", spec := "fnRecTop", recurses := true, apart := false }
def FnRecTopSaid : Prop := fnRecTopRow.holds Try.pinned (OpenSpec.ofChange fnRecTopSpec)

/-- ITS FALSE NEIGHBOUR: 'it returns false'. Refute it at one input. -/
def fnRecTopWrong : ChangeSpec := { name := "fnRecTop", fn := fun _ => fun
  | [d] => { results := [.lit (.bool false)], args := [d] }
  | _ => none }
def FnRecTopWrongFalsely : Prop := fnRecTopRow.holds Try.pinned (OpenSpec.ofChange fnRecTopWrong)

/- THE SECOND FORM. 'bulk': how many values and letters a reading holds, each counted each time it is reached (what is shared counts as often as it is met; a slice's spare places count too). A statement '..UptoSaid' is the law's where the arguments, and the package variables that the reading takes, are together of bulk at most 1048576: NARROWER than '..Said'. Prove '..Said' where nothing that the law and all that it calls make is longer than what came in: it says more and counts as full. Else prove '..UptoSaid'. A law counts once. -/
mutual
def uptoBulk {H : Type} : DataW H → Nat
  | .lit (.string bytes) => bytes.length + 1
  | .lit _ => 1
  | .nil => 1
  | .ptr d => uptoBulk d + 1
  | .slice elems spare => uptoBulkAll elems + uptoBulkAll spare + 1
  | .agg parts => uptoBulkAll parts + 1
  | .iface _ d => uptoBulk d + 1
  | .map entries => uptoBulkEntries entries + 1
  | .held _ => 1
def uptoBulkAll {H : Type} : List (DataW H) → Nat
  | [] => 0
  | d :: r => uptoBulk d + uptoBulkAll r
def uptoBulkEntries {H : Type} : List (Lit × DataW H) → Nat
  | [] => 0
  | x :: r => uptoBulkEntry x + uptoBulkEntries r
def uptoBulkEntry {H : Type} : Lit × DataW H → Nat
  | (.string bytes, d) => bytes.length + uptoBulk d + 1
  | (_, d) => uptoBulk d + 1
 end
def uptoSmall : (H : Type) → List (DataW H) → Bool := fun _ ds => decide (uptoBulkAll ds ≤ 1048576)
def OpenSpec.upto (s : _root_.Go.ChangeSpec) : _root_.Go.OpenSpec := { _root_.Go.OpenSpec.ofChange s with cond := some uptoSmall }

/-- 'laws.FnExactShareLeave', WHERE WHAT IT READS IS OF BULK AT MOST 1048576: true; the input reads as it did. -/
def fnExactShareLeaveUptoRow : OpenClaim := { program := "ytkmacjdigkaabaa", sum := "3ed41c0d65cdc873e96537ef3814d4760850cf5014637814384a3244c80757e7", func := "loop.example/malthouse/laws.FnExactShareLeave", spec := "fnExactShareLeave", apart := false, narrowed := true }
def FnExactShareLeaveUptoSaid : Prop := fnExactShareLeaveUptoRow.holds Try.pinned (OpenSpec.upto fnExactShareLeaveSpec)

/-- 'laws.FnExactShareEnter', WHERE WHAT IT READS IS OF BULK AT MOST 1048576: true; the input reads as it did. -/
def fnExactShareEnterUptoRow : OpenClaim := { program := "ytkmacjdigkaabaa", sum := "3ed41c0d65cdc873e96537ef3814d4760850cf5014637814384a3244c80757e7", func := "loop.example/malthouse/laws.FnExactShareEnter", spec := "fnExactShareEnter", inPlace := ["internal/reflectlite.ValueOf", "internal/reflectlite.Swapper", "(internal/reflectlite.Value).Len"], unfollowed := true, recurses := true, apart := false, narrowed := true }
def FnExactShareEnterUptoSaid : Prop := fnExactShareEnterUptoRow.holds Try.pinned (OpenSpec.upto fnExactShareEnterSpec)

/-- 'laws.FnShareWho', WHERE WHAT IT READS IS OF BULK AT MOST 1048576: true; the input reads as it did. -/
def fnShareWhoUptoRow : OpenClaim := { program := "ytkmacjdigkaabaa", sum := "3ed41c0d65cdc873e96537ef3814d4760850cf5014637814384a3244c80757e7", func := "loop.example/malthouse/laws.FnShareWho", spec := "fnShareWho", recurses := true, apart := false, narrowed := true }
def FnShareWhoUptoSaid : Prop := fnShareWhoUptoRow.holds Try.pinned (OpenSpec.upto fnShareWhoSpec)

/-- 'laws.FnShareMoves', WHERE WHAT IT READS IS OF BULK AT MOST 1048576: true; the input reads as it did. -/
def fnShareMovesUptoRow : OpenClaim := { program := "ytkmacjdigkaabaa", sum := "3ed41c0d65cdc873e96537ef3814d4760850cf5014637814384a3244c80757e7", func := "loop.example/malthouse/laws.FnShareMoves", spec := "fnShareMoves", recurses := true, apart := false, narrowed := true }
def FnShareMovesUptoSaid : Prop := fnShareMovesUptoRow.holds Try.pinned (OpenSpec.upto fnShareMovesSpec)

/-- 'laws.FnShareOrder', WHERE WHAT IT READS IS OF BULK AT MOST 1048576: true; the input reads as it did. -/
def fnShareOrderUptoRow : OpenClaim := { program := "ytkmacjdigkaabaa", sum := "3ed41c0d65cdc873e96537ef3814d4760850cf5014637814384a3244c80757e7", func := "loop.example/malthouse/laws.FnShareOrder", spec := "fnShareOrder", recurses := true, apart := false, narrowed := true }
def FnShareOrderUptoSaid : Prop := fnShareOrderUptoRow.holds Try.pinned (OpenSpec.upto fnShareOrderSpec)

/-- 'laws.FnShareAsk', WHERE WHAT IT READS IS OF BULK AT MOST 1048576: true; the input reads as it did. -/
def fnShareAskUptoRow : OpenClaim := { program := "ytkmacjdigkaabaa", sum := "3ed41c0d65cdc873e96537ef3814d4760850cf5014637814384a3244c80757e7", func := "loop.example/malthouse/laws.FnShareAsk", spec := "fnShareAsk", recurses := true, apart := false, narrowed := true }
def FnShareAskUptoSaid : Prop := fnShareAskUptoRow.holds Try.pinned (OpenSpec.upto fnShareAskSpec)

/-- 'laws.FnShareLess', WHERE WHAT IT READS IS OF BULK AT MOST 1048576: true; the input reads as it did. -/
def fnShareLessUptoRow : OpenClaim := { program := "ytkmacjdigkaabaa", sum := "3ed41c0d65cdc873e96537ef3814d4760850cf5014637814384a3244c80757e7", func := "loop.example/malthouse/laws.FnShareLess", spec := "fnShareLess", inPlace := ["internal/reflectlite.ValueOf", "internal/reflectlite.Swapper", "(internal/reflectlite.Value).Len"], unfollowed := true, recurses := true, apart := false, narrowed := true }
def FnShareLessUptoSaid : Prop := fnShareLessUptoRow.holds Try.pinned (OpenSpec.upto fnShareLessSpec)

/-- 'laws.FnRecTop', WHERE WHAT IT READS IS OF BULK AT MOST 1048576: true; the input reads as it did. -/
def fnRecTopUptoRow : OpenClaim := { program := "ytkmacjdigkaabaa", sum := "3ed41c0d65cdc873e96537ef3814d4760850cf5014637814384a3244c80757e7", func := "loop.example/malthouse/laws.FnRecTop", spec := "fnRecTop", recurses := true, apart := false, narrowed := true }
def FnRecTopUptoSaid : Prop := fnRecTopUptoRow.holds Try.pinned (OpenSpec.upto fnRecTopSpec)

end Rows
end Go.Proofs.Ytkmacjdigkaabaa
