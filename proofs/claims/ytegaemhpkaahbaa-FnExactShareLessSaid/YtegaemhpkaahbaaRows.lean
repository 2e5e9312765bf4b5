/-
  No cell of these rows narrows 'for every input' (looked for: loops, veiled, ifaces, maps, wideKeys, modest, calm, conditions, laid).
  DERIVED. THE GIVEN ROWS OF THIS SEAT. 12 by the template 'for every input the law returns true; each argument reads behind the call as it read before'; 0 by the template 'total and deterministic' (their statements: YtegaemhpkaahbaaTotals.lean).
  GIVEN WITH THE SEED: the statements are not yours to turn. If you find one false, say at which input.
  Laid BY PROGRAM, IN A SANDBOX (cutbox-rows.mjs): the forced cells as the released guide's own fill.sh prints them over the translation 9d7ac74935506fd7… (all of the seat's roots in one cut). By AI agents, Wed Nov 11 2026. No macro, syntax, notation, axiom, sorry.
-/
import Derived.Test.YtegaemhpkaahbaaChecked
import GoSem.Claim
import GoSem.ClaimJoined
import GoSem.ClaimMapViews
import Derived.JoinedTies
import Derived.KernelRfl
namespace Go.Proofs.Ytegaemhpkaahbaa
/- THE CELL 'sum', in the pinned program and in every row, IS THE sha256 OF THE DUMP (.gsa) THAT YtegaemhpkaahbaaProg.lean LOADS. Nothing in Lean hashes anything: it is a label: what it is worth is what the hold of that sum in a sandbox is worth. -/
noncomputable def Try.pinned : Pinned := { name := "ytegaemhpkaahbaa", sum := "9d7ac74935506fd7f870db6c2df3a02e831b1d86865045bfeacdf5b63117f916", checked := Try.checked }
namespace Rows
def none {H : Type} : Left H := { results := [], args := [] }

/-- 'laws.FnExactRecCan': WHATEVER THE INPUT: true; the input reads as it did. -/
def fnExactRecCanSpec : ChangeSpec := { name := "fnExactRecCan", fn := fun _ => fun
  | [d1, d2, d3] => { results := [.lit (.bool true)], args := [d1, d2, d3] }
  | _ => none }
def fnExactRecCanRow : OpenClaim := { program := "ytegaemhpkaahbaa", sum := "9d7ac74935506fd7f870db6c2df3a02e831b1d86865045bfeacdf5b63117f916", func := "loop.example/malthouse/laws.FnExactRecCan", spec := "fnExactRecCan", recurses := true, apart := false }
def FnExactRecCanSaid : Prop := fnExactRecCanRow.holds Try.pinned (OpenSpec.ofChange fnExactRecCanSpec)

/-- ITS FALSE NEIGHBOUR: 'it returns false'. Refute it at one input. -/
def fnExactRecCanWrong : ChangeSpec := { name := "fnExactRecCan", fn := fun _ => fun
  | [d1, d2, d3] => { results := [.lit (.bool false)], args := [d1, d2, d3] }
  | _ => none }
def FnExactRecCanWrongFalsely : Prop := fnExactRecCanRow.holds Try.pinned (OpenSpec.ofChange fnExactRecCanWrong)

/-- 'laws.FnExactShareBookOk': WHATEVER THE INPUT: true; the input reads as it did. -/
def fnExactShareBookOkSpec : ChangeSpec := { name := "fnExactShareBookOk", fn := fun _ => fun
  | [d] => { results := [.lit (.bool true)], args := [d] }
  | _ => none }
def fnExactShareBookOkRow : OpenClaim := { program := "ytegaemhpkaahbaa", sum := "9d7ac74935506fd7f870db6c2df3a02e831b1d86865045bfeacdf5b63117f916", func := "loop.example/malthouse/laws.FnExactShareBookOk", spec := "fnExactShareBookOk", apart := false }
def FnExactShareBookOkSaid : Prop := fnExactShareBookOkRow.holds Try.pinned (OpenSpec.ofChange fnExactShareBookOkSpec)

/-- ITS FALSE NEIGHBOUR: 'it returns false'. Refute it at one input. -/
def fnExactShareBookOkWrong : ChangeSpec := { name := "fnExactShareBookOk", fn := fun _ => fun
  | [d] => { results := [.lit (.bool false)], args := [d] }
  | _ => none }
def FnExactShareBookOkWrongFalsely : Prop := fnExactShareBookOkRow.holds Try.pinned (OpenSpec.ofChange fnExactShareBookOkWrong)

/-- 'laws.FnExactShareWho': WHATEVER THE INPUT: true; the input reads as it did. -/
def fnExactShareWhoSpec : ChangeSpec := { name := "fnExactShareWho", fn := fun _ => fun
  | [d1, d2] => { results := [.lit (.bool true)], args := [d1, d2] }
  | _ => none }
def fnExactShareWhoRow : OpenClaim := { program := "ytegaemhpkaahbaa", sum := "9d7ac74935506fd7f870db6c2df3a02e831b1d86865045bfeacdf5b63117f916", func := "loop.example/malthouse/laws.FnExactShareWho", spec := "fnExactShareWho", apart := false }
def FnExactShareWhoSaid : Prop := fnExactShareWhoRow.holds Try.pinned (OpenSpec.ofChange fnExactShareWhoSpec)

/-- ITS FALSE NEIGHBOUR: 'it returns false'. Refute it at one input. -/
def fnExactShareWhoWrong : ChangeSpec := { name := "fnExactShareWho", fn := fun _ => fun
  | [d1, d2] => { results := [.lit (.bool false)], args := [d1, d2] }
  | _ => none }
def FnExactShareWhoWrongFalsely : Prop := fnExactShareWhoRow.holds Try.pinned (OpenSpec.ofChange fnExactShareWhoWrong)

/-- 'laws.FnRecCan': WHATEVER THE INPUT: true; the input reads as it did. -/
def fnRecCanSpec : ChangeSpec := { name := "fnRecCan", fn := fun _ => fun
  | [d] => { results := [.lit (.bool true)], args := [d] }
  | _ => none }
def fnRecCanRow : OpenClaim := { program := "ytegaemhpkaahbaa", sum := "9d7ac74935506fd7f870db6c2df3a02e831b1d86865045bfeacdf5b63117f916", func := "loop.example/malthouse/laws.FnRecCan", spec := "fnRecCan", recurses := true, apart := false }
def FnRecCanSaid : Prop := fnRecCanRow.holds Try.pinned (OpenSpec.ofChange fnRecCanSpec)

/-- ITS FALSE NEIGHBOUR: 'it returns false'. Refute it at one input. -/
def fnRecCanWrong : ChangeSpec := { name := "fnRecCan", fn := fun _ => fun
  | [d] => { results := [.lit (.bool false)], args := [d] }
  | _ => none }
def FnRecCanWrongFalsely : Prop := fnRecCanRow.holds Try.pinned (OpenSpec.ofChange fnRecCanWrong)

/-- 'laws.FnExactShareStuck': WHATEVER THE INPUT: true; the input reads as it did. -/
def fnExactShareStuckSpec : ChangeSpec := { name := "fnExactShareStuck", fn := fun _ => fun
  | [d] => { results := [.lit (.bool true)], args := [d] }
  | _ => none }
def fnExactShareStuckRow : OpenClaim := { program := "ytegaemhpkaahbaa", sum := "9d7ac74935506fd7f870db6c2df3a02e831b1d86865045bfeacdf5b63117f916", func := "loop.example/malthouse/laws.FnExactShareStuck", spec := "fnExactShareStuck", apart := false }
def FnExactShareStuckSaid : Prop := fnExactShareStuckRow.holds Try.pinned (OpenSpec.ofChange fnExactShareStuckSpec)

/-- ITS FALSE NEIGHBOUR: 'it returns false'. Refute it at one input. -/
def fnExactShareStuckWrong : ChangeSpec := { name := "fnExactShareStuck", fn := fun _ => fun
  | [d] => { results := [.lit (.bool false)], args := [d] }
  | _ => none }
def FnExactShareStuckWrongFalsely : Prop := fnExactShareStuckRow.holds Try.pinned (OpenSpec.ofChange fnExactShareStuckWrong)

/-- 'laws.FnExactShareFits': WHATEVER THE INPUT: true; the input reads as it did. -/
def fnExactShareFitsSpec : ChangeSpec := { name := "fnExactShareFits", fn := fun _ => fun
  | [d1, d2] => { results := [.lit (.bool true)], args := [d1, d2] }
  | _ => none }
def fnExactShareFitsRow : OpenClaim := { program := "ytegaemhpkaahbaa", sum := "9d7ac74935506fd7f870db6c2df3a02e831b1d86865045bfeacdf5b63117f916", func := "loop.example/malthouse/laws.FnExactShareFits", spec := "fnExactShareFits", apart := false }
def FnExactShareFitsSaid : Prop := fnExactShareFitsRow.holds Try.pinned (OpenSpec.ofChange fnExactShareFitsSpec)

/-- ITS FALSE NEIGHBOUR: 'it returns false'. Refute it at one input. -/
def fnExactShareFitsWrong : ChangeSpec := { name := "fnExactShareFits", fn := fun _ => fun
  | [d1, d2] => { results := [.lit (.bool false)], args := [d1, d2] }
  | _ => none }
def FnExactShareFitsWrongFalsely : Prop := fnExactShareFitsRow.holds Try.pinned (OpenSpec.ofChange fnExactShareFitsWrong)

/-- 'laws.FnExactShareSafe': WHATEVER THE INPUT: true; the input reads as it did. -/
def fnExactShareSafeSpec : ChangeSpec := { name := "fnExactShareSafe", fn := fun _ => fun
  | [d] => { results := [.lit (.bool true)], args := [d] }
  | _ => none }
def fnExactShareSafeRow : OpenClaim := { program := "ytegaemhpkaahbaa", sum := "9d7ac74935506fd7f870db6c2df3a02e831b1d86865045bfeacdf5b63117f916", func := "loop.example/malthouse/laws.FnExactShareSafe", spec := "fnExactShareSafe", apart := false }
def FnExactShareSafeSaid : Prop := fnExactShareSafeRow.holds Try.pinned (OpenSpec.ofChange fnExactShareSafeSpec)

/-- ITS FALSE NEIGHBOUR: 'it returns false'. Refute it at one input. -/
def fnExactShareSafeWrong : ChangeSpec := { name := "fnExactShareSafe", fn := fun _ => fun
  | [d] => { results := [.lit (.bool false)], args := [d] }
  | _ => none }
def FnExactShareSafeWrongFalsely : Prop := fnExactShareSafeRow.holds Try.pinned (OpenSpec.ofChange fnExactShareSafeWrong)

/-- 'laws.FnExactShareMoves': WHATEVER THE INPUT: true; the input reads as it did. -/
def fnExactShareMovesSpec : ChangeSpec := { name := "fnExactShareMoves", fn := fun _ => fun
  | [d] => { results := [.lit (.bool true)], args := [d] }
  | _ => none }
def fnExactShareMovesRow : OpenClaim := { program := "ytegaemhpkaahbaa", sum := "9d7ac74935506fd7f870db6c2df3a02e831b1d86865045bfeacdf5b63117f916", func := "loop.example/malthouse/laws.FnExactShareMoves", spec := "fnExactShareMoves", apart := false }
def FnExactShareMovesSaid : Prop := fnExactShareMovesRow.holds Try.pinned (OpenSpec.ofChange fnExactShareMovesSpec)

/-- ITS FALSE NEIGHBOUR: 'it returns false'. Refute it at one input. -/
def fnExactShareMovesWrong : ChangeSpec := { name := "fnExactShareMoves", fn := fun _ => fun
  | [d] => { results := [.lit (.bool false)], args := [d] }
  | _ => none }
def FnExactShareMovesWrongFalsely : Prop := fnExactShareMovesRow.holds Try.pinned (OpenSpec.ofChange fnExactShareMovesWrong)

/-- 'laws.FnExactShareWaits': WHATEVER THE INPUT: true; the input reads as it did. -/
def fnExactShareWaitsSpec : ChangeSpec := { name := "fnExactShareWaits", fn := fun _ => fun
  | [d1, d2] => { results := [.lit (.bool true)], args := [d1, d2] }
  | _ => none }
def fnExactShareWaitsRow : OpenClaim := { program := "ytegaemhpkaahbaa", sum := "9d7ac74935506fd7f870db6c2df3a02e831b1d86865045bfeacdf5b63117f916", func := "loop.example/malthouse/laws.FnExactShareWaits", spec := "fnExactShareWaits", apart := false }
def FnExactShareWaitsSaid : Prop := fnExactShareWaitsRow.holds Try.pinned (OpenSpec.ofChange fnExactShareWaitsSpec)

/-- ITS FALSE NEIGHBOUR: 'it returns false'. Refute it at one input. -/
def fnExactShareWaitsWrong : ChangeSpec := { name := "fnExactShareWaits", fn := fun _ => fun
  | [d1, d2] => { results := [.lit (.bool false)], args := [d1, d2] }
  | _ => none }
def FnExactShareWaitsWrongFalsely : Prop := fnExactShareWaitsRow.holds Try.pinned (OpenSpec.ofChange fnExactShareWaitsWrong)

/-- 'laws.FnExactShareOrder': WHATEVER THE INPUT: true; the input reads as it did. -/
def fnExactShareOrderSpec : ChangeSpec := { name := "fnExactShareOrder", fn := fun _ => fun
  | [d] => { results := [.lit (.bool true)], args := [d] }
  | _ => none }
def fnExactShareOrderRow : OpenClaim := { program := "ytegaemhpkaahbaa", sum := "9d7ac74935506fd7f870db6c2df3a02e831b1d86865045bfeacdf5b63117f916", func := "loop.example/malthouse/laws.FnExactShareOrder", spec := "fnExactShareOrder", apart := false }
def FnExactShareOrderSaid : Prop := fnExactShareOrderRow.holds Try.pinned (OpenSpec.ofChange fnExactShareOrderSpec)

/-- ITS FALSE NEIGHBOUR: 'it returns false'. Refute it at one input. -/
def fnExactShareOrderWrong : ChangeSpec := { name := "fnExactShareOrder", fn := fun _ => fun
  | [d] => { results := [.lit (.bool false)], args := [d] }
  | _ => none }
def FnExactShareOrderWrongFalsely : Prop := fnExactShareOrderRow.holds Try.pinned (OpenSpec.ofChange fnExactShareOrderWrong)

/-- 'laws.FnExactShareLeave': WHATEVER THE INPUT: true; the input reads as it did. -/
def fnExactShareLeaveSpec : ChangeSpec := { name := "fnExactShareLeave", fn := fun _ => fun
  | [d1, d2] => { results := [.lit (.bool true)], args := [d1, d2] }
  | _ => none }
def fnExactShareLeaveRow : OpenClaim := { program := "ytegaemhpkaahbaa", sum := "9d7ac74935506fd7f870db6c2df3a02e831b1d86865045bfeacdf5b63117f916", func := "loop.example/malthouse/laws.FnExactShareLeave", spec := "fnExactShareLeave", apart := false }
def FnExactShareLeaveSaid : Prop := fnExactShareLeaveRow.holds Try.pinned (OpenSpec.ofChange fnExactShareLeaveSpec)

/-- ITS FALSE NEIGHBOUR: 'it returns false'. Refute it at one input. -/
def fnExactShareLeaveWrong : ChangeSpec := { name := "fnExactShareLeave", fn := fun _ => fun
  | [d1, d2] => { results := [.lit (.bool false)], args := [d1, d2] }
  | _ => none }
def FnExactShareLeaveWrongFalsely : Prop := fnExactShareLeaveRow.holds Try.pinned (OpenSpec.ofChange fnExactShareLeaveWrong)

/-- 'laws.FnExactShareLess': WHATEVER THE INPUT: true; the input reads as it did. -/
def fnExactShareLessSpec : ChangeSpec := { name := "fnExactShareLess", fn := fun _ => fun
  | [d1, d2, d3] => { results := [.lit (.bool true)], args := [d1, d2, d3] }
  | _ => none }
def fnExactShareLessRow : OpenClaim := { program := "ytegaemhpkaahbaa", sum := "9d7ac74935506fd7f870db6c2df3a02e831b1d86865045bfeacdf5b63117f916", func := "loop.example/malthouse/laws.FnExactShareLess", spec := "fnExactShareLess", apart := false }
def FnExactShareLessSaid : Prop := fnExactShareLessRow.holds Try.pinned (OpenSpec.ofChange fnExactShareLessSpec)

/-- ITS FALSE NEIGHBOUR: 'it returns false'. Refute it at one input. -/
def fnExactShareLessWrong : ChangeSpec := { name := "fnExactShareLess", fn := fun _ => fun
  | [d1, d2, d3] => { results := [.lit (.bool false)], args := [d1, d2, d3] }
  | _ => none }
def FnExactShareLessWrongFalsely : Prop := fnExactShareLessRow.holds Try.pinned (OpenSpec.ofChange fnExactShareLessWrong)

/- THE SECOND FORM. 'bulk': how many values and letters a reading holds, each counted each time it is reached (what is shared counts as often as it is met; a slice's spare places count too). A statement '..UptoSaid' is the law's where the arguments, and the package variables that the reading takes, are together of bulk at most 1048576: NARROWER than '..Said'. Prove '..Said' where nothing that the law and all that it calls make is longer than what came in: it says more and counts as full. Else prove '..UptoSaid'. A law counts once. -/
mutual
def uptoBulk {H : Type} : DataW H → Nat
  | .lit (.string bytes) => bytes.length + 1
  | .lit _ => 1
  | .nil => 1
  | .ptr d => uptoBulk d + 1
  | .slice elems spare => uptoBulkAll elems + uptoBulkAll spare + 1
  | .agg parts => uptoBulkAll parts + 1
  | .iface _ d => uptoBulk d + 1
  | .map entries => uptoBulkEntries entries + 1
  | .held _ => 1
def uptoBulkAll {H : Type} : List (DataW H) → Nat
  | [] => 0
  | d :: r => uptoBulk d + uptoBulkAll r
def uptoBulkEntries {H : Type} : List (Lit × DataW H) → Nat
  | [] => 0
  | x :: r => uptoBulkEntry x + uptoBulkEntries r
def uptoBulkEntry {H : Type} : Lit × DataW H → Nat
  | (.string bytes, d) => bytes.length + uptoBulk d + 1
  | (_, d) => uptoBulk d + 1
 end
def uptoSmall : (H : Type) → List (DataW H) → Bool := fun _ ds => decide (uptoBulkAll ds ≤ 1048576)
def OpenSpec.upto (s : _root_.Go.ChangeSpec) : _root_.Go.OpenSpec := { _root_.Go.OpenSpec.ofChange s with cond := some uptoSmall }

/-- 'laws.FnExactRecCan', WHERE WHAT IT READS IS OF BULK AT MOST 1048576: true; the input reads as it did. -/
def fnExactRecCanUptoRow : OpenClaim := { program := "ytegaemhpkaahbaa", sum := "9d7ac74935506fd7f870db6c2df3a02e831b1d86865045bfeacdf5b63117f916", func := "loop.example/malthouse/laws.FnExactRecCan", spec := "fnExactRecCan", recurses := true, apart := false, narrowed := true }
def FnExactRecCanUptoSaid : Prop := fnExactRecCanUptoRow.holds Try.pinned (OpenSpec.upto fnExactRecCanSpec)

/-- 'laws.FnExactShareBookOk', WHERE WHAT IT READS IS OF BULK AT MOST 1048576: true; the input reads as it did. -/
def fnExactShareBookOkUptoRow : OpenClaim := { program := "ytegaemhpkaahbaa", sum := "9d7ac74935506fd7f870db6c2df3a02e831b1d86865045bfeacdf5b63117f916", func := "loop.example/malthouse/laws.FnExactShareBookOk", spec := "fnExactShareBookOk", apart := false, narrowed := true }
def FnExactShareBookOkUptoSaid : Prop := fnExactShareBookOkUptoRow.holds Try.pinned (OpenSpec.upto fnExactShareBookOkSpec)

/-- 'laws.FnExactShareWho', WHERE WHAT IT READS IS OF BULK AT MOST 1048576: true; the input reads as it did. -/
def fnExactShareWhoUptoRow : OpenClaim := { program := "ytegaemhpkaahbaa", sum := "9d7ac74935506fd7f870db6c2df3a02e831b1d86865045bfeacdf5b63117f916", func := "loop.example/malthouse/laws.FnExactShareWho", spec := "fnExactShareWho", apart := false, narrowed := true }
def FnExactShareWhoUptoSaid : Prop := fnExactShareWhoUptoRow.holds Try.pinned (OpenSpec.upto fnExactShareWhoSpec)

/-- 'laws.FnRecCan', WHERE WHAT IT READS IS OF BULK AT MOST 1048576: true; the input reads as it did. -/
def fnRecCanUptoRow : OpenClaim := { program := "ytegaemhpkaahbaa", sum := "9d7ac74935506fd7f870db6c2df3a02e831b1d86865045bfeacdf5b63117f916", func := "loop.example/malthouse/laws.FnRecCan", spec := "fnRecCan", recurses := true, apart := false, narrowed := true }
def FnRecCanUptoSaid : Prop := fnRecCanUptoRow.holds Try.pinned (OpenSpec.upto fnRecCanSpec)

/-- 'laws.FnExactShareStuck', WHERE WHAT IT READS IS OF BULK AT MOST 1048576: true; the input reads as it did. -/
def fnExactShareStuckUptoRow : OpenClaim := { program := "ytegaemhpkaahbaa", sum := "9d7ac74935506fd7f870db6c2df3a02e831b1d86865045bfeacdf5b63117f916", func := "loop.example/malthouse/laws.FnExactShareStuck", spec := "fnExactShareStuck", apart := false, narrowed := true }
def FnExactShareStuckUptoSaid : Prop := fnExactShareStuckUptoRow.holds Try.pinned (OpenSpec.upto fnExactShareStuckSpec)

/-- 'laws.FnExactShareFits', WHERE WHAT IT READS IS OF BULK AT MOST 1048576: true; the input reads as it did. -/
def fnExactShareFitsUptoRow : OpenClaim := { program := "ytegaemhpkaahbaa", sum := "9d7ac74935506fd7f870db6c2df3a02e831b1d86865045bfeacdf5b63117f916", func := "loop.example/malthouse/laws.FnExactShareFits", spec := "fnExactShareFits", apart := false, narrowed := true }
def FnExactShareFitsUptoSaid : Prop := fnExactShareFitsUptoRow.holds Try.pinned (OpenSpec.upto fnExactShareFitsSpec)

/-- 'laws.FnExactShareSafe', WHERE WHAT IT READS IS OF BULK AT MOST 1048576: true; the input reads as it did. -/
def fnExactShareSafeUptoRow : OpenClaim := { program := "ytegaemhpkaahbaa", sum := "9d7ac74935506fd7f870db6c2df3a02e831b1d86865045bfeacdf5b63117f916", func := "loop.example/malthouse/laws.FnExactShareSafe", spec := "fnExactShareSafe", apart := false, narrowed := true }
def FnExactShareSafeUptoSaid : Prop := fnExactShareSafeUptoRow.holds Try.pinned (OpenSpec.upto fnExactShareSafeSpec)

/-- 'laws.FnExactShareMoves', WHERE WHAT IT READS IS OF BULK AT MOST 1048576: true; the input reads as it did. -/
def fnExactShareMovesUptoRow : OpenClaim := { program := "ytegaemhpkaahbaa", sum := "9d7ac74935506fd7f870db6c2df3a02e831b1d86865045bfeacdf5b63117f916", func := "loop.example/malthouse/laws.FnExactShareMoves", spec := "fnExactShareMoves", apart := false, narrowed := true }
def FnExactShareMovesUptoSaid : Prop := fnExactShareMovesUptoRow.holds Try.pinned (OpenSpec.upto fnExactShareMovesSpec)

/-- 'laws.FnExactShareWaits', WHERE WHAT IT READS IS OF BULK AT MOST 1048576: true; the input reads as it did. -/
def fnExactShareWaitsUptoRow : OpenClaim := { program := "ytegaemhpkaahbaa", sum := "9d7ac74935506fd7f870db6c2df3a02e831b1d86865045bfeacdf5b63117f916", func := "loop.example/malthouse/laws.FnExactShareWaits", spec := "fnExactShareWaits", apart := false, narrowed := true }
def FnExactShareWaitsUptoSaid : Prop := fnExactShareWaitsUptoRow.holds Try.pinned (OpenSpec.upto fnExactShareWaitsSpec)

/-- 'laws.FnExactShareOrder', WHERE WHAT IT READS IS OF BULK AT MOST 1048576: true; the input reads as it did. -/
def fnExactShareOrderUptoRow : OpenClaim := { program := "ytegaemhpkaahbaa", sum := "9d7ac74935506fd7f870db6c2df3a02e831b1d86865045bfeacdf5b63117f916", func := "loop.example/malthouse/laws.FnExactShareOrder", spec := "fnExactShareOrder", apart := false, narrowed := true }
def FnExactShareOrderUptoSaid : Prop := fnExactShareOrderUptoRow.holds Try.pinned (OpenSpec.upto fnExactShareOrderSpec)

/-- 'laws.FnExactShareLeave', WHERE WHAT IT READS IS OF BULK AT MOST 1048576: true; the input reads as it did. -/
def fnExactShareLeaveUptoRow : OpenClaim := { program := "ytegaemhpkaahbaa", sum := "9d7ac74935506fd7f870db6c2df3a02e831b1d86865045bfeacdf5b63117f916", func := "loop.example/malthouse/laws.FnExactShareLeave", spec := "fnExactShareLeave", apart := false, narrowed := true }
def FnExactShareLeaveUptoSaid : Prop := fnExactShareLeaveUptoRow.holds Try.pinned (OpenSpec.upto fnExactShareLeaveSpec)

/-- 'laws.FnExactShareLess', WHERE WHAT IT READS IS OF BULK AT MOST 1048576: true; the input reads as it did. -/
def fnExactShareLessUptoRow : OpenClaim := { program := "ytegaemhpkaahbaa", sum := "9d7ac74935506fd7f870db6c2df3a02e831b1d86865045bfeacdf5b63117f916", func := "loop.example/malthouse/laws.FnExactShareLess", spec := "fnExactShareLess", apart := false, narrowed := true }
def FnExactShareLessUptoSaid : Prop := fnExactShareLessUptoRow.holds Try.pinned (OpenSpec.upto fnExactShareLessSpec)

end Rows
end Go.Proofs.Ytegaemhpkaahbaa
