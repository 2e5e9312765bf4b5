/- Contracts of functions of the program, each met by its body; conditions stand in each statement. No condition. -/
import Derived.Test.YtkmacjdigkaabaaHj
import Derived.Test.YtkmacjdigkaabaaHa
import Derived.Shelf.SlSortFuncK.WholeK
import Derived.Shelf.GgSortFunc.Tiny
set_option linter.unusedVariables false
set_option linter.unusedSimpArgs false
set_option linter.unnecessarySimpa false
namespace Go.Mh
open Go Go.Sort Go.Shelf Go.Lib Go.Proofs

/-! ### the library's sort.Slice, for rows that bear a text -/
def RowV (k jn : Nat) : Type := {l : List Value // l.length = k ∧ (∀ v ∈ l, v.oneCell' = true) ∧ (jn < k → ∃ s, l[jn]? = some (.string s))}
instance (k jn : Nat) : Inhabited (RowV k jn) := ⟨⟨List.replicate k (.string ⟨#[]⟩), by simp, by intro v hv; rw [List.eq_of_mem_replicate hv]; rfl, fun h => ⟨⟨#[]⟩, by simp [h]⟩⟩⟩
end Go.Mh
