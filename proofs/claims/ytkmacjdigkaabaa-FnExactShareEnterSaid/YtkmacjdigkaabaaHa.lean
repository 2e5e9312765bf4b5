/- Contracts of functions of the program, each met by its body; conditions stand in each statement. No condition. -/
import Derived.Test.YtkmacjdigkaabaaGh
import Derived.Sort.Grow
import Derived.Sort.EncStr
set_option linter.unusedVariables false
set_option linter.unusedSimpArgs false
set_option linter.unnecessarySimpa false
namespace Go.Mh
open Go Go.Sort Go.Proofs

/-! ### a list of texts is sorted in its array -/
def bl (s : ByteArray) : List UInt8 := s.data.toList
def unbl (l : List UInt8) : ByteArray := ⟨l.toArray⟩
theorem unbl_bl (s : ByteArray) : unbl (bl s) = s := by cases s; rfl
end Go.Mh
