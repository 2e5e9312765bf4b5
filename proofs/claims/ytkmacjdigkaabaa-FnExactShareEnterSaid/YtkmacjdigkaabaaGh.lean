/- Contracts of functions of the program, each met by its body; conditions stand in each statement. No condition. -/
import Derived.Test.YtkmacjdigkaabaaGg
set_option linter.unusedVariables false
set_option linter.unusedSimpArgs false
set_option linter.unnecessarySimpa false
namespace Go.Mh
open Go

/-! ### looking whether a pointer is nil -/
/-- an array's tree is told anew -/
theorem Le.retree {σ : AS} (d k : Nat) {t : T} (h : Eqv (σ.arr d k) t) : Le σ (σ.setArr d k t) :=
  Le.eqv rfl rfl rfl (fun d' k' => by
    rw [setArr_arr]
    split
    · rename_i e; rw [e.1, e.2]; exact h
    · exact .refl _)

end Go.Mh
