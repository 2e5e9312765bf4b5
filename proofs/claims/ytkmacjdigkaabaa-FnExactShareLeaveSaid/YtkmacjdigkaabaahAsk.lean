/- Contracts of functions of the program, each met by its body; conditions stand in each statement. No condition. -/
import Derived.Test.YtkmacjdigkaabaahShr
import Derived.Test.YtkmacjdigkaabaahSrt
import Derived.Test.YtkmacjdigkaabaaProg
import Derived.KernelRfl
set_option linter.unusedVariables false
set_option linter.unusedSimpArgs false
set_option linter.unnecessarySimpa false
set_option linter.unusedSimpArgs false
set_option maxRecDepth 100000
namespace Go.Proofs.Ytkmacjdigkaabaa
open Go Go.Mh

theorem bt_fz (bs : List Bt) : ∀ i j, i < bs.length → Fz (((nth bs i).cells).getD j .dead) (((nth bs i).zcells).getD j .dead) ∧ noSl (((nth bs i).zcells).getD j .dead) = true := fun i j _ => match j with
  | 0 => ⟨.refl _, rfl⟩
  | 1 => ⟨.fz (.refl _), rfl⟩
  | 2 => ⟨.fz (.refl _), rfl⟩
  | _ + 3 => ⟨.refl _, rfl⟩

end Go.Proofs.Ytkmacjdigkaabaa
