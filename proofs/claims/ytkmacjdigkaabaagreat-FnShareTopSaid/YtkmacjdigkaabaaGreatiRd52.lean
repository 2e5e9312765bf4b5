/- Contracts of functions of the program, each met by its body; conditions stand in each statement. No condition. -/
import Derived.Test.YtkmacjdigkaabaaGreatiRd51
import Derived.Test.YtkmacjdigkaabaaGreatHn
import Derived.Test.YtkmacjdigkaabaaGreatProg
import Derived.KernelRfl
set_option linter.unusedVariables false
set_option linter.unusedSimpArgs false
set_option linter.unnecessarySimpa false
set_option linter.unusedSimpArgs false
set_option maxRecDepth 100000
namespace Go.Proofs.YtkmacjdigkaabaaGreat
open Go Go.Mh

end Go.Proofs.YtkmacjdigkaabaaGreat
