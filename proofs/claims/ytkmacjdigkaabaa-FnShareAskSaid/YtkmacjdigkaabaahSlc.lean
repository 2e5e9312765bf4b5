/- Contracts of functions of the program, each met by its body; conditions stand in each statement. No condition. -/
import Derived.Test.YtkmacjdigkaabaaHn
import Derived.Shelf.Lay
import Derived.Deep.QuietTactic
import Derived.Ground.GgsProg
import Derived.WalkKit
import Derived.Test.YtkmacjdigkaabaaProg
set_option linter.unusedVariables false
set_option linter.unusedSimpArgs false
set_option linter.unnecessarySimpa false
namespace Go.Proofs
open Go.Shelf
shelf_lay LaysGg.n6 Ggs 6 at Try as Try.gg6
end Go.Proofs
namespace Go.Proofs.Ytkmacjdigkaabaa
open Go Go.Mh Go.Shelf Go.RowKit Go.Lib Go.Sort

end Go.Proofs.Ytkmacjdigkaabaa
