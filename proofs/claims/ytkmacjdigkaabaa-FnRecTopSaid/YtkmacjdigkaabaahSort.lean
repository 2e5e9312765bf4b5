/- Contracts of functions of the program, each met by its body; conditions stand in each statement. No condition. -/
import Derived.Test.YtkmacjdigkaabaaHa
import Derived.Shelf.Sort.Plain
import Derived.Shelf.Slices.In.SortNone2
import Derived.Shelf.Lay
import Derived.Test.YtkmacjdigkaabaaProg
set_option linter.unusedVariables false
set_option linter.unusedSimpArgs false
set_option linter.unnecessarySimpa false
namespace Go.Proofs
open Go.Shelf
shelf_lay Lays.n192 Nm 192 at Try as Sk.lays192
end Go.Proofs
namespace Go.Proofs.Ytkmacjdigkaabaa
open Go Go.Mh

theorem sortsStr : SortsStr Try.prog 138 := ⟨fun blk off cap ss w hH hb hl => Any.sort_Strings Sk.lays192 blk off cap ss w hH hb hl, fun p cap w => Any.sort_Strings_none Sk.lays192 p cap w⟩

end Go.Proofs.Ytkmacjdigkaabaa
