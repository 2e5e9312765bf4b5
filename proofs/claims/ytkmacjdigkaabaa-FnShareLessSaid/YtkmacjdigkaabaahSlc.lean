/- Contracts of functions of the program, each met by its body; conditions stand in each statement. No condition. -/
import Derived.Test.YtkmacjdigkaabaaHk
import Derived.Shelf.Lay
import Derived.Deep.QuietTactic
import Derived.Ground.GgsProg
import Derived.WalkKit
import Derived.Test.YtkmacjdigkaabaaProg
set_option linter.unusedVariables false
set_option linter.unusedSimpArgs false
set_option linter.unnecessarySimpa false
namespace Go.Proofs
open Go.Shelf
shelf_lay LaysGg.n6 Ggs 6 at Try as Try.gg6
end Go.Proofs
namespace Go.Proofs.Ytkmacjdigkaabaa
open Go Go.Mh Go.Shelf Go.RowKit Go.Lib Go.Sort

noncomputable def slT : TypeInfo := (Try.prog.info? 27).get (by kernel_rfl)
noncomputable def slE : TypeInfo := (Try.prog.info? 48).get (by kernel_rfl)
theorem slK (n : Nat) (h2 : 2 ≤ n) : Lib.swapperK n slE 25 = 9 := by
  have a : slE.hasPointers = true := by kernel_rfl
  have b : slE.bytes = 64 := by kernel_rfl
  have c : (n == 0) = false := by simp; omega
  have d : (n == 1) = false := by simp; omega
  simp [Lib.swapperK, a, b, c, d]

set_option maxHeartbeats 2000000 in
theorem enterLess : LessStr Try.prog 86 1 3 0 := by
  intro Bs blk c n W G hs hc i j hi hj hn
  have ci := hc i hi
  have cj := hc j hj
  rw [Nat.add_zero] at ci cj
  go_enter Try.func86, Try.ntmps86
  go_wp2
  go_quiet (fail)
  go_wp2
  go_ret
  exact ⟨rfl, nq, rfl⟩

theorem enterSorts : SortsRow Try.prog 85 86 27 3 0 1 :=
  sortsRow_of Try.gg6 27 48 slT slE (by kernel_rfl) (by kernel_rfl) (by kernel_rfl) (by kernel_rfl) 25 (fun _ => by kernel_rfl) 3 0 1 (by kernel_rfl) (fun _ => by kernel_rfl) 86 (enters_of Try.func86 (by kernel_rfl) rfl) 156 149
    (fun n h2 => by rw [slK n h2]; kernel_rfl) (by kernel_rfl) false (fun args W => run_callFunc_extern Try.func156 (by kernel_rfl) (by kernel_rfl) (by kernel_rfl) (e := Extern.ReflectliteSwapper.swap false) (by kernel_rfl) args W) (by decide) enterLess

end Go.Proofs.Ytkmacjdigkaabaa
