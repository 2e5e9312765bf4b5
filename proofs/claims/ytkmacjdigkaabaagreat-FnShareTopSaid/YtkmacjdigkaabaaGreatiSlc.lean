/- Contracts of functions of the program, each met by its body; conditions stand in each statement. No condition. -/
import Derived.Test.YtkmacjdigkaabaaGreatHn
import Derived.Shelf.Lay
import Derived.Deep.QuietTactic
import Derived.Ground.GgsProg
import Derived.WalkKit
import Derived.Test.YtkmacjdigkaabaaGreatProg
set_option linter.unusedVariables false
set_option linter.unusedSimpArgs false
set_option linter.unnecessarySimpa false
namespace Go.Proofs
open Go.Shelf
shelf_lay LaysGg.n6 Ggs 6 at Tryz as Tryz.gg6
end Go.Proofs
namespace Go.Proofs.YtkmacjdigkaabaaGreat
open Go Go.Mh Go.Shelf Go.RowKit Go.Lib Go.Sort

noncomputable def slT : TypeInfo := (Tryz.prog.info? 32).get (by kernel_rfl)
noncomputable def slE : TypeInfo := (Tryz.prog.info? 105).get (by kernel_rfl)
theorem slK (n : Nat) (h2 : 2 ≤ n) : Lib.swapperK n slE 25 = 9 := by
  have a : slE.hasPointers = true := by kernel_rfl
  have b : slE.bytes = 64 := by kernel_rfl
  have c : (n == 0) = false := by simp; omega
  have d : (n == 1) = false := by simp; omega
  simp [Lib.swapperK, a, b, c, d]

set_option maxHeartbeats 2000000 in
theorem enterLess : LessStr Tryz.prog 73 1 3 0 := by
  intro Bs blk c n W G hs hc i j hi hj hn
  have ci := hc i hi
  have cj := hc j hj
  rw [Nat.add_zero] at ci cj
  go_enter Tryz.func73, Tryz.ntmps73
  go_wp2
  go_quiet (fail)
  go_wp2
  go_ret
  exact ⟨rfl, nq, rfl⟩

theorem enterSorts : SortsRow Tryz.prog 72 73 32 3 0 1 :=
  sortsRow_of Tryz.gg6 32 105 slT slE (by kernel_rfl) (by kernel_rfl) (by kernel_rfl) (by kernel_rfl) 25 (fun _ => by kernel_rfl) 3 0 1 (by kernel_rfl) (fun _ => by kernel_rfl) 73 (enters_of Tryz.func73 (by kernel_rfl) rfl) 192 185
    (fun n h2 => by rw [slK n h2]; kernel_rfl) (by kernel_rfl) false (fun args W => run_callFunc_extern Tryz.func192 (by kernel_rfl) (by kernel_rfl) (by kernel_rfl) (e := Extern.ReflectliteSwapper.swap false) (by kernel_rfl) args W) (by decide) enterLess

end Go.Proofs.YtkmacjdigkaabaaGreat
