/- Contracts of functions of the program, each met by its body; conditions stand in each statement. No condition. -/
import Derived.Test.YtkmacjdigkaabaahAsk
import Derived.Test.YtkmacjdigkaabaaHi
import Derived.Test.YtkmacjdigkaabaaProg
import Derived.KernelRfl
set_option linter.unusedVariables false
set_option linter.unusedSimpArgs false
set_option linter.unnecessarySimpa false
set_option linter.unusedSimpArgs false
set_option maxRecDepth 100000
namespace Go.Proofs.Ytkmacjdigkaabaa
open Go Go.Mh

theorem bts_take (l : List Bt) (z : Nat) : ∀ q, q < (l.take z).length → (fun i => (nth l i).zcells) (0 + q) = (fun i => (nth (l.take z) i).zcells) q := by
  intro q hq
  rw [List.length_take] at hq
  simp only [nth, List.getD_eq_getElem?_getD, List.getElem?_take, Nat.zero_add, if_pos (show q < z by omega)]
theorem bts_drop (l : List Bt) (z : Nat) : ∀ q, q < (l.drop z).length → (fun i => (nth l i).zcells) (z + q) = (fun i => (nth (l.drop z) i).zcells) q := by
  intro q hq
  simp only [nth, List.getD_eq_getElem?_getD, List.getElem?_drop]
theorem bts_cat (e : Nat) (a b : List Bt) : Eqv (.sl e 3 (a.length + b.length) (catF a.length (fun i => (nth a i).zcells) (fun i => (nth b i).zcells))) (bts e (a ++ b)) := by
  unfold bts
  rw [List.length_append]
  refine .rows fun i hi => ?_
  simp only [catF]
  split
  · rename_i h1; rw [nth_append_left h1]
  · rename_i h1; rw [nth_append_right (by omega)]
end Go.Proofs.Ytkmacjdigkaabaa
