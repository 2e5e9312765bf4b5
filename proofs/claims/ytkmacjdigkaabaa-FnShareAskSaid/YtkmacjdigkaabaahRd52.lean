/- Contracts of functions of the program, each met by its body; conditions stand in each statement. No condition. -/
import Derived.Test.YtkmacjdigkaabaahRd51
import Derived.Test.YtkmacjdigkaabaaHn
import Derived.Test.YtkmacjdigkaabaaProg
import Derived.KernelRfl
set_option linter.unusedVariables false
set_option linter.unusedSimpArgs false
set_option linter.unnecessarySimpa false
set_option linter.unusedSimpArgs false
set_option maxRecDepth 100000
namespace Go.Proofs.Ytkmacjdigkaabaa
open Go Go.Mh

theorem ytZs29 : zeroSz Try.prog 29 = some 2 := by kernel_rfl
theorem ytCo98 : callOk Try.prog 98 = true := by kernel_rfl
theorem ytCs29 : cellsSz Try.prog 29 = some (1 + 1) := by kernel_rfl
theorem ytSt29 : structSz Try.prog 29 = some 2 := by kernel_rfl
theorem drawShareAsk (b : List UInt8) (h0 : b.length ≤ 2097152) : ∃ (x : Bk) (s : Str) (l : List Str), (bkLe x 6 ∧ l.length ≤ 10) ∧ ASpec Try.prog 47 [.one (bytesT 5 b)] (.tup [.agg (x.zcells 48), .one (.str s), .one (.fz (strs l))]) := by
  suffices key : ∃ i : Bk × Str × List Str, (bkLe i.1 6 ∧ i.2.2.length ≤ 10) ∧ ASpec Try.prog 47 [.one (bytesT 5 b)] (.tup [.agg (i.1.zcells 48), .one (.str i.2.1), .one (.fz (strs i.2.2))]) from (by obtain ⟨i, g, h⟩ := key; exact ⟨i.1, i.2.1, i.2.2, g, h⟩)
  refine ASpec.exC Try.func47 rfl 2 29 [3, 4] rfl rfl 10 rfl rfl rfl (fun i : Bk × Str × List Str => (.tup [.agg (i.1.zcells 48), .one (.str i.2.1), .one (.fz (strs i.2.2))])) (fun i : Bk × Str × List Str => bkLe i.1 6 ∧ i.2.2.length ≤ 10) ?_
  obtain ⟨x, s, l, ⟨hx, hl⟩, hd⟩ := l55Asks b (by omega)
  apply E.reg
  · intro Q hQ
    refine AWp.seq (AWp.region ?_)
    refine ARun.step rfl (step_alloc_p rfl (hn rfl) rfl ytZs29) ?_
    refine ARun.step rfl (step_assignV rfl (hn rfl) rfl rfl) ?_
    refine ARun.step rfl (step_assignV rfl (hn rfl) rfl rfl) ?_
    refine ARun.nil ?_
    exact hQ.out
  apply E.reg
  · intro Q hQ
    refine AWp.seq (AWp.region ?_)
    refine ARun.step rfl (step_moveV rfl (hn rfl) rfl rfl) ?_
    refine ARun.step rfl (call_stepZ rfl (hn rfl) rfl ytCo98 (.cons rfl (.one (.v _)) (.nil)) hd rfl rfl) ?_
    refine ARun.step rfl (step_extract rfl (hn rfl) rfl rfl rfl (by intro l h; cases h)) ?_
    refine ARun.step rfl (step_extract rfl (hn rfl) rfl rfl rfl (by intro l h; cases h)) ?_
    refine ARun.step rfl (step_extract rfl (hn rfl) rfl rfl rfl (by intro l h; cases h)) ?_
    refine ARun.step rfl (step_store_p (bs := [_, _]) rfl rfl ytCs29 rfl rfl rfl rfl rfl rfl rfl) ?_
    refine ARun.step rfl (step_assignV rfl (hn rfl) rfl rfl) ?_
    refine ARun.step rfl (step_assignV rfl (hn rfl) rfl rfl) ?_
    refine ARun.nil ?_
    exact hQ.out
  refine E.mono (fun Q h => AWp.ret h) ?_
  apply E.ret (i := (x, _, l))
  · refine ⟨.inr rfl, 2, 2, _, _, _, ytSt29, by decide, rfl, rfl, rfl, rfl, (.cons rfl (.agg (.cons (.frz _ _ _ _ _) (.cons (.frz _ _ _ _ _) (.nil _)))) (.cons rfl (.one (.sc _ _ rfl)) (.cons rfl (.one (.frz _ _ _ _ _)) (.nil _)))), rfl, ?_⟩
    rfl
  · try dsimp only
    all_goals (exact ⟨hx, hl⟩)

end Go.Proofs.Ytkmacjdigkaabaa
