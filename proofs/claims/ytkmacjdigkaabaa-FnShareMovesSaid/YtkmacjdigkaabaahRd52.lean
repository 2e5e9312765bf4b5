/- Contracts of functions of the program, each met by its body; conditions stand in each statement. No condition. -/
import Derived.Test.YtkmacjdigkaabaahRd51
import Derived.Test.YtkmacjdigkaabaaProg
import Derived.KernelRfl
set_option linter.unusedVariables false
set_option linter.unusedSimpArgs false
set_option linter.unnecessarySimpa false
set_option linter.unusedSimpArgs false
set_option maxRecDepth 100000
namespace Go.Proofs.Ytkmacjdigkaabaa
open Go Go.Mh

theorem ytZs29 : zeroSz Try.prog 29 = some 2 := by kernel_rfl
theorem ytCo88 : callOk Try.prog 88 = true := by kernel_rfl
theorem ytCo89 : callOk Try.prog 89 = true := by kernel_rfl
theorem ytCs29 : cellsSz Try.prog 29 = some (1 + 1) := by kernel_rfl
theorem ytSt29 : structSz Try.prog 29 = some 2 := by kernel_rfl
theorem ytCo98 : callOk Try.prog 98 = true := by kernel_rfl
theorem drawShareMoves (b : List UInt8) (h0 : b.length ≤ 2097152) : ∃ (x : Bk) (u : Unit), (bkLe x 6) ∧ ASpec Try.prog 29 [.one (bytesT 5 b)] (.agg (x.zcells 48)) := by
  suffices key : ∃ i : Bk × Unit, (bkLe i.1 6) ∧ ASpec Try.prog 29 [.one (bytesT 5 b)] (.agg (i.1.zcells 48)) from (by obtain ⟨i, g, h⟩ := key; exact ⟨i.1, i.2, g, h⟩)
  refine ASpec.exC Try.func29 rfl 2 29 [] rfl rfl 6 rfl rfl rfl (fun i : Bk × Unit => (.agg (i.1.zcells 48))) (fun i : Bk × Unit => bkLe i.1 6) ?_
  have hb : (b.take 2000).length ≤ 2000 := by rw [List.length_take]; omega
  apply E.reg
  · intro Q hQ
    refine AWp.seq (AWp.region ?_)
    refine ARun.step rfl (step_alloc_p rfl (hn rfl) rfl ytZs29) ?_
    refine ARun.nil ?_
    exact hQ.out
  obtain ⟨q1, x1, ⟨hqa1, hqb1, hbk1⟩, hl1⟩ := l55Any (b.take 2000) (0)  (by first | assumption | omega | decide | (simp only [List.length_append, List.length_cons, List.length_nil, List.length_take, List.length_drop]; omega)) (by first | assumption | omega | decide | (simp only [List.length_append, List.length_cons, List.length_nil, List.length_take, List.length_drop]; omega))
  apply E.reg
  · intro Q hQ
    refine AWp.seq (AWp.region ?_)
    refine ARun.step rfl (step_moveV rfl (hn rfl) rfl rfl) ?_
    refine ARun.step rfl (call_open rfl (hn rfl) rfl ytCo88 (.cons rfl (.one (.v _)) (.nil)) (l51Open _ (by assumption)) rfl) ?_
    refine ARun.step rfl (call_stepLZ rfl (hn rfl) rfl ytCo89 rfl rfl rfl rfl (.nil) hl1 rfl rfl) ?_
    refine ARun.step rfl (step_store_p (bs := [_, _]) rfl rfl ytCs29 rfl rfl rfl rfl rfl rfl rfl) ?_
    refine ARun.nil ?_
    exact hQ.out
  refine E.mono (fun Q h => AWp.ret h) ?_
  apply E.ret (i := (Bk.mk _ _, ()))
  · refine ⟨.inr rfl, 2, 2, _, _, _, ytSt29, by decide, rfl, rfl, rfl, rfl, (.cons rfl (.agg (.cons (.frz _ _ _ _ _) (.cons (.frz _ _ _ _ _) (.nil _)))) (.nil _)), rfl, ?_⟩
    refine congrArg PV.agg ?_
    rfl
  · try dsimp only
    all_goals (assumption)
theorem drawShareWaits (b : List UInt8) (h0 : b.length ≤ 2097152) : ∃ (x : Bk) (s : Str), (bkLe x 6) ∧ ASpec Try.prog 37 [.one (bytesT 5 b)] (.tup [.agg (x.zcells 48), .one (.str s)]) := by
  suffices key : ∃ i : Bk × Str, (bkLe i.1 6) ∧ ASpec Try.prog 37 [.one (bytesT 5 b)] (.tup [.agg (i.1.zcells 48), .one (.str i.2)]) from (by obtain ⟨i, g, h⟩ := key; exact ⟨i.1, i.2, g, h⟩)
  refine ASpec.exC Try.func37 rfl 2 29 [3] rfl rfl 15 rfl rfl rfl (fun i : Bk × Str => (.tup [.agg (i.1.zcells 48), .one (.str i.2)])) (fun i : Bk × Str => bkLe i.1 6) ?_
  obtain ⟨x, s, l, ⟨hx, hl⟩, hd⟩ := l55Asks b (by omega)
  apply E.reg
  · intro Q hQ
    refine AWp.seq (AWp.region ?_)
    refine ARun.step rfl (step_alloc_p rfl (hn rfl) rfl ytZs29) ?_
    refine ARun.step rfl (step_assignV rfl (hn rfl) rfl rfl) ?_
    refine ARun.nil ?_
    exact hQ.out
  apply E.reg
  · intro Q hQ
    refine AWp.seq (AWp.region ?_)
    refine ARun.step rfl (step_moveV rfl (hn rfl) rfl rfl) ?_
    refine ARun.step rfl (call_stepZ rfl (hn rfl) rfl ytCo98 (.cons rfl (.one (.v _)) (.nil)) hd rfl rfl) ?_
    refine ARun.step rfl (step_moveV rfl (hn rfl) rfl rfl) ?_
    refine ARun.step rfl (step_extract rfl (hn rfl) rfl rfl rfl (by intro l h; cases h)) ?_
    refine ARun.step rfl (step_extract rfl (hn rfl) rfl rfl rfl (by intro l h; cases h)) ?_
    refine ARun.step rfl (step_extract rfl (hn rfl) rfl rfl rfl (by intro l h; cases h)) ?_
    refine ARun.step rfl (step_alloc_p rfl (hn rfl) rfl ytZs29) ?_
    refine ARun.step rfl (step_store_p (bs := [_, _]) rfl rfl ytCs29 rfl rfl rfl rfl rfl rfl rfl) ?_
    refine ARun.step rfl (step_assignV rfl (hn rfl) rfl rfl) ?_
    refine ARun.step rfl (step_assignV rfl (hn rfl) rfl rfl) ?_
    refine ARun.nil ?_
    exact hQ.out
  apply E.reg
  · intro Q hQ
    refine AWp.seq (AWp.region ?_)
    refine ARun.step rfl (step_loadS_b rfl (hn rfl) rfl ytSt29 rfl rfl rfl (by decide)) ?_
    refine ARun.step rfl (step_moveV rfl (hn rfl) rfl rfl) ?_
    refine ARun.step rfl (step_store_p (bs := [_, _]) rfl rfl ytCs29 rfl rfl rfl rfl rfl rfl rfl) ?_
    refine ARun.step rfl (step_assignV rfl (hn rfl) rfl rfl) ?_
    refine ARun.nil ?_
    exact hQ.out
  refine E.mono (fun Q h => AWp.ret h) ?_
  apply E.ret (i := (x, _))
  · refine ⟨.inr rfl, 2, 2, _, _, _, ytSt29, by decide, rfl, rfl, rfl, rfl, (.cons rfl (.agg (.cons (.frz _ _ _ _ _) (.cons (.frz _ _ _ _ _) (.nil _)))) (.cons rfl (.one (.sc _ _ rfl)) (.nil _))), rfl, ?_⟩
    rfl
  · try dsimp only
    all_goals (exact hx)

end Go.Proofs.Ytkmacjdigkaabaa
