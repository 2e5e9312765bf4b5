/- Contracts of functions of the program, each met by its body; conditions stand in each statement. No condition. -/
import Derived.Test.YtkmacjdigkaabaahRd51
import Derived.Test.YtkmacjdigkaabaaProg
import Derived.KernelRfl
set_option linter.unusedVariables false
set_option linter.unusedSimpArgs false
set_option linter.unnecessarySimpa false
set_option linter.unusedSimpArgs false
set_option maxRecDepth 100000
namespace Go.Proofs.Ytkmacjdigkaabaa
open Go Go.Mh

theorem ytZs29 : zeroSz Try.prog 29 = some 2 := by kernel_rfl
theorem ytCo98 : callOk Try.prog 98 = true := by kernel_rfl
theorem ytCs29 : cellsSz Try.prog 29 = some (1 + 1) := by kernel_rfl
theorem ytSt29 : structSz Try.prog 29 = some 2 := by kernel_rfl
theorem ytCo88 : callOk Try.prog 88 = true := by kernel_rfl
theorem ytCo89 : callOk Try.prog 89 = true := by kernel_rfl
theorem ytFo29_0 : fieldOff Try.prog 29 0 = some 0 := by kernel_rfl
theorem ytSc22 : scalarB Try.prog 22 = true := by kernel_rfl
theorem ytCo108 : callOk Try.prog 108 = true := by kernel_rfl
theorem ytSl22 : sliceT Try.prog 22 = some ⟨9, 1, 16⟩ := by kernel_rfl
theorem ytCo103 : callOk Try.prog 103 = true := by kernel_rfl
theorem ytMo : Try.prog.follows .mixedOrders = true := by kernel_rfl
theorem ytCo102 : callOk Try.prog 102 = true := by kernel_rfl
theorem drawShareLess (b : List UInt8) (h0 : b.length ≤ 2097152) : ∃ (x : Bk) (s : Str) (l : List Str), (bkLe x 6 ∧ l.length ≤ 10) ∧ ASpec Try.prog 52 [.one (bytesT 5 b)] (.tup [.agg (x.zcells 48), .one (.str s), .one (.fz (strs l))]) := by
  suffices key : ∃ i : Bk × Str × List Str, (bkLe i.1 6 ∧ i.2.2.length ≤ 10) ∧ ASpec Try.prog 52 [.one (bytesT 5 b)] (.tup [.agg (i.1.zcells 48), .one (.str i.2.1), .one (.fz (strs i.2.2))]) from (by obtain ⟨i, g, h⟩ := key; exact ⟨i.1, i.2.1, i.2.2, g, h⟩)
  refine ASpec.exC Try.func52 rfl 2 29 [3, 4] rfl rfl 10 rfl rfl rfl (fun i : Bk × Str × List Str => (.tup [.agg (i.1.zcells 48), .one (.str i.2.1), .one (.fz (strs i.2.2))])) (fun i : Bk × Str × List Str => bkLe i.1 6 ∧ i.2.2.length ≤ 10) ?_
  obtain ⟨x, s, l, ⟨hx, hl⟩, hd⟩ := l55Asks b (by omega)
  apply E.reg
  · intro Q hQ
    refine AWp.seq (AWp.region ?_)
    refine ARun.step rfl (step_alloc_p rfl (hn rfl) rfl ytZs29) ?_
    refine ARun.step rfl (step_assignV rfl (hn rfl) rfl rfl) ?_
    refine ARun.step rfl (step_assignV rfl (hn rfl) rfl rfl) ?_
    refine ARun.nil ?_
    exact hQ.out
  apply E.reg
  · intro Q hQ
    refine AWp.seq (AWp.region ?_)
    refine ARun.step rfl (step_moveV rfl (hn rfl) rfl rfl) ?_
    refine ARun.step rfl (call_stepZ rfl (hn rfl) rfl ytCo98 (.cons rfl (.one (.v _)) (.nil)) hd rfl rfl) ?_
    refine ARun.step rfl (step_extract rfl (hn rfl) rfl rfl rfl (by intro l h; cases h)) ?_
    refine ARun.step rfl (step_extract rfl (hn rfl) rfl rfl rfl (by intro l h; cases h)) ?_
    refine ARun.step rfl (step_extract rfl (hn rfl) rfl rfl rfl (by intro l h; cases h)) ?_
    refine ARun.step rfl (step_store_p (bs := [_, _]) rfl rfl ytCs29 rfl rfl rfl rfl rfl rfl rfl) ?_
    refine ARun.step rfl (step_assignV rfl (hn rfl) rfl rfl) ?_
    refine ARun.step rfl (step_assignV rfl (hn rfl) rfl rfl) ?_
    refine ARun.nil ?_
    exact hQ.out
  refine E.mono (fun Q h => AWp.ret h) ?_
  apply E.ret (i := (x, _, l))
  · refine ⟨.inr rfl, 2, 2, _, _, _, ytSt29, by decide, rfl, rfl, rfl, rfl, (.cons rfl (.agg (.cons (.frz _ _ _ _ _) (.cons (.frz _ _ _ _ _) (.nil _)))) (.cons rfl (.one (.sc _ _ rfl)) (.cons rfl (.one (.frz _ _ _ _ _)) (.nil _)))), rfl, ?_⟩
    rfl
  · try dsimp only
    all_goals (exact ⟨hx, hl⟩)
theorem drawShareEnter (b : List UInt8) (h0 : b.length ≤ 2097152) : ∃ (x : Bk) (s : Str) (l : List Str), (bkLe x 6 ∧ l.length ≤ 10) ∧ ASpec Try.prog 55 [.one (bytesT 5 b)] (.tup [.agg (x.zcells 48), .one (.str s), .one (.fz (strs l))]) := by
  suffices key : ∃ i : Bk × Str × List Str, (bkLe i.1 6 ∧ i.2.2.length ≤ 10) ∧ ASpec Try.prog 55 [.one (bytesT 5 b)] (.tup [.agg (i.1.zcells 48), .one (.str i.2.1), .one (.fz (strs i.2.2))]) from (by obtain ⟨i, g, h⟩ := key; exact ⟨i.1, i.2.1, i.2.2, g, h⟩)
  refine ASpec.exC Try.func55 rfl 2 29 [3, 4] rfl rfl 30 rfl rfl rfl (fun i : Bk × Str × List Str => (.tup [.agg (i.1.zcells 48), .one (.str i.2.1), .one (.fz (strs i.2.2))])) (fun i : Bk × Str × List Str => bkLe i.1 6 ∧ i.2.2.length ≤ 10) ?_
  have hb : (b.take 2000).length ≤ 2000 := by rw [List.length_take]; omega
  apply E.reg
  · intro Q hQ
    refine AWp.seq (AWp.region ?_)
    refine ARun.step rfl (step_alloc_p rfl (hn rfl) rfl ytZs29) ?_
    refine ARun.step rfl (step_assignV rfl (hn rfl) rfl rfl) ?_
    refine ARun.step rfl (step_assignV rfl (hn rfl) rfl rfl) ?_
    refine ARun.nil ?_
    exact hQ.out
  apply E.reg
  · intro Q hQ
    refine AWp.seq (AWp.region ?_)
    refine ARun.step rfl (step_moveV rfl (hn rfl) rfl rfl) ?_
    refine ARun.step rfl (call_open rfl (hn rfl) rfl ytCo88 (.cons rfl (.one (.v _)) (.nil)) (l51Open _ (by assumption)) rfl) ?_
    refine ARun.step rfl (step_assignV rfl (hn rfl) rfl rfl) ?_
    refine ARun.nil ?_
    exact hQ.out
  obtain ⟨q1, x1, ⟨hqa1, hqb1, hbk1⟩, hl1⟩ := l55Any (b.take 2000) (0)  (by first | assumption | omega | decide | (simp only [List.length_append, List.length_cons, List.length_nil, List.length_take, List.length_drop]; omega)) (by first | assumption | omega | decide | (simp only [List.length_append, List.length_cons, List.length_nil, List.length_take, List.length_drop]; omega))
  apply E.reg
  · intro Q hQ
    refine AWp.seq (AWp.region ?_)
    refine ARun.step rfl (step_moveV rfl (hn rfl) rfl rfl) ?_
    refine ARun.step rfl (call_stepLZ rfl (hn rfl) rfl ytCo89 rfl rfl rfl rfl (.nil) hl1 rfl rfl) ?_
    refine ARun.step rfl (step_alloc_p rfl (hn rfl) rfl ytZs29) ?_
    refine ARun.step rfl (step_store_p (bs := [_, _]) rfl rfl ytCs29 rfl rfl rfl rfl rfl rfl rfl) ?_
    refine ARun.nil ?_
    exact hQ.out
  have hxt := hbk1.1
  obtain ⟨q2, x2, ⟨hqa2, hqb2, hsub2, hsl2⟩, hl2⟩ := l55Some (b.take 2000) (q1) x1.things 2 (by first | assumption | omega | decide | (simp only [List.length_append, List.length_cons, List.length_nil, List.length_take, List.length_drop]; omega)) (by first | assumption | omega | decide | (simp only [List.length_append, List.length_cons, List.length_nil, List.length_take, List.length_drop]; omega)) (by first | assumption | omega | decide | (simp only [List.length_append, List.length_cons, List.length_nil, List.length_take, List.length_drop]; omega)) (by first | assumption | omega | decide | (simp only [List.length_append, List.length_cons, List.length_nil, List.length_take, List.length_drop]; omega)) (by first | assumption | omega | decide | (simp only [List.length_append, List.length_cons, List.length_nil, List.length_take, List.length_drop]; omega))
  apply E.reg
  · intro Q hQ
    refine AWp.seq (AWp.region ?_)
    refine ARun.step rfl (step_moveV rfl (hn rfl) rfl rfl) ?_
    refine ARun.step rfl (step_field_b rfl (hn rfl) rfl ytFo29_0 rfl (by exact List.cons_ne_nil _ _)) ?_
    refine ARun.step rfl (step_load_b rfl (hn rfl) rfl ytSc22 rfl rfl) ?_
    refine ARun.step rfl (call_stepL rfl (hn rfl) rfl ytCo108 rfl rfl rfl rfl rfl (.cons rfl (.one (.v _)) (.cons rfl (.one (.v _)) (.nil))) (hl2) rfl rfl) ?_
    refine ARun.step rfl (step_assignV rfl (hn rfl) rfl rfl) ?_
    refine ARun.nil ?_
    exact hQ.out
  refine E.join (fun y : List Str × Nat => mkAS 30 [(2, ⟨true, .one (.bptr 2 0)⟩), (5, ⟨true, .one (.eptr ⟨.arr 9 0, []⟩ 0 0)⟩), (6, ⟨true, .one (.bptr 6 0)⟩), (7, ⟨true, .one (.ref ⟨.arr 15 0, []⟩)⟩)] [(2, [.any, .any]), (6, [.v (strs x1.things), .v (bts 48 x1.bs)])] [(9, 0, ptT 132 (rdR 5 (b.take 2000) y.2)), (15, 0, strs y.1)]) (fun y => y.1.length ≤ 10 ∧ y.2 ≤ 5000) ?_ ?_
  · rintro y ⟨hy, hyp⟩
    refine E.mono (fun Q h => AWp.le (Le.letGo 15 0 (g := _) rfl (fun _ _ => rfl)) h) ?_
    obtain ⟨_, s3, ⟨rfl, hk3⟩, hl3⟩ := l51of (b.take 2000) (y.2) ([⟨#[97, 108, 101]⟩, ⟨#[98]⟩, ⟨#[99, 45, 99]⟩, ⟨#[100, 97, 114, 107]⟩, ⟨#[120, 57]⟩, ⟨#[122, 122]⟩, ⟨#[122, 122]⟩, ⟨#[]⟩]) (by first | assumption | omega | decide | (simp only [List.length_append, List.length_cons, List.length_nil, List.length_take, List.length_drop]; omega)) (by first | assumption | omega | decide | (simp only [List.length_append, List.length_cons, List.length_nil, List.length_take, List.length_drop]; omega)) (by first | assumption | omega | decide | (simp only [List.length_append, List.length_cons, List.length_nil, List.length_take, List.length_drop]; omega)) (by first | assumption | omega | decide | (simp only [List.length_append, List.length_cons, List.length_nil, List.length_take, List.length_drop]; omega))
    apply E.reg
    · intro Q hQ
      refine AWp.seq (AWp.drawM [⟨⟨[.s 6, .b 6], [.s 25], false⟩, none, []⟩, ⟨⟨[.s 5], [.s 26], false⟩, none, []⟩, ⟨⟨[], [.s 27], false⟩, none, []⟩, ⟨⟨[.s 27, .s 26, .a 9 0], [.s 28, .a 9 0], false⟩, none, []⟩, ⟨⟨[.s 7], [.s 29], false⟩, none, []⟩, ⟨⟨[.b 2, .s 2, .s 25], [.b 2], false⟩, none, []⟩, ⟨⟨[.s 28], [.s 3], false⟩, none, []⟩, ⟨⟨[], [], true⟩, none, []⟩] ytMo rfl rfl (Le.forgetR (n := 30) (sl := [(2, _), (5, _), (6, _), (7, _)]) (bl := [(2, _), (6, _)]) (al := [(9, 0, _), (15, 0, _)]) rfl ⟨rfl, rfl, rfl, rfl, trivial⟩ ⟨rfl, rfl, trivial⟩ ⟨.refl _, .refl _, trivial⟩) rfl ?_)
      refine FRun.slot rfl (fun τ hN hr => step_loadS_b rfl (rdN hN (hn rfl)) rfl ytSt29 (by exact rdS hr rfl rfl) (by exact rdBtake hr rfl rfl) rfl (by decide)) (by exact rfl) ?_
      refine FRun.slot rfl (fun τ hN hr => step_moveV rfl (rdN hN (hn rfl)) rfl (by exact rdS hr rfl rfl)) (by exact rfl) ?_
      refine FRun.slot rfl (fun τ hN hr => step_buildVT rfl (rdN hN (hn rfl)) rfl ytSl22 (strs [⟨#[97, 108, 101]⟩, ⟨#[98]⟩, ⟨#[99, 45, 99]⟩, ⟨#[100, 97, 114, 107]⟩, ⟨#[120, 57]⟩, ⟨#[122, 122]⟩, ⟨#[122, 122]⟩, ⟨#[]⟩]) (by exact .cons rfl rfl rfl rfl (.cons rfl rfl rfl rfl (.cons rfl rfl rfl rfl (.cons rfl rfl rfl rfl (.cons rfl rfl rfl rfl (.cons rfl rfl rfl rfl (.cons rfl rfl rfl rfl (.cons rfl rfl rfl rfl (.nil _))))))))) (by exact rfl) (by exact rfl) (by exact rfl) (by exact (rowsE ⟨rfl, rfl, rfl, rfl, rfl, rfl, rfl, rfl, trivial⟩))) (by exact rfl) ?_
      refine FRun.lent rfl (fun τ hN hr => call_stepLZ rfl (rdN hN (hn rfl)) rfl ytCo103 (by exact rdS hr rfl rfl) (by exact rdA hr rfl rfl) rfl rfl (.cons (by exact rdS hr rfl rfl) (.one (.v _)) (.nil)) hl3 rfl (by exact rdNoRefs hr rfl rfl)) (by exact rfl) ?_
      refine FRun.slot rfl (fun τ hN hr => step_moveV rfl (rdN hN (hn rfl)) rfl (by exact rdS hr rfl rfl)) (by exact rfl) ?_
      refine FRun.boxW rfl (fun τ hN hr => step_store_p rfl rfl ytCs29 (by exact rdS hr rfl rfl) (by exact rdB hr rfl rfl) (by exact rfl) (by exact rdS hr rfl rfl) (by exact rfl) (by exact rfl) (by exact rfl)) (by exact rfl) ?_
      refine FRun.slot rfl (fun τ hN hr => step_assignV rfl (rdN hN (hn rfl)) rfl (by exact rdS hr rfl rfl)) (by exact rfl) ?_
      refine FRun.whole rfl (step_assignV rfl (hn rfl) rfl rfl) (by exact rfl) ?_
      refine FRun.nil ?_
      exact hQ.out
    refine E.mono (fun Q h => AWp.ret h) ?_
    apply E.ret (i := (Bk.mk _ _, _, _))
    · refine ⟨.inr rfl, 2, 2, _, _, _, ytSt29, by decide, rfl, rfl, rfl, rfl, (.cons rfl (.agg (.cons (.frz _ _ _ _ _) (.cons (.frz _ _ _ _ _) (.nil _)))) (.cons rfl (.one (.sc _ _ rfl)) (.cons rfl (.one (.frz _ _ _ _ _)) (.nil _)))), rfl, ?_⟩
      rfl
    · try dsimp only
      all_goals (exact ⟨by assumption, by omega⟩)
  · intro jh0
    obtain ⟨_, k4, ⟨rfl, hk4⟩, hl4⟩ := l51pick (b.take 2000) (q2) (12) (by first | assumption | omega | decide | (simp only [List.length_append, List.length_cons, List.length_nil, List.length_take, List.length_drop]; omega)) (by first | assumption | omega | decide | (simp only [List.length_append, List.length_cons, List.length_nil, List.length_take, List.length_drop]; omega)) (by first | assumption | omega | decide | (simp only [List.length_append, List.length_cons, List.length_nil, List.length_take, List.length_drop]; omega)) (by first | assumption | omega | decide | (simp only [List.length_append, List.length_cons, List.length_nil, List.length_take, List.length_drop]; omega))
    apply E.reg
    · intro Q hQ
      refine AWp.seq (AWp.region ?_)
      refine ARun.step rfl (step_moveV rfl (hn rfl) rfl rfl) ?_
      refine ARun.step rfl (call_stepLZ rfl (hn rfl) rfl ytCo102 rfl rfl rfl rfl (.cons rfl (.one (.v _)) (.nil)) hl4 rfl rfl) ?_
      refine ARun.step rfl (step_eql rfl (hn rfl) rfl rfl rfl) ?_
      refine ARun.nil ?_
      exact hQ.out
    refine E.cond rfl (fun c1 => ?_) (fun c1 => ?_)
    · try simp only [nrm] at c1
      obtain ⟨_, s5, ⟨rfl, hk5⟩, hl5⟩ := l51of (b.take 2000) (q2 + 1) ([⟨#[]⟩, ⟨#[122, 122]⟩, ⟨#[97]⟩]) (by first | assumption | omega | decide | (simp only [List.length_append, List.length_cons, List.length_nil, List.length_take, List.length_drop]; omega)) (by first | assumption | omega | decide | (simp only [List.length_append, List.length_cons, List.length_nil, List.length_take, List.length_drop]; omega)) (by first | assumption | omega | decide | (simp only [List.length_append, List.length_cons, List.length_nil, List.length_take, List.length_drop]; omega)) (by first | assumption | omega | decide | (simp only [List.length_append, List.length_cons, List.length_nil, List.length_take, List.length_drop]; omega))
      apply E.reg
      · intro Q hQ
        refine AWp.region ?_
        refine ARun.step rfl (step_moveV rfl (hn rfl) rfl rfl) ?_
        refine ARun.step rfl (step_moveV rfl (hn rfl) rfl rfl) ?_
        refine ARun.step rfl (step_buildVT rfl (hn rfl) rfl ytSl22 (strs [⟨#[]⟩, ⟨#[122, 122]⟩, ⟨#[97]⟩]) (.cons rfl rfl rfl rfl (.cons rfl rfl rfl rfl (.cons rfl rfl rfl rfl (.nil _)))) rfl rfl rfl (rowsE ⟨rfl, rfl, rfl, trivial⟩)) ?_
        refine ARun.step rfl (call_stepLZ rfl (hn rfl) rfl ytCo103 rfl rfl rfl rfl (.cons rfl (.one (.v _)) (.nil)) hl5 rfl rfl) ?_
        refine ARun.step rfl (step_buildVT rfl (hn rfl) rfl ytSl22 (strs [_]) (.cons rfl rfl rfl rfl (.nil _)) rfl rfl rfl (rows1 rfl)) ?_
        refine ARun.step rfl (step_append_strs rfl (hn rfl) rfl ytSl22 rfl rfl rfl (.v _) (by first | omega | (simp only [List.length_cons, List.length_nil, List.length_append, List.length_take, List.length_drop]; omega)) (by first | omega | (simp only [List.length_cons, List.length_nil, List.length_append, List.length_take, List.length_drop]; omega))) ?_
        refine ARun.step rfl (step_assignV rfl (hn rfl) rfl rfl) ?_
        refine ARun.nil ?_
        exact hQ.out
      refine jh0 ((_, q2 + 1 + 1)) _ ?_ (Le.forgetR rfl ⟨rfl, rfl, rfl, rfl, trivial⟩ ⟨rfl, rfl, trivial⟩ ⟨.refl _, .refl _, trivial⟩)
      try dsimp only
      refine ⟨?_, by omega⟩; first | (show x2.length ≤ 10; omega) | (simp only [List.length_append, List.length_cons, List.length_nil]; omega)
    · try simp only [nrm] at c1
      refine E.mono (fun Q h => AWp.skip h) ?_
      refine jh0 ((_, q2 + 1)) _ ?_ (Le.forgetR rfl ⟨rfl, rfl, rfl, rfl, trivial⟩ ⟨rfl, rfl, trivial⟩ ⟨.refl _, .refl _, trivial⟩)
      try dsimp only
      refine ⟨?_, by omega⟩; first | (show x2.length ≤ 10; omega) | (simp only [List.length_append, List.length_cons, List.length_nil]; omega)

end Go.Proofs.Ytkmacjdigkaabaa
