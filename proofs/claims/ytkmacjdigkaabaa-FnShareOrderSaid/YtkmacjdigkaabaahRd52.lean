/- Contracts of functions of the program, each met by its body; conditions stand in each statement. No condition. -/
import Derived.Test.YtkmacjdigkaabaahRd51
import Derived.Test.YtkmacjdigkaabaaHn
import Derived.Test.YtkmacjdigkaabaaProg
import Derived.KernelRfl
set_option linter.unusedVariables false
set_option linter.unusedSimpArgs false
set_option linter.unnecessarySimpa false
set_option linter.unusedSimpArgs false
set_option maxRecDepth 100000
namespace Go.Proofs.Ytkmacjdigkaabaa
open Go Go.Mh

theorem set_strs {l : List Str} {k : Nat} (s : Str) : Eqv (.sl 9 (0 + 1) l.length (putRow (fun i => [.str (nth l i)]) k [.str s])) (strs (l.set k s)) := by
  unfold strs
  rw [List.length_set]
  refine .rows fun j hj => ?_
  by_cases e : j = k
  · subst e
    simp [putRow, nth, List.getD_eq_getElem?_getD, List.getElem?_set, hj]
  · rw [putRow_other _ _ _ e]
    simp [nth, List.getD_eq_getElem?_getD, List.getElem?_set, Ne.symm e]

theorem orderB_six {p : Bk} (h : p.bs.length ≤ 6) : ((orderB p).getD []).length ≤ 6 := by
  cases hh : orderB p with
  | none => exact Nat.zero_le _
  | some l =>
    unfold orderB at hh
    split at hh
    · have := orderGo_len p _ _ _ hh
      simp at this
      show l.length ≤ 6
      omega
    · cases hh

theorem ytZs29 : zeroSz Try.prog 29 = some 2 := by kernel_rfl
theorem ytCo88 : callOk Try.prog 88 = true := by kernel_rfl
theorem ytCo89 : callOk Try.prog 89 = true := by kernel_rfl
theorem ytCs29 : cellsSz Try.prog 29 = some (1 + 1) := by kernel_rfl
theorem ytSt29 : structSz Try.prog 29 = some 2 := by kernel_rfl
theorem ytCo41 : callOk Try.prog 41 = true := by kernel_rfl
theorem ytSl22 : sliceT Try.prog 22 = some ⟨9, 1, 16⟩ := by kernel_rfl
theorem ytCo102 : callOk Try.prog 102 = true := by kernel_rfl
theorem ytCo103 : callOk Try.prog 103 = true := by kernel_rfl
theorem ytCs9 : cellsSz Try.prog 9 = some (0 + 1) := by kernel_rfl
theorem ytFo29_1 : fieldOff Try.prog 29 1 = some 1 := by kernel_rfl
theorem ytSc27 : scalarB Try.prog 27 = true := by kernel_rfl
theorem ytSl27 : sliceT Try.prog 27 = some ⟨48, 3, 64⟩ := by kernel_rfl
theorem ytFo48_0 : fieldOff Try.prog 48 0 = some 0 := by kernel_rfl
theorem ytSc9 : scalarB Try.prog 9 = true := by kernel_rfl
theorem ytMo : Try.prog.follows .mixedOrders = true := by kernel_rfl
theorem drawShareOrder (b : List UInt8) (h0 : b.length ≤ 2097152) : ∃ (x : Bk) (u : Unit), (bkLe x 6) ∧ ASpec Try.prog 39 [.one (bytesT 5 b)] (.agg (x.zcells 48)) := by
  suffices key : ∃ i : Bk × Unit, (bkLe i.1 6) ∧ ASpec Try.prog 39 [.one (bytesT 5 b)] (.agg (i.1.zcells 48)) from (by obtain ⟨i, g, h⟩ := key; exact ⟨i.1, i.2, g, h⟩)
  refine ASpec.exC Try.func39 rfl 2 29 [] rfl rfl 6 rfl rfl rfl (fun i : Bk × Unit => (.agg (i.1.zcells 48))) (fun i : Bk × Unit => bkLe i.1 6) ?_
  have hb : (b.take 2000).length ≤ 2000 := by rw [List.length_take]; omega
  apply E.reg
  · intro Q hQ
    refine AWp.seq (AWp.region ?_)
    refine ARun.step rfl (step_alloc_p rfl (hn rfl) rfl ytZs29) ?_
    refine ARun.nil ?_
    exact hQ.out
  obtain ⟨q1, x1, ⟨hqa1, hqb1, hbk1⟩, hl1⟩ := l55Any (b.take 2000) (0)  (by first | assumption | omega | decide | (simp only [List.length_append, List.length_cons, List.length_nil, List.length_take, List.length_drop]; omega)) (by first | assumption | omega | decide | (simp only [List.length_append, List.length_cons, List.length_nil, List.length_take, List.length_drop]; omega))
  apply E.reg
  · intro Q hQ
    refine AWp.seq (AWp.region ?_)
    refine ARun.step rfl (step_moveV rfl (hn rfl) rfl rfl) ?_
    refine ARun.step rfl (call_open rfl (hn rfl) rfl ytCo88 (.cons rfl (.one (.v _)) (.nil)) (l51Open _ (by assumption)) rfl) ?_
    refine ARun.step rfl (call_stepLZ rfl (hn rfl) rfl ytCo89 rfl rfl rfl rfl (.nil) hl1 rfl rfl) ?_
    refine ARun.step rfl (step_store_p (bs := [_, _]) rfl rfl ytCs29 rfl rfl rfl rfl rfl rfl rfl) ?_
    refine ARun.nil ?_
    exact hQ.out
  refine E.mono (fun Q h => AWp.ret h) ?_
  apply E.ret (i := (Bk.mk _ _, ()))
  · refine ⟨.inr rfl, 2, 2, _, _, _, ytSt29, by decide, rfl, rfl, rfl, rfl, (.cons rfl (.agg (.cons (.frz _ _ _ _ _) (.cons (.frz _ _ _ _ _) (.nil _)))) (.nil _)), rfl, ?_⟩
    refine congrArg PV.agg ?_
    rfl
  · try dsimp only
    all_goals (assumption)
theorem drawShareFits (b : List UInt8) (h0 : b.length ≤ 2097152) : ∃ (x : Bk) (l : List Str), (bkLe x 6 ∧ l.length ≤ 10) ∧ ASpec Try.prog 45 [.one (bytesT 5 b)] (.tup [.agg (x.zcells 48), .one (.fz (strs l))]) := by
  suffices key : ∃ i : Bk × List Str, (bkLe i.1 6 ∧ i.2.length ≤ 10) ∧ ASpec Try.prog 45 [.one (bytesT 5 b)] (.tup [.agg (i.1.zcells 48), .one (.fz (strs i.2))]) from (by obtain ⟨i, g, h⟩ := key; exact ⟨i.1, i.2, g, h⟩)
  refine ASpec.exC Try.func45 rfl 2 29 [3] rfl rfl 75 rfl rfl rfl (fun i : Bk × List Str => (.tup [.agg (i.1.zcells 48), .one (.fz (strs i.2))])) (fun i : Bk × List Str => bkLe i.1 6 ∧ i.2.length ≤ 10) ?_
  have hb : (b.take 2000).length ≤ 2000 := by rw [List.length_take]; omega
  apply E.reg
  · intro Q hQ
    refine AWp.seq (AWp.region ?_)
    refine ARun.step rfl (step_alloc_p rfl (hn rfl) rfl ytZs29) ?_
    refine ARun.step rfl (step_assignV rfl (hn rfl) rfl rfl) ?_
    refine ARun.nil ?_
    exact hQ.out
  apply E.reg
  · intro Q hQ
    refine AWp.seq (AWp.region ?_)
    refine ARun.step rfl (step_moveV rfl (hn rfl) rfl rfl) ?_
    refine ARun.step rfl (call_open rfl (hn rfl) rfl ytCo88 (.cons rfl (.one (.v _)) (.nil)) (l51Open _ (by assumption)) rfl) ?_
    refine ARun.step rfl (step_assignV rfl (hn rfl) rfl rfl) ?_
    refine ARun.nil ?_
    exact hQ.out
  obtain ⟨q1, x1, ⟨hqa1, hqb1, hbk1⟩, hl1⟩ := l55Any (b.take 2000) (0)  (by first | assumption | omega | decide | (simp only [List.length_append, List.length_cons, List.length_nil, List.length_take, List.length_drop]; omega)) (by first | assumption | omega | decide | (simp only [List.length_append, List.length_cons, List.length_nil, List.length_take, List.length_drop]; omega))
  apply E.reg
  · intro Q hQ
    refine AWp.seq (AWp.region ?_)
    refine ARun.step rfl (step_moveV rfl (hn rfl) rfl rfl) ?_
    refine ARun.step rfl (call_stepLZ rfl (hn rfl) rfl ytCo89 rfl rfl rfl rfl (.nil) hl1 rfl rfl) ?_
    refine ARun.step rfl (step_alloc_p rfl (hn rfl) rfl ytZs29) ?_
    refine ARun.step rfl (step_store_p (bs := [_, _]) rfl rfl ytCs29 rfl rfl rfl rfl rfl rfl rfl) ?_
    refine ARun.nil ?_
    exact hQ.out
  apply E.reg
  · intro Q hQ
    refine AWp.seq (AWp.region ?_)
    refine ARun.step rfl (step_loadS_b rfl (hn rfl) rfl ytSt29 rfl rfl rfl (by decide)) ?_
    refine ARun.step rfl (call_stepN rfl (hn rfl) rfl ytCo41 (.cons rfl (.agg (.cons (.v _) (.cons (.v _) .nil))) (.nil)) (shareOrderS x1) rfl rfl) ?_
    refine ARun.step rfl (step_moveV rfl (hn rfl) rfl rfl) ?_
    refine ARun.step rfl (step_extract rfl (hn rfl) rfl rfl rfl (by intro l h; cases h)) ?_
    refine ARun.step rfl (step_extract rfl (hn rfl) rfl rfl rfl (by intro l h; cases h)) ?_
    refine ARun.step rfl (step_assignV rfl (hn rfl) rfl rfl) ?_
    refine ARun.step rfl (step_assignV rfl (hn rfl) rfl rfl) ?_
    refine ARun.nil ?_
    exact hQ.out
  refine E.join (fun y : List Str × Nat => mkAS 75 [(2, ⟨true, .one (.bptr 2 0)⟩), (4, ⟨true, .one (.eptr ⟨.arr 11 0, []⟩ 0 0)⟩), (5, ⟨true, .one (.bptr 5 0)⟩), (6, ⟨true, .one (.ref ⟨.arr 6 0, []⟩)⟩)] [(2, [.any, .any]), (5, [.v (strs x1.things), .v (bts 48 x1.bs)])] [(6, 0, strs y.1), (11, 0, ptT 132 (rdR 5 (b.take 2000) y.2))]) (fun y => y.1.length ≤ 6 ∧ y.2 ≤ 6000) ?_ ?_
  · rintro y ⟨hy, hyp⟩
    refine E.mono (fun Q h => AWp.seq h) ?_
    obtain ⟨q2, k2, ⟨ha2, hb2, hc2⟩, hl2, hz2⟩ := l51pick_if (0 < y.1.length) (b.take 2000) (y.2) (12) (by first | assumption | omega | decide | (simp only [List.length_append, List.length_cons, List.length_nil, List.length_take, List.length_drop]; omega)) (by first | assumption | omega | decide | (simp only [List.length_append, List.length_cons, List.length_nil, List.length_take, List.length_drop]; omega)) (by first | assumption | omega | decide | (simp only [List.length_append, List.length_cons, List.length_nil, List.length_take, List.length_drop]; omega)) (by first | assumption | omega | decide | (simp only [List.length_append, List.length_cons, List.length_nil, List.length_take, List.length_drop]; omega))
    apply E.reg
    · intro Q hQ
      refine AWp.seq (AWp.region ?_)
      refine ARun.step rfl (step_moveV rfl (hn rfl) rfl rfl) ?_
      refine ARun.step rfl (step_len_r rfl (hn rfl) rfl ytSl22 rfl rfl) ?_
      refine ARun.step rfl (step_gtr rfl (hn rfl) rfl rfl rfl) ?_
      refine ARun.step rfl (step_moveV rfl (hn rfl) rfl rfl) ?_
      refine guardS rfl rfl rfl rfl (hn rfl) (fun g1 g2 => step_moveV rfl (hn rfl) rfl rfl) ?_
      refine guardL rfl rfl rfl rfl (hn rfl) (fun g1 g2 => call_stepLZ rfl (hn rfl) rfl ytCo102 (ev_true rfl (by exact flag2 g1 g2)) rfl rfl rfl (.cons rfl (.one (.v _)) (.nil)) (hl2 (by first | (have := of_decide_eq_true g2; omega) | simpa using g2)) rfl rfl) (fun h => by rw [hz2 (by intro hc; first | (simp only [nrm, Bool.true_and] at h; omega) | (simp [hc] at h; done))]; exact rfl) ?_
      refine guardS rfl rfl rfl rfl (hn rfl) (fun g1 g2 => step_eql rfl (hn rfl) rfl (ev_true rfl (by exact flag2 g1 g2)) rfl) ?_
      refine ARun.step rfl (step_and rfl (hn rfl) rfl rfl rfl (fun h => (by exact flag1 h))) ?_
      refine ARun.nil ?_
      exact hQ.out
    refine E.cond rfl (fun c1 => ?_) (fun c1 => ?_)
    · try simp only [nrm] at c1
      obtain ⟨_, k3, ⟨rfl, hk3⟩, hl3⟩ := l51pick (b.take 2000) (q2) y.1.length (by first | assumption | omega | decide | (simp only [List.length_append, List.length_cons, List.length_nil, List.length_take, List.length_drop]; omega)) (by first | assumption | omega | decide | (simp only [List.length_append, List.length_cons, List.length_nil, List.length_take, List.length_drop]; omega)) (by first | assumption | omega | decide | (simp only [List.length_append, List.length_cons, List.length_nil, List.length_take, List.length_drop]; omega)) (by first | assumption | omega | decide | (simp only [List.length_append, List.length_cons, List.length_nil, List.length_take, List.length_drop]; omega))
      obtain ⟨_, s4, ⟨rfl, hk4⟩, hl4⟩ := l51of (b.take 2000) (q2 + 1) ([⟨#[]⟩, ⟨#[97, 108, 101]⟩, ⟨#[122, 122]⟩]) (by first | assumption | omega | decide | (simp only [List.length_append, List.length_cons, List.length_nil, List.length_take, List.length_drop]; omega)) (by first | assumption | omega | decide | (simp only [List.length_append, List.length_cons, List.length_nil, List.length_take, List.length_drop]; omega)) (by first | assumption | omega | decide | (simp only [List.length_append, List.length_cons, List.length_nil, List.length_take, List.length_drop]; omega)) (by first | assumption | omega | decide | (simp only [List.length_append, List.length_cons, List.length_nil, List.length_take, List.length_drop]; omega))
      apply E.reg
      · intro Q hQ
        refine AWp.region ?_
        refine ARun.step rfl (step_moveV rfl (hn rfl) rfl rfl) ?_
        refine ARun.step rfl (step_moveV rfl (hn rfl) rfl rfl) ?_
        refine ARun.step rfl (step_moveV rfl (hn rfl) rfl rfl) ?_
        refine ARun.step rfl (step_len_r rfl (hn rfl) rfl ytSl22 rfl rfl) ?_
        refine ARun.step rfl (call_stepLZ rfl (hn rfl) rfl ytCo102 rfl rfl rfl rfl (.cons rfl (.one (.v _)) (.nil)) hl3 rfl rfl) ?_
        refine ARun.step rfl (step_moveV rfl (hn rfl) rfl rfl) ?_
        refine ARun.step rfl (step_buildVT rfl (hn rfl) rfl ytSl22 (strs [⟨#[]⟩, ⟨#[97, 108, 101]⟩, ⟨#[122, 122]⟩]) (.cons rfl rfl rfl rfl (.cons rfl rfl rfl rfl (.cons rfl rfl rfl rfl (.nil _)))) rfl rfl rfl (rowsE ⟨rfl, rfl, rfl, trivial⟩)) ?_
        refine ARun.step rfl (call_stepLZ rfl (hn rfl) rfl ytCo103 rfl rfl rfl rfl (.cons rfl (.one (.v _)) (.nil)) hl4 rfl rfl) ?_
        refine ARun.step rfl (step_index_rN rfl (hn rfl) rfl ytSl22 rfl rfl rfl (by first | omega | (simp only [List.length_cons, List.length_nil]; omega))) ?_
        refine ARun.step rfl (step_store_row rfl rfl ytCs9 rfl rfl (by omega) rfl rfl rfl rfl rfl (by simp)) ?_
        refine ARun.nil ?_
        exact hQ.out
      refine E.mono (fun Q h => AWp.le (Le.retellArr 6 0 (t' := strs (y.1.set _ _)) (by exact set_strs _)) h) ?_
      apply E.reg
      · intro Q hQ
        refine AWp.seq (AWp.region ?_)
        refine ARun.step rfl (step_loadS_b rfl (hn rfl) rfl ytSt29 rfl rfl rfl (by decide)) ?_
        refine ARun.step rfl (step_moveV rfl (hn rfl) rfl rfl) ?_
        refine ARun.step rfl (step_store_p (bs := [_, _]) rfl rfl ytCs29 rfl rfl rfl rfl rfl rfl rfl) ?_
        refine ARun.step rfl (step_assignV rfl (hn rfl) rfl rfl) ?_
        refine ARun.nil ?_
        exact hQ.out
      refine E.mono (fun Q h => AWp.le (Le.letGo 6 0 (g := _) rfl (fun _ _ => rfl)) h) ?_
      refine E.mono (fun Q h => AWp.ret h) ?_
      apply E.ret (i := (Bk.mk _ _, _))
      · refine ⟨.inr rfl, 2, 2, _, _, _, ytSt29, by decide, rfl, rfl, rfl, rfl, (.cons rfl (.agg (.cons (.frz _ _ _ _ _) (.cons (.frz _ _ _ _ _) (.nil _)))) (.cons rfl (.one (.frz _ _ _ _ _)) (.nil _))), rfl, ?_⟩
        rfl
      · try dsimp only
        all_goals (exact ⟨by assumption, by first | omega | (rw [List.length_set]; omega) | (dsimp only; omega)⟩)
    · try simp only [nrm] at c1
      refine E.mono (fun Q h => AWp.skip h) ?_
      apply E.reg
      · intro Q hQ
        refine AWp.seq (AWp.region ?_)
        refine ARun.step rfl (step_loadS_b rfl (hn rfl) rfl ytSt29 rfl rfl rfl (by decide)) ?_
        refine ARun.step rfl (step_moveV rfl (hn rfl) rfl rfl) ?_
        refine ARun.step rfl (step_store_p (bs := [_, _]) rfl rfl ytCs29 rfl rfl rfl rfl rfl rfl rfl) ?_
        refine ARun.step rfl (step_assignV rfl (hn rfl) rfl rfl) ?_
        refine ARun.nil ?_
        exact hQ.out
      refine E.mono (fun Q h => AWp.le (Le.letGo 6 0 (g := _) rfl (fun _ _ => rfl)) h) ?_
      refine E.mono (fun Q h => AWp.ret h) ?_
      apply E.ret (i := (Bk.mk _ _, y.1))
      · refine ⟨.inr rfl, 2, 2, _, _, _, ytSt29, by decide, rfl, rfl, rfl, rfl, (.cons rfl (.agg (.cons (.frz _ _ _ _ _) (.cons (.frz _ _ _ _ _) (.nil _)))) (.cons rfl (.one (.frz _ _ _ _ _)) (.nil _))), rfl, ?_⟩
        rfl
      · try dsimp only
        all_goals (exact ⟨by assumption, by first | omega | (rw [List.length_set]; omega) | (dsimp only; omega)⟩)
  · intro jh0
    have hxb := hbk1.2.1
    obtain ⟨q5, k5, ⟨ha5, hb5, hc5⟩, hl5, hz5⟩ := l51pick_if ((orderB x1).isSome = true) (b.take 2000) (q1) (2) (by first | assumption | omega | decide | (simp only [List.length_append, List.length_cons, List.length_nil, List.length_take, List.length_drop]; omega)) (by first | assumption | omega | decide | (simp only [List.length_append, List.length_cons, List.length_nil, List.length_take, List.length_drop]; omega)) (by first | assumption | omega | decide | (simp only [List.length_append, List.length_cons, List.length_nil, List.length_take, List.length_drop]; omega)) (by first | assumption | omega | decide | (simp only [List.length_append, List.length_cons, List.length_nil, List.length_take, List.length_drop]; omega))
    apply E.reg
    · intro Q hQ
      refine AWp.seq (AWp.region ?_)
      refine ARun.step rfl (step_moveV rfl (hn rfl) rfl rfl) ?_
      refine ARun.step rfl (step_not rfl (hn rfl) rfl rfl) ?_
      refine ARun.step rfl (step_moveV rfl (hn rfl) rfl rfl) ?_
      refine guardS rfl rfl rfl rfl (hn rfl) (fun g1 g2 => step_moveV rfl (hn rfl) rfl rfl) ?_
      refine guardL rfl rfl rfl rfl (hn rfl) (fun g1 g2 => call_stepLZ rfl (hn rfl) rfl ytCo102 (ev_true rfl (by exact flag2 g1 g2)) rfl rfl rfl (.cons rfl (.one (.v _)) (.nil)) (hl5 (by first | (have := of_decide_eq_true g2; omega) | simpa using g2)) rfl rfl) (fun h => by rw [hz5 (by intro hc; first | (simp only [nrm, Bool.true_and] at h; omega) | (simp [hc] at h; done))]; exact rfl) ?_
      refine guardS rfl rfl rfl rfl (hn rfl) (fun g1 g2 => step_eql rfl (hn rfl) rfl (ev_true rfl (by exact flag2 g1 g2)) rfl) ?_
      refine ARun.step rfl (step_or rfl (hn rfl) rfl rfl rfl (fun h => (by exact flag1 h))) ?_
      refine ARun.nil ?_
      exact hQ.out
    refine E.cond rfl (fun c2 => ?_) (fun c2 => ?_)
    · try simp only [nrm] at c2
      apply E.reg
      · intro Q hQ
        refine AWp.seq (AWp.region ?_)
        refine ARun.step rfl (step_build0 rfl (hn rfl) rfl ytSl22) ?_
        refine ARun.step rfl (step_assignV rfl (hn rfl) rfl rfl) ?_
        refine ARun.nil ?_
        exact hQ.out
      refine E.mono (fun Q h => AWp.le (Le.trans (Le.forgetR (n := 75) (sl := [(2, _), (4, _), (5, _), (6, _)]) (bl := [(2, _), (5, _)]) (al := [(11, 0, _), (26, 0, _)]) rfl ⟨rfl, rfl, rfl, rfl, trivial⟩ ⟨rfl, rfl, trivial⟩ ⟨.refl _, .refl _, trivial⟩) (Le.toSlot (d := 6) (s := 26) (k := 0) rfl rfl (noRef_mk rfl rfl) (by exact (show 6 < 75 by decide)) rfl rfl)) h) ?_
      apply E.reg
      · intro Q hQ
        refine AWp.seq (AWp.region ?_)
        refine ARun.step rfl (step_assignV rfl (hn rfl) rfl rfl) ?_
        refine ARun.nil ?_
        exact hQ.out
      refine E.mono (fun Q h => AWp.block h) ?_
      refine E.loop (fun x : Nat × List Str × Nat => mkAS 75 [(2, ⟨true, .one (.bptr 2 0)⟩), (4, ⟨true, .one (.eptr ⟨.arr 11 0, []⟩ 0 0)⟩), (5, ⟨true, .one (.bptr 5 0)⟩), (6, ⟨true, .one (.ref ⟨.arr 6 0, []⟩)⟩), (8, ⟨true, .one (.v (.int .i64 (x.1 : Nat)))⟩)] [(2, [.any, .any]), (5, [.v (strs x1.things), .v (bts 48 x1.bs)])] [(6, 0, strs x.2.1), (11, 0, ptT 132 (rdR 5 (b.take 2000) x.2.2))]) (fun x => x.1 ≤ x1.bs.length ∧ x.2.1.length = x.1 ∧ x.2.2 ≤ 5000 + x.1) (fun x => x1.bs.length - x.1) (0, [], q5) ?_ (Le.forgetR rfl ⟨rfl, rfl, rfl, rfl, rfl, trivial⟩ ⟨rfl, rfl, trivial⟩ ⟨.refl _, .refl _, trivial⟩) ?_
      · try dsimp only
        exact ⟨by omega, rfl, by omega⟩
      rintro x ⟨hi, hlx, hpx⟩ ih1
      refine E.mono (fun Q h => AWp.seq h) ?_
      apply E.reg
      · intro Q hQ
        refine AWp.seq (AWp.region ?_)
        refine ARun.step rfl (step_moveV rfl (hn rfl) rfl rfl) ?_
        refine ARun.step rfl (step_field_b rfl (hn rfl) rfl ytFo29_1 rfl (by exact List.cons_ne_nil _ _)) ?_
        refine ARun.step rfl (step_load_b rfl (hn rfl) rfl ytSc27 rfl rfl) ?_
        refine ARun.step rfl (step_len_f rfl (hn rfl) rfl ytSl27 rfl) ?_
        refine ARun.step rfl (step_lss rfl (hn rfl) rfl rfl rfl) ?_
        refine ARun.nil ?_
        exact hQ.out
      refine E.cond rfl (fun c3 => ?_) (fun c3 => ?_)
      · try simp only [nrm] at c3
        refine E.mono (fun Q h => AWp.skip h) ?_
        refine E.mono (fun Q h => AWp.seq h) ?_
        refine E.mono (fun Q h => AWp.block h) ?_
        obtain ⟨_, k6, ⟨rfl, hk6⟩, hl6⟩ := l51pick (b.take 2000) (x.2.2) (x.2.1.length + 1) (by first | assumption | omega | decide | (simp only [List.length_append, List.length_cons, List.length_nil, List.length_take, List.length_drop]; omega)) (by first | assumption | omega | decide | (simp only [List.length_append, List.length_cons, List.length_nil, List.length_take, List.length_drop]; omega)) (by first | assumption | omega | decide | (simp only [List.length_append, List.length_cons, List.length_nil, List.length_take, List.length_drop]; omega)) (by first | assumption | omega | decide | (simp only [List.length_append, List.length_cons, List.length_nil, List.length_take, List.length_drop]; omega))
        apply E.reg
        · intro Q hQ
          refine AWp.seq (AWp.region ?_)
          refine ARun.step rfl (step_moveV rfl (hn rfl) rfl rfl) ?_
          refine ARun.step rfl (step_moveV rfl (hn rfl) rfl rfl) ?_
          refine ARun.step rfl (step_len_r rfl (hn rfl) rfl ytSl22 rfl rfl) ?_
          refine ARun.step rfl (step_addI rfl (hn rfl) rfl rfl rfl (by first | omega | (simp only [List.length_cons, List.length_nil]; omega)) (by first | omega | (simp only [List.length_cons, List.length_nil]; omega))) ?_
          refine ARun.step rfl (call_stepLZ rfl (hn rfl) rfl ytCo102 rfl rfl rfl rfl (.cons rfl (.one (.v _)) (.nil)) hl6 rfl rfl) ?_
          refine ARun.step rfl (step_assignV rfl (hn rfl) rfl rfl) ?_
          refine ARun.nil ?_
          exact hQ.out
        refine E.mono (fun Q h => AWp.le (Le.letGo 6 0 (g := _) rfl (fun _ _ => rfl)) h) ?_
        apply E.reg
        · intro Q hQ
          refine AWp.drawM [⟨⟨[], [.s 39, .a 39 0], false⟩, some 39, [43, 51]⟩, ⟨⟨[.s 6], [.s 40], false⟩, none, [39, 43, 51]⟩, ⟨⟨[.s 9], [.s 41], false⟩, none, [39, 43, 51]⟩, ⟨⟨[.s 41, .s 40], [.s 42], false⟩, none, [39, 43, 51]⟩, ⟨⟨[.s 39, .a 39 0, .s 42], [.s 43, .a 43 0, .a 39 0], false⟩, some 43, [51]⟩, ⟨⟨[.s 5, .b 5], [.s 44], false⟩, none, [39, 43, 51]⟩, ⟨⟨[.s 44, .b 5], [.s 45], false⟩, none, [39, 43, 51]⟩, ⟨⟨[.s 8], [.s 46], false⟩, none, [39, 43, 51]⟩, ⟨⟨[.s 45, .s 46], [.s 47], false⟩, none, [39, 43, 51]⟩, ⟨⟨[.s 47], [.s 48], false⟩, none, [39, 43, 51]⟩, ⟨⟨[.s 48], [.s 49], false⟩, none, [39, 43, 51]⟩, ⟨⟨[.s 49], [.s 50], false⟩, none, [39, 43, 51]⟩, ⟨⟨[.s 43, .a 43 0, .s 50], [.s 51, .a 51 0, .a 43 0], false⟩, some 51, []⟩, ⟨⟨[.s 6], [.s 52], false⟩, none, [39, 43, 51]⟩, ⟨⟨[.s 9], [.s 53], false⟩, none, [39, 43, 51]⟩, ⟨⟨[.s 53, .s 52], [.s 54], false⟩, none, [39, 43, 51]⟩, ⟨⟨[], [], true⟩, none, []⟩, ⟨⟨[], [], true⟩, none, []⟩] ytMo rfl rfl (Le.forgetR (n := 75) (sl := [(2, _), (4, _), (5, _), (6, _), (8, _), (9, _), (27, _), (28, _), (29, _), (30, _), (31, _), (34, _), (35, _), (36, _), (37, _), (38, _)]) (bl := [(2, _), (5, _)]) (al := [(6, 0, _), (11, 0, _)]) rfl ⟨rfl, rfl, rfl, rfl, rfl, rfl, rfl, rfl, rfl, rfl, rfl, rfl, rfl, rfl, rfl, rfl, trivial⟩ ⟨rfl, rfl, trivial⟩ ⟨.refl _, .refl _, trivial⟩) rfl ?_
          refine FRun.made (L := []) (t := strs []) rfl (fun τ hN hr hF => step_buildE rfl (rdN hN (hn rfl)) rfl ytSl22 hF _) (by exact rfl) ?_
          refine FRun.slot rfl (fun τ hN hr => step_moveV rfl (rdN hN (hn rfl)) rfl (by exact rdS hr rfl rfl)) (by exact rfl) ?_
          refine FRun.slot rfl (fun τ hN hr => step_moveV rfl (rdN hN (hn rfl)) rfl (by exact rdS hr rfl rfl)) (by exact rfl) ?_
          refine FRun.slot rfl (fun τ hN hr => step_sliceF rfl (rdN hN (hn rfl)) rfl ytSl22 (strs (x.2.1.take k6)) (by exact rdS hr rfl rfl) (.dflt _) (.val _ (by exact rdS hr rfl rfl)) rfl (by rw [List.length_take]; omega) (by omega) (fun q hq => strs_take _ _ _ hq)) (by exact rfl) ?_
          refine FRun.made (L := [(39, 0)]) (t := strs (_ ++ _)) rfl (fun τ hN hr hF => (step_appendF rfl (rdN hN (hn rfl)) rfl ytSl22 hF (by exact rdS hr rfl rfl) (by exact rdA hr rfl rfl) (by exact rdS hr rfl rfl) (.v _) (fun _ _ => rfl) (by first | omega | (simp only [List.length_cons, List.length_nil, List.length_append, List.length_take, List.length_drop]; omega)) (by first | omega | (simp only [List.length_cons, List.length_nil, List.length_append, List.length_take, List.length_drop]; omega))).le (Le.eqvArr (strs_cat _ _))) (by exact rfl) ?_
          refine FRun.slot rfl (fun τ hN hr => step_field_b rfl (rdN hN (hn rfl)) rfl ytFo29_1 (by exact rdS hr rfl rfl) (by exact rdBne hr rfl (by exact List.cons_ne_nil _ _))) (by exact rfl) ?_
          refine FRun.slot rfl (fun τ hN hr => step_load_b rfl (rdN hN (hn rfl)) rfl ytSc27 (by exact rdS hr rfl rfl) (by exact rdBget hr rfl rfl)) (by exact rfl) ?_
          refine FRun.slot rfl (fun τ hN hr => step_moveV rfl (rdN hN (hn rfl)) rfl (by exact rdS hr rfl rfl)) (by exact rfl) ?_
          refine FRun.slot rfl (fun τ hN hr => step_index_fN rfl (rdN hN (hn rfl)) rfl ytSl27 (by exact rdS hr rfl rfl) (by exact rdS hr rfl rfl) (by first | omega | (simp only [List.length_cons, List.length_nil]; omega))) (by exact rfl) ?_
          refine FRun.slot rfl (fun τ hN hr => step_field_f rfl (rdN hN (hn rfl)) rfl ytFo48_0 (by exact rdS hr rfl rfl)) (by exact rfl) ?_
          refine FRun.slot rfl (fun τ hN hr => step_load_f rfl (rdN hN (hn rfl)) rfl ytSc9 (by exact rdS hr rfl rfl) (hn rfl) rfl) (by exact rfl) ?_
          refine FRun.slot rfl (fun τ hN hr => step_buildVT rfl (rdN hN (hn rfl)) rfl ytSl22 (strs [_]) ((by exact .cons (by exact rdS hr rfl rfl) rfl rfl rfl (.nil _))) (by exact rfl) (by exact rfl) (by exact rfl) (by exact (rows1 rfl))) (by exact rfl) ?_
          refine FRun.made (L := [(43, 0)]) (t := strs (_ ++ _)) rfl (fun τ hN hr hF => (step_appendF rfl (rdN hN (hn rfl)) rfl ytSl22 hF (by exact rdS hr rfl rfl) (by exact rdA hr rfl rfl) (by exact rdS hr rfl rfl) (.v _) (fun _ _ => rfl) (by first | omega | (simp only [List.length_cons, List.length_nil, List.length_append, List.length_take, List.length_drop]; omega)) (by first | omega | (simp only [List.length_cons, List.length_nil, List.length_append, List.length_take, List.length_drop]; omega))).le (Le.eqvArr (strs_cat _ _))) (by exact rfl) ?_
          refine FRun.slot rfl (fun τ hN hr => step_moveV rfl (rdN hN (hn rfl)) rfl (by exact rdS hr rfl rfl)) (by exact rfl) ?_
          refine FRun.slot rfl (fun τ hN hr => step_moveV rfl (rdN hN (hn rfl)) rfl (by exact rdS hr rfl rfl)) (by exact rfl) ?_
          refine FRun.slot rfl (fun τ hN hr => step_sliceF rfl (rdN hN (hn rfl)) rfl ytSl22 (strs (x.2.1.drop k6)) (by exact rdS hr rfl rfl) (.val _ (by exact rdS hr rfl rfl)) (.dflt _) rfl (by rw [List.length_drop]; omega) (by omega) (fun q hq => strs_drop _ _ _)) (by exact rfl) ?_
          refine FRun.whole rfl (step_append_strs rfl (hn rfl) rfl ytSl22 rfl rfl rfl (.v _) (by first | omega | (simp only [List.length_cons, List.length_nil, List.length_append, List.length_take, List.length_drop]; omega)) (by first | omega | (simp only [List.length_cons, List.length_nil, List.length_append, List.length_take, List.length_drop]; omega))) (by exact rfl) ?_
          refine FRun.whole rfl (step_assignV rfl (hn rfl) rfl rfl) (by exact rfl) ?_
          refine FRun.nil ?_
          exact hQ.out
        refine E.mono (fun Q h => AWp.le (Le.trans (Le.forgetR (n := 75) (sl := [(2, _), (4, _), (5, _), (6, _), (8, _)]) (bl := [(2, _), (5, _)]) (al := [(11, 0, _), (51, 0, _)]) rfl ⟨rfl, rfl, rfl, rfl, rfl, trivial⟩ ⟨rfl, rfl, trivial⟩ ⟨.refl _, .refl _, trivial⟩) (Le.toSlot (d := 6) (s := 51) (k := 0) rfl rfl (noRef_mk rfl rfl) (by exact (show 6 < 75 by decide)) rfl rfl)) h) ?_
        apply E.reg
        · intro Q hQ
          refine AWp.region ?_
          refine ARun.step rfl (step_moveV rfl (hn rfl) rfl rfl) ?_
          refine ARun.step rfl (step_addI rfl (hn rfl) rfl rfl rfl (by first | omega | (simp only [List.length_cons, List.length_nil]; omega)) (by first | omega | (simp only [List.length_cons, List.length_nil]; omega))) ?_
          refine ARun.step rfl (step_assignV rfl (hn rfl) rfl rfl) ?_
          refine ARun.nil ?_
          exact hQ.out
        refine ih1 (x.1 + 1, _, x.2.2 + 1) _ ?_ ?_ (Le.forgetR rfl ⟨rfl, rfl, rfl, rfl, rfl, trivial⟩ ⟨rfl, rfl, trivial⟩ ⟨.refl _, .refl _, trivial⟩)
        · try dsimp only
          refine ⟨by omega, ?_, by omega⟩; simp only [List.length_append, List.length_take, List.length_drop, List.length_cons, List.length_nil]; omega
        · try dsimp only
          omega
      · try simp only [nrm] at c3
        refine E.mono (fun Q h => AWp.exit h) ?_
        refine jh0 ((_, x.2.2)) _ ?_ (Le.forgetR rfl ⟨rfl, rfl, rfl, rfl, trivial⟩ ⟨rfl, rfl, trivial⟩ ⟨.refl _, .refl _, trivial⟩)
        try dsimp only
        exact ⟨(show x.2.1.length ≤ 6 by omega), by omega⟩
    · try simp only [nrm] at c2
      refine E.mono (fun Q h => AWp.skip h) ?_
      refine E.mono (fun Q h => AWp.le (Le.trans (Le.forgetR (n := 75) (sl := [(2, _), (4, _), (5, _), (6, _)]) (bl := [(2, _), (5, _)]) (al := [(11, 0, _), (16, 0, _)]) rfl ⟨rfl, rfl, rfl, rfl, trivial⟩ ⟨rfl, rfl, trivial⟩ ⟨.refl _, .refl _, trivial⟩) (Le.toSlot (d := 6) (s := 16) (k := 0) rfl rfl (noRef_mk rfl rfl) (by exact (show 6 < 75 by decide)) rfl rfl)) h) ?_
      refine jh0 ((_, q5)) _ ?_ (Le.forgetR rfl ⟨rfl, rfl, rfl, rfl, trivial⟩ ⟨rfl, rfl, trivial⟩ ⟨.refl _, .refl _, trivial⟩)
      try dsimp only
      exact ⟨orderB_six hxb, by omega⟩

end Go.Proofs.Ytkmacjdigkaabaa
