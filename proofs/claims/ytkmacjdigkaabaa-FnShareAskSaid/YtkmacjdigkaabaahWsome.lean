/- Contracts of functions of the program, each met by its body; conditions stand in each statement. No condition. -/
import Derived.Test.YtkmacjdigkaabaahWh2
import Derived.Test.YtkmacjdigkaabaaHn
import Derived.Test.YtkmacjdigkaabaaProg
import Derived.KernelRfl
set_option linter.unusedVariables false
set_option linter.unusedSimpArgs false
set_option linter.unnecessarySimpa false
set_option linter.unusedSimpArgs false
set_option maxRecDepth 100000
namespace Go.Proofs.Ytkmacjdigkaabaa
open Go Go.Mh

theorem whB_unf {p : Bk} {g : List Str} (h : g.length < p.bs.length) : whB p (p.bs.length - g.length) g = (List.range p.bs.length).any fun i => !hasB g (nth p.bs i).name && whB p (p.bs.length - (g ++ [(nth p.bs i).name]).length) (g ++ [(nth p.bs i).name]) := by
  obtain ⟨k, hk⟩ : ∃ k, p.bs.length - g.length = k + 1 := ⟨p.bs.length - g.length - 1, by omega⟩
  rw [hk]
  simp only [whB, List.length_append, List.length_cons, List.length_nil]
  rw [show p.bs.length - (g.length + (0 + 1)) = k by omega]

theorem zcSl22 : sliceT Try.prog 22 = some ⟨9, 1, 16⟩ := by kernel_rfl
theorem zcFo29_1 : fieldOff Try.prog 29 1 = some 1 := by kernel_rfl
theorem zcSc27 : scalarB Try.prog 27 = true := by kernel_rfl
theorem zcSl27 : sliceT Try.prog 27 = some ⟨48, 3, 64⟩ := by kernel_rfl
theorem zcSt29 : structSz Try.prog 29 = some 2 := by kernel_rfl
theorem zcCo44 : callOk Try.prog 44 = true := by kernel_rfl
theorem zcFo48_0 : fieldOff Try.prog 48 0 = some 0 := by kernel_rfl
theorem zcSc9 : scalarB Try.prog 9 = true := by kernel_rfl
theorem zcCo28 : callOk Try.prog 28 = true := by kernel_rfl
theorem zcMo : Try.prog.follows .mixedOrders = true := by kernel_rfl
theorem zcCo43 : callOk Try.prog 43 = true := by kernel_rfl
theorem whSome (p : Bk) (g : List Str) (hp : p.bs.length ≤ 8) (hg : g.length ≤ p.bs.length) : ASpec Try.prog 43 [.agg (p.cells 48), .one (strs g)] (.one (.bool (whB p (p.bs.length - g.length) g))) := by
  refine ASpec.body Try.func43 rfl [4] rfl 46 rfl rfl rfl ?_
  refine AWp.seq (AWp.region ?_)
  refine ARun.step rfl (step_box_p (m := 1) rfl (hn rfl) rfl rfl rfl rfl rfl) ?_
  refine ARun.step rfl (step_assignV rfl (hn rfl) rfl rfl) ?_
  refine ARun.nil ?_
  refine AWp.seq ?_
  refine AWp.seq (AWp.region ?_)
  refine ARun.step rfl (step_moveV rfl (hn rfl) rfl rfl) ?_
  refine ARun.step rfl (step_len_f rfl (hn rfl) rfl zcSl22 rfl) ?_
  refine ARun.step rfl (step_field_b rfl (hn rfl) rfl zcFo29_1 rfl (by exact List.cons_ne_nil _ _)) ?_
  refine ARun.step rfl (step_load_b rfl (hn rfl) rfl zcSc27 rfl rfl) ?_
  refine ARun.step rfl (step_len_f rfl (hn rfl) rfl zcSl27 rfl) ?_
  refine ARun.step rfl (step_eql rfl (hn rfl) rfl rfl rfl) ?_
  refine ARun.nil ?_
  refine AWp.cond rfl (fun c1 => ?_) (fun c1 => ?_)
  · try simp only [nrm] at c1
    refine AWp.seq (AWp.region ?_)
    refine ARun.step rfl (step_loadS_b rfl (hn rfl) rfl zcSt29 rfl rfl rfl (by decide)) ?_
    refine ARun.step rfl (step_moveV rfl (hn rfl) rfl rfl) ?_
    refine ARun.step rfl (call_step1 rfl (hn rfl) rfl zcCo44 (.cons rfl (.agg (.cons (.v _) (.cons (.v _) .nil))) (.cons rfl (.one (.v _)) (.nil))) (fitsI p g) rfl) ?_
    refine ARun.step rfl (step_assignV rfl (hn rfl) rfl rfl) ?_
    refine ARun.nil ?_
    refine AWp.ret ?_
    refine RetIs.sc (.inr rfl) rfl rfl ?_
    refine congrArg T.bool ?_
    rw [show p.bs.length - g.length = 0 by omega]; rfl
  · try simp only [nrm] at c1
    refine AWp.skip ?_
    refine AWp.seq ?_
    refine AWp.seq (AWp.region ?_)
    refine ARun.step rfl (step_assignV rfl (hn rfl) rfl rfl) ?_
    refine ARun.nil ?_
    refine AWp.block ?_
    refine AWp.loopM (fun i : Nat => mkAS 46 [(1, ⟨true, .one (.v (strs g))⟩), (2, ⟨true, .one (.bptr 2 0)⟩), (5, ⟨true, .one (.v (.int .i64 (i : Nat)))⟩)] [(2, (p.cells 48).map C.v)] []) (fun i => i ≤ p.bs.length ∧ ∀ j, j < i → (!hasB g (nth p.bs j).name && whB p (p.bs.length - (g ++ [(nth p.bs j).name]).length) (g ++ [(nth p.bs j).name])) = false) (fun i => p.bs.length - i) 0 ?_ (Le.forgetR rfl ⟨rfl, rfl, rfl, trivial⟩ ⟨rfl, trivial⟩ trivial) ?_
    · try dsimp only
      exact ⟨by omega, by omega⟩
    rintro i ⟨hi, hall⟩
    refine AWp.seq ?_
    refine AWp.seq (AWp.region ?_)
    refine ARun.step rfl (step_moveV rfl (hn rfl) rfl rfl) ?_
    refine ARun.step rfl (step_field_b rfl (hn rfl) rfl zcFo29_1 rfl (by exact List.cons_ne_nil _ _)) ?_
    refine ARun.step rfl (step_load_b rfl (hn rfl) rfl zcSc27 rfl rfl) ?_
    refine ARun.step rfl (step_len_f rfl (hn rfl) rfl zcSl27 rfl) ?_
    refine ARun.step rfl (step_lss rfl (hn rfl) rfl rfl rfl) ?_
    refine ARun.nil ?_
    refine AWp.cond rfl (fun c2 => ?_) (fun c2 => ?_)
    · try simp only [nrm] at c2
      have hlt : g.length < p.bs.length := by omega
      refine AWp.skip ?_
      refine AWp.seq ?_
      refine AWp.block ?_
      rcases Bool.eq_false_or_eq_true (hasB g (nth p.bs i).name) with hgs | hgs
      · refine AWp.seq (AWp.drawM [⟨⟨[.s 1], [.s 22], false⟩, none, []⟩, ⟨⟨[.s 2, .b 2], [.s 23], false⟩, none, []⟩, ⟨⟨[.s 23, .b 2], [.s 24], false⟩, none, []⟩, ⟨⟨[.s 5], [.s 25], false⟩, none, []⟩, ⟨⟨[.s 24, .s 25], [.s 26], false⟩, none, []⟩, ⟨⟨[.s 26], [.s 27], false⟩, none, []⟩, ⟨⟨[.s 27], [.s 28], false⟩, none, []⟩, ⟨⟨[], [], true⟩, none, []⟩, ⟨⟨[], [], true⟩, none, []⟩, ⟨⟨[], [], true⟩, none, []⟩, ⟨⟨[.s 31], [.s 32], false⟩, none, []⟩, ⟨⟨[.s 31], [.s 33], false⟩, none, []⟩, ⟨⟨[.s 31], [.s 34], false⟩, none, []⟩, ⟨⟨[.s 31], [.s 35], false⟩, none, []⟩, ⟨⟨[.s 31], [.s 36], false⟩, none, []⟩, ⟨⟨[.s 31], [.s 37], false⟩, none, []⟩, ⟨⟨[.s 31], [.s 38], false⟩, none, []⟩, ⟨⟨[.s 31], [.s 39], false⟩, none, []⟩, ⟨⟨[.s 31], [.s 40], false⟩, none, []⟩, ⟨⟨[.s 31], [.s 41], false⟩, none, []⟩, ⟨⟨[.s 31], [.s 42], false⟩, none, []⟩, ⟨⟨[.s 31], [.s 43], false⟩, none, []⟩, ⟨⟨[.s 31], [.s 44], false⟩, none, []⟩, ⟨⟨[], [], true⟩, none, []⟩] zcMo rfl rfl (Le.forgetR (n := 46) (sl := [(1, _), (2, _), (5, _), (15, _), (16, _), (17, _), (18, _), (19, _)]) (bl := [(2, _)]) (al := []) rfl ⟨rfl, rfl, rfl, rfl, rfl, rfl, rfl, rfl, trivial⟩ ⟨rfl, trivial⟩ trivial) rfl ?_)
        refine FRun.slot rfl (fun τ hN hr => step_moveV rfl (rdN hN (hn rfl)) rfl (by exact rdS hr rfl rfl)) (by exact rfl) ?_
        refine FRun.slot rfl (fun τ hN hr => step_field_b rfl (rdN hN (hn rfl)) rfl zcFo29_1 (by exact rdS hr rfl rfl) (by exact rdBne hr rfl (by exact List.cons_ne_nil _ _))) (by exact rfl) ?_
        refine FRun.slot rfl (fun τ hN hr => step_load_b rfl (rdN hN (hn rfl)) rfl zcSc27 (by exact rdS hr rfl rfl) (by exact rdBget hr rfl rfl)) (by exact rfl) ?_
        refine FRun.slot rfl (fun τ hN hr => step_moveV rfl (rdN hN (hn rfl)) rfl (by exact rdS hr rfl rfl)) (by exact rfl) ?_
        refine FRun.slot rfl (fun τ hN hr => step_index_fN rfl (rdN hN (hn rfl)) rfl zcSl27 (by exact rdS hr rfl rfl) (by exact rdS hr rfl rfl) (by omega)) (by exact rfl) ?_
        refine FRun.slot rfl (fun τ hN hr => step_field_f rfl (rdN hN (hn rfl)) rfl zcFo48_0 (by exact rdS hr rfl rfl)) (by exact rfl) ?_
        refine FRun.slot rfl (fun τ hN hr => step_load_f rfl (rdN hN (hn rfl)) rfl zcSc9 (by exact rdS hr rfl rfl) (hn rfl) rfl) (by exact rfl) ?_
        refine FRun.whole rfl (call_step1 rfl (hn rfl) rfl zcCo28 (.cons rfl (.one (.v _)) (.cons rfl (.one (.v _)) (.nil))) (whHas _ _) rfl) (by exact rfl) ?_
        refine FRun.whole rfl (step_not rfl (hn rfl) rfl rfl) (by exact rfl) ?_
        refine FRun.whole rfl (step_moveV rfl (hn rfl) rfl rfl) (by exact rfl) ?_
        refine FRun.off (.any) rfl rfl rfl rfl (by rw [hgs]; decide) rfl (hn rfl) (by exact rfl) ?_
        refine FRun.off (.any) rfl rfl rfl rfl (by rw [hgs]; decide) rfl (hn rfl) (by exact rfl) ?_
        refine FRun.off (.any) rfl rfl rfl rfl (by rw [hgs]; decide) rfl (hn rfl) (by exact rfl) ?_
        refine FRun.off (.any) rfl rfl rfl rfl (by rw [hgs]; decide) rfl (hn rfl) (by exact rfl) ?_
        refine FRun.off (.any) rfl rfl rfl rfl (by rw [hgs]; decide) rfl (hn rfl) (by exact rfl) ?_
        refine FRun.off (.any) rfl rfl rfl rfl (by rw [hgs]; decide) rfl (hn rfl) (by exact rfl) ?_
        refine FRun.off (.any) rfl rfl rfl rfl (by rw [hgs]; decide) rfl (hn rfl) (by exact rfl) ?_
        refine FRun.off (.any) rfl rfl rfl rfl (by rw [hgs]; decide) rfl (hn rfl) (by exact rfl) ?_
        refine FRun.off (.any) rfl rfl rfl rfl (by rw [hgs]; decide) rfl (hn rfl) (by exact rfl) ?_
        refine FRun.off (.any) rfl rfl rfl rfl (by rw [hgs]; decide) rfl (hn rfl) (by exact rfl) ?_
        refine FRun.off (.any) rfl rfl rfl rfl (by rw [hgs]; decide) rfl (hn rfl) (by exact rfl) ?_
        refine FRun.off (.any) rfl rfl rfl rfl (by rw [hgs]; decide) rfl (hn rfl) (by exact rfl) ?_
        refine FRun.off (.one (.v (.bool false))) rfl rfl rfl rfl (by rw [hgs]; decide) rfl (hn rfl) (by exact rfl) ?_
        refine FRun.whole rfl (step_and rfl (hn rfl) rfl rfl rfl (fun h => (by rw [hgs] at h; cases h))) (by exact rfl) ?_
        refine FRun.nil ?_
        refine AWp.cond rfl (fun c3 => ?_) (fun c3 => ?_)
        · try simp only [nrm] at c3
          refine AWp.seq (AWp.region ?_)
          refine ARun.step rfl (step_assignV rfl (hn rfl) rfl rfl) ?_
          refine ARun.nil ?_
          refine AWp.ret ?_
          refine RetIs.sc (.inr rfl) rfl rfl ?_
          refine congrArg T.bool ?_
          rw [whB_unf (by omega), any_of (i := i) (by omega) (by grind)]
        · try simp only [nrm] at c3
          refine AWp.skip ?_
          refine AWp.region ?_
          refine ARun.step rfl (step_moveV rfl (hn rfl) rfl rfl) ?_
          refine ARun.step rfl (step_addI rfl (hn rfl) rfl rfl rfl (by omega) (by omega)) ?_
          refine ARun.step rfl (step_assignV rfl (hn rfl) rfl rfl) ?_
          refine ARun.nil ?_
          refine ⟨i + 1, ?_, ?_, Le.forgetR rfl ⟨rfl, rfl, rfl, trivial⟩ ⟨rfl, trivial⟩ trivial⟩
          · try dsimp only
            exact ⟨by omega, upto hall (by grind)⟩
          · try dsimp only
            omega
      · refine AWp.seq (AWp.drawM [⟨⟨[.s 1], [.s 22], false⟩, none, [33, 35, 43]⟩, ⟨⟨[.s 2, .b 2], [.s 23], false⟩, none, [33, 35, 43]⟩, ⟨⟨[.s 23, .b 2], [.s 24], false⟩, none, [33, 35, 43]⟩, ⟨⟨[.s 5], [.s 25], false⟩, none, [33, 35, 43]⟩, ⟨⟨[.s 24, .s 25], [.s 26], false⟩, none, [33, 35, 43]⟩, ⟨⟨[.s 26], [.s 27], false⟩, none, [33, 35, 43]⟩, ⟨⟨[.s 27], [.s 28], false⟩, none, [33, 35, 43]⟩, ⟨⟨[.s 28, .s 22], [.s 29], false⟩, none, [33, 35, 43]⟩, ⟨⟨[.s 29], [.s 30], false⟩, none, [33, 35, 43]⟩, ⟨⟨[.s 30], [.s 31], false⟩, none, [33, 35, 43]⟩, ⟨⟨[.s 31, .s 2, .b 2], [.s 32], false⟩, none, [33, 35, 43]⟩, ⟨⟨[.s 31], [.s 33, .a 33 0], false⟩, some 33, [35, 43]⟩, ⟨⟨[.s 31, .s 1], [.s 34], false⟩, none, [33, 35, 43]⟩, ⟨⟨[.s 31, .s 33, .a 33 0, .s 34], [.s 35, .a 35 0, .a 33 0], false⟩, some 35, [43]⟩, ⟨⟨[.s 31, .s 2, .b 2], [.s 36], false⟩, none, [33, 35, 43]⟩, ⟨⟨[.s 31, .s 36, .b 2], [.s 37], false⟩, none, [33, 35, 43]⟩, ⟨⟨[.s 31, .s 5], [.s 38], false⟩, none, [33, 35, 43]⟩, ⟨⟨[.s 31, .s 37, .s 38], [.s 39], false⟩, none, [33, 35, 43]⟩, ⟨⟨[.s 31, .s 39], [.s 40], false⟩, none, [33, 35, 43]⟩, ⟨⟨[.s 31, .s 40], [.s 41], false⟩, none, [33, 35, 43]⟩, ⟨⟨[.s 31, .s 41], [.s 42], false⟩, none, [33, 35, 43]⟩, ⟨⟨[.s 31, .s 35, .a 35 0, .s 42], [.s 43, .a 43 0, .a 35 0], false⟩, some 43, []⟩, ⟨⟨[], [], true⟩, none, []⟩, ⟨⟨[], [], true⟩, none, []⟩] zcMo rfl rfl (Le.forgetR (n := 46) (sl := [(1, _), (2, _), (5, _), (15, _), (16, _), (17, _), (18, _), (19, _)]) (bl := [(2, _)]) (al := []) rfl ⟨rfl, rfl, rfl, rfl, rfl, rfl, rfl, rfl, trivial⟩ ⟨rfl, trivial⟩ trivial) rfl ?_)
        refine FRun.slot rfl (fun τ hN hr => step_moveV rfl (rdN hN (hn rfl)) rfl (by exact rdS hr rfl rfl)) (by exact rfl) ?_
        refine FRun.slot rfl (fun τ hN hr => step_field_b rfl (rdN hN (hn rfl)) rfl zcFo29_1 (by exact rdS hr rfl rfl) (by exact rdBne hr rfl (by exact List.cons_ne_nil _ _))) (by exact rfl) ?_
        refine FRun.slot rfl (fun τ hN hr => step_load_b rfl (rdN hN (hn rfl)) rfl zcSc27 (by exact rdS hr rfl rfl) (by exact rdBget hr rfl rfl)) (by exact rfl) ?_
        refine FRun.slot rfl (fun τ hN hr => step_moveV rfl (rdN hN (hn rfl)) rfl (by exact rdS hr rfl rfl)) (by exact rfl) ?_
        refine FRun.slot rfl (fun τ hN hr => step_index_fN rfl (rdN hN (hn rfl)) rfl zcSl27 (by exact rdS hr rfl rfl) (by exact rdS hr rfl rfl) (by omega)) (by exact rfl) ?_
        refine FRun.slot rfl (fun τ hN hr => step_field_f rfl (rdN hN (hn rfl)) rfl zcFo48_0 (by exact rdS hr rfl rfl)) (by exact rfl) ?_
        refine FRun.slot rfl (fun τ hN hr => step_load_f rfl (rdN hN (hn rfl)) rfl zcSc9 (by exact rdS hr rfl rfl) (hn rfl) rfl) (by exact rfl) ?_
        refine FRun.slot rfl (fun τ hN hr => call_step1 rfl (rdN hN (hn rfl)) rfl zcCo28 (.cons (by exact rdS hr rfl rfl) (.one (.v _)) (.cons (by exact rdS hr rfl rfl) (.one (.v _)) (.nil))) (whHas _ _) rfl) (by exact rfl) ?_
        refine FRun.slot rfl (fun τ hN hr => step_not rfl (rdN hN (hn rfl)) rfl (by exact rdS hr rfl rfl)) (by exact rfl) ?_
        refine FRun.slot rfl (fun τ hN hr => step_moveV rfl (rdN hN (hn rfl)) rfl (by exact rdS hr rfl rfl)) (by exact rfl) ?_
        refine FRun.on (t := 31) rfl rfl rfl rfl (by rw [hgs]; rfl) ?_
        refine FRun.slot rfl (fun τ hN hr => step_loadS_b rfl (rdN hN (hn rfl)) rfl zcSt29 (by exact rdS hr rfl rfl) (by exact rdBtake hr rfl rfl) rfl (by decide)) (by exact rfl) ?_
        refine FRun.on (t := 31) rfl rfl rfl rfl (by rw [hgs]; rfl) ?_
        refine FRun.made (L := []) (t := strs []) rfl (fun τ hN hr hF => step_buildE rfl (rdN hN (hn rfl)) rfl zcSl22 hF _) (by exact rfl) ?_
        refine FRun.on (t := 31) rfl rfl rfl rfl (by rw [hgs]; rfl) ?_
        refine FRun.slot rfl (fun τ hN hr => step_moveV rfl (rdN hN (hn rfl)) rfl (by exact rdS hr rfl rfl)) (by exact rfl) ?_
        refine FRun.on (t := 31) rfl rfl rfl rfl (by rw [hgs]; rfl) ?_
        refine FRun.made (L := [(33, 0)]) (t := strs (_ ++ _)) rfl (fun τ hN hr hF => (step_appendF rfl (rdN hN (hn rfl)) rfl zcSl22 hF (by exact rdS hr rfl rfl) (by exact rdA hr rfl rfl) (by exact rdS hr rfl rfl) (.v _) (fun _ _ => rfl) (by first | omega | (simp only [List.length_cons, List.length_nil, List.length_append, List.length_take, List.length_drop]; omega)) (by first | omega | (simp only [List.length_cons, List.length_nil, List.length_append, List.length_take, List.length_drop]; omega))).le (Le.eqvArr (strs_cat _ _))) (by exact rfl) ?_
        refine FRun.on (t := 31) rfl rfl rfl rfl (by rw [hgs]; rfl) ?_
        refine FRun.slot rfl (fun τ hN hr => step_field_b rfl (rdN hN (hn rfl)) rfl zcFo29_1 (by exact rdS hr rfl rfl) (by exact rdBne hr rfl (by exact List.cons_ne_nil _ _))) (by exact rfl) ?_
        refine FRun.on (t := 31) rfl rfl rfl rfl (by rw [hgs]; rfl) ?_
        refine FRun.slot rfl (fun τ hN hr => step_load_b rfl (rdN hN (hn rfl)) rfl zcSc27 (by exact rdS hr rfl rfl) (by exact rdBget hr rfl rfl)) (by exact rfl) ?_
        refine FRun.on (t := 31) rfl rfl rfl rfl (by rw [hgs]; rfl) ?_
        refine FRun.slot rfl (fun τ hN hr => step_moveV rfl (rdN hN (hn rfl)) rfl (by exact rdS hr rfl rfl)) (by exact rfl) ?_
        refine FRun.on (t := 31) rfl rfl rfl rfl (by rw [hgs]; rfl) ?_
        refine FRun.slot rfl (fun τ hN hr => step_index_fN rfl (rdN hN (hn rfl)) rfl zcSl27 (by exact rdS hr rfl rfl) (by exact rdS hr rfl rfl) (by omega)) (by exact rfl) ?_
        refine FRun.on (t := 31) rfl rfl rfl rfl (by rw [hgs]; rfl) ?_
        refine FRun.slot rfl (fun τ hN hr => step_field_f rfl (rdN hN (hn rfl)) rfl zcFo48_0 (by exact rdS hr rfl rfl)) (by exact rfl) ?_
        refine FRun.on (t := 31) rfl rfl rfl rfl (by rw [hgs]; rfl) ?_
        refine FRun.slot rfl (fun τ hN hr => step_load_f rfl (rdN hN (hn rfl)) rfl zcSc9 (by exact rdS hr rfl rfl) (hn rfl) rfl) (by exact rfl) ?_
        refine FRun.on (t := 31) rfl rfl rfl rfl (by rw [hgs]; rfl) ?_
        refine FRun.slot rfl (fun τ hN hr => step_buildVT rfl (rdN hN (hn rfl)) rfl zcSl22 (strs [_]) ((by exact .cons (by exact rdS hr rfl rfl) rfl rfl rfl (.nil _))) (by exact rfl) (by exact rfl) (by exact rfl) (by exact (rows1 rfl))) (by exact rfl) ?_
        refine FRun.on (t := 31) rfl rfl rfl rfl (by rw [hgs]; rfl) ?_
        refine FRun.made (L := [(35, 0)]) (t := strs (_ ++ _)) rfl (fun τ hN hr hF => (step_appendF rfl (rdN hN (hn rfl)) rfl zcSl22 hF (by exact rdS hr rfl rfl) (by exact rdA hr rfl rfl) (by exact rdS hr rfl rfl) (.v _) (fun _ _ => rfl) (by first | omega | (simp only [List.length_cons, List.length_nil, List.length_append, List.length_take, List.length_drop]; omega)) (by first | omega | (simp only [List.length_cons, List.length_nil, List.length_append, List.length_take, List.length_drop]; omega))).le (Le.eqvArr (strs_cat _ _))) (by exact rfl) ?_
        refine FRun.on (t := 31) rfl rfl rfl rfl (by rw [hgs]; rfl) ?_
        refine FRun.whole rfl (call_step1 rfl (hn rfl) rfl zcCo43 (.cons rfl (.agg (.cons (.v _) (.cons (.v _) .nil))) (.cons rfl (.one (.ref _ rfl)) (.nil))) (whSome p (g ++ [(nth p.bs i).name]) hp (by simp only [List.length_append, List.length_cons, List.length_nil]; omega)) rfl) (by exact rfl) ?_
        refine FRun.whole rfl (step_and rfl (hn rfl) rfl rfl rfl (fun _ => rfl)) (by exact rfl) ?_
        refine FRun.nil ?_
        refine AWp.cond rfl (fun c4 => ?_) (fun c4 => ?_)
        · try simp only [nrm] at c4
          refine AWp.seq (AWp.region ?_)
          refine ARun.step rfl (step_assignV rfl (hn rfl) rfl rfl) ?_
          refine ARun.nil ?_
          refine AWp.ret ?_
          refine RetIs.sc (.inr rfl) rfl rfl ?_
          refine congrArg T.bool ?_
          rw [whB_unf (by omega), any_of (i := i) (by omega) (by grind)]
        · try simp only [nrm] at c4
          refine AWp.skip ?_
          refine AWp.region ?_
          refine ARun.step rfl (step_moveV rfl (hn rfl) rfl rfl) ?_
          refine ARun.step rfl (step_addI rfl (hn rfl) rfl rfl rfl (by omega) (by omega)) ?_
          refine ARun.step rfl (step_assignV rfl (hn rfl) rfl rfl) ?_
          refine ARun.nil ?_
          refine ⟨i + 1, ?_, ?_, Le.forgetR rfl ⟨rfl, rfl, rfl, trivial⟩ ⟨rfl, trivial⟩ trivial⟩
          · try dsimp only
            exact ⟨by omega, upto hall (by grind)⟩
          · try dsimp only
            omega
    · try simp only [nrm] at c2
      refine AWp.exit ?_
      refine AWp.seq (AWp.region ?_)
      refine ARun.step rfl (step_assignV rfl (hn rfl) rfl rfl) ?_
      refine ARun.nil ?_
      refine AWp.ret ?_
      refine RetIs.sc (.inr rfl) rfl rfl ?_
      refine congrArg T.bool ?_
      rw [whB_unf (by omega), any_not (fun j (hj : j < p.bs.length) => hall j (by omega))]
termination_by p.bs.length - g.length
decreasing_by simp only [List.length_append, List.length_cons, List.length_nil]; omega

end Go.Proofs.Ytkmacjdigkaabaa
