/- Contracts of functions of the program, each met by its body; conditions stand in each statement. No condition. -/
import Derived.Test.YtkmacjdigkaabaaGreatiRun2
import Derived.Test.YtkmacjdigkaabaaGreatProg
import Derived.KernelRfl
set_option linter.unusedVariables false
set_option linter.unusedSimpArgs false
set_option linter.unnecessarySimpa false
set_option linter.unusedSimpArgs false
set_option maxRecDepth 100000
namespace Go.Proofs.YtkmacjdigkaabaaGreat
open Go Go.Mh

theorem rbOk_rec {p : Rb} (h : rbOk p = true) : recOk p.recipe = true ∧ 0 ≤ atP p.recipe p.at_ := by
  simp only [rbOk, Bool.and_eq_true, decide_eq_true_eq] at h; exact ⟨h.1.1.1.2, h.2.1⟩

theorem yzSt62 : structSz Tryz.prog 62 = some 6 := by kernel_rfl
theorem yzCo36 : callOk Tryz.prog 36 = true := by kernel_rfl
theorem yzSl22 : sliceT Tryz.prog 22 = some ⟨9, 1, 16⟩ := by kernel_rfl
theorem yzFo62_1 : fieldOff Tryz.prog 62 1 = some 1 := by kernel_rfl
theorem yzSc59 : scalarB Tryz.prog 59 = true := by kernel_rfl
theorem yzCo98 : callOk Tryz.prog 98 = true := by kernel_rfl
theorem yzCo97 : callOk Tryz.prog 97 = true := by kernel_rfl
theorem yzMo : Tryz.prog.follows .mixedOrders = true := by kernel_rfl
theorem yzFo62_3 : fieldOff Tryz.prog 62 3 = some 3 := by kernel_rfl
theorem yzSc9 : scalarB Tryz.prog 9 = true := by kernel_rfl
theorem yzCo105 : callOk Tryz.prog 105 = true := by kernel_rfl
theorem yzSl59 : sliceT Tryz.prog 59 = some ⟨68, 8, 104⟩ := by kernel_rfl
theorem yzSt68 : structSz Tryz.prog 68 = some 8 := by kernel_rfl
theorem yzCo109 : callOk Tryz.prog 109 = true := by kernel_rfl
theorem runThingsS (p : Rb) (s : Str)  : ASpec Tryz.prog 34 [.agg (p.cells 68 177), .one (.str s)] (.one (.fz (strs (runThings p s)))) := by
  refine ASpec.body Tryz.func34 rfl [4] rfl 15 rfl rfl rfl ?_
  refine AWp.seq (AWp.region ?_)
  refine ARun.step rfl (step_box_p (m := 5) rfl (hn rfl) rfl rfl rfl rfl rfl) ?_
  refine ARun.step rfl (step_assignV rfl (hn rfl) rfl rfl) ?_
  refine ARun.nil ?_
  refine AWp.seq ?_
  refine AWp.seq (AWp.region ?_)
  refine ARun.step rfl (step_loadS_b rfl (hn rfl) rfl yzSt62 rfl rfl rfl (by decide)) ?_
  refine ARun.step rfl (call_step1 rfl (hn rfl) rfl yzCo36 (.cons rfl (.agg (.cons (.v _) (.cons (.v _) (.cons (.v _) (.cons (.v _) (.cons (.v _) (.cons (.v _) .nil))))))) (.nil)) (rbOkS _) rfl) ?_
  refine ARun.step rfl (step_not rfl (hn rfl) rfl rfl) ?_
  refine ARun.nil ?_
  refine AWp.cond rfl (fun c1 => ?_) (fun c1 => ?_)
  · try simp only [nrm] at c1
    refine AWp.seq (AWp.region ?_)
    refine ARun.step rfl (step_buildVT rfl (hn rfl) rfl yzSl22 (strs []) (.nil _) rfl rfl rfl rows0) ?_
    refine ARun.step rfl (step_assignV rfl (hn rfl) rfl rfl) ?_
    refine ARun.nil ?_
    refine AWp.ret ?_
    refine RetIs.frz (.inr rfl) rfl ?_
    exact congrArg (fun x => T.fz (strs x)) (show [] = runThings p s by simp [runThings, c1])
  · try simp only [nrm] at c1
    have hsl := slotsB_len (rbOk_rec c1).1 s
    refine AWp.skip ?_
    refine AWp.seq (AWp.draw [⟨[.s 2, .b 2], [.s 9], false⟩, ⟨[.s 2, .b 2], [.s 10], false⟩, ⟨[.s 10, .b 2], [.s 11], false⟩, ⟨[.s 1], [.s 12], false⟩, ⟨[.s 12, .s 11], [.s 13], false⟩, ⟨[.s 13, .s 9], [.s 14], false⟩, ⟨[], [], true⟩] yzMo rfl ?_)
    refine DRun.step rfl (fun τ hN hr => step_loadS_b rfl (rdN hN (hn rfl)) rfl yzSt62 (by exact rdS hr rfl rfl) (by exact rdBtake hr rfl rfl) rfl (by decide)) ?_
    refine DRun.step rfl (fun τ hN hr => step_field_b rfl (rdN hN (hn rfl)) rfl yzFo62_1 (by exact rdS hr rfl rfl) (by exact rdBne hr rfl (by exact List.cons_ne_nil _ _))) ?_
    refine DRun.step rfl (fun τ hN hr => step_load_b rfl (rdN hN (hn rfl)) rfl yzSc59 (by exact rdS hr rfl rfl) (by exact rdBget hr rfl rfl)) ?_
    refine DRun.step rfl (fun τ hN hr => step_moveV rfl (rdN hN (hn rfl)) rfl (by exact rdS hr rfl rfl)) ?_
    refine DRun.step rfl (fun τ hN hr => call_stepZ rfl (rdN hN (hn rfl)) rfl yzCo98 (.cons (by exact rdS hr rfl rfl) (.one (.v _)) (.cons (by exact rdS hr rfl rfl) (.one (.v _)) (.nil))) (slotsS _ _ (rbOk_rec c1).1) rfl (by exact rdNoRefs hr rfl rfl)) ?_
    refine DRun.step rfl (fun τ hN hr => call_stepZ rfl (rdN hN (hn rfl)) rfl yzCo97 (.cons (by exact rdS hr rfl rfl) (.agg (.cons (.v _) (.cons (.v _) (.cons (.v _) (.cons (.v _) (.cons (.v _) (.cons (.v _) .nil))))))) (.cons (by exact rdS hr rfl rfl) (.one (.v _)) (.nil))) (thingsS p _ (by omega)) rfl (by exact rdNoRefs hr rfl rfl)) ?_
    refine DRun.lastS rfl (step_assignV rfl (hn rfl) rfl rfl) ?_
    refine AWp.ret ?_
    refine RetIs.frz (.inr rfl) rfl ?_
    exact congrArg (fun x => T.fz (strs x)) (show fromB p s = runThings p s by simp [runThings, c1])
theorem runOwnS (p : Rb)  : ASpec Tryz.prog 40 [.agg (p.cells 68 177)] (.one (.fz (strs (runOwn p)))) := by
  refine ASpec.body Tryz.func40 rfl [2] rfl 19 rfl rfl rfl ?_
  refine AWp.seq (AWp.region ?_)
  refine ARun.step rfl (step_box_p (m := 5) rfl (hn rfl) rfl rfl rfl rfl rfl) ?_
  refine ARun.step rfl (step_assignV rfl (hn rfl) rfl rfl) ?_
  refine ARun.nil ?_
  refine AWp.seq ?_
  refine AWp.seq (AWp.region ?_)
  refine ARun.step rfl (step_loadS_b rfl (hn rfl) rfl yzSt62 rfl rfl rfl (by decide)) ?_
  refine ARun.step rfl (call_step1 rfl (hn rfl) rfl yzCo36 (.cons rfl (.agg (.cons (.v _) (.cons (.v _) (.cons (.v _) (.cons (.v _) (.cons (.v _) (.cons (.v _) .nil))))))) (.nil)) (rbOkS _) rfl) ?_
  refine ARun.step rfl (step_not rfl (hn rfl) rfl rfl) ?_
  refine ARun.nil ?_
  refine AWp.cond rfl (fun c1 => ?_) (fun c1 => ?_)
  · try simp only [nrm] at c1
    refine AWp.seq (AWp.region ?_)
    refine ARun.step rfl (step_buildVT rfl (hn rfl) rfl yzSl22 (strs []) (.nil _) rfl rfl rfl rows0) ?_
    refine ARun.step rfl (step_assignV rfl (hn rfl) rfl rfl) ?_
    refine ARun.nil ?_
    refine AWp.ret ?_
    refine RetIs.frz (.inr rfl) rfl ?_
    exact congrArg (fun x => T.fz (strs x)) (show [] = runOwn p by simp [runOwn, c1])
  · try simp only [nrm] at c1
    have ha := atP_lt p.recipe p.at_
    have h0 := (rbOk_rec c1).2
    have hsl := slots1_len (nth p.recipe (atP p.recipe p.at_).toNat)
    refine AWp.skip ?_
    refine AWp.seq (AWp.draw [⟨[.s 1, .b 1], [.s 7], false⟩, ⟨[.s 1, .b 1], [.s 8], false⟩, ⟨[.s 8, .b 1], [.s 9], false⟩, ⟨[.s 1, .b 1], [.s 10], false⟩, ⟨[.s 10, .b 1], [.s 11], false⟩, ⟨[.s 1, .b 1], [.s 12], false⟩, ⟨[.s 12, .b 1], [.s 13], false⟩, ⟨[.s 13, .s 11], [.s 14], false⟩, ⟨[.s 9, .s 14], [.s 15], false⟩, ⟨[.s 15], [.s 16], false⟩, ⟨[.s 16], [.s 17], false⟩, ⟨[.s 17, .s 7], [.s 18], false⟩, ⟨[], [], true⟩] yzMo rfl ?_)
    refine DRun.step rfl (fun τ hN hr => step_loadS_b rfl (rdN hN (hn rfl)) rfl yzSt62 (by exact rdS hr rfl rfl) (by exact rdBtake hr rfl rfl) rfl (by decide)) ?_
    refine DRun.step rfl (fun τ hN hr => step_field_b rfl (rdN hN (hn rfl)) rfl yzFo62_1 (by exact rdS hr rfl rfl) (by exact rdBne hr rfl (by exact List.cons_ne_nil _ _))) ?_
    refine DRun.step rfl (fun τ hN hr => step_load_b rfl (rdN hN (hn rfl)) rfl yzSc59 (by exact rdS hr rfl rfl) (by exact rdBget hr rfl rfl)) ?_
    refine DRun.step rfl (fun τ hN hr => step_field_b rfl (rdN hN (hn rfl)) rfl yzFo62_1 (by exact rdS hr rfl rfl) (by exact rdBne hr rfl (by exact List.cons_ne_nil _ _))) ?_
    refine DRun.step rfl (fun τ hN hr => step_load_b rfl (rdN hN (hn rfl)) rfl yzSc59 (by exact rdS hr rfl rfl) (by exact rdBget hr rfl rfl)) ?_
    refine DRun.step rfl (fun τ hN hr => step_field_b rfl (rdN hN (hn rfl)) rfl yzFo62_3 (by exact rdS hr rfl rfl) (by exact rdBne hr rfl (by exact List.cons_ne_nil _ _))) ?_
    refine DRun.step rfl (fun τ hN hr => step_load_b rfl (rdN hN (hn rfl)) rfl yzSc9 (by exact rdS hr rfl rfl) (by exact rdBget hr rfl rfl)) ?_
    refine DRun.step rfl (fun τ hN hr => call_step1 rfl (rdN hN (hn rfl)) rfl yzCo105 (.cons (by exact rdS hr rfl rfl) (.one (.v _)) (.cons (by exact rdS hr rfl rfl) (.one (.v _)) (.nil))) (l42At _ _) rfl) ?_
    refine DRun.step rfl (fun τ hN hr => step_index_f rfl (rdN hN (hn rfl)) rfl yzSl59 (by exact rdS hr rfl rfl) (by exact rdS hr rfl rfl) (by omega) (by omega)) ?_
    refine DRun.step rfl (fun τ hN hr => step_loadS_f rfl (rdN hN (hn rfl)) rfl yzSt68 (by exact rdS hr rfl rfl) (hn rfl) rfl rfl) ?_
    refine DRun.step rfl (fun τ hN hr => call_stepZ rfl (rdN hN (hn rfl)) rfl yzCo109 (.cons (by exact rdS hr rfl rfl) (.agg (.cons (.v _) (.cons (.v _) (.cons (.v _) (.cons (.v _) (.cons (.v _) (.cons (.v _) (.cons (.v _) (.cons (.v _) .nil))))))))) (.nil)) (slots1S _) rfl (by exact rdNoRefs hr rfl rfl)) ?_
    refine DRun.step rfl (fun τ hN hr => call_stepZ rfl (rdN hN (hn rfl)) rfl yzCo97 (.cons (by exact rdS hr rfl rfl) (.agg (.cons (.v _) (.cons (.v _) (.cons (.v _) (.cons (.v _) (.cons (.v _) (.cons (.v _) .nil))))))) (.cons (by exact rdS hr rfl rfl) (.one (.v _)) (.nil))) (thingsS p _ (by omega)) rfl (by exact rdNoRefs hr rfl rfl)) ?_
    refine DRun.lastS rfl (step_assignV rfl (hn rfl) rfl rfl) ?_
    refine AWp.ret ?_
    refine RetIs.frz (.inr rfl) rfl ?_
    exact congrArg (fun x => T.fz (strs x)) (show ownB p = runOwn p by simp [runOwn, c1])

end Go.Proofs.YtkmacjdigkaabaaGreat
