/- Contracts of functions of the program, each met by its body; conditions stand in each statement. No condition. -/
import Derived.Test.YtomjieobbgcjeaaGreatzRun3
import Derived.Test.YtomjieobbgcjeaaGreatProg
import Derived.KernelRfl
set_option linter.unusedVariables false
set_option linter.unusedSimpArgs false
set_option linter.unnecessarySimpa false
set_option linter.unusedSimpArgs false
set_option maxRecDepth 100000
namespace Go.Proofs.YtomjieobbgcjeaaGreat
open Go Go.Mh

theorem yjSt29 : structSz Tryz.prog 29 = some 6 := by kernel_rfl
theorem yjCo5 : callOk Tryz.prog 5 = true := by kernel_rfl
theorem yjCo7 : callOk Tryz.prog 7 = true := by kernel_rfl
theorem yjCo6 : callOk Tryz.prog 6 = true := by kernel_rfl
theorem yjZs38 : zeroSz Tryz.prog 38 = some 6 := by kernel_rfl
theorem yjCs38 : cellsSz Tryz.prog 38 = some (5 + 1) := by kernel_rfl
theorem yjSt38 : structSz Tryz.prog 38 = some 6 := by kernel_rfl
theorem yjCo8 : callOk Tryz.prog 8 = true := by kernel_rfl
theorem yjUb4 : Tryz.prog.underlying 4 = some .bool := by kernel_rfl
theorem yjCo9 : callOk Tryz.prog 9 = true := by kernel_rfl
theorem yjMo : Tryz.prog.follows .mixedOrders = true := by kernel_rfl
theorem yjCo10 : callOk Tryz.prog 10 = true := by kernel_rfl
theorem yjCo11 : callOk Tryz.prog 11 = true := by kernel_rfl
set_option maxHeartbeats 1000000 in
theorem lawRunHouseOk (h : Hs)  : ASpec Tryz.prog 3 [.agg (h.acells 100 77 119 121 79)] (.one (.bool true)) := by
  refine ASpec.body Tryz.func3 rfl [2] rfl 27 rfl rfl rfl ?_
  have hzb := szHs_le h 1048576
  refine AWp.seq (AWp.region ?_)
  refine ARun.step rfl (step_box_p (m := 5) rfl (hn rfl) rfl rfl rfl rfl rfl) ?_
  refine ARun.step rfl (step_assignV rfl (hn rfl) rfl rfl) ?_
  refine ARun.nil ?_
  refine AWp.seq (AWp.region ?_)
  refine ARun.step rfl (step_assignV rfl (hn rfl) rfl rfl) ?_
  refine ARun.nil ?_
  refine AWp.seq (AWp.region ?_)
  refine ARun.step rfl (step_loadS_b rfl (hn rfl) rfl yjSt29 rfl rfl rfl (by decide)) ?_
  refine ARun.step rfl (step_moveV rfl (hn rfl) rfl rfl) ?_
  refine ARun.step rfl (call_step1 rfl (hn rfl) rfl yjCo5 (.cons rfl (.agg (.cons (.v _) (.cons (.v _) (.cons (.v _) (.cons (.v _) (.cons (.v _) (.cons (.v _) .nil))))))) (.cons rfl (.one (.v _)) (.nil))) (hsSz _ _ (by omega) (by omega)) rfl) ?_
  refine ARun.step rfl (step_assignV rfl (hn rfl) rfl rfl) ?_
  refine ARun.nil ?_
  refine AWp.seq ?_
  refine AWp.seq (AWp.region ?_)
  refine ARun.step rfl (step_moveV rfl (hn rfl) rfl rfl) ?_
  refine ARun.step rfl (step_lss rfl (hn rfl) rfl rfl rfl) ?_
  refine ARun.nil ?_
  refine AWp.cond rfl (fun c1 => ?_) (fun c1 => ?_)
  · try simp only [nrm] at c1
    refine AWp.seq (AWp.region ?_)
    refine ARun.step rfl (step_assignV rfl (hn rfl) rfl rfl) ?_
    refine ARun.nil ?_
    refine AWp.ret ?_
    refine RetIs.sc (.inr rfl) rfl rfl ?_
    refine congrArg T.bool ?_
    first
      | rfl
      | (exfalso; omega)
      | (exfalso; simp [eqL_refl, strEq_refl, eqHs_refl] at *; done)
      | (exfalso; simp [eqL_refl, strEq_refl, eqHs_refl] at *; omega)
  · try simp only [nrm] at c1
    have hsm : smallHs h := szHs_small (m := 1048576) (by omega) (by omega)
    refine AWp.skip ?_
    refine AWp.seq (AWp.region ?_)
    refine ARun.step rfl (step_loadS_b rfl (hn rfl) rfl yjSt29 rfl rfl rfl (by decide)) ?_
    refine ARun.step rfl (call_stepZ rfl (hn rfl) rfl yjCo7 (.cons rfl (.agg (.cons (.v _) (.cons (.v _) (.cons (.v _) (.cons (.v _) (.cons (.v _) (.cons (.v _) .nil))))))) (.nil)) (hsToZ _ (by assumption)) rfl rfl) ?_
    refine ARun.step rfl (call_step1 rfl (hn rfl) rfl yjCo6 (.cons rfl (.agg (.cons (.v _) (.cons (.v _) (.cons (.v _) (.cons (.v _) (.cons (.v _) (.cons (.v _) .nil))))))) (.nil)) (hsOkS h) rfl) ?_
    refine ARun.step rfl (step_assignV rfl (hn rfl) rfl rfl) ?_
    refine ARun.nil ?_
    refine AWp.seq (AWp.region ?_)
    refine ARun.step rfl (step_loadS_b rfl (hn rfl) rfl yjSt29 rfl rfl rfl (by decide)) ?_
    refine ARun.step rfl (call_stepN rfl (hn rfl) rfl yjCo7 (.cons rfl (.agg (.cons (.v _) (.cons (.v _) (.cons (.v _) (.cons (.v _) (.cons (.v _) (.cons (.v _) .nil))))))) (.nil)) (hsTo _ (by assumption)) rfl rfl) ?_
    refine ARun.step rfl (step_alloc_p rfl (hn rfl) rfl yjZs38) ?_
    refine ARun.step rfl (step_store_r rfl rfl yjCs38 rfl rfl rfl rfl rfl rfl rfl) ?_
    refine ARun.nil ?_
    refine AWp.seq (AWp.region ?_)
    refine ARun.step rfl (step_loadS_b rfl (hn rfl) rfl yjSt38 rfl rfl rfl (by decide)) ?_
    refine ARun.step rfl (call_step1 rfl (hn rfl) rfl yjCo8 (.cons rfl (.agg (.cons (.v _) (.cons (.v _) (.cons (.ref _ rfl) (.cons (.refz _ rfl (fz_bts _ _)) (.cons (.refz _ rfl ((fz_rbs _ _ _ _))) (.cons (.ref _ rfl) .nil))))))) (.nil)) (hsOkI h) rfl) ?_
    refine ARun.step rfl (step_assignV rfl (hn rfl) rfl rfl) ?_
    refine ARun.nil ?_
    refine AWp.seq ?_
    refine AWp.seq (AWp.region ?_)
    refine ARun.step rfl (step_moveV rfl (hn rfl) rfl rfl) ?_
    refine ARun.step rfl (step_moveV rfl (hn rfl) rfl rfl) ?_
    refine ARun.step rfl (step_bneq rfl (hn rfl) rfl yjUb4 rfl rfl) ?_
    refine ARun.nil ?_
    refine AWp.cond rfl (fun c2 => ?_) (fun c2 => ?_)
    · try simp only [nrm] at c2
      refine AWp.seq (AWp.region ?_)
      refine ARun.step rfl (step_assignV rfl (hn rfl) rfl rfl) ?_
      refine ARun.nil ?_
      refine AWp.ret ?_
      refine RetIs.sc (.inr rfl) rfl rfl ?_
      refine congrArg T.bool ?_
      first
        | rfl
        | (exfalso; omega)
        | (exfalso; simp [eqL_refl, strEq_refl, eqHs_refl] at *; done)
        | (exfalso; simp [eqL_refl, strEq_refl, eqHs_refl] at *; omega)
    · try simp only [nrm] at c2
      refine AWp.skip ?_
      refine AWp.seq ?_
      refine AWp.seq (AWp.draw [⟨[.s 5, .b 5], [.s 22], false⟩, ⟨[.s 1, .b 1], [.s 23], false⟩, ⟨[.s 23], [.s 24], false⟩, ⟨[.s 24, .a 16 5, .a 16 4, .a 16 3, .a 16 2, .s 22], [.s 25], false⟩, ⟨[.s 25], [.s 26], false⟩] yjMo rfl ?_)
      refine DRun.step rfl (fun τ hN hr => step_loadS_b rfl (rdN hN (hn rfl)) rfl yjSt38 (by exact rdS hr rfl rfl) (by exact rdBtake hr rfl rfl) rfl (by decide)) ?_
      refine DRun.step rfl (fun τ hN hr => step_loadS_b rfl (rdN hN (hn rfl)) rfl yjSt29 (by exact rdS hr rfl rfl) (by exact rdBtake hr rfl rfl) rfl (by decide)) ?_
      refine DRun.step rfl (fun τ hN hr => call_stepZ rfl (rdN hN (hn rfl)) rfl yjCo7 (.cons (by exact rdS hr rfl rfl) (.agg (.cons (.v _) (.cons (.v _) (.cons (.v _) (.cons (.v _) (.cons (.v _) (.cons (.v _) .nil))))))) (.nil)) (hsToZ _ (by assumption)) rfl (by exact rdNoRefs hr rfl rfl)) ?_
      refine DRun.step rfl (fun τ hN hr => call_step1 rfl (rdN hN (hn rfl)) rfl yjCo9 (.cons (by exact rdS hr rfl rfl) (.agg (.cons (.v _) (.cons (.v _) (.cons (.ref _ (by exact rdA hr rfl rfl)) (.cons (.refz _ (by exact rdA hr rfl rfl) (fz_bts _ _)) (.cons (.refz _ (by exact rdA hr rfl rfl) ((fz_rbs _ _ _ _))) (.cons (.ref _ (by exact rdA hr rfl rfl)) .nil))))))) (.cons (by exact rdS hr rfl rfl) (.agg (.cons (.v _) (.cons (.v _) (.cons (.v _) (.cons (.v _) (.cons (.v _) (.cons (.v _) .nil))))))) (.nil))) (hsEq h h) rfl) ?_
      refine DRun.step rfl (fun τ hN hr => step_not rfl (rdN hN (hn rfl)) rfl (by exact rdS hr rfl rfl)) ?_
      refine DRun.nil ?_
      refine AWp.cond rfl (fun c3 => ?_) (fun c3 => ?_)
      · try simp only [nrm] at c3
        refine AWp.seq (AWp.region ?_)
        refine ARun.step rfl (step_assignV rfl (hn rfl) rfl rfl) ?_
        refine ARun.nil ?_
        refine AWp.ret ?_
        refine RetIs.sc (.inr rfl) rfl rfl ?_
        refine congrArg T.bool ?_
        first
          | rfl
          | (exfalso; omega)
          | (exfalso; simp [eqL_refl, strEq_refl, eqHs_refl] at *; done)
          | (exfalso; simp [eqL_refl, strEq_refl, eqHs_refl] at *; omega)
      · try simp only [nrm] at c3
        refine AWp.skip ?_
        refine AWp.seq (AWp.region ?_)
        refine ARun.step rfl (step_assignV rfl (hn rfl) rfl rfl) ?_
        refine ARun.nil ?_
        refine AWp.ret ?_
        refine RetIs.sc (.inr rfl) rfl rfl ?_
        refine congrArg T.bool ?_
        first
          | rfl
          | (exfalso; omega)
          | (exfalso; simp [eqL_refl, strEq_refl, eqHs_refl] at *; done)
          | (exfalso; simp [eqL_refl, strEq_refl, eqHs_refl] at *; omega)
set_option maxHeartbeats 1000000 in
theorem lawRunLeft (h : Hs)  : ASpec Tryz.prog 4 [.agg (h.acells 100 77 119 121 79)] (.one (.bool true)) := by
  refine ASpec.body Tryz.func4 rfl [2] rfl 27 rfl rfl rfl ?_
  have hzb := szHs_le h 1048576
  refine AWp.seq (AWp.region ?_)
  refine ARun.step rfl (step_box_p (m := 5) rfl (hn rfl) rfl rfl rfl rfl rfl) ?_
  refine ARun.step rfl (step_assignV rfl (hn rfl) rfl rfl) ?_
  refine ARun.nil ?_
  refine AWp.seq (AWp.region ?_)
  refine ARun.step rfl (step_assignV rfl (hn rfl) rfl rfl) ?_
  refine ARun.nil ?_
  refine AWp.seq (AWp.region ?_)
  refine ARun.step rfl (step_loadS_b rfl (hn rfl) rfl yjSt29 rfl rfl rfl (by decide)) ?_
  refine ARun.step rfl (step_moveV rfl (hn rfl) rfl rfl) ?_
  refine ARun.step rfl (call_step1 rfl (hn rfl) rfl yjCo5 (.cons rfl (.agg (.cons (.v _) (.cons (.v _) (.cons (.v _) (.cons (.v _) (.cons (.v _) (.cons (.v _) .nil))))))) (.cons rfl (.one (.v _)) (.nil))) (hsSz _ _ (by omega) (by omega)) rfl) ?_
  refine ARun.step rfl (step_assignV rfl (hn rfl) rfl rfl) ?_
  refine ARun.nil ?_
  refine AWp.seq ?_
  refine AWp.seq (AWp.region ?_)
  refine ARun.step rfl (step_moveV rfl (hn rfl) rfl rfl) ?_
  refine ARun.step rfl (step_lss rfl (hn rfl) rfl rfl rfl) ?_
  refine ARun.nil ?_
  refine AWp.cond rfl (fun c1 => ?_) (fun c1 => ?_)
  · try simp only [nrm] at c1
    refine AWp.seq (AWp.region ?_)
    refine ARun.step rfl (step_assignV rfl (hn rfl) rfl rfl) ?_
    refine ARun.nil ?_
    refine AWp.ret ?_
    refine RetIs.sc (.inr rfl) rfl rfl ?_
    refine congrArg T.bool ?_
    first
      | rfl
      | (exfalso; omega)
      | (exfalso; simp [eqL_refl, strEq_refl, eqHs_refl] at *; done)
      | (exfalso; simp [eqL_refl, strEq_refl, eqHs_refl] at *; omega)
  · try simp only [nrm] at c1
    have hsm : smallHs h := szHs_small (m := 1048576) (by omega) (by omega)
    refine AWp.skip ?_
    refine AWp.seq (AWp.region ?_)
    refine ARun.step rfl (step_loadS_b rfl (hn rfl) rfl yjSt29 rfl rfl rfl (by decide)) ?_
    refine ARun.step rfl (call_stepZ rfl (hn rfl) rfl yjCo7 (.cons rfl (.agg (.cons (.v _) (.cons (.v _) (.cons (.v _) (.cons (.v _) (.cons (.v _) (.cons (.v _) .nil))))))) (.nil)) (hsToZ _ (by assumption)) rfl rfl) ?_
    refine ARun.step rfl (call_step1 rfl (hn rfl) rfl yjCo10 (.cons rfl (.agg (.cons (.v _) (.cons (.v _) (.cons (.v _) (.cons (.v _) (.cons (.v _) (.cons (.v _) .nil))))))) (.nil)) (runLeftS h) rfl) ?_
    refine ARun.step rfl (step_assignV rfl (hn rfl) rfl rfl) ?_
    refine ARun.nil ?_
    refine AWp.seq (AWp.region ?_)
    refine ARun.step rfl (step_loadS_b rfl (hn rfl) rfl yjSt29 rfl rfl rfl (by decide)) ?_
    refine ARun.step rfl (call_stepN rfl (hn rfl) rfl yjCo7 (.cons rfl (.agg (.cons (.v _) (.cons (.v _) (.cons (.v _) (.cons (.v _) (.cons (.v _) (.cons (.v _) .nil))))))) (.nil)) (hsTo _ (by assumption)) rfl rfl) ?_
    refine ARun.step rfl (step_alloc_p rfl (hn rfl) rfl yjZs38) ?_
    refine ARun.step rfl (step_store_r rfl rfl yjCs38 rfl rfl rfl rfl rfl rfl rfl) ?_
    refine ARun.nil ?_
    refine AWp.seq (AWp.region ?_)
    refine ARun.step rfl (step_loadS_b rfl (hn rfl) rfl yjSt38 rfl rfl rfl (by decide)) ?_
    refine ARun.step rfl (call_step1 rfl (hn rfl) rfl yjCo11 (.cons rfl (.agg (.cons (.v _) (.cons (.v _) (.cons (.ref _ rfl) (.cons (.refz _ rfl (fz_bts _ _)) (.cons (.refz _ rfl ((fz_rbs _ _ _ _))) (.cons (.ref _ rfl) .nil))))))) (.nil)) (runLeftI h) rfl) ?_
    refine ARun.step rfl (step_assignV rfl (hn rfl) rfl rfl) ?_
    refine ARun.nil ?_
    refine AWp.seq ?_
    refine AWp.seq (AWp.region ?_)
    refine ARun.step rfl (step_moveV rfl (hn rfl) rfl rfl) ?_
    refine ARun.step rfl (step_moveV rfl (hn rfl) rfl rfl) ?_
    refine ARun.step rfl (step_neq rfl (hn rfl) rfl rfl rfl) ?_
    refine ARun.nil ?_
    refine AWp.cond rfl (fun c2 => ?_) (fun c2 => ?_)
    · try simp only [nrm] at c2
      refine AWp.seq (AWp.region ?_)
      refine ARun.step rfl (step_assignV rfl (hn rfl) rfl rfl) ?_
      refine ARun.nil ?_
      refine AWp.ret ?_
      refine RetIs.sc (.inr rfl) rfl rfl ?_
      refine congrArg T.bool ?_
      first
        | rfl
        | (exfalso; omega)
        | (exfalso; simp [eqL_refl, strEq_refl, eqHs_refl] at *; done)
        | (exfalso; simp [eqL_refl, strEq_refl, eqHs_refl] at *; omega)
    · try simp only [nrm] at c2
      refine AWp.skip ?_
      refine AWp.seq ?_
      refine AWp.seq (AWp.draw [⟨[.s 5, .b 5], [.s 22], false⟩, ⟨[.s 1, .b 1], [.s 23], false⟩, ⟨[.s 23], [.s 24], false⟩, ⟨[.s 24, .a 16 5, .a 16 4, .a 16 3, .a 16 2, .s 22], [.s 25], false⟩, ⟨[.s 25], [.s 26], false⟩] yjMo rfl ?_)
      refine DRun.step rfl (fun τ hN hr => step_loadS_b rfl (rdN hN (hn rfl)) rfl yjSt38 (by exact rdS hr rfl rfl) (by exact rdBtake hr rfl rfl) rfl (by decide)) ?_
      refine DRun.step rfl (fun τ hN hr => step_loadS_b rfl (rdN hN (hn rfl)) rfl yjSt29 (by exact rdS hr rfl rfl) (by exact rdBtake hr rfl rfl) rfl (by decide)) ?_
      refine DRun.step rfl (fun τ hN hr => call_stepZ rfl (rdN hN (hn rfl)) rfl yjCo7 (.cons (by exact rdS hr rfl rfl) (.agg (.cons (.v _) (.cons (.v _) (.cons (.v _) (.cons (.v _) (.cons (.v _) (.cons (.v _) .nil))))))) (.nil)) (hsToZ _ (by assumption)) rfl (by exact rdNoRefs hr rfl rfl)) ?_
      refine DRun.step rfl (fun τ hN hr => call_step1 rfl (rdN hN (hn rfl)) rfl yjCo9 (.cons (by exact rdS hr rfl rfl) (.agg (.cons (.v _) (.cons (.v _) (.cons (.ref _ (by exact rdA hr rfl rfl)) (.cons (.refz _ (by exact rdA hr rfl rfl) (fz_bts _ _)) (.cons (.refz _ (by exact rdA hr rfl rfl) ((fz_rbs _ _ _ _))) (.cons (.ref _ (by exact rdA hr rfl rfl)) .nil))))))) (.cons (by exact rdS hr rfl rfl) (.agg (.cons (.v _) (.cons (.v _) (.cons (.v _) (.cons (.v _) (.cons (.v _) (.cons (.v _) .nil))))))) (.nil))) (hsEq h h) rfl) ?_
      refine DRun.step rfl (fun τ hN hr => step_not rfl (rdN hN (hn rfl)) rfl (by exact rdS hr rfl rfl)) ?_
      refine DRun.nil ?_
      refine AWp.cond rfl (fun c3 => ?_) (fun c3 => ?_)
      · try simp only [nrm] at c3
        refine AWp.seq (AWp.region ?_)
        refine ARun.step rfl (step_assignV rfl (hn rfl) rfl rfl) ?_
        refine ARun.nil ?_
        refine AWp.ret ?_
        refine RetIs.sc (.inr rfl) rfl rfl ?_
        refine congrArg T.bool ?_
        first
          | rfl
          | (exfalso; omega)
          | (exfalso; simp [eqL_refl, strEq_refl, eqHs_refl] at *; done)
          | (exfalso; simp [eqL_refl, strEq_refl, eqHs_refl] at *; omega)
      · try simp only [nrm] at c3
        refine AWp.skip ?_
        refine AWp.seq (AWp.region ?_)
        refine ARun.step rfl (step_assignV rfl (hn rfl) rfl rfl) ?_
        refine ARun.nil ?_
        refine AWp.ret ?_
        refine RetIs.sc (.inr rfl) rfl rfl ?_
        refine congrArg T.bool ?_
        first
          | rfl
          | (exfalso; omega)
          | (exfalso; simp [eqL_refl, strEq_refl, eqHs_refl] at *; done)
          | (exfalso; simp [eqL_refl, strEq_refl, eqHs_refl] at *; omega)

end Go.Proofs.YtomjieobbgcjeaaGreat
