/- Contracts of functions of the program, each met by its body; conditions stand in each statement. No condition. -/
import Derived.Test.YtkmacjdigkaabaaGreatiGoes
import Derived.Test.YtkmacjdigkaabaaGreatProg
import Derived.KernelRfl
set_option linter.unusedVariables false
set_option linter.unusedSimpArgs false
set_option linter.unnecessarySimpa false
set_option linter.unusedSimpArgs false
set_option maxRecDepth 100000
namespace Go.Proofs.YtkmacjdigkaabaaGreat
open Go Go.Mh

theorem goesB_len (h : Hs) : (goesB h).length ≤ h.batches.length := by
  unfold goesB; split
  · exact goesGo_len _ _
  · exact Nat.zero_le _

theorem ymSt29 : structSz Tryz.prog 29 = some 6 := by kernel_rfl
theorem ymCo7 : callOk Tryz.prog 7 = true := by kernel_rfl
theorem ymCo9 : callOk Tryz.prog 9 = true := by kernel_rfl
theorem ymCo8 : callOk Tryz.prog 8 = true := by kernel_rfl
theorem ymZs38 : zeroSz Tryz.prog 38 = some 6 := by kernel_rfl
theorem ymCs38 : cellsSz Tryz.prog 38 = some (5 + 1) := by kernel_rfl
theorem ymSt38 : structSz Tryz.prog 38 = some 6 := by kernel_rfl
theorem ymCo10 : callOk Tryz.prog 10 = true := by kernel_rfl
theorem ymCo11 : callOk Tryz.prog 11 = true := by kernel_rfl
theorem ymCo12 : callOk Tryz.prog 12 = true := by kernel_rfl
theorem ymMo : Tryz.prog.follows .mixedOrders = true := by kernel_rfl
theorem ymCo13 : callOk Tryz.prog 13 = true := by kernel_rfl
theorem ymCo14 : callOk Tryz.prog 14 = true := by kernel_rfl
theorem ymCo15 : callOk Tryz.prog 15 = true := by kernel_rfl
set_option maxHeartbeats 4000000 in
theorem lawRunGoes (h : Hs)  : ASpec Tryz.prog 3 [.agg (h.acells 191 141 229 231 143)] (.one (.bool true)) := by
  refine ASpec.body Tryz.func3 rfl [2] rfl 69 rfl rfl rfl ?_
  have hzb := szHs_le h 1048576
  refine AWp.seq (AWp.region ?_)
  refine ARun.step rfl (step_box_p (m := 5) rfl (hn rfl) rfl rfl rfl rfl rfl) ?_
  refine ARun.step rfl (step_assignV rfl (hn rfl) rfl rfl) ?_
  refine ARun.nil ?_
  refine AWp.seq (AWp.region ?_)
  refine ARun.step rfl (step_assignV rfl (hn rfl) rfl rfl) ?_
  refine ARun.nil ?_
  refine AWp.seq (AWp.region ?_)
  refine ARun.step rfl (step_loadS_b rfl (hn rfl) rfl ymSt29 rfl rfl rfl (by decide)) ?_
  refine ARun.step rfl (step_moveV rfl (hn rfl) rfl rfl) ?_
  refine ARun.step rfl (call_step1 rfl (hn rfl) rfl ymCo7 (.cons rfl (.agg (.cons (.v _) (.cons (.v _) (.cons (.v _) (.cons (.v _) (.cons (.v _) (.cons (.v _) .nil))))))) (.cons rfl (.one (.v _)) (.nil))) (hsSz _ _ (by omega) (by omega)) rfl) ?_
  refine ARun.step rfl (step_assignV rfl (hn rfl) rfl rfl) ?_
  refine ARun.nil ?_
  refine AWp.seq ?_
  refine AWp.seq (AWp.region ?_)
  refine ARun.step rfl (step_moveV rfl (hn rfl) rfl rfl) ?_
  refine ARun.step rfl (step_lss rfl (hn rfl) rfl rfl rfl) ?_
  refine ARun.nil ?_
  refine AWp.cond rfl (fun c1 => ?_) (fun c1 => ?_)
  · try simp only [nrm] at c1
    refine AWp.seq (AWp.region ?_)
    refine ARun.step rfl (step_assignV rfl (hn rfl) rfl rfl) ?_
    refine ARun.nil ?_
    refine AWp.ret ?_
    refine RetIs.sc (.inr rfl) rfl rfl ?_
    refine congrArg T.bool ?_
    first
      | rfl
      | (exfalso; omega)
      | (exfalso; simp [eqL_refl, strEq_refl, eqHs_refl] at *; done)
      | (exfalso; simp [eqL_refl, strEq_refl, eqHs_refl] at *; omega)
  · try simp only [nrm] at c1
    have hsm : smallHs h := szHs_small (m := 1048576) (by omega) (by omega)
    have hs1 := hsm.1.1
    have hs2 := hsm.1.2.1
    have hs3 := hsm.2.1
    have hs4 := hsm.2.2.2
    have hrl := goesB_len h
    have hct := cntTo_small hsm.1.2.2 h.share.bs.length (Nat.le_refl _)
    have hcr := cntR_small hsm.2.2.1 h.batches.length (Nat.le_refl _)
    have hc0 := cntTo_nn h.share.bs h.share.bs.length
    have hr0 := cntR_ge h.batches h.batches.length
    refine AWp.skip ?_
    refine AWp.seq (AWp.region ?_)
    refine ARun.step rfl (step_loadS_b rfl (hn rfl) rfl ymSt29 rfl rfl rfl (by decide)) ?_
    refine ARun.step rfl (call_stepZ rfl (hn rfl) rfl ymCo9 (.cons rfl (.agg (.cons (.v _) (.cons (.v _) (.cons (.v _) (.cons (.v _) (.cons (.v _) (.cons (.v _) .nil))))))) (.nil)) (hsToZ _ (by assumption)) rfl rfl) ?_
    refine ARun.step rfl (call_stepN rfl (hn rfl) rfl ymCo8 (.cons rfl (.agg (.cons (.v _) (.cons (.v _) (.cons (.v _) (.cons (.v _) (.cons (.v _) (.cons (.v _) .nil))))))) (.nil)) (goesS h) rfl rfl) ?_
    refine ARun.step rfl (step_assignV rfl (hn rfl) rfl rfl) ?_
    refine ARun.nil ?_
    refine AWp.seq (AWp.region ?_)
    refine ARun.step rfl (step_loadS_b rfl (hn rfl) rfl ymSt29 rfl rfl rfl (by decide)) ?_
    refine ARun.step rfl (call_stepN rfl (hn rfl) rfl ymCo9 (.cons rfl (.agg (.cons (.v _) (.cons (.v _) (.cons (.v _) (.cons (.v _) (.cons (.v _) (.cons (.v _) .nil))))))) (.nil)) (hsTo _ (by assumption)) rfl rfl) ?_
    refine ARun.step rfl (step_alloc_p rfl (hn rfl) rfl ymZs38) ?_
    refine ARun.step rfl (step_store_r rfl rfl ymCs38 rfl rfl rfl rfl rfl rfl rfl) ?_
    refine ARun.nil ?_
    refine AWp.seq (AWp.region ?_)
    refine ARun.step rfl (step_loadS_b rfl (hn rfl) rfl ymSt38 rfl rfl rfl (by decide)) ?_
    refine ARun.step rfl (call_stepC rfl (hn rfl) rfl ymCo10 (.cons rfl (.agg (.cons (.v _) (.cons (.v _) (.cons (.ref _ rfl) (.cons (.refz _ rfl (fz_bts _ _)) (.cons (.refz _ rfl ((fz_rbs _ _ _ _))) (.cons (.ref _ rfl) .nil))))))) (.nil)) (goesI h) rfl (CleanL.all (.cons (clean_strs _) .nil))) ?_
    refine ARun.step rfl (step_assignV rfl (hn rfl) rfl rfl) ?_
    refine ARun.nil ?_
    refine AWp.seq ?_
    refine AWp.seq (AWp.region ?_)
    refine ARun.step rfl (step_moveV rfl (hn rfl) rfl rfl) ?_
    refine ARun.step rfl (step_moveV rfl (hn rfl) rfl rfl) ?_
    refine ARun.step rfl (call_step1 rfl (hn rfl) rfl ymCo11 (.cons rfl (.one (.ref _ rfl)) (.cons rfl (.one (.ref _ rfl)) (.nil))) (eqStrS _ _) rfl) ?_
    refine ARun.step rfl (step_not rfl (hn rfl) rfl rfl) ?_
    refine ARun.nil ?_
    refine AWp.cond rfl (fun c2 => ?_) (fun c2 => ?_)
    · try simp only [nrm] at c2
      refine AWp.seq (AWp.region ?_)
      refine ARun.step rfl (step_assignV rfl (hn rfl) rfl rfl) ?_
      refine ARun.nil ?_
      refine AWp.ret ?_
      refine RetIs.sc (.inr rfl) rfl rfl ?_
      refine congrArg T.bool ?_
      first
        | rfl
        | (exfalso; omega)
        | (exfalso; simp [eqL_refl, strEq_refl, eqHs_refl] at *; done)
        | (exfalso; simp [eqL_refl, strEq_refl, eqHs_refl] at *; omega)
    · try simp only [nrm] at c2
      refine AWp.skip ?_
      refine AWp.seq ?_
      refine AWp.seq (AWp.draw [⟨[.s 5, .b 5], [.s 27], false⟩, ⟨[.s 1, .b 1], [.s 28], false⟩, ⟨[.s 28], [.s 29], false⟩, ⟨[.s 29, .a 20 5, .a 20 4, .a 20 3, .a 20 2, .s 27], [.s 30], false⟩, ⟨[.s 30], [.s 31], false⟩] ymMo rfl ?_)
      refine DRun.step rfl (fun τ hN hr => step_loadS_b rfl (rdN hN (hn rfl)) rfl ymSt38 (by exact rdS hr rfl rfl) (by exact rdBtake hr rfl rfl) rfl (by decide)) ?_
      refine DRun.step rfl (fun τ hN hr => step_loadS_b rfl (rdN hN (hn rfl)) rfl ymSt29 (by exact rdS hr rfl rfl) (by exact rdBtake hr rfl rfl) rfl (by decide)) ?_
      refine DRun.step rfl (fun τ hN hr => call_stepZ rfl (rdN hN (hn rfl)) rfl ymCo9 (.cons (by exact rdS hr rfl rfl) (.agg (.cons (.v _) (.cons (.v _) (.cons (.v _) (.cons (.v _) (.cons (.v _) (.cons (.v _) .nil))))))) (.nil)) (hsToZ _ (by assumption)) rfl (by exact rdNoRefs hr rfl rfl)) ?_
      refine DRun.step rfl (fun τ hN hr => call_step1 rfl (rdN hN (hn rfl)) rfl ymCo12 (.cons (by exact rdS hr rfl rfl) (.agg (.cons (.v _) (.cons (.v _) (.cons (.ref _ (by exact rdA hr rfl rfl)) (.cons (.refz _ (by exact rdA hr rfl rfl) (fz_bts _ _)) (.cons (.refz _ (by exact rdA hr rfl rfl) ((fz_rbs _ _ _ _))) (.cons (.ref _ (by exact rdA hr rfl rfl)) .nil))))))) (.cons (by exact rdS hr rfl rfl) (.agg (.cons (.v _) (.cons (.v _) (.cons (.v _) (.cons (.v _) (.cons (.v _) (.cons (.v _) .nil))))))) (.nil))) (hsEq h h) rfl) ?_
      refine DRun.step rfl (fun τ hN hr => step_not rfl (rdN hN (hn rfl)) rfl (by exact rdS hr rfl rfl)) ?_
      refine DRun.nil ?_
      refine AWp.cond rfl (fun c3 => ?_) (fun c3 => ?_)
      · try simp only [nrm] at c3
        refine AWp.seq (AWp.region ?_)
        refine ARun.step rfl (step_assignV rfl (hn rfl) rfl rfl) ?_
        refine ARun.nil ?_
        refine AWp.ret ?_
        refine RetIs.sc (.inr rfl) rfl rfl ?_
        refine congrArg T.bool ?_
        first
          | rfl
          | (exfalso; omega)
          | (exfalso; simp [eqL_refl, strEq_refl, eqHs_refl] at *; done)
          | (exfalso; simp [eqL_refl, strEq_refl, eqHs_refl] at *; omega)
      · try simp only [nrm] at c3
        refine AWp.skip ?_
        refine AWp.seq (AWp.region ?_)
        refine ARun.step rfl (step_assignV rfl (hn rfl) rfl rfl) ?_
        refine ARun.nil ?_
        refine AWp.seq (AWp.region ?_)
        refine ARun.step rfl (step_loadS_b rfl (hn rfl) rfl ymSt38 rfl rfl rfl (by decide)) ?_
        refine ARun.step rfl (step_moveV rfl (hn rfl) rfl rfl) ?_
        refine ARun.step rfl (mcall_roots (L := [(⟨.arr 20 2, []⟩, 2), (⟨.arr 20 3, []⟩, 3), (⟨.arr 20 4, []⟩, 4), (⟨.arr 20 5, []⟩, 5)]) (TL := [(20, 2, _), (20, 3, _), (20, 4, _), (20, 5, _)]) rfl (hn rfl) rfl ymCo13 rfl (.cons rfl (.agg (.cons (.v (.refl _)) (.cons (.v (.refl _)) (.cons (.rw _ rfl rfl rfl) (.cons (.rw _ rfl rfl rfl) (.cons (.rw _ rfl rfl rfl) (.cons (.rw _ rfl rfl rfl) (.nil _)))))))) (.cons rfl (.one (.v (.refl _))) (.nil _))) (markHs h 1 (by omega) (by omega)) rfl (.cons (i := 0) (j := 2) rfl rfl rfl rfl rfl rfl (.cons (i := 0) (j := 3) rfl rfl rfl rfl rfl rfl (.cons (i := 0) (j := 4) rfl rfl rfl rfl rfl rfl (.cons (i := 0) (j := 5) rfl rfl rfl rfl rfl rfl .nil))))) ?_
        refine ARun.step rfl (step_assignV rfl (hn rfl) rfl rfl) ?_
        refine ARun.nil ?_
        refine AWp.seq ?_
        refine AWp.seq (AWp.region ?_)
        refine ARun.step rfl (step_moveV rfl (hn rfl) rfl rfl) ?_
        refine ARun.step rfl (step_lss rfl (hn rfl) rfl rfl rfl) ?_
        refine ARun.step rfl (step_moveV rfl (hn rfl) rfl rfl) ?_
        refine guardS rfl rfl rfl rfl (hn rfl) (fun g1 g2 => step_moveV rfl (hn rfl) rfl rfl) ?_
        refine guardS rfl rfl rfl rfl (hn rfl) (fun g1 g2 => step_moveV rfl (hn rfl) rfl rfl) ?_
        refine guardS rfl rfl rfl rfl (hn rfl) (fun g1 g2 => call_step1 rfl (hn rfl) rfl ymCo11 (.cons (ev_true rfl (by exact flag2 g1 g2)) (.one (.ref _ rfl)) (.cons (ev_true rfl (by exact flag2 g1 g2)) (.one (.ref _ rfl)) (.nil))) (eqStrS _ _) rfl) ?_
        refine guardS rfl rfl rfl rfl (hn rfl) (fun g1 g2 => step_not rfl (hn rfl) rfl (ev_true rfl (by exact flag2 g1 g2))) ?_
        refine ARun.step rfl (step_or rfl (hn rfl) rfl rfl rfl (fun h => (by exact flag1 h))) ?_
        refine ARun.nil ?_
        refine AWp.cond rfl (fun c4 => ?_) (fun c4 => ?_)
        · try simp only [nrm] at c4
          refine AWp.seq (AWp.region ?_)
          refine ARun.step rfl (step_assignV rfl (hn rfl) rfl rfl) ?_
          refine ARun.nil ?_
          refine AWp.ret ?_
          refine RetIs.sc (.inr rfl) rfl rfl ?_
          refine congrArg T.bool ?_
          first
            | rfl
            | (exfalso; omega)
            | (exfalso; simp [eqL_refl, strEq_refl, eqHs_refl] at *; done)
            | (exfalso; simp [eqL_refl, strEq_refl, eqHs_refl] at *; omega)
        · try simp only [nrm] at c4
          refine AWp.skip ?_
          refine AWp.seq (AWp.region ?_)
          refine ARun.step rfl (step_assignV rfl (hn rfl) rfl rfl) ?_
          refine ARun.nil ?_
          refine AWp.seq (AWp.region ?_)
          refine ARun.step rfl (step_moveV rfl (hn rfl) rfl rfl) ?_
          refine ARun.step rfl (step_moveV rfl (hn rfl) rfl rfl) ?_
          refine ARun.step rfl (mcall_roots (L := [(⟨.arr 22 0, []⟩, 0)]) (TL := [(22, 0, _)]) rfl (hn rfl) rfl ymCo14 rfl (.cons rfl (.one (.rw _ rfl rfl rfl)) (.cons rfl (.one (.v (.refl _))) (.nil _))) (markStrS (goesB h) 1 (by omega) (by omega)) rfl (.cons (i := 0) (j := 0) rfl rfl rfl rfl rfl rfl .nil)) ?_
          refine ARun.step rfl (step_assignV rfl (hn rfl) rfl rfl) ?_
          refine ARun.nil ?_
          refine AWp.seq (AWp.region ?_)
          refine ARun.step rfl (step_assignV rfl (hn rfl) rfl rfl) ?_
          refine ARun.nil ?_
          refine AWp.seq (AWp.region ?_)
          refine ARun.step rfl (step_moveV rfl (hn rfl) rfl rfl) ?_
          refine ARun.step rfl (step_moveV rfl (hn rfl) rfl rfl) ?_
          refine ARun.step rfl (call_step1 rfl (hn rfl) rfl ymCo15 (.cons rfl (.one (.ref _ rfl)) (.cons rfl (.one (.v _)) (.nil))) (heldStrS (goesB h).length 1 (by omega) (by omega)) rfl) ?_
          refine ARun.step rfl (step_assignV rfl (hn rfl) rfl rfl) ?_
          refine ARun.nil ?_
          refine AWp.seq ?_
          refine AWp.seq (AWp.region ?_)
          refine ARun.step rfl (step_moveV rfl (hn rfl) rfl rfl) ?_
          refine ARun.step rfl (step_lss rfl (hn rfl) rfl rfl rfl) ?_
          refine ARun.nil ?_
          refine AWp.cond rfl (fun c5 => ?_) (fun c5 => ?_)
          · try simp only [nrm] at c5
            refine AWp.seq (AWp.region ?_)
            refine ARun.step rfl (step_assignV rfl (hn rfl) rfl rfl) ?_
            refine ARun.nil ?_
            refine AWp.ret ?_
            refine RetIs.sc (.inr rfl) rfl rfl ?_
            refine congrArg T.bool ?_
            first
              | rfl
              | (exfalso; omega)
              | (exfalso; simp [eqL_refl, strEq_refl, eqHs_refl] at *; done)
              | (exfalso; simp [eqL_refl, strEq_refl, eqHs_refl] at *; omega)
          · try simp only [nrm] at c5
            refine AWp.skip ?_
            refine AWp.seq ?_
            refine AWp.seq (AWp.region ?_)
            refine ARun.step rfl (step_moveV rfl (hn rfl) rfl rfl) ?_
            refine ARun.step rfl (step_moveV rfl (hn rfl) rfl rfl) ?_
            refine ARun.step rfl (step_neq rfl (hn rfl) rfl rfl rfl) ?_
            refine ARun.nil ?_
            refine AWp.cond rfl (fun c6 => ?_) (fun c6 => ?_)
            · try simp only [nrm] at c6
              refine AWp.seq (AWp.region ?_)
              refine ARun.step rfl (step_assignV rfl (hn rfl) rfl rfl) ?_
              refine ARun.nil ?_
              refine AWp.ret ?_
              refine RetIs.sc (.inr rfl) rfl rfl ?_
              refine congrArg T.bool ?_
              first
                | rfl
                | (exfalso; omega)
                | (exfalso; simp [eqL_refl, strEq_refl, eqHs_refl] at *; done)
                | (exfalso; simp [eqL_refl, strEq_refl, eqHs_refl] at *; omega)
            · try simp only [nrm] at c6
              refine AWp.skip ?_
              refine AWp.seq (AWp.region ?_)
              refine ARun.step rfl (step_loadS_b rfl (hn rfl) rfl ymSt29 rfl rfl rfl (by decide)) ?_
              refine ARun.step rfl (call_stepZ rfl (hn rfl) rfl ymCo9 (.cons rfl (.agg (.cons (.v _) (.cons (.v _) (.cons (.v _) (.cons (.v _) (.cons (.v _) (.cons (.v _) .nil))))))) (.nil)) (hsToZ _ (by assumption)) rfl rfl) ?_
              refine ARun.step rfl (call_stepN rfl (hn rfl) rfl ymCo10 (.cons rfl (.agg (.cons (.v _) (.cons (.v _) (.cons (.v _) (.cons (.v _) (.cons (.v _) (.cons (.v _) .nil))))))) (.nil)) (goesI h) rfl rfl) ?_
              refine ARun.step rfl (step_assignV rfl (hn rfl) rfl rfl) ?_
              refine ARun.nil ?_
              refine AWp.seq ?_
              refine AWp.seq (AWp.region ?_)
              refine ARun.step rfl (step_moveV rfl (hn rfl) rfl rfl) ?_
              refine ARun.step rfl (step_moveV rfl (hn rfl) rfl rfl) ?_
              refine ARun.step rfl (call_step1 rfl (hn rfl) rfl ymCo11 (.cons rfl (.one (.ref _ rfl)) (.cons rfl (.one (.ref _ rfl)) (.nil))) (eqStrS _ _) rfl) ?_
              refine ARun.step rfl (step_not rfl (hn rfl) rfl rfl) ?_
              refine ARun.nil ?_
              refine AWp.cond rfl (fun c7 => ?_) (fun c7 => ?_)
              · try simp only [nrm] at c7
                refine AWp.seq (AWp.region ?_)
                refine ARun.step rfl (step_assignV rfl (hn rfl) rfl rfl) ?_
                refine ARun.nil ?_
                refine AWp.ret ?_
                refine RetIs.sc (.inr rfl) rfl rfl ?_
                refine congrArg T.bool ?_
                first
                  | rfl
                  | (exfalso; omega)
                  | (exfalso; simp [eqL_refl, strEq_refl, eqHs_refl] at *; done)
                  | (exfalso; simp [eqL_refl, strEq_refl, eqHs_refl] at *; omega)
              · try simp only [nrm] at c7
                refine AWp.skip ?_
                refine AWp.seq (AWp.region ?_)
                refine ARun.step rfl (step_assignV rfl (hn rfl) rfl rfl) ?_
                refine ARun.nil ?_
                refine AWp.seq (AWp.region ?_)
                refine ARun.step rfl (step_moveV rfl (hn rfl) rfl rfl) ?_
                refine ARun.step rfl (step_moveV rfl (hn rfl) rfl rfl) ?_
                refine ARun.step rfl (call_step1 rfl (hn rfl) rfl ymCo15 (.cons rfl (.one (.ref _ rfl)) (.cons rfl (.one (.v _)) (.nil))) (heldStrS (goesB h).length 1 (by omega) (by omega)) rfl) ?_
                refine ARun.step rfl (step_assignV rfl (hn rfl) rfl rfl) ?_
                refine ARun.nil ?_
                refine AWp.seq ?_
                refine AWp.seq (AWp.region ?_)
                refine ARun.step rfl (step_moveV rfl (hn rfl) rfl rfl) ?_
                refine ARun.step rfl (step_lss rfl (hn rfl) rfl rfl rfl) ?_
                refine ARun.nil ?_
                refine AWp.cond rfl (fun c8 => ?_) (fun c8 => ?_)
                · try simp only [nrm] at c8
                  refine AWp.seq (AWp.region ?_)
                  refine ARun.step rfl (step_assignV rfl (hn rfl) rfl rfl) ?_
                  refine ARun.nil ?_
                  refine AWp.ret ?_
                  refine RetIs.sc (.inr rfl) rfl rfl ?_
                  refine congrArg T.bool ?_
                  first
                    | rfl
                    | (exfalso; omega)
                    | (exfalso; simp [eqL_refl, strEq_refl, eqHs_refl] at *; done)
                    | (exfalso; simp [eqL_refl, strEq_refl, eqHs_refl] at *; omega)
                · try simp only [nrm] at c8
                  refine AWp.skip ?_
                  refine AWp.seq ?_
                  refine AWp.seq (AWp.region ?_)
                  refine ARun.step rfl (step_moveV rfl (hn rfl) rfl rfl) ?_
                  refine ARun.step rfl (step_moveV rfl (hn rfl) rfl rfl) ?_
                  refine ARun.step rfl (step_neq rfl (hn rfl) rfl rfl rfl) ?_
                  refine ARun.nil ?_
                  refine AWp.cond rfl (fun c9 => ?_) (fun c9 => ?_)
                  · try simp only [nrm] at c9
                    refine AWp.seq (AWp.region ?_)
                    refine ARun.step rfl (step_assignV rfl (hn rfl) rfl rfl) ?_
                    refine ARun.nil ?_
                    refine AWp.ret ?_
                    refine RetIs.sc (.inr rfl) rfl rfl ?_
                    refine congrArg T.bool ?_
                    first
                      | rfl
                      | (exfalso; omega)
                      | (exfalso; simp [eqL_refl, strEq_refl, eqHs_refl] at *; done)
                      | (exfalso; simp [eqL_refl, strEq_refl, eqHs_refl] at *; omega)
                  · try simp only [nrm] at c9
                    refine AWp.skip ?_
                    refine AWp.seq (AWp.region ?_)
                    refine ARun.step rfl (step_assignV rfl (hn rfl) rfl rfl) ?_
                    refine ARun.nil ?_
                    refine AWp.ret ?_
                    refine RetIs.sc (.inr rfl) rfl rfl ?_
                    refine congrArg T.bool ?_
                    first
                      | rfl
                      | (exfalso; omega)
                      | (exfalso; simp [eqL_refl, strEq_refl, eqHs_refl] at *; done)
                      | (exfalso; simp [eqL_refl, strEq_refl, eqHs_refl] at *; omega)

end Go.Proofs.YtkmacjdigkaabaaGreat
