/- Contracts of functions of the program, each met by its body; conditions stand in each statement. No condition. -/
import Derived.Test.YtkmacjdigkaabaahLeave
import Derived.Test.YtkmacjdigkaabaaProg
import Derived.KernelRfl
set_option linter.unusedVariables false
set_option linter.unusedSimpArgs false
set_option linter.unnecessarySimpa false
set_option linter.unusedSimpArgs false
set_option maxRecDepth 100000
namespace Go.Proofs.Ytkmacjdigkaabaa
open Go Go.Mh

theorem leaveR_small {p : Bk} {s : Str} (hs : smallBk p) : smallBk (leaveR p s).1 := by
  unfold leaveR
  have hix := idxB_lt p s
  split
  · split
    · exact hs
    · exact cut_small hs (by omega)
  · exact ⟨Nat.zero_le _, Nat.zero_le _, fun i hi => absurd hi (Nat.not_lt_zero i)⟩

theorem ymUs9 : Try.prog.underlying 9 = some .string := by kernel_rfl
theorem ymSt25 : structSz Try.prog 25 = some 2 := by kernel_rfl
theorem ymCo11 : callOk Try.prog 11 = true := by kernel_rfl
theorem ymCo13 : callOk Try.prog 13 = true := by kernel_rfl
theorem ymCo12 : callOk Try.prog 12 = true := by kernel_rfl
theorem ymZs29 : zeroSz Try.prog 29 = some 2 := by kernel_rfl
theorem ymCs29 : cellsSz Try.prog 29 = some (1 + 1) := by kernel_rfl
theorem ymSt29 : structSz Try.prog 29 = some 2 := by kernel_rfl
theorem ymCo14 : callOk Try.prog 14 = true := by kernel_rfl
theorem ymCo15 : callOk Try.prog 15 = true := by kernel_rfl
theorem ymMo : Try.prog.follows .mixedOrders = true := by kernel_rfl
theorem ymCo16 : callOk Try.prog 16 = true := by kernel_rfl
theorem ymCo17 : callOk Try.prog 17 = true := by kernel_rfl
set_option maxHeartbeats 1000000 in
theorem lawShareLeave (p : Bk) (s : Str)  : ASpec Try.prog 3 [.agg (p.cells 115), .one (.str s)] (.one (.bool true)) := by
  refine ASpec.body Try.func3 rfl [4] rfl 104 rfl rfl rfl ?_
  have hzb := szBk_le p 1048576
  refine AWp.strLe 1 rfl (fun hs => ?_)
  refine AWp.seq (AWp.region ?_)
  refine ARun.step rfl (step_box_p (m := 1) rfl (hn rfl) rfl rfl rfl rfl rfl) ?_
  refine ARun.step rfl (step_assignV rfl (hn rfl) rfl rfl) ?_
  refine ARun.nil ?_
  refine AWp.seq ?_
  refine AWp.seq (AWp.region ?_)
  refine ARun.step rfl (step_moveV rfl (hn rfl) rfl rfl) ?_
  refine ARun.step rfl (step_len_str rfl (hn rfl) rfl ymUs9 rfl) ?_
  refine ARun.step rfl (step_gtr rfl (hn rfl) rfl rfl rfl) ?_
  refine ARun.nil ?_
  refine AWp.cond rfl (fun c1 => ?_) (fun c1 => ?_)
  · try simp only [nrm] at c1
    refine AWp.seq (AWp.region ?_)
    refine ARun.step rfl (step_assignV rfl (hn rfl) rfl rfl) ?_
    refine ARun.nil ?_
    refine AWp.ret ?_
    refine RetIs.sc (.inr rfl) rfl rfl ?_
    refine congrArg T.bool ?_
    first
      | rfl
      | (exfalso; omega)
      | (exfalso; simp [eqBk_refl, eqL_refl, strEq_refl, eqBt_refl] at *; done)
      | (exfalso; simp [eqBk_refl, eqL_refl, strEq_refl, eqBt_refl] at *; omega)
  · try simp only [nrm] at c1
    refine AWp.skip ?_
    refine AWp.seq (AWp.region ?_)
    refine ARun.step rfl (step_assignV rfl (hn rfl) rfl rfl) ?_
    refine ARun.nil ?_
    refine AWp.seq (AWp.region ?_)
    refine ARun.step rfl (step_loadS_b rfl (hn rfl) rfl ymSt25 rfl rfl rfl (by decide)) ?_
    refine ARun.step rfl (step_moveV rfl (hn rfl) rfl rfl) ?_
    refine ARun.step rfl (call_step1 rfl (hn rfl) rfl ymCo11 (.cons rfl (.agg (.cons (.v _) (.cons (.v _) .nil))) (.cons rfl (.one (.v _)) (.nil))) (szBkI _ _ (by omega) (by omega)) rfl) ?_
    refine ARun.step rfl (step_assignV rfl (hn rfl) rfl rfl) ?_
    refine ARun.nil ?_
    refine AWp.seq ?_
    refine AWp.seq (AWp.region ?_)
    refine ARun.step rfl (step_moveV rfl (hn rfl) rfl rfl) ?_
    refine ARun.step rfl (step_lss rfl (hn rfl) rfl rfl rfl) ?_
    refine ARun.nil ?_
    refine AWp.cond rfl (fun c2 => ?_) (fun c2 => ?_)
    · try simp only [nrm] at c2
      refine AWp.seq (AWp.region ?_)
      refine ARun.step rfl (step_assignV rfl (hn rfl) rfl rfl) ?_
      refine ARun.nil ?_
      refine AWp.ret ?_
      refine RetIs.sc (.inr rfl) rfl rfl ?_
      refine congrArg T.bool ?_
      first
        | rfl
        | (exfalso; omega)
        | (exfalso; simp [eqBk_refl, eqL_refl, strEq_refl, eqBt_refl] at *; done)
        | (exfalso; simp [eqBk_refl, eqL_refl, strEq_refl, eqBt_refl] at *; omega)
    · try simp only [nrm] at c2
      have hsm := szBk_small (p := p) (by omega)
      have hct := cntTo_small hsm.2.2 p.bs.length (Nat.le_refl _)
      have hcn := cntTo_nn p.bs p.bs.length
      have hsm1 := hsm.1
      have hsm2 := hsm.2.1
      have hrs : smallBk (leaveR p s).1 := leaveR_small hsm
      have hrs0 := (cntTo_small (hrs).2.2 ((leaveR p s).1).bs.length (Nat.le_refl _))
      have hrs1 := cntTo_nn ((leaveR p s).1).bs ((leaveR p s).1).bs.length
      have hrs2 := (hrs).1
      have hrs3 := (hrs).2.1
      refine AWp.skip ?_
      refine AWp.seq (AWp.region ?_)
      refine ARun.step rfl (step_loadS_b rfl (hn rfl) rfl ymSt25 rfl rfl rfl (by decide)) ?_
      refine ARun.step rfl (call_stepZ rfl (hn rfl) rfl ymCo13 (.cons rfl (.agg (.cons (.v _) (.cons (.v _) .nil))) (.nil)) (toBkZ _ (by assumption)) rfl rfl) ?_
      refine ARun.step rfl (step_moveV rfl (hn rfl) rfl rfl) ?_
      refine ARun.step rfl (call_stepZ rfl (hn rfl) rfl ymCo12 (.cons rfl (.agg (.cons (.v _) (.cons (.v _) .nil))) (.cons rfl (.one (.v _)) (.nil))) (leaveSZ _ _ hsm) rfl rfl) ?_
      refine ARun.step rfl (step_moveV rfl (hn rfl) rfl rfl) ?_
      refine ARun.step rfl (step_extract rfl (hn rfl) rfl rfl rfl (by intro l h; cases h)) ?_
      refine ARun.step rfl (step_extract rfl (hn rfl) rfl rfl rfl (by intro l h; cases h)) ?_
      refine ARun.step rfl (step_alloc_p rfl (hn rfl) rfl ymZs29) ?_
      refine ARun.step rfl (step_store_p rfl rfl ymCs29 rfl rfl rfl rfl rfl rfl rfl) ?_
      refine ARun.step rfl (step_assignV rfl (hn rfl) rfl rfl) ?_
      refine ARun.nil ?_
      refine AWp.seq (AWp.region ?_)
      refine ARun.step rfl (step_loadS_b rfl (hn rfl) rfl ymSt25 rfl rfl rfl (by decide)) ?_
      refine ARun.step rfl (call_stepN rfl (hn rfl) rfl ymCo13 (.cons rfl (.agg (.cons (.v _) (.cons (.v _) .nil))) (.nil)) (toBk _ (by assumption)) rfl rfl) ?_
      refine ARun.step rfl (step_alloc_p rfl (hn rfl) rfl ymZs29) ?_
      refine ARun.step rfl (step_store_r rfl rfl ymCs29 rfl rfl rfl rfl rfl rfl rfl) ?_
      refine ARun.nil ?_
      refine AWp.seq (AWp.region ?_)
      refine ARun.step rfl (step_loadS_b rfl (hn rfl) rfl ymSt29 rfl rfl rfl (by decide)) ?_
      refine ARun.step rfl (step_moveV rfl (hn rfl) rfl rfl) ?_
      refine ARun.step rfl (call_stepC rfl (hn rfl) rfl ymCo14 (.cons rfl (.agg (.cons (.ref _ rfl) (.cons (.refz _ rfl (fz_bts _ _)) .nil))) (.cons rfl (.one (.v _)) (.nil))) (leaveI _ _ hsm) rfl (CleanL.all (.cons (clean_strs _) (.cons (clean_btsO _ _) (.cons (.int _ _) .nil))))) ?_
      refine ARun.step rfl (step_moveV rfl (hn rfl) rfl rfl) ?_
      refine ARun.step rfl (step_extract rfl (hn rfl) rfl rfl rfl (by intro l h; cases h)) ?_
      refine ARun.step rfl (step_extract rfl (hn rfl) rfl rfl rfl (by intro l h; cases h)) ?_
      refine ARun.step rfl (step_alloc_p rfl (hn rfl) rfl ymZs29) ?_
      refine ARun.step rfl (step_store_r rfl rfl ymCs29 rfl rfl rfl rfl rfl rfl rfl) ?_
      refine ARun.step rfl (step_assignV rfl (hn rfl) rfl rfl) ?_
      refine ARun.nil ?_
      refine AWp.seq ?_
      refine AWp.seq (AWp.region ?_)
      refine ARun.step rfl (step_loadS_b rfl (hn rfl) rfl ymSt29 rfl rfl rfl (by decide)) ?_
      refine ARun.step rfl (step_loadS_b rfl (hn rfl) rfl ymSt29 rfl rfl rfl (by decide)) ?_
      refine ARun.step rfl (call_step1 rfl (hn rfl) rfl ymCo15 (.cons rfl (.agg (.cons (.ref _ rfl) (.cons (.refz _ rfl (fz_bts _ _)) .nil))) (.cons rfl (.agg (.cons (.v _) (.cons (.v _) .nil))) (.nil))) (eqBkI _ _) rfl) ?_
      refine ARun.step rfl (step_not rfl (hn rfl) rfl rfl) ?_
      refine ARun.step rfl (step_moveV rfl (hn rfl) rfl rfl) ?_
      refine guardS rfl rfl rfl rfl (hn rfl) (fun g1 g2 => step_moveV rfl (hn rfl) rfl rfl) ?_
      refine guardS rfl rfl rfl rfl (hn rfl) (fun g1 g2 => step_moveV rfl (hn rfl) rfl rfl) ?_
      refine guardS rfl rfl rfl rfl (hn rfl) (fun g1 g2 => step_neq rfl (hn rfl) rfl (ev_true rfl (by exact flag2 g1 g2)) (ev_true rfl (by exact flag2 g1 g2))) ?_
      refine ARun.step rfl (step_or rfl (hn rfl) rfl rfl rfl (fun h => (by exact flag1 h))) ?_
      refine ARun.nil ?_
      refine AWp.cond rfl (fun c3 => ?_) (fun c3 => ?_)
      · try simp only [nrm] at c3
        refine AWp.seq (AWp.region ?_)
        refine ARun.step rfl (step_assignV rfl (hn rfl) rfl rfl) ?_
        refine ARun.nil ?_
        refine AWp.ret ?_
        refine RetIs.sc (.inr rfl) rfl rfl ?_
        refine congrArg T.bool ?_
        first
          | rfl
          | (exfalso; omega)
          | (exfalso; simp [eqBk_refl, eqL_refl, strEq_refl, eqBt_refl] at *; done)
          | (exfalso; simp [eqBk_refl, eqL_refl, strEq_refl, eqBt_refl] at *; omega)
      · try simp only [nrm] at c3
        refine AWp.skip ?_
        refine AWp.seq ?_
        refine AWp.seq (AWp.draw [⟨[.s 8, .b 8], [.s 48], false⟩, ⟨[.s 2, .b 2], [.s 49], false⟩, ⟨[.s 49], [.s 50], false⟩, ⟨[.s 50, .a 32 1, .a 32 0, .s 48], [.s 51], false⟩, ⟨[.s 51], [.s 52], false⟩] ymMo rfl ?_)
        refine DRun.step rfl (fun τ hN hr => step_loadS_b rfl (rdN hN (hn rfl)) rfl ymSt29 (by exact rdS hr rfl rfl) (by exact rdBtake hr rfl rfl) rfl (by decide)) ?_
        refine DRun.step rfl (fun τ hN hr => step_loadS_b rfl (rdN hN (hn rfl)) rfl ymSt25 (by exact rdS hr rfl rfl) (by exact rdBtake hr rfl rfl) rfl (by decide)) ?_
        refine DRun.step rfl (fun τ hN hr => call_stepZ rfl (rdN hN (hn rfl)) rfl ymCo13 (.cons (by exact rdS hr rfl rfl) (.agg (.cons (.v _) (.cons (.v _) .nil))) (.nil)) (toBkZ _ (by assumption)) rfl (by exact rdNoRefs hr rfl rfl)) ?_
        refine DRun.step rfl (fun τ hN hr => call_step1 rfl (rdN hN (hn rfl)) rfl ymCo15 (.cons (by exact rdS hr rfl rfl) (.agg (.cons (.ref _ (by exact rdA hr rfl rfl)) (.cons (.refz _ (by exact rdA hr rfl rfl) (fz_bts _ _)) .nil))) (.cons (by exact rdS hr rfl rfl) (.agg (.cons (.v _) (.cons (.v _) .nil))) (.nil))) (eqBkI _ _) rfl) ?_
        refine DRun.step rfl (fun τ hN hr => step_not rfl (rdN hN (hn rfl)) rfl (by exact rdS hr rfl rfl)) ?_
        refine DRun.nil ?_
        refine AWp.cond rfl (fun c4 => ?_) (fun c4 => ?_)
        · try simp only [nrm] at c4
          refine AWp.seq (AWp.region ?_)
          refine ARun.step rfl (step_assignV rfl (hn rfl) rfl rfl) ?_
          refine ARun.nil ?_
          refine AWp.ret ?_
          refine RetIs.sc (.inr rfl) rfl rfl ?_
          refine congrArg T.bool ?_
          first
            | rfl
            | (exfalso; omega)
            | (exfalso; simp [eqBk_refl, eqL_refl, strEq_refl, eqBt_refl] at *; done)
            | (exfalso; simp [eqBk_refl, eqL_refl, strEq_refl, eqBt_refl] at *; omega)
        · try simp only [nrm] at c4
          refine AWp.skip ?_
          refine AWp.seq (AWp.region ?_)
          refine ARun.step rfl (step_assignV rfl (hn rfl) rfl rfl) ?_
          refine ARun.nil ?_
          refine AWp.seq (AWp.region ?_)
          refine ARun.step rfl (step_loadS_b rfl (hn rfl) rfl ymSt29 rfl rfl rfl (by decide)) ?_
          refine ARun.step rfl (step_moveV rfl (hn rfl) rfl rfl) ?_
          refine ARun.step rfl (mcall_roots (L := [(⟨.arr 32 0, []⟩, 0), (⟨.arr 32 1, []⟩, 1)]) (TL := [(32, 0, _), (32, 1, _)]) rfl (hn rfl) rfl ymCo16 rfl (.cons rfl (.agg (.cons (.rw _ rfl rfl rfl) (.cons (.rw _ rfl rfl rfl) (.nil _)))) (.cons rfl (.one (.v (.refl _))) (.nil _))) (markBk p 1 (by omega) (by omega)) rfl (.cons (i := 0) (j := 0) rfl rfl rfl rfl rfl rfl (.cons (i := 0) (j := 1) rfl rfl rfl rfl rfl rfl .nil))) ?_
          refine ARun.step rfl (step_assignV rfl (hn rfl) rfl rfl) ?_
          refine ARun.nil ?_
          refine AWp.seq ?_
          refine AWp.seq (AWp.region ?_)
          refine ARun.step rfl (step_moveV rfl (hn rfl) rfl rfl) ?_
          refine ARun.step rfl (step_lss rfl (hn rfl) rfl rfl rfl) ?_
          refine ARun.step rfl (step_moveV rfl (hn rfl) rfl rfl) ?_
          refine guardS rfl rfl rfl rfl (hn rfl) (fun g1 g2 => step_loadS_b rfl (hn rfl) rfl ymSt29 rfl rfl rfl (by decide)) ?_
          refine guardS rfl rfl rfl rfl (hn rfl) (fun g1 g2 => step_loadS_b rfl (hn rfl) rfl ymSt29 rfl rfl rfl (by decide)) ?_
          refine guardS rfl rfl rfl rfl (hn rfl) (fun g1 g2 => call_step1 rfl (hn rfl) rfl ymCo15 (.cons (ev_true rfl (by exact flag2 g1 g2)) (.agg (.cons (.ref _ rfl) (.cons (.refz _ rfl (fz_bts _ _)) .nil))) (.cons (ev_true rfl (by exact flag2 g1 g2)) (.agg (.cons (.v _) (.cons (.v _) .nil))) (.nil))) (eqBkI _ _) rfl) ?_
          refine guardS rfl rfl rfl rfl (hn rfl) (fun g1 g2 => step_not rfl (hn rfl) rfl (ev_true rfl (by exact flag2 g1 g2))) ?_
          refine ARun.step rfl (step_or rfl (hn rfl) rfl rfl rfl (fun h => (by exact flag1 h))) ?_
          refine ARun.step rfl (step_moveV rfl (hn rfl) rfl rfl) ?_
          refine guardS rfl rfl rfl rfl (hn rfl) (fun g1 g2 => step_moveV rfl (hn rfl) rfl rfl) ?_
          refine guardS rfl rfl rfl rfl (hn rfl) (fun g1 g2 => step_moveV rfl (hn rfl) rfl rfl) ?_
          refine guardS rfl rfl rfl rfl (hn rfl) (fun g1 g2 => step_neq rfl (hn rfl) rfl (ev_true rfl (by exact flag2 g1 g2)) (ev_true rfl (by exact flag2 g1 g2))) ?_
          refine ARun.step rfl (step_or rfl (hn rfl) rfl rfl rfl (fun h => (by exact flag1 h))) ?_
          refine ARun.nil ?_
          refine AWp.cond rfl (fun c5 => ?_) (fun c5 => ?_)
          · try simp only [nrm] at c5
            refine AWp.seq (AWp.region ?_)
            refine ARun.step rfl (step_assignV rfl (hn rfl) rfl rfl) ?_
            refine ARun.nil ?_
            refine AWp.ret ?_
            refine RetIs.sc (.inr rfl) rfl rfl ?_
            refine congrArg T.bool ?_
            first
              | rfl
              | (exfalso; omega)
              | (exfalso; simp [eqBk_refl, eqL_refl, strEq_refl, eqBt_refl] at *; done)
              | (exfalso; simp [eqBk_refl, eqL_refl, strEq_refl, eqBt_refl] at *; omega)
          · try simp only [nrm] at c5
            refine AWp.skip ?_
            refine AWp.seq (AWp.region ?_)
            refine ARun.step rfl (step_assignV rfl (hn rfl) rfl rfl) ?_
            refine ARun.nil ?_
            refine AWp.seq (AWp.region ?_)
            refine ARun.step rfl (step_loadS_b rfl (hn rfl) rfl ymSt29 rfl rfl rfl (by decide)) ?_
            refine ARun.step rfl (step_moveV rfl (hn rfl) rfl rfl) ?_
            refine ARun.step rfl (mcall_roots (L := [(⟨.arr 36 0, []⟩, 0), (⟨.arr 36 1, []⟩, 1)]) (TL := [(36, 0, _), (36, 1, _)]) rfl (hn rfl) rfl ymCo16 rfl (.cons rfl (.agg (.cons (.rw _ rfl rfl rfl) (.cons (.rw _ rfl rfl rfl) (.nil _)))) (.cons rfl (.one (.v (.refl _))) (.nil _))) (markBk (leaveR p s).1 1 (by omega) (by omega)) rfl (.cons (i := 0) (j := 0) rfl rfl rfl rfl rfl rfl (.cons (i := 0) (j := 1) rfl rfl rfl rfl rfl rfl .nil))) ?_
            refine ARun.step rfl (step_assignV rfl (hn rfl) rfl rfl) ?_
            refine ARun.nil ?_
            refine AWp.seq (AWp.region ?_)
            refine ARun.step rfl (step_assignV rfl (hn rfl) rfl rfl) ?_
            refine ARun.nil ?_
            refine AWp.seq (AWp.region ?_)
            refine ARun.step rfl (step_loadS_b rfl (hn rfl) rfl ymSt29 rfl rfl rfl (by decide)) ?_
            refine ARun.step rfl (step_moveV rfl (hn rfl) rfl rfl) ?_
            refine ARun.step rfl (call_step1 rfl (hn rfl) rfl ymCo17 (.cons rfl (.agg (.cons (.ref _ rfl) (.cons (.ref _ rfl) .nil))) (.cons rfl (.one (.v _)) (.nil))) (heldBk (leaveR p s).1 1 (by omega) (by omega)) rfl) ?_
            refine ARun.step rfl (step_assignV rfl (hn rfl) rfl rfl) ?_
            refine ARun.nil ?_
            refine AWp.seq ?_
            refine AWp.seq (AWp.region ?_)
            refine ARun.step rfl (step_moveV rfl (hn rfl) rfl rfl) ?_
            refine ARun.step rfl (step_lss rfl (hn rfl) rfl rfl rfl) ?_
            refine ARun.nil ?_
            refine AWp.cond rfl (fun c6 => ?_) (fun c6 => ?_)
            · try simp only [nrm] at c6
              refine AWp.seq (AWp.region ?_)
              refine ARun.step rfl (step_assignV rfl (hn rfl) rfl rfl) ?_
              refine ARun.nil ?_
              refine AWp.ret ?_
              refine RetIs.sc (.inr rfl) rfl rfl ?_
              refine congrArg T.bool ?_
              first
                | rfl
                | (exfalso; omega)
                | (exfalso; simp [eqBk_refl, eqL_refl, strEq_refl, eqBt_refl] at *; done)
                | (exfalso; simp [eqBk_refl, eqL_refl, strEq_refl, eqBt_refl] at *; omega)
            · try simp only [nrm] at c6
              refine AWp.skip ?_
              refine AWp.seq ?_
              refine AWp.seq (AWp.region ?_)
              refine ARun.step rfl (step_moveV rfl (hn rfl) rfl rfl) ?_
              refine ARun.step rfl (step_moveV rfl (hn rfl) rfl rfl) ?_
              refine ARun.step rfl (step_neq rfl (hn rfl) rfl rfl rfl) ?_
              refine ARun.nil ?_
              refine AWp.cond rfl (fun c7 => ?_) (fun c7 => ?_)
              · try simp only [nrm] at c7
                refine AWp.seq (AWp.region ?_)
                refine ARun.step rfl (step_assignV rfl (hn rfl) rfl rfl) ?_
                refine ARun.nil ?_
                refine AWp.ret ?_
                refine RetIs.sc (.inr rfl) rfl rfl ?_
                refine congrArg T.bool ?_
                first
                  | rfl
                  | (exfalso; omega)
                  | (exfalso; simp [eqBk_refl, eqL_refl, strEq_refl, eqBt_refl] at *; done)
                  | (exfalso; simp [eqBk_refl, eqL_refl, strEq_refl, eqBt_refl] at *; omega)
              · try simp only [nrm] at c7
                refine AWp.skip ?_
                refine AWp.seq (AWp.region ?_)
                refine ARun.step rfl (step_loadS_b rfl (hn rfl) rfl ymSt25 rfl rfl rfl (by decide)) ?_
                refine ARun.step rfl (call_stepZ rfl (hn rfl) rfl ymCo13 (.cons rfl (.agg (.cons (.v _) (.cons (.v _) .nil))) (.nil)) (toBkZ _ (by assumption)) rfl rfl) ?_
                refine ARun.step rfl (step_moveV rfl (hn rfl) rfl rfl) ?_
                refine ARun.step rfl (call_stepN rfl (hn rfl) rfl ymCo14 (.cons rfl (.agg (.cons (.v _) (.cons (.v _) .nil))) (.cons rfl (.one (.v _)) (.nil))) (leaveI _ _ hsm) rfl rfl) ?_
                refine ARun.step rfl (step_moveV rfl (hn rfl) rfl rfl) ?_
                refine ARun.step rfl (step_extract rfl (hn rfl) rfl rfl rfl (by intro l h; cases h)) ?_
                refine ARun.step rfl (step_extract rfl (hn rfl) rfl rfl rfl (by intro l h; cases h)) ?_
                refine ARun.step rfl (step_alloc_p rfl (hn rfl) rfl ymZs29) ?_
                refine ARun.step rfl (step_store_r rfl rfl ymCs29 rfl rfl rfl rfl rfl rfl rfl) ?_
                refine ARun.step rfl (step_assignV rfl (hn rfl) rfl rfl) ?_
                refine ARun.nil ?_
                refine AWp.seq ?_
                refine AWp.seq (AWp.region ?_)
                refine ARun.step rfl (step_loadS_b rfl (hn rfl) rfl ymSt29 rfl rfl rfl (by decide)) ?_
                refine ARun.step rfl (step_loadS_b rfl (hn rfl) rfl ymSt29 rfl rfl rfl (by decide)) ?_
                refine ARun.step rfl (call_step1 rfl (hn rfl) rfl ymCo15 (.cons rfl (.agg (.cons (.ref _ rfl) (.cons (.refz _ rfl (fz_bts _ _)) .nil))) (.cons rfl (.agg (.cons (.v _) (.cons (.v _) .nil))) (.nil))) (eqBkI _ _) rfl) ?_
                refine ARun.step rfl (step_not rfl (hn rfl) rfl rfl) ?_
                refine ARun.step rfl (step_moveV rfl (hn rfl) rfl rfl) ?_
                refine guardS rfl rfl rfl rfl (hn rfl) (fun g1 g2 => step_moveV rfl (hn rfl) rfl rfl) ?_
                refine guardS rfl rfl rfl rfl (hn rfl) (fun g1 g2 => step_moveV rfl (hn rfl) rfl rfl) ?_
                refine guardS rfl rfl rfl rfl (hn rfl) (fun g1 g2 => step_neq rfl (hn rfl) rfl (ev_true rfl (by exact flag2 g1 g2)) (ev_true rfl (by exact flag2 g1 g2))) ?_
                refine ARun.step rfl (step_or rfl (hn rfl) rfl rfl rfl (fun h => (by exact flag1 h))) ?_
                refine ARun.nil ?_
                refine AWp.cond rfl (fun c8 => ?_) (fun c8 => ?_)
                · try simp only [nrm] at c8
                  refine AWp.seq (AWp.region ?_)
                  refine ARun.step rfl (step_assignV rfl (hn rfl) rfl rfl) ?_
                  refine ARun.nil ?_
                  refine AWp.ret ?_
                  refine RetIs.sc (.inr rfl) rfl rfl ?_
                  refine congrArg T.bool ?_
                  first
                    | rfl
                    | (exfalso; omega)
                    | (exfalso; simp [eqBk_refl, eqL_refl, strEq_refl, eqBt_refl] at *; done)
                    | (exfalso; simp [eqBk_refl, eqL_refl, strEq_refl, eqBt_refl] at *; omega)
                · try simp only [nrm] at c8
                  refine AWp.skip ?_
                  refine AWp.seq (AWp.region ?_)
                  refine ARun.step rfl (step_assignV rfl (hn rfl) rfl rfl) ?_
                  refine ARun.nil ?_
                  refine AWp.seq (AWp.region ?_)
                  refine ARun.step rfl (step_loadS_b rfl (hn rfl) rfl ymSt29 rfl rfl rfl (by decide)) ?_
                  refine ARun.step rfl (step_moveV rfl (hn rfl) rfl rfl) ?_
                  refine ARun.step rfl (call_step1 rfl (hn rfl) rfl ymCo17 (.cons rfl (.agg (.cons (.ref _ rfl) (.cons (.ref _ rfl) .nil))) (.cons rfl (.one (.v _)) (.nil))) (heldBk (leaveR p s).1 1 (by omega) (by omega)) rfl) ?_
                  refine ARun.step rfl (step_assignV rfl (hn rfl) rfl rfl) ?_
                  refine ARun.nil ?_
                  refine AWp.seq ?_
                  refine AWp.seq (AWp.region ?_)
                  refine ARun.step rfl (step_moveV rfl (hn rfl) rfl rfl) ?_
                  refine ARun.step rfl (step_lss rfl (hn rfl) rfl rfl rfl) ?_
                  refine ARun.nil ?_
                  refine AWp.cond rfl (fun c9 => ?_) (fun c9 => ?_)
                  · try simp only [nrm] at c9
                    refine AWp.seq (AWp.region ?_)
                    refine ARun.step rfl (step_assignV rfl (hn rfl) rfl rfl) ?_
                    refine ARun.nil ?_
                    refine AWp.ret ?_
                    refine RetIs.sc (.inr rfl) rfl rfl ?_
                    refine congrArg T.bool ?_
                    first
                      | rfl
                      | (exfalso; omega)
                      | (exfalso; simp [eqBk_refl, eqL_refl, strEq_refl, eqBt_refl] at *; done)
                      | (exfalso; simp [eqBk_refl, eqL_refl, strEq_refl, eqBt_refl] at *; omega)
                  · try simp only [nrm] at c9
                    refine AWp.skip ?_
                    refine AWp.seq ?_
                    refine AWp.seq (AWp.region ?_)
                    refine ARun.step rfl (step_moveV rfl (hn rfl) rfl rfl) ?_
                    refine ARun.step rfl (step_moveV rfl (hn rfl) rfl rfl) ?_
                    refine ARun.step rfl (step_neq rfl (hn rfl) rfl rfl rfl) ?_
                    refine ARun.nil ?_
                    refine AWp.cond rfl (fun c10 => ?_) (fun c10 => ?_)
                    · try simp only [nrm] at c10
                      refine AWp.seq (AWp.region ?_)
                      refine ARun.step rfl (step_assignV rfl (hn rfl) rfl rfl) ?_
                      refine ARun.nil ?_
                      refine AWp.ret ?_
                      refine RetIs.sc (.inr rfl) rfl rfl ?_
                      refine congrArg T.bool ?_
                      first
                        | rfl
                        | (exfalso; omega)
                        | (exfalso; simp [eqBk_refl, eqL_refl, strEq_refl, eqBt_refl] at *; done)
                        | (exfalso; simp [eqBk_refl, eqL_refl, strEq_refl, eqBt_refl] at *; omega)
                    · try simp only [nrm] at c10
                      refine AWp.skip ?_
                      refine AWp.seq (AWp.region ?_)
                      refine ARun.step rfl (step_assignV rfl (hn rfl) rfl rfl) ?_
                      refine ARun.nil ?_
                      refine AWp.ret ?_
                      refine RetIs.sc (.inr rfl) rfl rfl ?_
                      refine congrArg T.bool ?_
                      first
                        | rfl
                        | (exfalso; omega)
                        | (exfalso; simp [eqBk_refl, eqL_refl, strEq_refl, eqBt_refl] at *; done)
                        | (exfalso; simp [eqBk_refl, eqL_refl, strEq_refl, eqBt_refl] at *; omega)

end Go.Proofs.Ytkmacjdigkaabaa
