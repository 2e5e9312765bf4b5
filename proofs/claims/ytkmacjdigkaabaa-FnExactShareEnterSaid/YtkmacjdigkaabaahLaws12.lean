/- Contracts of functions of the program, each met by its body; conditions stand in each statement. No condition. -/
import Derived.Test.YtkmacjdigkaabaahEnter
import Derived.Test.YtkmacjdigkaabaaProg
import Derived.KernelRfl
set_option linter.unusedVariables false
set_option linter.unusedSimpArgs false
set_option linter.unnecessarySimpa false
set_option linter.unusedSimpArgs false
set_option maxRecDepth 100000
namespace Go.Proofs.Ytkmacjdigkaabaa
open Go Go.Mh

theorem enterR_small {p : Bk} {s : Str} {l : List Str} (hs : smallBk p) (hl : l.length ≤ 1048576) : smallBk (enterR p s l).1 := by
  unfold enterR
  split
  · split
    · split
      · exact hs
      · split
        · exact hs
        · exact insBk_small hs hl (by omega)
    · exact hs
  · exact ⟨Nat.zero_le _, Nat.zero_le _, fun i hi => absurd hi (Nat.not_lt_zero i)⟩

theorem yoUs9 : Try.prog.underlying 9 = some .string := by kernel_rfl
theorem yoSt25 : structSz Try.prog 25 = some 2 := by kernel_rfl
theorem yoCo11 : callOk Try.prog 11 = true := by kernel_rfl
theorem yoCo18 : callOk Try.prog 18 = true := by kernel_rfl
theorem yoCo13 : callOk Try.prog 13 = true := by kernel_rfl
theorem yoCo20 : callOk Try.prog 20 = true := by kernel_rfl
theorem yoCo19 : callOk Try.prog 19 = true := by kernel_rfl
theorem yoZs29 : zeroSz Try.prog 29 = some 2 := by kernel_rfl
theorem yoCs29 : cellsSz Try.prog 29 = some (1 + 1) := by kernel_rfl
theorem yoSt29 : structSz Try.prog 29 = some 2 := by kernel_rfl
theorem yoCo21 : callOk Try.prog 21 = true := by kernel_rfl
theorem yoCo15 : callOk Try.prog 15 = true := by kernel_rfl
theorem yoMo : Try.prog.follows .mixedOrders = true := by kernel_rfl
theorem yoCo22 : callOk Try.prog 22 = true := by kernel_rfl
theorem yoCo16 : callOk Try.prog 16 = true := by kernel_rfl
theorem yoCo23 : callOk Try.prog 23 = true := by kernel_rfl
theorem yoCo17 : callOk Try.prog 17 = true := by kernel_rfl
set_option maxHeartbeats 1000000 in
theorem lawShareEnter (p : Bk) (s : Str) (l : List Str)  : ASpec Try.prog 4 [.agg (p.cells 115), .one (.str s), .one (strs l)] (.one (.bool true)) := by
  refine ASpec.body Try.func4 rfl [6] rfl 127 rfl rfl rfl ?_
  have hzb := szBk_le p 1048576
  refine AWp.strLe 1 rfl (fun hs => ?_)
  refine AWp.seq (AWp.region ?_)
  refine ARun.step rfl (step_box_p (m := 1) rfl (hn rfl) rfl rfl rfl rfl rfl) ?_
  refine ARun.step rfl (step_assignV rfl (hn rfl) rfl rfl) ?_
  refine ARun.nil ?_
  refine AWp.seq ?_
  refine AWp.seq (AWp.region ?_)
  refine ARun.step rfl (step_moveV rfl (hn rfl) rfl rfl) ?_
  refine ARun.step rfl (step_len_str rfl (hn rfl) rfl yoUs9 rfl) ?_
  refine ARun.step rfl (step_gtr rfl (hn rfl) rfl rfl rfl) ?_
  refine ARun.nil ?_
  refine AWp.cond rfl (fun c1 => ?_) (fun c1 => ?_)
  · try simp only [nrm] at c1
    refine AWp.seq (AWp.region ?_)
    refine ARun.step rfl (step_assignV rfl (hn rfl) rfl rfl) ?_
    refine ARun.nil ?_
    refine AWp.ret ?_
    refine RetIs.sc (.inr rfl) rfl rfl ?_
    refine congrArg T.bool ?_
    first
      | rfl
      | (exfalso; omega)
      | (exfalso; simp [eqBk_refl, eqL_refl, strEq_refl, eqBt_refl] at *; done)
      | (exfalso; simp [eqBk_refl, eqL_refl, strEq_refl, eqBt_refl] at *; omega)
  · try simp only [nrm] at c1
    refine AWp.skip ?_
    refine AWp.seq (AWp.region ?_)
    refine ARun.step rfl (step_assignV rfl (hn rfl) rfl rfl) ?_
    refine ARun.nil ?_
    refine AWp.seq (AWp.region ?_)
    refine ARun.step rfl (step_loadS_b rfl (hn rfl) rfl yoSt25 rfl rfl rfl (by decide)) ?_
    refine ARun.step rfl (step_moveV rfl (hn rfl) rfl rfl) ?_
    refine ARun.step rfl (call_step1 rfl (hn rfl) rfl yoCo11 (.cons rfl (.agg (.cons (.v _) (.cons (.v _) .nil))) (.cons rfl (.one (.v _)) (.nil))) (szBkI _ _ (by omega) (by omega)) rfl) ?_
    refine ARun.step rfl (step_assignV rfl (hn rfl) rfl rfl) ?_
    refine ARun.nil ?_
    refine AWp.seq ?_
    refine AWp.seq (AWp.region ?_)
    refine ARun.step rfl (step_moveV rfl (hn rfl) rfl rfl) ?_
    refine ARun.step rfl (step_lss rfl (hn rfl) rfl rfl rfl) ?_
    refine ARun.nil ?_
    refine AWp.cond rfl (fun c2 => ?_) (fun c2 => ?_)
    · try simp only [nrm] at c2
      refine AWp.seq (AWp.region ?_)
      refine ARun.step rfl (step_assignV rfl (hn rfl) rfl rfl) ?_
      refine ARun.nil ?_
      refine AWp.ret ?_
      refine RetIs.sc (.inr rfl) rfl rfl ?_
      refine congrArg T.bool ?_
      first
        | rfl
        | (exfalso; omega)
        | (exfalso; simp [eqBk_refl, eqL_refl, strEq_refl, eqBt_refl] at *; done)
        | (exfalso; simp [eqBk_refl, eqL_refl, strEq_refl, eqBt_refl] at *; omega)
    · try simp only [nrm] at c2
      have hsm := szBk_small (p := p) (by omega)
      have hct := cntTo_small hsm.2.2 p.bs.length (Nat.le_refl _)
      have hcn := cntTo_nn p.bs p.bs.length
      have hsm1 := hsm.1
      have hsm2 := hsm.2.1
      refine AWp.skip ?_
      refine AWp.seq (AWp.region ?_)
      refine ARun.step rfl (step_moveV rfl (hn rfl) rfl rfl) ?_
      refine ARun.step rfl (step_moveV rfl (hn rfl) rfl rfl) ?_
      refine ARun.step rfl (call_step1 rfl (hn rfl) rfl yoCo18 (.cons rfl (.one (.v _)) (.cons rfl (.one (.v _)) (.nil))) (szStrS _ _ (by omega) (by omega)) rfl) ?_
      refine ARun.step rfl (step_assignV rfl (hn rfl) rfl rfl) ?_
      refine ARun.nil ?_
      refine AWp.seq ?_
      refine AWp.seq (AWp.region ?_)
      refine ARun.step rfl (step_moveV rfl (hn rfl) rfl rfl) ?_
      refine ARun.step rfl (step_lss rfl (hn rfl) rfl rfl rfl) ?_
      refine ARun.nil ?_
      refine AWp.cond rfl (fun c3 => ?_) (fun c3 => ?_)
      · try simp only [nrm] at c3
        refine AWp.seq (AWp.region ?_)
        refine ARun.step rfl (step_assignV rfl (hn rfl) rfl rfl) ?_
        refine ARun.nil ?_
        refine AWp.ret ?_
        refine RetIs.sc (.inr rfl) rfl rfl ?_
        refine congrArg T.bool ?_
        first
          | rfl
          | (exfalso; omega)
          | (exfalso; simp [eqBk_refl, eqL_refl, strEq_refl, eqBt_refl] at *; done)
          | (exfalso; simp [eqBk_refl, eqL_refl, strEq_refl, eqBt_refl] at *; omega)
      · try simp only [nrm] at c3
        have hll0 := szL_len (f := szStr) (l := l) (by assumption)
        have hll : l.length ≤ 1048576 := by omega
        have hrs : smallBk (enterR p s l).1 := enterR_small hsm hll
        have hrs0 := (cntTo_small (hrs).2.2 ((enterR p s l).1).bs.length (Nat.le_refl _))
        have hrs1 := cntTo_nn ((enterR p s l).1).bs ((enterR p s l).1).bs.length
        have hrs2 := (hrs).1
        have hrs3 := (hrs).2.1
        refine AWp.skip ?_
        refine AWp.seq (AWp.region ?_)
        refine ARun.step rfl (step_loadS_b rfl (hn rfl) rfl yoSt25 rfl rfl rfl (by decide)) ?_
        refine ARun.step rfl (call_stepZ rfl (hn rfl) rfl yoCo13 (.cons rfl (.agg (.cons (.v _) (.cons (.v _) .nil))) (.nil)) (toBkZ _ (by assumption)) rfl rfl) ?_
        refine ARun.step rfl (step_moveV rfl (hn rfl) rfl rfl) ?_
        refine ARun.step rfl (step_moveV rfl (hn rfl) rfl rfl) ?_
        refine ARun.step rfl (call_stepZ rfl (hn rfl) rfl yoCo20 (.cons rfl (.one (.v _)) (.nil)) (toStrSZ _ (by assumption)) rfl rfl) ?_
        refine ARun.step rfl (call_stepN rfl (hn rfl) rfl yoCo19 (.cons rfl (.agg (.cons (.v _) (.cons (.v _) .nil))) (.cons rfl (.one (.v _)) (.cons rfl (.one (.v _)) (.nil)))) (enterS _ _ _ hsm hll) rfl rfl) ?_
        refine ARun.step rfl (step_moveV rfl (hn rfl) rfl rfl) ?_
        refine ARun.step rfl (step_extract rfl (hn rfl) rfl rfl rfl (by intro l h; cases h)) ?_
        refine ARun.step rfl (step_extract rfl (hn rfl) rfl rfl rfl (by intro l h; cases h)) ?_
        refine ARun.step rfl (step_alloc_p rfl (hn rfl) rfl yoZs29) ?_
        refine ARun.step rfl (step_store_r rfl rfl yoCs29 rfl rfl rfl rfl rfl rfl rfl) ?_
        refine ARun.step rfl (step_assignV rfl (hn rfl) rfl rfl) ?_
        refine ARun.nil ?_
        refine AWp.seq (AWp.region ?_)
        refine ARun.step rfl (step_loadS_b rfl (hn rfl) rfl yoSt25 rfl rfl rfl (by decide)) ?_
        refine ARun.step rfl (call_stepN rfl (hn rfl) rfl yoCo13 (.cons rfl (.agg (.cons (.v _) (.cons (.v _) .nil))) (.nil)) (toBk _ (by assumption)) rfl rfl) ?_
        refine ARun.step rfl (step_alloc_p rfl (hn rfl) rfl yoZs29) ?_
        refine ARun.step rfl (step_store_r rfl rfl yoCs29 rfl rfl rfl rfl rfl rfl rfl) ?_
        refine ARun.nil ?_
        refine AWp.seq (AWp.region ?_)
        refine ARun.step rfl (step_moveV rfl (hn rfl) rfl rfl) ?_
        refine ARun.step rfl (call_stepN rfl (hn rfl) rfl yoCo20 (.cons rfl (.one (.v _)) (.nil)) (toStrS _ (by assumption)) rfl rfl) ?_
        refine ARun.step rfl (step_assignV rfl (hn rfl) rfl rfl) ?_
        refine ARun.nil ?_
        refine AWp.seq (AWp.region ?_)
        refine ARun.step rfl (step_loadS_b rfl (hn rfl) rfl yoSt29 rfl rfl rfl (by decide)) ?_
        refine ARun.step rfl (step_moveV rfl (hn rfl) rfl rfl) ?_
        refine ARun.step rfl (step_moveV rfl (hn rfl) rfl rfl) ?_
        refine ARun.step rfl (call_stepC rfl (hn rfl) rfl yoCo21 (.cons rfl (.agg (.cons (.ref _ rfl) (.cons (.refz _ rfl (fz_bts _ _)) .nil))) (.cons rfl (.one (.v _)) (.cons rfl (.one (.ref _ rfl)) (.nil)))) (enterI _ _ _ hsm hll) rfl (CleanL.all (.cons (clean_strs _) (.cons (clean_btsO _ _) (.cons (.int _ _) .nil))))) ?_
        refine ARun.step rfl (step_moveV rfl (hn rfl) rfl rfl) ?_
        refine ARun.step rfl (step_extract rfl (hn rfl) rfl rfl rfl (by intro l h; cases h)) ?_
        refine ARun.step rfl (step_extract rfl (hn rfl) rfl rfl rfl (by intro l h; cases h)) ?_
        refine ARun.step rfl (step_alloc_p rfl (hn rfl) rfl yoZs29) ?_
        refine ARun.step rfl (step_store_r rfl rfl yoCs29 rfl rfl rfl rfl rfl rfl rfl) ?_
        refine ARun.step rfl (step_assignV rfl (hn rfl) rfl rfl) ?_
        refine ARun.nil ?_
        refine AWp.seq ?_
        refine AWp.seq (AWp.region ?_)
        refine ARun.step rfl (step_loadS_b rfl (hn rfl) rfl yoSt29 rfl rfl rfl (by decide)) ?_
        refine ARun.step rfl (step_loadS_b rfl (hn rfl) rfl yoSt29 rfl rfl rfl (by decide)) ?_
        refine ARun.step rfl (call_step1 rfl (hn rfl) rfl yoCo15 (.cons rfl (.agg (.cons (.ref _ rfl) (.cons (.refz _ rfl (fz_bts _ _)) .nil))) (.cons rfl (.agg (.cons (.ref _ rfl) (.cons (.refz _ rfl (fz_bts _ _)) .nil))) (.nil))) (eqBkI _ _) rfl) ?_
        refine ARun.step rfl (step_not rfl (hn rfl) rfl rfl) ?_
        refine ARun.step rfl (step_moveV rfl (hn rfl) rfl rfl) ?_
        refine guardS rfl rfl rfl rfl (hn rfl) (fun g1 g2 => step_moveV rfl (hn rfl) rfl rfl) ?_
        refine guardS rfl rfl rfl rfl (hn rfl) (fun g1 g2 => step_moveV rfl (hn rfl) rfl rfl) ?_
        refine guardS rfl rfl rfl rfl (hn rfl) (fun g1 g2 => step_neq rfl (hn rfl) rfl (ev_true rfl (by exact flag2 g1 g2)) (ev_true rfl (by exact flag2 g1 g2))) ?_
        refine ARun.step rfl (step_or rfl (hn rfl) rfl rfl rfl (fun h => (by exact flag1 h))) ?_
        refine ARun.nil ?_
        refine AWp.cond rfl (fun c4 => ?_) (fun c4 => ?_)
        · try simp only [nrm] at c4
          refine AWp.seq (AWp.region ?_)
          refine ARun.step rfl (step_assignV rfl (hn rfl) rfl rfl) ?_
          refine ARun.nil ?_
          refine AWp.ret ?_
          refine RetIs.sc (.inr rfl) rfl rfl ?_
          refine congrArg T.bool ?_
          first
            | rfl
            | (exfalso; omega)
            | (exfalso; simp [eqBk_refl, eqL_refl, strEq_refl, eqBt_refl] at *; done)
            | (exfalso; simp [eqBk_refl, eqL_refl, strEq_refl, eqBt_refl] at *; omega)
        · try simp only [nrm] at c4
          refine AWp.skip ?_
          refine AWp.seq ?_
          refine AWp.seq (AWp.draw [⟨[.s 10, .b 10], [.s 61], false⟩, ⟨[.s 3, .b 3], [.s 62], false⟩, ⟨[.s 62], [.s 63], false⟩, ⟨[.s 63, .a 42 1, .a 42 0, .s 61], [.s 64], false⟩, ⟨[.s 64], [.s 65], false⟩] yoMo rfl ?_)
          refine DRun.step rfl (fun τ hN hr => step_loadS_b rfl (rdN hN (hn rfl)) rfl yoSt29 (by exact rdS hr rfl rfl) (by exact rdBtake hr rfl rfl) rfl (by decide)) ?_
          refine DRun.step rfl (fun τ hN hr => step_loadS_b rfl (rdN hN (hn rfl)) rfl yoSt25 (by exact rdS hr rfl rfl) (by exact rdBtake hr rfl rfl) rfl (by decide)) ?_
          refine DRun.step rfl (fun τ hN hr => call_stepZ rfl (rdN hN (hn rfl)) rfl yoCo13 (.cons (by exact rdS hr rfl rfl) (.agg (.cons (.v _) (.cons (.v _) .nil))) (.nil)) (toBkZ _ (by assumption)) rfl (by exact rdNoRefs hr rfl rfl)) ?_
          refine DRun.step rfl (fun τ hN hr => call_step1 rfl (rdN hN (hn rfl)) rfl yoCo15 (.cons (by exact rdS hr rfl rfl) (.agg (.cons (.ref _ (by exact rdA hr rfl rfl)) (.cons (.refz _ (by exact rdA hr rfl rfl) (fz_bts _ _)) .nil))) (.cons (by exact rdS hr rfl rfl) (.agg (.cons (.v _) (.cons (.v _) .nil))) (.nil))) (eqBkI _ _) rfl) ?_
          refine DRun.step rfl (fun τ hN hr => step_not rfl (rdN hN (hn rfl)) rfl (by exact rdS hr rfl rfl)) ?_
          refine DRun.nil ?_
          refine AWp.cond rfl (fun c5 => ?_) (fun c5 => ?_)
          · try simp only [nrm] at c5
            refine AWp.seq (AWp.region ?_)
            refine ARun.step rfl (step_assignV rfl (hn rfl) rfl rfl) ?_
            refine ARun.nil ?_
            refine AWp.ret ?_
            refine RetIs.sc (.inr rfl) rfl rfl ?_
            refine congrArg T.bool ?_
            first
              | rfl
              | (exfalso; omega)
              | (exfalso; simp [eqBk_refl, eqL_refl, strEq_refl, eqBt_refl] at *; done)
              | (exfalso; simp [eqBk_refl, eqL_refl, strEq_refl, eqBt_refl] at *; omega)
          · try simp only [nrm] at c5
            refine AWp.skip ?_
            refine AWp.seq ?_
            refine AWp.seq (AWp.region ?_)
            refine ARun.step rfl (step_moveV rfl (hn rfl) rfl rfl) ?_
            refine ARun.step rfl (step_moveV rfl (hn rfl) rfl rfl) ?_
            refine ARun.step rfl (call_stepZ rfl (hn rfl) rfl yoCo20 (.cons rfl (.one (.v _)) (.nil)) (toStrSZ _ (by assumption)) rfl rfl) ?_
            refine ARun.step rfl (call_step1 rfl (hn rfl) rfl yoCo22 (.cons rfl (.one (.ref _ rfl)) (.cons rfl (.one (.v _)) (.nil))) (eqStrS _ _) rfl) ?_
            refine ARun.step rfl (step_not rfl (hn rfl) rfl rfl) ?_
            refine ARun.nil ?_
            refine AWp.cond rfl (fun c6 => ?_) (fun c6 => ?_)
            · try simp only [nrm] at c6
              refine AWp.seq (AWp.region ?_)
              refine ARun.step rfl (step_assignV rfl (hn rfl) rfl rfl) ?_
              refine ARun.nil ?_
              refine AWp.ret ?_
              refine RetIs.sc (.inr rfl) rfl rfl ?_
              refine congrArg T.bool ?_
              first
                | rfl
                | (exfalso; omega)
                | (exfalso; simp [eqBk_refl, eqL_refl, strEq_refl, eqBt_refl] at *; done)
                | (exfalso; simp [eqBk_refl, eqL_refl, strEq_refl, eqBt_refl] at *; omega)
            · try simp only [nrm] at c6
              refine AWp.skip ?_
              refine AWp.seq (AWp.region ?_)
              refine ARun.step rfl (step_assignV rfl (hn rfl) rfl rfl) ?_
              refine ARun.nil ?_
              refine AWp.seq (AWp.region ?_)
              refine ARun.step rfl (step_loadS_b rfl (hn rfl) rfl yoSt29 rfl rfl rfl (by decide)) ?_
              refine ARun.step rfl (step_moveV rfl (hn rfl) rfl rfl) ?_
              refine ARun.step rfl (mcall_roots (L := [(⟨.arr 42 0, []⟩, 0), (⟨.arr 42 1, []⟩, 1)]) (TL := [(42, 0, _), (42, 1, _)]) rfl (hn rfl) rfl yoCo16 rfl (.cons rfl (.agg (.cons (.rw _ rfl rfl rfl) (.cons (.rw _ rfl rfl rfl) (.nil _)))) (.cons rfl (.one (.v (.refl _))) (.nil _))) (markBk p 1 (by omega) (by omega)) rfl (.cons (i := 0) (j := 0) rfl rfl rfl rfl rfl rfl (.cons (i := 0) (j := 1) rfl rfl rfl rfl rfl rfl .nil))) ?_
              refine ARun.step rfl (step_assignV rfl (hn rfl) rfl rfl) ?_
              refine ARun.nil ?_
              refine AWp.seq (AWp.region ?_)
              refine ARun.step rfl (step_moveV rfl (hn rfl) rfl rfl) ?_
              refine ARun.step rfl (step_moveV rfl (hn rfl) rfl rfl) ?_
              refine ARun.step rfl (mcall_roots (L := [(⟨.arr 44 0, []⟩, 0)]) (TL := [(44, 0, _)]) rfl (hn rfl) rfl yoCo23 rfl (.cons rfl (.one (.rw _ rfl rfl rfl)) (.cons rfl (.one (.v (.refl _))) (.nil _))) (markStrS l _ (by omega) (by omega)) rfl (.cons (i := 0) (j := 0) rfl rfl rfl rfl rfl rfl .nil)) ?_
              refine ARun.step rfl (step_assignV rfl (hn rfl) rfl rfl) ?_
              refine ARun.nil ?_
              refine AWp.seq ?_
              refine AWp.seq (AWp.region ?_)
              refine ARun.step rfl (step_moveV rfl (hn rfl) rfl rfl) ?_
              refine ARun.step rfl (step_lss rfl (hn rfl) rfl rfl rfl) ?_
              refine ARun.step rfl (step_moveV rfl (hn rfl) rfl rfl) ?_
              refine guardS rfl rfl rfl rfl (hn rfl) (fun g1 g2 => step_loadS_b rfl (hn rfl) rfl yoSt29 rfl rfl rfl (by decide)) ?_
              refine guardS rfl rfl rfl rfl (hn rfl) (fun g1 g2 => step_loadS_b rfl (hn rfl) rfl yoSt29 rfl rfl rfl (by decide)) ?_
              refine guardS rfl rfl rfl rfl (hn rfl) (fun g1 g2 => call_step1 rfl (hn rfl) rfl yoCo15 (.cons (ev_true rfl (by exact flag2 g1 g2)) (.agg (.cons (.ref _ rfl) (.cons (.refz _ rfl (fz_bts _ _)) .nil))) (.cons (ev_true rfl (by exact flag2 g1 g2)) (.agg (.cons (.ref _ rfl) (.cons (.refz _ rfl (fz_bts _ _)) .nil))) (.nil))) (eqBkI _ _) rfl) ?_
              refine guardS rfl rfl rfl rfl (hn rfl) (fun g1 g2 => step_not rfl (hn rfl) rfl (ev_true rfl (by exact flag2 g1 g2))) ?_
              refine ARun.step rfl (step_or rfl (hn rfl) rfl rfl rfl (fun h => (by exact flag1 h))) ?_
              refine ARun.step rfl (step_moveV rfl (hn rfl) rfl rfl) ?_
              refine guardS rfl rfl rfl rfl (hn rfl) (fun g1 g2 => step_moveV rfl (hn rfl) rfl rfl) ?_
              refine guardS rfl rfl rfl rfl (hn rfl) (fun g1 g2 => step_moveV rfl (hn rfl) rfl rfl) ?_
              refine guardS rfl rfl rfl rfl (hn rfl) (fun g1 g2 => step_neq rfl (hn rfl) rfl (ev_true rfl (by exact flag2 g1 g2)) (ev_true rfl (by exact flag2 g1 g2))) ?_
              refine ARun.step rfl (step_or rfl (hn rfl) rfl rfl rfl (fun h => (by exact flag1 h))) ?_
              refine ARun.nil ?_
              refine AWp.cond rfl (fun c7 => ?_) (fun c7 => ?_)
              · try simp only [nrm] at c7
                refine AWp.seq (AWp.region ?_)
                refine ARun.step rfl (step_assignV rfl (hn rfl) rfl rfl) ?_
                refine ARun.nil ?_
                refine AWp.ret ?_
                refine RetIs.sc (.inr rfl) rfl rfl ?_
                refine congrArg T.bool ?_
                first
                  | rfl
                  | (exfalso; omega)
                  | (exfalso; simp [eqBk_refl, eqL_refl, strEq_refl, eqBt_refl] at *; done)
                  | (exfalso; simp [eqBk_refl, eqL_refl, strEq_refl, eqBt_refl] at *; omega)
              · try simp only [nrm] at c7
                refine AWp.skip ?_
                refine AWp.seq (AWp.region ?_)
                refine ARun.step rfl (step_assignV rfl (hn rfl) rfl rfl) ?_
                refine ARun.nil ?_
                refine AWp.seq (AWp.region ?_)
                refine ARun.step rfl (step_loadS_b rfl (hn rfl) rfl yoSt29 rfl rfl rfl (by decide)) ?_
                refine ARun.step rfl (step_moveV rfl (hn rfl) rfl rfl) ?_
                refine ARun.step rfl (mcall_roots (L := [(⟨.arr 49 0, []⟩, 0), (⟨.arr 49 1, []⟩, 1)]) (TL := [(49, 0, _), (49, 1, _)]) rfl (hn rfl) rfl yoCo16 rfl (.cons rfl (.agg (.cons (.rw _ rfl rfl rfl) (.cons (.rw _ rfl rfl rfl) (.nil _)))) (.cons rfl (.one (.v (.refl _))) (.nil _))) (markBk (enterR p s l).1 1 (by omega) (by omega)) rfl (.cons (i := 0) (j := 0) rfl rfl rfl rfl rfl rfl (.cons (i := 0) (j := 1) rfl rfl rfl rfl rfl rfl .nil))) ?_
                refine ARun.step rfl (step_assignV rfl (hn rfl) rfl rfl) ?_
                refine ARun.nil ?_
                refine AWp.seq (AWp.region ?_)
                refine ARun.step rfl (step_assignV rfl (hn rfl) rfl rfl) ?_
                refine ARun.nil ?_
                refine AWp.seq (AWp.region ?_)
                refine ARun.step rfl (step_loadS_b rfl (hn rfl) rfl yoSt29 rfl rfl rfl (by decide)) ?_
                refine ARun.step rfl (step_moveV rfl (hn rfl) rfl rfl) ?_
                refine ARun.step rfl (call_step1 rfl (hn rfl) rfl yoCo17 (.cons rfl (.agg (.cons (.ref _ rfl) (.cons (.ref _ rfl) .nil))) (.cons rfl (.one (.v _)) (.nil))) (heldBk (enterR p s l).1 1 (by omega) (by omega)) rfl) ?_
                refine ARun.step rfl (step_assignV rfl (hn rfl) rfl rfl) ?_
                refine ARun.nil ?_
                refine AWp.seq ?_
                refine AWp.seq (AWp.region ?_)
                refine ARun.step rfl (step_moveV rfl (hn rfl) rfl rfl) ?_
                refine ARun.step rfl (step_lss rfl (hn rfl) rfl rfl rfl) ?_
                refine ARun.nil ?_
                refine AWp.cond rfl (fun c8 => ?_) (fun c8 => ?_)
                · try simp only [nrm] at c8
                  refine AWp.seq (AWp.region ?_)
                  refine ARun.step rfl (step_assignV rfl (hn rfl) rfl rfl) ?_
                  refine ARun.nil ?_
                  refine AWp.ret ?_
                  refine RetIs.sc (.inr rfl) rfl rfl ?_
                  refine congrArg T.bool ?_
                  first
                    | rfl
                    | (exfalso; omega)
                    | (exfalso; simp [eqBk_refl, eqL_refl, strEq_refl, eqBt_refl] at *; done)
                    | (exfalso; simp [eqBk_refl, eqL_refl, strEq_refl, eqBt_refl] at *; omega)
                · try simp only [nrm] at c8
                  refine AWp.skip ?_
                  refine AWp.seq ?_
                  refine AWp.seq (AWp.region ?_)
                  refine ARun.step rfl (step_moveV rfl (hn rfl) rfl rfl) ?_
                  refine ARun.step rfl (step_moveV rfl (hn rfl) rfl rfl) ?_
                  refine ARun.step rfl (step_neq rfl (hn rfl) rfl rfl rfl) ?_
                  refine ARun.nil ?_
                  refine AWp.cond rfl (fun c9 => ?_) (fun c9 => ?_)
                  · try simp only [nrm] at c9
                    refine AWp.seq (AWp.region ?_)
                    refine ARun.step rfl (step_assignV rfl (hn rfl) rfl rfl) ?_
                    refine ARun.nil ?_
                    refine AWp.ret ?_
                    refine RetIs.sc (.inr rfl) rfl rfl ?_
                    refine congrArg T.bool ?_
                    first
                      | rfl
                      | (exfalso; omega)
                      | (exfalso; simp [eqBk_refl, eqL_refl, strEq_refl, eqBt_refl] at *; done)
                      | (exfalso; simp [eqBk_refl, eqL_refl, strEq_refl, eqBt_refl] at *; omega)
                  · try simp only [nrm] at c9
                    refine AWp.skip ?_
                    refine AWp.seq (AWp.region ?_)
                    refine ARun.step rfl (step_loadS_b rfl (hn rfl) rfl yoSt25 rfl rfl rfl (by decide)) ?_
                    refine ARun.step rfl (call_stepZ rfl (hn rfl) rfl yoCo13 (.cons rfl (.agg (.cons (.v _) (.cons (.v _) .nil))) (.nil)) (toBkZ _ (by assumption)) rfl rfl) ?_
                    refine ARun.step rfl (step_moveV rfl (hn rfl) rfl rfl) ?_
                    refine ARun.step rfl (step_moveV rfl (hn rfl) rfl rfl) ?_
                    refine ARun.step rfl (call_stepZ rfl (hn rfl) rfl yoCo20 (.cons rfl (.one (.v _)) (.nil)) (toStrSZ _ (by assumption)) rfl rfl) ?_
                    refine ARun.step rfl (call_stepN rfl (hn rfl) rfl yoCo21 (.cons rfl (.agg (.cons (.v _) (.cons (.v _) .nil))) (.cons rfl (.one (.v _)) (.cons rfl (.one (.v _)) (.nil)))) (enterI _ _ _ hsm hll) rfl rfl) ?_
                    refine ARun.step rfl (step_moveV rfl (hn rfl) rfl rfl) ?_
                    refine ARun.step rfl (step_extract rfl (hn rfl) rfl rfl rfl (by intro l h; cases h)) ?_
                    refine ARun.step rfl (step_extract rfl (hn rfl) rfl rfl rfl (by intro l h; cases h)) ?_
                    refine ARun.step rfl (step_alloc_p rfl (hn rfl) rfl yoZs29) ?_
                    refine ARun.step rfl (step_store_r rfl rfl yoCs29 rfl rfl rfl rfl rfl rfl rfl) ?_
                    refine ARun.step rfl (step_assignV rfl (hn rfl) rfl rfl) ?_
                    refine ARun.nil ?_
                    refine AWp.seq ?_
                    refine AWp.seq (AWp.region ?_)
                    refine ARun.step rfl (step_loadS_b rfl (hn rfl) rfl yoSt29 rfl rfl rfl (by decide)) ?_
                    refine ARun.step rfl (step_loadS_b rfl (hn rfl) rfl yoSt29 rfl rfl rfl (by decide)) ?_
                    refine ARun.step rfl (call_step1 rfl (hn rfl) rfl yoCo15 (.cons rfl (.agg (.cons (.ref _ rfl) (.cons (.refz _ rfl (fz_bts _ _)) .nil))) (.cons rfl (.agg (.cons (.ref _ rfl) (.cons (.refz _ rfl (fz_bts _ _)) .nil))) (.nil))) (eqBkI _ _) rfl) ?_
                    refine ARun.step rfl (step_not rfl (hn rfl) rfl rfl) ?_
                    refine ARun.step rfl (step_moveV rfl (hn rfl) rfl rfl) ?_
                    refine guardS rfl rfl rfl rfl (hn rfl) (fun g1 g2 => step_moveV rfl (hn rfl) rfl rfl) ?_
                    refine guardS rfl rfl rfl rfl (hn rfl) (fun g1 g2 => step_moveV rfl (hn rfl) rfl rfl) ?_
                    refine guardS rfl rfl rfl rfl (hn rfl) (fun g1 g2 => step_neq rfl (hn rfl) rfl (ev_true rfl (by exact flag2 g1 g2)) (ev_true rfl (by exact flag2 g1 g2))) ?_
                    refine ARun.step rfl (step_or rfl (hn rfl) rfl rfl rfl (fun h => (by exact flag1 h))) ?_
                    refine ARun.nil ?_
                    refine AWp.cond rfl (fun c10 => ?_) (fun c10 => ?_)
                    · try simp only [nrm] at c10
                      refine AWp.seq (AWp.region ?_)
                      refine ARun.step rfl (step_assignV rfl (hn rfl) rfl rfl) ?_
                      refine ARun.nil ?_
                      refine AWp.ret ?_
                      refine RetIs.sc (.inr rfl) rfl rfl ?_
                      refine congrArg T.bool ?_
                      first
                        | rfl
                        | (exfalso; omega)
                        | (exfalso; simp [eqBk_refl, eqL_refl, strEq_refl, eqBt_refl] at *; done)
                        | (exfalso; simp [eqBk_refl, eqL_refl, strEq_refl, eqBt_refl] at *; omega)
                    · try simp only [nrm] at c10
                      refine AWp.skip ?_
                      refine AWp.seq (AWp.region ?_)
                      refine ARun.step rfl (step_assignV rfl (hn rfl) rfl rfl) ?_
                      refine ARun.nil ?_
                      refine AWp.seq (AWp.region ?_)
                      refine ARun.step rfl (step_loadS_b rfl (hn rfl) rfl yoSt29 rfl rfl rfl (by decide)) ?_
                      refine ARun.step rfl (step_moveV rfl (hn rfl) rfl rfl) ?_
                      refine ARun.step rfl (call_step1 rfl (hn rfl) rfl yoCo17 (.cons rfl (.agg (.cons (.ref _ rfl) (.cons (.ref _ rfl) .nil))) (.cons rfl (.one (.v _)) (.nil))) (heldBk (enterR p s l).1 1 (by omega) (by omega)) rfl) ?_
                      refine ARun.step rfl (step_assignV rfl (hn rfl) rfl rfl) ?_
                      refine ARun.nil ?_
                      refine AWp.seq ?_
                      refine AWp.seq (AWp.region ?_)
                      refine ARun.step rfl (step_moveV rfl (hn rfl) rfl rfl) ?_
                      refine ARun.step rfl (step_lss rfl (hn rfl) rfl rfl rfl) ?_
                      refine ARun.nil ?_
                      refine AWp.cond rfl (fun c11 => ?_) (fun c11 => ?_)
                      · try simp only [nrm] at c11
                        refine AWp.seq (AWp.region ?_)
                        refine ARun.step rfl (step_assignV rfl (hn rfl) rfl rfl) ?_
                        refine ARun.nil ?_
                        refine AWp.ret ?_
                        refine RetIs.sc (.inr rfl) rfl rfl ?_
                        refine congrArg T.bool ?_
                        first
                          | rfl
                          | (exfalso; omega)
                          | (exfalso; simp [eqBk_refl, eqL_refl, strEq_refl, eqBt_refl] at *; done)
                          | (exfalso; simp [eqBk_refl, eqL_refl, strEq_refl, eqBt_refl] at *; omega)
                      · try simp only [nrm] at c11
                        refine AWp.skip ?_
                        refine AWp.seq ?_
                        refine AWp.seq (AWp.region ?_)
                        refine ARun.step rfl (step_moveV rfl (hn rfl) rfl rfl) ?_
                        refine ARun.step rfl (step_moveV rfl (hn rfl) rfl rfl) ?_
                        refine ARun.step rfl (step_neq rfl (hn rfl) rfl rfl rfl) ?_
                        refine ARun.nil ?_
                        refine AWp.cond rfl (fun c12 => ?_) (fun c12 => ?_)
                        · try simp only [nrm] at c12
                          refine AWp.seq (AWp.region ?_)
                          refine ARun.step rfl (step_assignV rfl (hn rfl) rfl rfl) ?_
                          refine ARun.nil ?_
                          refine AWp.ret ?_
                          refine RetIs.sc (.inr rfl) rfl rfl ?_
                          refine congrArg T.bool ?_
                          first
                            | rfl
                            | (exfalso; omega)
                            | (exfalso; simp [eqBk_refl, eqL_refl, strEq_refl, eqBt_refl] at *; done)
                            | (exfalso; simp [eqBk_refl, eqL_refl, strEq_refl, eqBt_refl] at *; omega)
                        · try simp only [nrm] at c12
                          refine AWp.skip ?_
                          refine AWp.seq (AWp.region ?_)
                          refine ARun.step rfl (step_assignV rfl (hn rfl) rfl rfl) ?_
                          refine ARun.nil ?_
                          refine AWp.ret ?_
                          refine RetIs.sc (.inr rfl) rfl rfl ?_
                          refine congrArg T.bool ?_
                          first
                            | rfl
                            | (exfalso; omega)
                            | (exfalso; simp [eqBk_refl, eqL_refl, strEq_refl, eqBt_refl] at *; done)
                            | (exfalso; simp [eqBk_refl, eqL_refl, strEq_refl, eqBt_refl] at *; omega)

end Go.Proofs.Ytkmacjdigkaabaa
