/- Contracts of functions of the program, each met by its body; conditions stand in each statement. No condition. -/
import Derived.Test.YtnedadngbhndkaacRecRun
import Derived.Test.YtnedadngbhndkaaProg
import Derived.KernelRfl
set_option linter.unusedVariables false
set_option linter.unusedSimpArgs false
set_option linter.unnecessarySimpa false
set_option linter.unusedSimpArgs false
set_option maxRecDepth 100000
namespace Go.Proofs.Ytnedadngbhndkaa
open Go Go.Mh

theorem runG_len (l : List Ph) : ∀ (n : Nat) (st : RSt) (y : List Say), (runG l n st y).2.length ≤ n
  | 0, _, _ => Nat.le_refl _
  | n + 1, st, y => by
    simp only [runG]
    split
    · exact Nat.zero_le _
    · have := runG_len l n (goSt l st (y.headD noSay)) y.tail
      simp only [List.length_cons]; omega
theorem recRun_len (l : List Ph) (y : List Say) : (recRun l y).2.length ≤ l.length + 1 := by
  unfold recRun
  split
  · exact runG_len l _ _ _
  · exact Nat.zero_le _

theorem ynCo7 : callOk Try.prog 7 = true := by kernel_rfl
theorem ynCo8 : callOk Try.prog 8 = true := by kernel_rfl
theorem ynCo10 : callOk Try.prog 10 = true := by kernel_rfl
theorem ynCo11 : callOk Try.prog 11 = true := by kernel_rfl
theorem ynCo9 : callOk Try.prog 9 = true := by kernel_rfl
theorem ynZs27 : zeroSz Try.prog 27 = some 3 := by kernel_rfl
theorem ynCs27 : cellsSz Try.prog 27 = some (2 + 1) := by kernel_rfl
theorem ynCo12 : callOk Try.prog 12 = true := by kernel_rfl
theorem ynSt27 : structSz Try.prog 27 = some 3 := by kernel_rfl
theorem ynCo13 : callOk Try.prog 13 = true := by kernel_rfl
theorem ynCo14 : callOk Try.prog 14 = true := by kernel_rfl
theorem ynCo15 : callOk Try.prog 15 = true := by kernel_rfl
theorem ynCo16 : callOk Try.prog 16 = true := by kernel_rfl
theorem ynCo17 : callOk Try.prog 17 = true := by kernel_rfl
theorem ynCo18 : callOk Try.prog 18 = true := by kernel_rfl
theorem ynCo19 : callOk Try.prog 19 = true := by kernel_rfl
theorem ynCo20 : callOk Try.prog 20 = true := by kernel_rfl
set_option maxHeartbeats 1000000 in
theorem lawRecRun (l : List Ph) (y : List Say)  : ASpec Try.prog 3 [.one (phs 68 l), .one (says 79 y)] (.one (.bool true)) := by
  refine ASpec.body Try.func3 rfl [4] rfl 122 rfl rfl rfl ?_
  refine AWp.lenLe 1 rfl (fun hly => ?_)
  have hzl := szGo_neg (f := szPh) szPh_le l (1048576 - l.length)
  have hzb : szL szPh l 1048576 ≤ 1048576 ∨ szL szPh l 1048576 = -1 := by unfold szL; split <;> omega
  refine AWp.seq (AWp.region ?_)
  refine ARun.step rfl (step_assignV rfl (hn rfl) rfl rfl) ?_
  refine ARun.nil ?_
  refine AWp.seq (AWp.region ?_)
  refine ARun.step rfl (step_assignV rfl (hn rfl) rfl rfl) ?_
  refine ARun.nil ?_
  refine AWp.seq (AWp.region ?_)
  refine ARun.step rfl (step_moveV rfl (hn rfl) rfl rfl) ?_
  refine ARun.step rfl (step_moveV rfl (hn rfl) rfl rfl) ?_
  refine ARun.step rfl (call_step1 rfl (hn rfl) rfl ynCo7 (.cons rfl (.one (.v _)) (.cons rfl (.one (.v _)) (.nil))) (szPhSI l _ (by omega) (by omega)) rfl) ?_
  refine ARun.step rfl (step_assignV rfl (hn rfl) rfl rfl) ?_
  refine ARun.nil ?_
  refine AWp.seq ?_
  refine AWp.seq (AWp.region ?_)
  refine ARun.step rfl (step_moveV rfl (hn rfl) rfl rfl) ?_
  refine ARun.step rfl (step_lss rfl (hn rfl) rfl rfl rfl) ?_
  refine ARun.nil ?_
  refine AWp.cond rfl (fun c1 => ?_) (fun c1 => ?_)
  · try simp only [decide_eq_true_eq, decide_eq_false_iff_not, beq_iff_eq, bne_iff_ne, Bool.not_eq_true', Bool.not_eq_false', Bool.and_eq_true, Bool.or_eq_true, Bool.and_eq_false_iff, Bool.or_eq_false_iff, Int.not_lt, Int.not_le, gt_iff_lt, ge_iff_le, bne_eq_false_iff_eq, beq_eq_false_iff_ne, ne_eq, Int.toNat_natCast] at c1
    refine AWp.seq (AWp.region ?_)
    refine ARun.step rfl (step_assignV rfl (hn rfl) rfl rfl) ?_
    refine ARun.nil ?_
    refine AWp.ret ?_
    refine RetIs.sc (.inr rfl) rfl rfl ?_
    refine congrArg T.bool ?_
    first
      | rfl
      | (exfalso; omega)
      | (exfalso; simp [eqRSt_refl, eqL_refl, strEq_refl, eqPh_refl, eqSay_refl] at *; done)
      | (exfalso; simp [eqRSt_refl, eqL_refl, strEq_refl, eqPh_refl, eqSay_refl] at *; omega)
  · try simp only [decide_eq_true_eq, decide_eq_false_iff_not, beq_iff_eq, bne_iff_ne, Bool.not_eq_true', Bool.not_eq_false', Bool.and_eq_true, Bool.or_eq_true, Bool.and_eq_false_iff, Bool.or_eq_false_iff, Int.not_lt, Int.not_le, gt_iff_lt, ge_iff_le, bne_eq_false_iff_eq, beq_eq_false_iff_ne, ne_eq, Int.toNat_natCast] at c1
    have hll := szL_len (f := szPh) (l := l) (by assumption)
    have hll2 : l.length ≤ 1048576 := by omega
    refine AWp.skip ?_
    refine AWp.seq (AWp.region ?_)
    refine ARun.step rfl (step_moveV rfl (hn rfl) rfl rfl) ?_
    refine ARun.step rfl (step_moveV rfl (hn rfl) rfl rfl) ?_
    refine ARun.step rfl (call_step1 rfl (hn rfl) rfl ynCo8 (.cons rfl (.one (.v _)) (.cons rfl (.one (.v _)) (.nil))) (saySzL _ _ (by omega) (by omega)) rfl) ?_
    refine ARun.step rfl (step_assignV rfl (hn rfl) rfl rfl) ?_
    refine ARun.nil ?_
    refine AWp.seq ?_
    refine AWp.seq (AWp.region ?_)
    refine ARun.step rfl (step_moveV rfl (hn rfl) rfl rfl) ?_
    refine ARun.step rfl (step_lss rfl (hn rfl) rfl rfl rfl) ?_
    refine ARun.nil ?_
    refine AWp.cond rfl (fun c2 => ?_) (fun c2 => ?_)
    · try simp only [decide_eq_true_eq, decide_eq_false_iff_not, beq_iff_eq, bne_iff_ne, Bool.not_eq_true', Bool.not_eq_false', Bool.and_eq_true, Bool.or_eq_true, Bool.and_eq_false_iff, Bool.or_eq_false_iff, Int.not_lt, Int.not_le, gt_iff_lt, ge_iff_le, bne_eq_false_iff_eq, beq_eq_false_iff_ne, ne_eq, Int.toNat_natCast] at c2
      refine AWp.seq (AWp.region ?_)
      refine ARun.step rfl (step_assignV rfl (hn rfl) rfl rfl) ?_
      refine ARun.nil ?_
      refine AWp.ret ?_
      refine RetIs.sc (.inr rfl) rfl rfl ?_
      refine congrArg T.bool ?_
      first
        | rfl
        | (exfalso; omega)
        | (exfalso; simp [eqRSt_refl, eqL_refl, strEq_refl, eqPh_refl, eqSay_refl] at *; done)
        | (exfalso; simp [eqRSt_refl, eqL_refl, strEq_refl, eqPh_refl, eqSay_refl] at *; omega)
    · try simp only [decide_eq_true_eq, decide_eq_false_iff_not, beq_iff_eq, bne_iff_ne, Bool.not_eq_true', Bool.not_eq_false', Bool.and_eq_true, Bool.or_eq_true, Bool.and_eq_false_iff, Bool.or_eq_false_iff, Int.not_lt, Int.not_le, gt_iff_lt, ge_iff_le, bne_eq_false_iff_eq, beq_eq_false_iff_ne, ne_eq, Int.toNat_natCast] at c2
      have hyl : y.length ≤ 1048576 := by (have h9 : 0 ≤ szNSay y (szL szPh l 1048576) := by assumption); unfold szNSay at h9; split at h9 <;> omega
      have hrl := recRun_len l y
      refine AWp.skip ?_
      refine AWp.seq (AWp.region ?_)
      refine ARun.step rfl (step_moveV rfl (hn rfl) rfl rfl) ?_
      refine ARun.step rfl (call_stepZ rfl (hn rfl) rfl ynCo10 (.cons rfl (.one (.v _)) (.nil)) (phToLZ _ (by assumption)) rfl rfl) ?_
      refine ARun.step rfl (step_moveV rfl (hn rfl) rfl rfl) ?_
      refine ARun.step rfl (call_stepZ rfl (hn rfl) rfl ynCo11 (.cons rfl (.one (.v _)) (.nil)) (sayToLZ _ (by assumption)) rfl rfl) ?_
      refine ARun.step rfl (call_stepN rfl (hn rfl) rfl ynCo9 (.cons rfl (.one (.v _)) (.cons rfl (.one (.v _)) (.nil))) (runS l y) rfl rfl) ?_
      refine ARun.step rfl (step_moveV rfl (hn rfl) rfl rfl) ?_
      refine ARun.step rfl (step_extract rfl (hn rfl) rfl rfl rfl (by intro l h; cases h)) ?_
      refine ARun.step rfl (step_extract rfl (hn rfl) rfl rfl rfl (by intro l h; cases h)) ?_
      refine ARun.step rfl (step_alloc_p rfl (hn rfl) rfl ynZs27) ?_
      refine ARun.step rfl (step_store_p rfl rfl ynCs27 rfl rfl rfl rfl rfl rfl rfl) ?_
      refine ARun.step rfl (step_assignV rfl (hn rfl) rfl rfl) ?_
      refine ARun.nil ?_
      refine AWp.seq (AWp.region ?_)
      refine ARun.step rfl (step_moveV rfl (hn rfl) rfl rfl) ?_
      refine ARun.step rfl (call_stepN rfl (hn rfl) rfl ynCo10 (.cons rfl (.one (.v _)) (.nil)) (phToL _ (by assumption)) rfl rfl) ?_
      refine ARun.step rfl (step_assignV rfl (hn rfl) rfl rfl) ?_
      refine ARun.nil ?_
      refine AWp.seq (AWp.region ?_)
      refine ARun.step rfl (step_moveV rfl (hn rfl) rfl rfl) ?_
      refine ARun.step rfl (call_stepN rfl (hn rfl) rfl ynCo11 (.cons rfl (.one (.v _)) (.nil)) (sayToL _ (by assumption)) rfl rfl) ?_
      refine ARun.step rfl (step_assignV rfl (hn rfl) rfl rfl) ?_
      refine ARun.nil ?_
      refine AWp.seq (AWp.region ?_)
      refine ARun.step rfl (step_moveV rfl (hn rfl) rfl rfl) ?_
      refine ARun.step rfl (step_moveV rfl (hn rfl) rfl rfl) ?_
      refine ARun.step rfl (call_stepC rfl (hn rfl) rfl ynCo12 (.cons rfl (.one (.ref _ rfl)) (.cons rfl (.one (.ref _ rfl)) (.nil))) (runI l y) rfl (CleanL.all (.cons (.str _) (.cons (.int _ _) (.cons (.int _ _) (.cons (clean_strs _) .nil)))))) ?_
      refine ARun.step rfl (step_moveV rfl (hn rfl) rfl rfl) ?_
      refine ARun.step rfl (step_extract rfl (hn rfl) rfl rfl rfl (by intro l h; cases h)) ?_
      refine ARun.step rfl (step_extract rfl (hn rfl) rfl rfl rfl (by intro l h; cases h)) ?_
      refine ARun.step rfl (step_alloc_p rfl (hn rfl) rfl ynZs27) ?_
      refine ARun.step rfl (step_store_p rfl rfl ynCs27 rfl rfl rfl rfl rfl rfl rfl) ?_
      refine ARun.step rfl (step_assignV rfl (hn rfl) rfl rfl) ?_
      refine ARun.nil ?_
      refine AWp.seq ?_
      refine AWp.seq (AWp.region ?_)
      refine ARun.step rfl (step_loadS_b rfl (hn rfl) rfl ynSt27 rfl rfl rfl (by decide)) ?_
      refine ARun.step rfl (step_loadS_b rfl (hn rfl) rfl ynSt27 rfl rfl rfl (by decide)) ?_
      refine ARun.step rfl (call_step1 rfl (hn rfl) rfl ynCo13 (.cons rfl (.agg (.cons (.v _) (.cons (.v _) (.cons (.v _) .nil)))) (.cons rfl (.agg (.cons (.v _) (.cons (.v _) (.cons (.v _) .nil)))) (.nil))) (eqRStI _ _) rfl) ?_
      refine ARun.step rfl (step_not rfl (hn rfl) rfl rfl) ?_
      refine ARun.step rfl (step_moveV rfl (hn rfl) rfl rfl) ?_
      refine guardS rfl rfl rfl rfl (hn rfl) (fun g1 g2 => step_moveV rfl (hn rfl) rfl rfl) ?_
      refine guardS rfl rfl rfl rfl (hn rfl) (fun g1 g2 => step_moveV rfl (hn rfl) rfl rfl) ?_
      refine guardS rfl rfl rfl rfl (hn rfl) (fun g1 g2 => call_step1 rfl (hn rfl) rfl ynCo14 (.cons (ev_true rfl (by exact flag2 g1 g2)) (.one (.ref _ rfl)) (.cons (ev_true rfl (by exact flag2 g1 g2)) (.one (.ref _ rfl)) (.nil))) (eqStrS _ _) rfl) ?_
      refine guardS rfl rfl rfl rfl (hn rfl) (fun g1 g2 => step_not rfl (hn rfl) rfl (ev_true rfl (by exact flag2 g1 g2))) ?_
      refine ARun.step rfl (step_or rfl (hn rfl) rfl rfl rfl (fun h => (by exact flag1 h))) ?_
      refine ARun.nil ?_
      refine AWp.cond rfl (fun c3 => ?_) (fun c3 => ?_)
      · try simp only [decide_eq_true_eq, decide_eq_false_iff_not, beq_iff_eq, bne_iff_ne, Bool.not_eq_true', Bool.not_eq_false', Bool.and_eq_true, Bool.or_eq_true, Bool.and_eq_false_iff, Bool.or_eq_false_iff, Int.not_lt, Int.not_le, gt_iff_lt, ge_iff_le, bne_eq_false_iff_eq, beq_eq_false_iff_ne, ne_eq, Int.toNat_natCast] at c3
        refine AWp.seq (AWp.region ?_)
        refine ARun.step rfl (step_assignV rfl (hn rfl) rfl rfl) ?_
        refine ARun.nil ?_
        refine AWp.ret ?_
        refine RetIs.sc (.inr rfl) rfl rfl ?_
        refine congrArg T.bool ?_
        first
          | rfl
          | (exfalso; omega)
          | (exfalso; simp [eqRSt_refl, eqL_refl, strEq_refl, eqPh_refl, eqSay_refl] at *; done)
          | (exfalso; simp [eqRSt_refl, eqL_refl, strEq_refl, eqPh_refl, eqSay_refl] at *; omega)
      · try simp only [decide_eq_true_eq, decide_eq_false_iff_not, beq_iff_eq, bne_iff_ne, Bool.not_eq_true', Bool.not_eq_false', Bool.and_eq_true, Bool.or_eq_true, Bool.and_eq_false_iff, Bool.or_eq_false_iff, Int.not_lt, Int.not_le, gt_iff_lt, ge_iff_le, bne_eq_false_iff_eq, beq_eq_false_iff_ne, ne_eq, Int.toNat_natCast] at c3
        refine AWp.skip ?_
        refine AWp.seq ?_
        refine AWp.seq (AWp.region ?_)
        refine ARun.step rfl (step_moveV rfl (hn rfl) rfl rfl) ?_
        refine ARun.step rfl (step_moveV rfl (hn rfl) rfl rfl) ?_
        refine ARun.step rfl (call_stepZ rfl (hn rfl) rfl ynCo10 (.cons rfl (.one (.v _)) (.nil)) (phToLZ _ (by assumption)) rfl rfl) ?_
        refine ARun.step rfl (call_step1 rfl (hn rfl) rfl ynCo15 (.cons rfl (.one (.ref _ rfl)) (.cons rfl (.one (.v _)) (.nil))) (phEqL _ _) rfl) ?_
        refine ARun.step rfl (step_not rfl (hn rfl) rfl rfl) ?_
        refine ARun.nil ?_
        refine AWp.cond rfl (fun c4 => ?_) (fun c4 => ?_)
        · try simp only [decide_eq_true_eq, decide_eq_false_iff_not, beq_iff_eq, bne_iff_ne, Bool.not_eq_true', Bool.not_eq_false', Bool.and_eq_true, Bool.or_eq_true, Bool.and_eq_false_iff, Bool.or_eq_false_iff, Int.not_lt, Int.not_le, gt_iff_lt, ge_iff_le, bne_eq_false_iff_eq, beq_eq_false_iff_ne, ne_eq, Int.toNat_natCast] at c4
          refine AWp.seq (AWp.region ?_)
          refine ARun.step rfl (step_assignV rfl (hn rfl) rfl rfl) ?_
          refine ARun.nil ?_
          refine AWp.ret ?_
          refine RetIs.sc (.inr rfl) rfl rfl ?_
          refine congrArg T.bool ?_
          first
            | rfl
            | (exfalso; omega)
            | (exfalso; simp [eqRSt_refl, eqL_refl, strEq_refl, eqPh_refl, eqSay_refl] at *; done)
            | (exfalso; simp [eqRSt_refl, eqL_refl, strEq_refl, eqPh_refl, eqSay_refl] at *; omega)
        · try simp only [decide_eq_true_eq, decide_eq_false_iff_not, beq_iff_eq, bne_iff_ne, Bool.not_eq_true', Bool.not_eq_false', Bool.and_eq_true, Bool.or_eq_true, Bool.and_eq_false_iff, Bool.or_eq_false_iff, Int.not_lt, Int.not_le, gt_iff_lt, ge_iff_le, bne_eq_false_iff_eq, beq_eq_false_iff_ne, ne_eq, Int.toNat_natCast] at c4
          refine AWp.skip ?_
          refine AWp.seq ?_
          refine AWp.seq (AWp.region ?_)
          refine ARun.step rfl (step_moveV rfl (hn rfl) rfl rfl) ?_
          refine ARun.step rfl (step_moveV rfl (hn rfl) rfl rfl) ?_
          refine ARun.step rfl (call_stepZ rfl (hn rfl) rfl ynCo11 (.cons rfl (.one (.v _)) (.nil)) (sayToLZ _ (by assumption)) rfl rfl) ?_
          refine ARun.step rfl (call_step1 rfl (hn rfl) rfl ynCo16 (.cons rfl (.one (.ref _ rfl)) (.cons rfl (.one (.v _)) (.nil))) (sayEqL _ _) rfl) ?_
          refine ARun.step rfl (step_not rfl (hn rfl) rfl rfl) ?_
          refine ARun.nil ?_
          refine AWp.cond rfl (fun c5 => ?_) (fun c5 => ?_)
          · try simp only [decide_eq_true_eq, decide_eq_false_iff_not, beq_iff_eq, bne_iff_ne, Bool.not_eq_true', Bool.not_eq_false', Bool.and_eq_true, Bool.or_eq_true, Bool.and_eq_false_iff, Bool.or_eq_false_iff, Int.not_lt, Int.not_le, gt_iff_lt, ge_iff_le, bne_eq_false_iff_eq, beq_eq_false_iff_ne, ne_eq, Int.toNat_natCast] at c5
            refine AWp.seq (AWp.region ?_)
            refine ARun.step rfl (step_assignV rfl (hn rfl) rfl rfl) ?_
            refine ARun.nil ?_
            refine AWp.ret ?_
            refine RetIs.sc (.inr rfl) rfl rfl ?_
            refine congrArg T.bool ?_
            first
              | rfl
              | (exfalso; omega)
              | (exfalso; simp [eqRSt_refl, eqL_refl, strEq_refl, eqPh_refl, eqSay_refl] at *; done)
              | (exfalso; simp [eqRSt_refl, eqL_refl, strEq_refl, eqPh_refl, eqSay_refl] at *; omega)
          · try simp only [decide_eq_true_eq, decide_eq_false_iff_not, beq_iff_eq, bne_iff_ne, Bool.not_eq_true', Bool.not_eq_false', Bool.and_eq_true, Bool.or_eq_true, Bool.and_eq_false_iff, Bool.or_eq_false_iff, Int.not_lt, Int.not_le, gt_iff_lt, ge_iff_le, bne_eq_false_iff_eq, beq_eq_false_iff_ne, ne_eq, Int.toNat_natCast] at c5
            refine AWp.skip ?_
            refine AWp.seq (AWp.region ?_)
            refine ARun.step rfl (step_assignV rfl (hn rfl) rfl rfl) ?_
            refine ARun.nil ?_
            refine AWp.seq (AWp.region ?_)
            refine ARun.step rfl (step_moveV rfl (hn rfl) rfl rfl) ?_
            refine ARun.step rfl (step_moveV rfl (hn rfl) rfl rfl) ?_
            refine ARun.step rfl (mcall_roots (L := [(⟨.arr 36 0, []⟩, 0)]) (TL := [(36, 0, _)]) rfl (hn rfl) rfl ynCo17 rfl (.cons rfl (.one (.rw _ rfl rfl rfl)) (.cons rfl (.one (.v (.refl _))) (.nil _))) (phMark l 1 (by omega) (by omega)) rfl (.cons (i := 0) (j := 0) rfl rfl rfl rfl rfl rfl .nil)) ?_
            refine ARun.step rfl (step_assignV rfl (hn rfl) rfl rfl) ?_
            refine ARun.nil ?_
            refine AWp.seq (AWp.region ?_)
            refine ARun.step rfl (step_moveV rfl (hn rfl) rfl rfl) ?_
            refine ARun.step rfl (step_moveV rfl (hn rfl) rfl rfl) ?_
            refine ARun.step rfl (mcall_roots (L := [(⟨.arr 38 0, []⟩, 0)]) (TL := [(38, 0, _)]) rfl (hn rfl) rfl ynCo18 rfl (.cons rfl (.one (.rw _ rfl rfl rfl)) (.cons rfl (.one (.v (.refl _))) (.nil _))) (sayMark y _ (by omega) (by omega)) rfl (.cons (i := 0) (j := 0) rfl rfl rfl rfl rfl rfl .nil)) ?_
            refine ARun.step rfl (step_assignV rfl (hn rfl) rfl rfl) ?_
            refine ARun.nil ?_
            refine AWp.seq ?_
            refine AWp.seq (AWp.region ?_)
            refine ARun.step rfl (step_moveV rfl (hn rfl) rfl rfl) ?_
            refine ARun.step rfl (step_lss rfl (hn rfl) rfl rfl rfl) ?_
            refine ARun.step rfl (step_moveV rfl (hn rfl) rfl rfl) ?_
            refine guardS rfl rfl rfl rfl (hn rfl) (fun g1 g2 => step_loadS_b rfl (hn rfl) rfl ynSt27 rfl rfl rfl (by decide)) ?_
            refine guardS rfl rfl rfl rfl (hn rfl) (fun g1 g2 => step_loadS_b rfl (hn rfl) rfl ynSt27 rfl rfl rfl (by decide)) ?_
            refine guardS rfl rfl rfl rfl (hn rfl) (fun g1 g2 => call_step1 rfl (hn rfl) rfl ynCo13 (.cons (ev_true rfl (by exact flag2 g1 g2)) (.agg (.cons (.v _) (.cons (.v _) (.cons (.v _) .nil)))) (.cons (ev_true rfl (by exact flag2 g1 g2)) (.agg (.cons (.v _) (.cons (.v _) (.cons (.v _) .nil)))) (.nil))) (eqRStI _ _) rfl) ?_
            refine guardS rfl rfl rfl rfl (hn rfl) (fun g1 g2 => step_not rfl (hn rfl) rfl (ev_true rfl (by exact flag2 g1 g2))) ?_
            refine ARun.step rfl (step_or rfl (hn rfl) rfl rfl rfl (fun h => (by exact flag1 h))) ?_
            refine ARun.step rfl (step_moveV rfl (hn rfl) rfl rfl) ?_
            refine guardS rfl rfl rfl rfl (hn rfl) (fun g1 g2 => step_moveV rfl (hn rfl) rfl rfl) ?_
            refine guardS rfl rfl rfl rfl (hn rfl) (fun g1 g2 => step_moveV rfl (hn rfl) rfl rfl) ?_
            refine guardS rfl rfl rfl rfl (hn rfl) (fun g1 g2 => call_step1 rfl (hn rfl) rfl ynCo14 (.cons (ev_true rfl (by exact flag2 g1 g2)) (.one (.ref _ rfl)) (.cons (ev_true rfl (by exact flag2 g1 g2)) (.one (.ref _ rfl)) (.nil))) (eqStrS _ _) rfl) ?_
            refine guardS rfl rfl rfl rfl (hn rfl) (fun g1 g2 => step_not rfl (hn rfl) rfl (ev_true rfl (by exact flag2 g1 g2))) ?_
            refine ARun.step rfl (step_or rfl (hn rfl) rfl rfl rfl (fun h => (by exact flag1 h))) ?_
            refine ARun.nil ?_
            refine AWp.cond rfl (fun c6 => ?_) (fun c6 => ?_)
            · try simp only [decide_eq_true_eq, decide_eq_false_iff_not, beq_iff_eq, bne_iff_ne, Bool.not_eq_true', Bool.not_eq_false', Bool.and_eq_true, Bool.or_eq_true, Bool.and_eq_false_iff, Bool.or_eq_false_iff, Int.not_lt, Int.not_le, gt_iff_lt, ge_iff_le, bne_eq_false_iff_eq, beq_eq_false_iff_ne, ne_eq, Int.toNat_natCast] at c6
              refine AWp.seq (AWp.region ?_)
              refine ARun.step rfl (step_assignV rfl (hn rfl) rfl rfl) ?_
              refine ARun.nil ?_
              refine AWp.ret ?_
              refine RetIs.sc (.inr rfl) rfl rfl ?_
              refine congrArg T.bool ?_
              first
                | rfl
                | (exfalso; omega)
                | (exfalso; simp [eqRSt_refl, eqL_refl, strEq_refl, eqPh_refl, eqSay_refl] at *; done)
                | (exfalso; simp [eqRSt_refl, eqL_refl, strEq_refl, eqPh_refl, eqSay_refl] at *; omega)
            · try simp only [decide_eq_true_eq, decide_eq_false_iff_not, beq_iff_eq, bne_iff_ne, Bool.not_eq_true', Bool.not_eq_false', Bool.and_eq_true, Bool.or_eq_true, Bool.and_eq_false_iff, Bool.or_eq_false_iff, Int.not_lt, Int.not_le, gt_iff_lt, ge_iff_le, bne_eq_false_iff_eq, beq_eq_false_iff_ne, ne_eq, Int.toNat_natCast] at c6
              refine AWp.skip ?_
              refine AWp.seq (AWp.region ?_)
              refine ARun.step rfl (step_assignV rfl (hn rfl) rfl rfl) ?_
              refine ARun.nil ?_
              refine AWp.seq (AWp.region ?_)
              refine ARun.step rfl (step_moveV rfl (hn rfl) rfl rfl) ?_
              refine ARun.step rfl (step_moveV rfl (hn rfl) rfl rfl) ?_
              refine ARun.step rfl (mcall_roots (L := [(⟨.arr 42 100, []⟩, 0)]) (TL := [(42, 100, _)]) rfl (hn rfl) rfl ynCo19 rfl (.cons rfl (.one (.rw _ rfl rfl rfl)) (.cons rfl (.one (.v (.refl _))) (.nil _))) (markStrS (recRun l y).2 1 (by omega) (by omega)) rfl (.cons (i := 0) (j := 0) rfl rfl rfl rfl rfl rfl .nil)) ?_
              refine ARun.step rfl (step_assignV rfl (hn rfl) rfl rfl) ?_
              refine ARun.nil ?_
              refine AWp.seq (AWp.region ?_)
              refine ARun.step rfl (step_assignV rfl (hn rfl) rfl rfl) ?_
              refine ARun.nil ?_
              refine AWp.seq (AWp.region ?_)
              refine ARun.step rfl (step_moveV rfl (hn rfl) rfl rfl) ?_
              refine ARun.step rfl (step_moveV rfl (hn rfl) rfl rfl) ?_
              refine ARun.step rfl (call_step1 rfl (hn rfl) rfl ynCo20 (.cons rfl (.one (.ref _ rfl)) (.cons rfl (.one (.v _)) (.nil))) (heldStrS (recRun l y).2.length 1 (by omega) (by omega)) rfl) ?_
              refine ARun.step rfl (step_assignV rfl (hn rfl) rfl rfl) ?_
              refine ARun.nil ?_
              refine AWp.seq ?_
              refine AWp.seq (AWp.region ?_)
              refine ARun.step rfl (step_moveV rfl (hn rfl) rfl rfl) ?_
              refine ARun.step rfl (step_lss rfl (hn rfl) rfl rfl rfl) ?_
              refine ARun.nil ?_
              refine AWp.cond rfl (fun c7 => ?_) (fun c7 => ?_)
              · try simp only [decide_eq_true_eq, decide_eq_false_iff_not, beq_iff_eq, bne_iff_ne, Bool.not_eq_true', Bool.not_eq_false', Bool.and_eq_true, Bool.or_eq_true, Bool.and_eq_false_iff, Bool.or_eq_false_iff, Int.not_lt, Int.not_le, gt_iff_lt, ge_iff_le, bne_eq_false_iff_eq, beq_eq_false_iff_ne, ne_eq, Int.toNat_natCast] at c7
                refine AWp.seq (AWp.region ?_)
                refine ARun.step rfl (step_assignV rfl (hn rfl) rfl rfl) ?_
                refine ARun.nil ?_
                refine AWp.ret ?_
                refine RetIs.sc (.inr rfl) rfl rfl ?_
                refine congrArg T.bool ?_
                first
                  | rfl
                  | (exfalso; omega)
                  | (exfalso; simp [eqRSt_refl, eqL_refl, strEq_refl, eqPh_refl, eqSay_refl] at *; done)
                  | (exfalso; simp [eqRSt_refl, eqL_refl, strEq_refl, eqPh_refl, eqSay_refl] at *; omega)
              · try simp only [decide_eq_true_eq, decide_eq_false_iff_not, beq_iff_eq, bne_iff_ne, Bool.not_eq_true', Bool.not_eq_false', Bool.and_eq_true, Bool.or_eq_true, Bool.and_eq_false_iff, Bool.or_eq_false_iff, Int.not_lt, Int.not_le, gt_iff_lt, ge_iff_le, bne_eq_false_iff_eq, beq_eq_false_iff_ne, ne_eq, Int.toNat_natCast] at c7
                refine AWp.skip ?_
                refine AWp.seq ?_
                refine AWp.seq (AWp.region ?_)
                refine ARun.step rfl (step_moveV rfl (hn rfl) rfl rfl) ?_
                refine ARun.step rfl (step_moveV rfl (hn rfl) rfl rfl) ?_
                refine ARun.step rfl (step_neq rfl (hn rfl) rfl rfl rfl) ?_
                refine ARun.nil ?_
                refine AWp.cond rfl (fun c8 => ?_) (fun c8 => ?_)
                · try simp only [decide_eq_true_eq, decide_eq_false_iff_not, beq_iff_eq, bne_iff_ne, Bool.not_eq_true', Bool.not_eq_false', Bool.and_eq_true, Bool.or_eq_true, Bool.and_eq_false_iff, Bool.or_eq_false_iff, Int.not_lt, Int.not_le, gt_iff_lt, ge_iff_le, bne_eq_false_iff_eq, beq_eq_false_iff_ne, ne_eq, Int.toNat_natCast] at c8
                  refine AWp.seq (AWp.region ?_)
                  refine ARun.step rfl (step_assignV rfl (hn rfl) rfl rfl) ?_
                  refine ARun.nil ?_
                  refine AWp.ret ?_
                  refine RetIs.sc (.inr rfl) rfl rfl ?_
                  refine congrArg T.bool ?_
                  first
                    | rfl
                    | (exfalso; omega)
                    | (exfalso; simp [eqRSt_refl, eqL_refl, strEq_refl, eqPh_refl, eqSay_refl] at *; done)
                    | (exfalso; simp [eqRSt_refl, eqL_refl, strEq_refl, eqPh_refl, eqSay_refl] at *; omega)
                · try simp only [decide_eq_true_eq, decide_eq_false_iff_not, beq_iff_eq, bne_iff_ne, Bool.not_eq_true', Bool.not_eq_false', Bool.and_eq_true, Bool.or_eq_true, Bool.and_eq_false_iff, Bool.or_eq_false_iff, Int.not_lt, Int.not_le, gt_iff_lt, ge_iff_le, bne_eq_false_iff_eq, beq_eq_false_iff_ne, ne_eq, Int.toNat_natCast] at c8
                  refine AWp.skip ?_
                  refine AWp.seq (AWp.region ?_)
                  refine ARun.step rfl (step_moveV rfl (hn rfl) rfl rfl) ?_
                  refine ARun.step rfl (call_stepZ rfl (hn rfl) rfl ynCo10 (.cons rfl (.one (.v _)) (.nil)) (phToLZ _ (by assumption)) rfl rfl) ?_
                  refine ARun.step rfl (step_moveV rfl (hn rfl) rfl rfl) ?_
                  refine ARun.step rfl (call_stepZ rfl (hn rfl) rfl ynCo11 (.cons rfl (.one (.v _)) (.nil)) (sayToLZ _ (by assumption)) rfl rfl) ?_
                  refine ARun.step rfl (call_stepN rfl (hn rfl) rfl ynCo12 (.cons rfl (.one (.v _)) (.cons rfl (.one (.v _)) (.nil))) (runI l y) rfl rfl) ?_
                  refine ARun.step rfl (step_moveV rfl (hn rfl) rfl rfl) ?_
                  refine ARun.step rfl (step_extract rfl (hn rfl) rfl rfl rfl (by intro l h; cases h)) ?_
                  refine ARun.step rfl (step_extract rfl (hn rfl) rfl rfl rfl (by intro l h; cases h)) ?_
                  refine ARun.step rfl (step_alloc_p rfl (hn rfl) rfl ynZs27) ?_
                  refine ARun.step rfl (step_store_p rfl rfl ynCs27 rfl rfl rfl rfl rfl rfl rfl) ?_
                  refine ARun.step rfl (step_assignV rfl (hn rfl) rfl rfl) ?_
                  refine ARun.nil ?_
                  refine AWp.seq ?_
                  refine AWp.seq (AWp.region ?_)
                  refine ARun.step rfl (step_loadS_b rfl (hn rfl) rfl ynSt27 rfl rfl rfl (by decide)) ?_
                  refine ARun.step rfl (step_loadS_b rfl (hn rfl) rfl ynSt27 rfl rfl rfl (by decide)) ?_
                  refine ARun.step rfl (call_step1 rfl (hn rfl) rfl ynCo13 (.cons rfl (.agg (.cons (.v _) (.cons (.v _) (.cons (.v _) .nil)))) (.cons rfl (.agg (.cons (.v _) (.cons (.v _) (.cons (.v _) .nil)))) (.nil))) (eqRStI _ _) rfl) ?_
                  refine ARun.step rfl (step_not rfl (hn rfl) rfl rfl) ?_
                  refine ARun.step rfl (step_moveV rfl (hn rfl) rfl rfl) ?_
                  refine guardS rfl rfl rfl rfl (hn rfl) (fun g1 g2 => step_moveV rfl (hn rfl) rfl rfl) ?_
                  refine guardS rfl rfl rfl rfl (hn rfl) (fun g1 g2 => step_moveV rfl (hn rfl) rfl rfl) ?_
                  refine guardS rfl rfl rfl rfl (hn rfl) (fun g1 g2 => call_step1 rfl (hn rfl) rfl ynCo14 (.cons (ev_true rfl (by exact flag2 g1 g2)) (.one (.ref _ rfl)) (.cons (ev_true rfl (by exact flag2 g1 g2)) (.one (.ref _ rfl)) (.nil))) (eqStrS _ _) rfl) ?_
                  refine guardS rfl rfl rfl rfl (hn rfl) (fun g1 g2 => step_not rfl (hn rfl) rfl (ev_true rfl (by exact flag2 g1 g2))) ?_
                  refine ARun.step rfl (step_or rfl (hn rfl) rfl rfl rfl (fun h => (by exact flag1 h))) ?_
                  refine ARun.nil ?_
                  refine AWp.cond rfl (fun c9 => ?_) (fun c9 => ?_)
                  · try simp only [decide_eq_true_eq, decide_eq_false_iff_not, beq_iff_eq, bne_iff_ne, Bool.not_eq_true', Bool.not_eq_false', Bool.and_eq_true, Bool.or_eq_true, Bool.and_eq_false_iff, Bool.or_eq_false_iff, Int.not_lt, Int.not_le, gt_iff_lt, ge_iff_le, bne_eq_false_iff_eq, beq_eq_false_iff_ne, ne_eq, Int.toNat_natCast] at c9
                    refine AWp.seq (AWp.region ?_)
                    refine ARun.step rfl (step_assignV rfl (hn rfl) rfl rfl) ?_
                    refine ARun.nil ?_
                    refine AWp.ret ?_
                    refine RetIs.sc (.inr rfl) rfl rfl ?_
                    refine congrArg T.bool ?_
                    first
                      | rfl
                      | (exfalso; omega)
                      | (exfalso; simp [eqRSt_refl, eqL_refl, strEq_refl, eqPh_refl, eqSay_refl] at *; done)
                      | (exfalso; simp [eqRSt_refl, eqL_refl, strEq_refl, eqPh_refl, eqSay_refl] at *; omega)
                  · try simp only [decide_eq_true_eq, decide_eq_false_iff_not, beq_iff_eq, bne_iff_ne, Bool.not_eq_true', Bool.not_eq_false', Bool.and_eq_true, Bool.or_eq_true, Bool.and_eq_false_iff, Bool.or_eq_false_iff, Int.not_lt, Int.not_le, gt_iff_lt, ge_iff_le, bne_eq_false_iff_eq, beq_eq_false_iff_ne, ne_eq, Int.toNat_natCast] at c9
                    refine AWp.skip ?_
                    refine AWp.seq (AWp.region ?_)
                    refine ARun.step rfl (step_assignV rfl (hn rfl) rfl rfl) ?_
                    refine ARun.nil ?_
                    refine AWp.seq (AWp.region ?_)
                    refine ARun.step rfl (step_moveV rfl (hn rfl) rfl rfl) ?_
                    refine ARun.step rfl (step_moveV rfl (hn rfl) rfl rfl) ?_
                    refine ARun.step rfl (call_step1 rfl (hn rfl) rfl ynCo20 (.cons rfl (.one (.ref _ rfl)) (.cons rfl (.one (.v _)) (.nil))) (heldStrS (recRun l y).2.length 1 (by omega) (by omega)) rfl) ?_
                    refine ARun.step rfl (step_assignV rfl (hn rfl) rfl rfl) ?_
                    refine ARun.nil ?_
                    refine AWp.seq ?_
                    refine AWp.seq (AWp.region ?_)
                    refine ARun.step rfl (step_moveV rfl (hn rfl) rfl rfl) ?_
                    refine ARun.step rfl (step_lss rfl (hn rfl) rfl rfl rfl) ?_
                    refine ARun.nil ?_
                    refine AWp.cond rfl (fun c10 => ?_) (fun c10 => ?_)
                    · try simp only [decide_eq_true_eq, decide_eq_false_iff_not, beq_iff_eq, bne_iff_ne, Bool.not_eq_true', Bool.not_eq_false', Bool.and_eq_true, Bool.or_eq_true, Bool.and_eq_false_iff, Bool.or_eq_false_iff, Int.not_lt, Int.not_le, gt_iff_lt, ge_iff_le, bne_eq_false_iff_eq, beq_eq_false_iff_ne, ne_eq, Int.toNat_natCast] at c10
                      refine AWp.seq (AWp.region ?_)
                      refine ARun.step rfl (step_assignV rfl (hn rfl) rfl rfl) ?_
                      refine ARun.nil ?_
                      refine AWp.ret ?_
                      refine RetIs.sc (.inr rfl) rfl rfl ?_
                      refine congrArg T.bool ?_
                      first
                        | rfl
                        | (exfalso; omega)
                        | (exfalso; simp [eqRSt_refl, eqL_refl, strEq_refl, eqPh_refl, eqSay_refl] at *; done)
                        | (exfalso; simp [eqRSt_refl, eqL_refl, strEq_refl, eqPh_refl, eqSay_refl] at *; omega)
                    · try simp only [decide_eq_true_eq, decide_eq_false_iff_not, beq_iff_eq, bne_iff_ne, Bool.not_eq_true', Bool.not_eq_false', Bool.and_eq_true, Bool.or_eq_true, Bool.and_eq_false_iff, Bool.or_eq_false_iff, Int.not_lt, Int.not_le, gt_iff_lt, ge_iff_le, bne_eq_false_iff_eq, beq_eq_false_iff_ne, ne_eq, Int.toNat_natCast] at c10
                      refine AWp.skip ?_
                      refine AWp.seq ?_
                      refine AWp.seq (AWp.region ?_)
                      refine ARun.step rfl (step_moveV rfl (hn rfl) rfl rfl) ?_
                      refine ARun.step rfl (step_moveV rfl (hn rfl) rfl rfl) ?_
                      refine ARun.step rfl (step_neq rfl (hn rfl) rfl rfl rfl) ?_
                      refine ARun.nil ?_
                      refine AWp.cond rfl (fun c11 => ?_) (fun c11 => ?_)
                      · try simp only [decide_eq_true_eq, decide_eq_false_iff_not, beq_iff_eq, bne_iff_ne, Bool.not_eq_true', Bool.not_eq_false', Bool.and_eq_true, Bool.or_eq_true, Bool.and_eq_false_iff, Bool.or_eq_false_iff, Int.not_lt, Int.not_le, gt_iff_lt, ge_iff_le, bne_eq_false_iff_eq, beq_eq_false_iff_ne, ne_eq, Int.toNat_natCast] at c11
                        refine AWp.seq (AWp.region ?_)
                        refine ARun.step rfl (step_assignV rfl (hn rfl) rfl rfl) ?_
                        refine ARun.nil ?_
                        refine AWp.ret ?_
                        refine RetIs.sc (.inr rfl) rfl rfl ?_
                        refine congrArg T.bool ?_
                        first
                          | rfl
                          | (exfalso; omega)
                          | (exfalso; simp [eqRSt_refl, eqL_refl, strEq_refl, eqPh_refl, eqSay_refl] at *; done)
                          | (exfalso; simp [eqRSt_refl, eqL_refl, strEq_refl, eqPh_refl, eqSay_refl] at *; omega)
                      · try simp only [decide_eq_true_eq, decide_eq_false_iff_not, beq_iff_eq, bne_iff_ne, Bool.not_eq_true', Bool.not_eq_false', Bool.and_eq_true, Bool.or_eq_true, Bool.and_eq_false_iff, Bool.or_eq_false_iff, Int.not_lt, Int.not_le, gt_iff_lt, ge_iff_le, bne_eq_false_iff_eq, beq_eq_false_iff_ne, ne_eq, Int.toNat_natCast] at c11
                        refine AWp.skip ?_
                        refine AWp.seq (AWp.region ?_)
                        refine ARun.step rfl (step_assignV rfl (hn rfl) rfl rfl) ?_
                        refine ARun.nil ?_
                        refine AWp.ret ?_
                        refine RetIs.sc (.inr rfl) rfl rfl ?_
                        refine congrArg T.bool ?_
                        first
                          | rfl
                          | (exfalso; omega)
                          | (exfalso; simp [eqRSt_refl, eqL_refl, strEq_refl, eqPh_refl, eqSay_refl] at *; done)
                          | (exfalso; simp [eqRSt_refl, eqL_refl, strEq_refl, eqPh_refl, eqSay_refl] at *; omega)

end Go.Proofs.Ytnedadngbhndkaa
