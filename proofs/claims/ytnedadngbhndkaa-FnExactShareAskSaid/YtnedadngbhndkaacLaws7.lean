/- Contracts of functions of the program, each met by its body; conditions stand in each statement. No condition. -/
import Derived.Test.YtnedadngbhndkaacAsk
import Derived.Test.YtnedadngbhndkaaProg
import Derived.KernelRfl
set_option linter.unusedVariables false
set_option linter.unusedSimpArgs false
set_option linter.unnecessarySimpa false
set_option linter.unusedSimpArgs false
set_option maxRecDepth 100000
namespace Go.Proofs.Ytnedadngbhndkaa
open Go Go.Mh

theorem askR_small {p : Bk} {s : Str} {l : List Str} (hs : smallBk p) : smallBk (askR p s l).1 := by
  unfold askR
  have hix := idxB_lt p s
  split
  · rename_i hb
    split
    · exact hs
    · split
      · rename_i hw
        split
        · exact hs
        · split
          · exact hs
          · exact small_ask hs hb (by omega) (by simp only [Bool.and_eq_true] at hw; exact hw.2)
      · exact hs
  · exact ⟨Nat.zero_le _, Nat.zero_le _, fun i hi => absurd hi (Nat.not_lt_zero i)⟩

theorem ylUs9 : Try.prog.underlying 9 = some .string := by kernel_rfl
theorem ylSt58 : structSz Try.prog 58 = some 2 := by kernel_rfl
theorem ylCo28 : callOk Try.prog 28 = true := by kernel_rfl
theorem ylCo21 : callOk Try.prog 21 = true := by kernel_rfl
theorem ylCo30 : callOk Try.prog 30 = true := by kernel_rfl
theorem ylCo23 : callOk Try.prog 23 = true := by kernel_rfl
theorem ylCo35 : callOk Try.prog 35 = true := by kernel_rfl
theorem ylZs45 : zeroSz Try.prog 45 = some 2 := by kernel_rfl
theorem ylCs45 : cellsSz Try.prog 45 = some (1 + 1) := by kernel_rfl
theorem ylSt45 : structSz Try.prog 45 = some 2 := by kernel_rfl
theorem ylCo36 : callOk Try.prog 36 = true := by kernel_rfl
theorem ylCo32 : callOk Try.prog 32 = true := by kernel_rfl
theorem ylMo : Try.prog.follows .mixedOrders = true := by kernel_rfl
theorem ylCo14 : callOk Try.prog 14 = true := by kernel_rfl
theorem ylCo33 : callOk Try.prog 33 = true := by kernel_rfl
theorem ylCo19 : callOk Try.prog 19 = true := by kernel_rfl
theorem ylCo34 : callOk Try.prog 34 = true := by kernel_rfl
set_option maxHeartbeats 1000000 in
theorem lawShareAsk (p : Bk) (s : Str) (l : List Str)  : ASpec Try.prog 6 [.agg (p.cells 120), .one (.str s), .one (strs l)] (.one (.bool true)) := by
  refine ASpec.body Try.func6 rfl [6] rfl 127 rfl rfl rfl ?_
  have hzb := szBk_le p 1048576
  refine AWp.strLe 1 rfl (fun hs => ?_)
  refine AWp.seq (AWp.region ?_)
  refine ARun.step rfl (step_box_p (m := 1) rfl (hn rfl) rfl rfl rfl rfl rfl) ?_
  refine ARun.step rfl (step_assignV rfl (hn rfl) rfl rfl) ?_
  refine ARun.nil ?_
  refine AWp.seq ?_
  refine AWp.seq (AWp.region ?_)
  refine ARun.step rfl (step_moveV rfl (hn rfl) rfl rfl) ?_
  refine ARun.step rfl (step_len_str rfl (hn rfl) rfl ylUs9 rfl) ?_
  refine ARun.step rfl (step_gtr rfl (hn rfl) rfl rfl rfl) ?_
  refine ARun.nil ?_
  refine AWp.cond rfl (fun c1 => ?_) (fun c1 => ?_)
  · try simp only [decide_eq_true_eq, decide_eq_false_iff_not, beq_iff_eq, bne_iff_ne, Bool.not_eq_true', Bool.not_eq_false', Bool.and_eq_true, Bool.or_eq_true, Bool.and_eq_false_iff, Bool.or_eq_false_iff, Int.not_lt, Int.not_le, gt_iff_lt, ge_iff_le, bne_eq_false_iff_eq, beq_eq_false_iff_ne, ne_eq, Int.toNat_natCast] at c1
    refine AWp.seq (AWp.region ?_)
    refine ARun.step rfl (step_assignV rfl (hn rfl) rfl rfl) ?_
    refine ARun.nil ?_
    refine AWp.ret ?_
    refine RetIs.sc (.inr rfl) rfl rfl ?_
    refine congrArg T.bool ?_
    first
      | rfl
      | (exfalso; omega)
      | (exfalso; simp [eqBk_refl, eqL_refl, strEq_refl, eqBt_refl] at *; done)
      | (exfalso; simp [eqBk_refl, eqL_refl, strEq_refl, eqBt_refl] at *; omega)
  · try simp only [decide_eq_true_eq, decide_eq_false_iff_not, beq_iff_eq, bne_iff_ne, Bool.not_eq_true', Bool.not_eq_false', Bool.and_eq_true, Bool.or_eq_true, Bool.and_eq_false_iff, Bool.or_eq_false_iff, Int.not_lt, Int.not_le, gt_iff_lt, ge_iff_le, bne_eq_false_iff_eq, beq_eq_false_iff_ne, ne_eq, Int.toNat_natCast] at c1
    refine AWp.skip ?_
    refine AWp.seq (AWp.region ?_)
    refine ARun.step rfl (step_assignV rfl (hn rfl) rfl rfl) ?_
    refine ARun.nil ?_
    refine AWp.seq (AWp.region ?_)
    refine ARun.step rfl (step_loadS_b rfl (hn rfl) rfl ylSt58 rfl rfl rfl (by decide)) ?_
    refine ARun.step rfl (step_moveV rfl (hn rfl) rfl rfl) ?_
    refine ARun.step rfl (call_step1 rfl (hn rfl) rfl ylCo28 (.cons rfl (.agg (.cons (.v _) (.cons (.v _) .nil))) (.cons rfl (.one (.v _)) (.nil))) (szBkI _ _ (by omega) (by omega)) rfl) ?_
    refine ARun.step rfl (step_assignV rfl (hn rfl) rfl rfl) ?_
    refine ARun.nil ?_
    refine AWp.seq ?_
    refine AWp.seq (AWp.region ?_)
    refine ARun.step rfl (step_moveV rfl (hn rfl) rfl rfl) ?_
    refine ARun.step rfl (step_lss rfl (hn rfl) rfl rfl rfl) ?_
    refine ARun.nil ?_
    refine AWp.cond rfl (fun c2 => ?_) (fun c2 => ?_)
    · try simp only [decide_eq_true_eq, decide_eq_false_iff_not, beq_iff_eq, bne_iff_ne, Bool.not_eq_true', Bool.not_eq_false', Bool.and_eq_true, Bool.or_eq_true, Bool.and_eq_false_iff, Bool.or_eq_false_iff, Int.not_lt, Int.not_le, gt_iff_lt, ge_iff_le, bne_eq_false_iff_eq, beq_eq_false_iff_ne, ne_eq, Int.toNat_natCast] at c2
      refine AWp.seq (AWp.region ?_)
      refine ARun.step rfl (step_assignV rfl (hn rfl) rfl rfl) ?_
      refine ARun.nil ?_
      refine AWp.ret ?_
      refine RetIs.sc (.inr rfl) rfl rfl ?_
      refine congrArg T.bool ?_
      first
        | rfl
        | (exfalso; omega)
        | (exfalso; simp [eqBk_refl, eqL_refl, strEq_refl, eqBt_refl] at *; done)
        | (exfalso; simp [eqBk_refl, eqL_refl, strEq_refl, eqBt_refl] at *; omega)
    · try simp only [decide_eq_true_eq, decide_eq_false_iff_not, beq_iff_eq, bne_iff_ne, Bool.not_eq_true', Bool.not_eq_false', Bool.and_eq_true, Bool.or_eq_true, Bool.and_eq_false_iff, Bool.or_eq_false_iff, Int.not_lt, Int.not_le, gt_iff_lt, ge_iff_le, bne_eq_false_iff_eq, beq_eq_false_iff_ne, ne_eq, Int.toNat_natCast] at c2
      have hsm := szBk_small (p := p) (by omega)
      have hct := cntTo_small hsm.2.2 p.bs.length (Nat.le_refl _)
      have hcn := cntTo_nn p.bs p.bs.length
      have hsm1 := hsm.1
      have hsm2 := hsm.2.1
      refine AWp.skip ?_
      refine AWp.seq (AWp.region ?_)
      refine ARun.step rfl (step_moveV rfl (hn rfl) rfl rfl) ?_
      refine ARun.step rfl (step_moveV rfl (hn rfl) rfl rfl) ?_
      refine ARun.step rfl (call_step1 rfl (hn rfl) rfl ylCo21 (.cons rfl (.one (.v _)) (.cons rfl (.one (.v _)) (.nil))) (szStrS _ _ (by omega) (by omega)) rfl) ?_
      refine ARun.step rfl (step_assignV rfl (hn rfl) rfl rfl) ?_
      refine ARun.nil ?_
      refine AWp.seq ?_
      refine AWp.seq (AWp.region ?_)
      refine ARun.step rfl (step_moveV rfl (hn rfl) rfl rfl) ?_
      refine ARun.step rfl (step_lss rfl (hn rfl) rfl rfl rfl) ?_
      refine ARun.nil ?_
      refine AWp.cond rfl (fun c3 => ?_) (fun c3 => ?_)
      · try simp only [decide_eq_true_eq, decide_eq_false_iff_not, beq_iff_eq, bne_iff_ne, Bool.not_eq_true', Bool.not_eq_false', Bool.and_eq_true, Bool.or_eq_true, Bool.and_eq_false_iff, Bool.or_eq_false_iff, Int.not_lt, Int.not_le, gt_iff_lt, ge_iff_le, bne_eq_false_iff_eq, beq_eq_false_iff_ne, ne_eq, Int.toNat_natCast] at c3
        refine AWp.seq (AWp.region ?_)
        refine ARun.step rfl (step_assignV rfl (hn rfl) rfl rfl) ?_
        refine ARun.nil ?_
        refine AWp.ret ?_
        refine RetIs.sc (.inr rfl) rfl rfl ?_
        refine congrArg T.bool ?_
        first
          | rfl
          | (exfalso; omega)
          | (exfalso; simp [eqBk_refl, eqL_refl, strEq_refl, eqBt_refl] at *; done)
          | (exfalso; simp [eqBk_refl, eqL_refl, strEq_refl, eqBt_refl] at *; omega)
      · try simp only [decide_eq_true_eq, decide_eq_false_iff_not, beq_iff_eq, bne_iff_ne, Bool.not_eq_true', Bool.not_eq_false', Bool.and_eq_true, Bool.or_eq_true, Bool.and_eq_false_iff, Bool.or_eq_false_iff, Int.not_lt, Int.not_le, gt_iff_lt, ge_iff_le, bne_eq_false_iff_eq, beq_eq_false_iff_ne, ne_eq, Int.toNat_natCast] at c3
        have hll0 := szL_len (f := szStr) (l := l) (by assumption)
        have hll : l.length ≤ 1048576 := by omega
        have hrs : smallBk (askR p s l).1 := askR_small hsm
        have hrs0 := (cntTo_small (hrs).2.2 ((askR p s l).1).bs.length (Nat.le_refl _))
        have hrs1 := cntTo_nn ((askR p s l).1).bs ((askR p s l).1).bs.length
        have hrs2 := (hrs).1
        have hrs3 := (hrs).2.1
        refine AWp.skip ?_
        refine AWp.seq (AWp.region ?_)
        refine ARun.step rfl (step_loadS_b rfl (hn rfl) rfl ylSt58 rfl rfl rfl (by decide)) ?_
        refine ARun.step rfl (call_stepZ rfl (hn rfl) rfl ylCo30 (.cons rfl (.agg (.cons (.v _) (.cons (.v _) .nil))) (.nil)) (toBkZ _ (by assumption)) rfl rfl) ?_
        refine ARun.step rfl (step_moveV rfl (hn rfl) rfl rfl) ?_
        refine ARun.step rfl (step_moveV rfl (hn rfl) rfl rfl) ?_
        refine ARun.step rfl (call_stepZ rfl (hn rfl) rfl ylCo23 (.cons rfl (.one (.v _)) (.nil)) (toStrSZ _ (by assumption)) rfl rfl) ?_
        refine ARun.step rfl (call_stepN rfl (hn rfl) rfl ylCo35 (.cons rfl (.agg (.cons (.v _) (.cons (.v _) .nil))) (.cons rfl (.one (.v _)) (.cons rfl (.one (.v _)) (.nil)))) (askS _ _ _ hsm hll) rfl rfl) ?_
        refine ARun.step rfl (step_moveV rfl (hn rfl) rfl rfl) ?_
        refine ARun.step rfl (step_extract rfl (hn rfl) rfl rfl rfl (by intro l h; cases h)) ?_
        refine ARun.step rfl (step_extract rfl (hn rfl) rfl rfl rfl (by intro l h; cases h)) ?_
        refine ARun.step rfl (step_alloc_p rfl (hn rfl) rfl ylZs45) ?_
        refine ARun.step rfl (step_store_r rfl rfl ylCs45 rfl rfl rfl rfl rfl rfl rfl) ?_
        refine ARun.step rfl (step_assignV rfl (hn rfl) rfl rfl) ?_
        refine ARun.nil ?_
        refine AWp.seq (AWp.region ?_)
        refine ARun.step rfl (step_loadS_b rfl (hn rfl) rfl ylSt58 rfl rfl rfl (by decide)) ?_
        refine ARun.step rfl (call_stepN rfl (hn rfl) rfl ylCo30 (.cons rfl (.agg (.cons (.v _) (.cons (.v _) .nil))) (.nil)) (toBk _ (by assumption)) rfl rfl) ?_
        refine ARun.step rfl (step_alloc_p rfl (hn rfl) rfl ylZs45) ?_
        refine ARun.step rfl (step_store_r rfl rfl ylCs45 rfl rfl rfl rfl rfl rfl rfl) ?_
        refine ARun.nil ?_
        refine AWp.seq (AWp.region ?_)
        refine ARun.step rfl (step_moveV rfl (hn rfl) rfl rfl) ?_
        refine ARun.step rfl (call_stepN rfl (hn rfl) rfl ylCo23 (.cons rfl (.one (.v _)) (.nil)) (toStrS _ (by assumption)) rfl rfl) ?_
        refine ARun.step rfl (step_assignV rfl (hn rfl) rfl rfl) ?_
        refine ARun.nil ?_
        refine AWp.seq (AWp.region ?_)
        refine ARun.step rfl (step_loadS_b rfl (hn rfl) rfl ylSt45 rfl rfl rfl (by decide)) ?_
        refine ARun.step rfl (step_moveV rfl (hn rfl) rfl rfl) ?_
        refine ARun.step rfl (step_moveV rfl (hn rfl) rfl rfl) ?_
        refine ARun.step rfl (call_stepC rfl (hn rfl) rfl ylCo36 (.cons rfl (.agg (.cons (.ref _ rfl) (.cons (.refz _ rfl (fz_bts _ _)) .nil))) (.cons rfl (.one (.v _)) (.cons rfl (.one (.ref _ rfl)) (.nil)))) (askI _ _ _ hsm hll) rfl (CleanL.all (.cons (clean_strs _) (.cons (clean_btsO _ _) (.cons (.int _ _) .nil))))) ?_
        refine ARun.step rfl (step_moveV rfl (hn rfl) rfl rfl) ?_
        refine ARun.step rfl (step_extract rfl (hn rfl) rfl rfl rfl (by intro l h; cases h)) ?_
        refine ARun.step rfl (step_extract rfl (hn rfl) rfl rfl rfl (by intro l h; cases h)) ?_
        refine ARun.step rfl (step_alloc_p rfl (hn rfl) rfl ylZs45) ?_
        refine ARun.step rfl (step_store_r rfl rfl ylCs45 rfl rfl rfl rfl rfl rfl rfl) ?_
        refine ARun.step rfl (step_assignV rfl (hn rfl) rfl rfl) ?_
        refine ARun.nil ?_
        refine AWp.seq ?_
        refine AWp.seq (AWp.region ?_)
        refine ARun.step rfl (step_loadS_b rfl (hn rfl) rfl ylSt45 rfl rfl rfl (by decide)) ?_
        refine ARun.step rfl (step_loadS_b rfl (hn rfl) rfl ylSt45 rfl rfl rfl (by decide)) ?_
        refine ARun.step rfl (call_step1 rfl (hn rfl) rfl ylCo32 (.cons rfl (.agg (.cons (.ref _ rfl) (.cons (.refz _ rfl (fz_bts _ _)) .nil))) (.cons rfl (.agg (.cons (.ref _ rfl) (.cons (.refz _ rfl (fz_bts _ _)) .nil))) (.nil))) (eqBkI _ _) rfl) ?_
        refine ARun.step rfl (step_not rfl (hn rfl) rfl rfl) ?_
        refine ARun.step rfl (step_moveV rfl (hn rfl) rfl rfl) ?_
        refine guardS rfl rfl rfl rfl (hn rfl) (fun g1 g2 => step_moveV rfl (hn rfl) rfl rfl) ?_
        refine guardS rfl rfl rfl rfl (hn rfl) (fun g1 g2 => step_moveV rfl (hn rfl) rfl rfl) ?_
        refine guardS rfl rfl rfl rfl (hn rfl) (fun g1 g2 => step_neq rfl (hn rfl) rfl (ev_true rfl (by exact flag2 g1 g2)) (ev_true rfl (by exact flag2 g1 g2))) ?_
        refine ARun.step rfl (step_or rfl (hn rfl) rfl rfl rfl (fun h => (by exact flag1 h))) ?_
        refine ARun.nil ?_
        refine AWp.cond rfl (fun c4 => ?_) (fun c4 => ?_)
        · try simp only [decide_eq_true_eq, decide_eq_false_iff_not, beq_iff_eq, bne_iff_ne, Bool.not_eq_true', Bool.not_eq_false', Bool.and_eq_true, Bool.or_eq_true, Bool.and_eq_false_iff, Bool.or_eq_false_iff, Int.not_lt, Int.not_le, gt_iff_lt, ge_iff_le, bne_eq_false_iff_eq, beq_eq_false_iff_ne, ne_eq, Int.toNat_natCast] at c4
          refine AWp.seq (AWp.region ?_)
          refine ARun.step rfl (step_assignV rfl (hn rfl) rfl rfl) ?_
          refine ARun.nil ?_
          refine AWp.ret ?_
          refine RetIs.sc (.inr rfl) rfl rfl ?_
          refine congrArg T.bool ?_
          first
            | rfl
            | (exfalso; omega)
            | (exfalso; simp [eqBk_refl, eqL_refl, strEq_refl, eqBt_refl] at *; done)
            | (exfalso; simp [eqBk_refl, eqL_refl, strEq_refl, eqBt_refl] at *; omega)
        · try simp only [decide_eq_true_eq, decide_eq_false_iff_not, beq_iff_eq, bne_iff_ne, Bool.not_eq_true', Bool.not_eq_false', Bool.and_eq_true, Bool.or_eq_true, Bool.and_eq_false_iff, Bool.or_eq_false_iff, Int.not_lt, Int.not_le, gt_iff_lt, ge_iff_le, bne_eq_false_iff_eq, beq_eq_false_iff_ne, ne_eq, Int.toNat_natCast] at c4
          refine AWp.skip ?_
          refine AWp.seq ?_
          refine AWp.seq (AWp.draw [⟨[.s 10, .b 10], [.s 61], false⟩, ⟨[.s 3, .b 3], [.s 62], false⟩, ⟨[.s 62], [.s 63], false⟩, ⟨[.s 63, .a 42 1, .a 42 0, .s 61], [.s 64], false⟩, ⟨[.s 64], [.s 65], false⟩] ylMo rfl ?_)
          refine DRun.step rfl (fun τ hN hr => step_loadS_b rfl (rdN hN (hn rfl)) rfl ylSt45 (by exact rdS hr rfl rfl) (by exact rdBtake hr rfl rfl) rfl (by decide)) ?_
          refine DRun.step rfl (fun τ hN hr => step_loadS_b rfl (rdN hN (hn rfl)) rfl ylSt58 (by exact rdS hr rfl rfl) (by exact rdBtake hr rfl rfl) rfl (by decide)) ?_
          refine DRun.step rfl (fun τ hN hr => call_stepZ rfl (rdN hN (hn rfl)) rfl ylCo30 (.cons (by exact rdS hr rfl rfl) (.agg (.cons (.v _) (.cons (.v _) .nil))) (.nil)) (toBkZ _ (by assumption)) rfl (by exact rdNoRefs hr rfl rfl)) ?_
          refine DRun.step rfl (fun τ hN hr => call_step1 rfl (rdN hN (hn rfl)) rfl ylCo32 (.cons (by exact rdS hr rfl rfl) (.agg (.cons (.ref _ (by exact rdA hr rfl rfl)) (.cons (.refz _ (by exact rdA hr rfl rfl) (fz_bts _ _)) .nil))) (.cons (by exact rdS hr rfl rfl) (.agg (.cons (.v _) (.cons (.v _) .nil))) (.nil))) (eqBkI _ _) rfl) ?_
          refine DRun.step rfl (fun τ hN hr => step_not rfl (rdN hN (hn rfl)) rfl (by exact rdS hr rfl rfl)) ?_
          refine DRun.nil ?_
          refine AWp.cond rfl (fun c5 => ?_) (fun c5 => ?_)
          · try simp only [decide_eq_true_eq, decide_eq_false_iff_not, beq_iff_eq, bne_iff_ne, Bool.not_eq_true', Bool.not_eq_false', Bool.and_eq_true, Bool.or_eq_true, Bool.and_eq_false_iff, Bool.or_eq_false_iff, Int.not_lt, Int.not_le, gt_iff_lt, ge_iff_le, bne_eq_false_iff_eq, beq_eq_false_iff_ne, ne_eq, Int.toNat_natCast] at c5
            refine AWp.seq (AWp.region ?_)
            refine ARun.step rfl (step_assignV rfl (hn rfl) rfl rfl) ?_
            refine ARun.nil ?_
            refine AWp.ret ?_
            refine RetIs.sc (.inr rfl) rfl rfl ?_
            refine congrArg T.bool ?_
            first
              | rfl
              | (exfalso; omega)
              | (exfalso; simp [eqBk_refl, eqL_refl, strEq_refl, eqBt_refl] at *; done)
              | (exfalso; simp [eqBk_refl, eqL_refl, strEq_refl, eqBt_refl] at *; omega)
          · try simp only [decide_eq_true_eq, decide_eq_false_iff_not, beq_iff_eq, bne_iff_ne, Bool.not_eq_true', Bool.not_eq_false', Bool.and_eq_true, Bool.or_eq_true, Bool.and_eq_false_iff, Bool.or_eq_false_iff, Int.not_lt, Int.not_le, gt_iff_lt, ge_iff_le, bne_eq_false_iff_eq, beq_eq_false_iff_ne, ne_eq, Int.toNat_natCast] at c5
            refine AWp.skip ?_
            refine AWp.seq ?_
            refine AWp.seq (AWp.region ?_)
            refine ARun.step rfl (step_moveV rfl (hn rfl) rfl rfl) ?_
            refine ARun.step rfl (step_moveV rfl (hn rfl) rfl rfl) ?_
            refine ARun.step rfl (call_stepZ rfl (hn rfl) rfl ylCo23 (.cons rfl (.one (.v _)) (.nil)) (toStrSZ _ (by assumption)) rfl rfl) ?_
            refine ARun.step rfl (call_step1 rfl (hn rfl) rfl ylCo14 (.cons rfl (.one (.ref _ rfl)) (.cons rfl (.one (.v _)) (.nil))) (eqStrS _ _) rfl) ?_
            refine ARun.step rfl (step_not rfl (hn rfl) rfl rfl) ?_
            refine ARun.nil ?_
            refine AWp.cond rfl (fun c6 => ?_) (fun c6 => ?_)
            · try simp only [decide_eq_true_eq, decide_eq_false_iff_not, beq_iff_eq, bne_iff_ne, Bool.not_eq_true', Bool.not_eq_false', Bool.and_eq_true, Bool.or_eq_true, Bool.and_eq_false_iff, Bool.or_eq_false_iff, Int.not_lt, Int.not_le, gt_iff_lt, ge_iff_le, bne_eq_false_iff_eq, beq_eq_false_iff_ne, ne_eq, Int.toNat_natCast] at c6
              refine AWp.seq (AWp.region ?_)
              refine ARun.step rfl (step_assignV rfl (hn rfl) rfl rfl) ?_
              refine ARun.nil ?_
              refine AWp.ret ?_
              refine RetIs.sc (.inr rfl) rfl rfl ?_
              refine congrArg T.bool ?_
              first
                | rfl
                | (exfalso; omega)
                | (exfalso; simp [eqBk_refl, eqL_refl, strEq_refl, eqBt_refl] at *; done)
                | (exfalso; simp [eqBk_refl, eqL_refl, strEq_refl, eqBt_refl] at *; omega)
            · try simp only [decide_eq_true_eq, decide_eq_false_iff_not, beq_iff_eq, bne_iff_ne, Bool.not_eq_true', Bool.not_eq_false', Bool.and_eq_true, Bool.or_eq_true, Bool.and_eq_false_iff, Bool.or_eq_false_iff, Int.not_lt, Int.not_le, gt_iff_lt, ge_iff_le, bne_eq_false_iff_eq, beq_eq_false_iff_ne, ne_eq, Int.toNat_natCast] at c6
              refine AWp.skip ?_
              refine AWp.seq (AWp.region ?_)
              refine ARun.step rfl (step_assignV rfl (hn rfl) rfl rfl) ?_
              refine ARun.nil ?_
              refine AWp.seq (AWp.region ?_)
              refine ARun.step rfl (step_loadS_b rfl (hn rfl) rfl ylSt45 rfl rfl rfl (by decide)) ?_
              refine ARun.step rfl (step_moveV rfl (hn rfl) rfl rfl) ?_
              refine ARun.step rfl (mcall_roots (L := [(⟨.arr 42 0, []⟩, 0), (⟨.arr 42 1, []⟩, 1)]) (TL := [(42, 0, _), (42, 1, _)]) rfl (hn rfl) rfl ylCo33 rfl (.cons rfl (.agg (.cons (.rw _ rfl rfl rfl) (.cons (.rw _ rfl rfl rfl) (.nil _)))) (.cons rfl (.one (.v (.refl _))) (.nil _))) (markBk p 1 (by omega) (by omega)) rfl (.cons (i := 0) (j := 0) rfl rfl rfl rfl rfl rfl (.cons (i := 0) (j := 1) rfl rfl rfl rfl rfl rfl .nil))) ?_
              refine ARun.step rfl (step_assignV rfl (hn rfl) rfl rfl) ?_
              refine ARun.nil ?_
              refine AWp.seq (AWp.region ?_)
              refine ARun.step rfl (step_moveV rfl (hn rfl) rfl rfl) ?_
              refine ARun.step rfl (step_moveV rfl (hn rfl) rfl rfl) ?_
              refine ARun.step rfl (mcall_roots (L := [(⟨.arr 44 0, []⟩, 0)]) (TL := [(44, 0, _)]) rfl (hn rfl) rfl ylCo19 rfl (.cons rfl (.one (.rw _ rfl rfl rfl)) (.cons rfl (.one (.v (.refl _))) (.nil _))) (markStrS l _ (by omega) (by omega)) rfl (.cons (i := 0) (j := 0) rfl rfl rfl rfl rfl rfl .nil)) ?_
              refine ARun.step rfl (step_assignV rfl (hn rfl) rfl rfl) ?_
              refine ARun.nil ?_
              refine AWp.seq ?_
              refine AWp.seq (AWp.region ?_)
              refine ARun.step rfl (step_moveV rfl (hn rfl) rfl rfl) ?_
              refine ARun.step rfl (step_lss rfl (hn rfl) rfl rfl rfl) ?_
              refine ARun.step rfl (step_moveV rfl (hn rfl) rfl rfl) ?_
              refine guardS rfl rfl rfl rfl (hn rfl) (fun g1 g2 => step_loadS_b rfl (hn rfl) rfl ylSt45 rfl rfl rfl (by decide)) ?_
              refine guardS rfl rfl rfl rfl (hn rfl) (fun g1 g2 => step_loadS_b rfl (hn rfl) rfl ylSt45 rfl rfl rfl (by decide)) ?_
              refine guardS rfl rfl rfl rfl (hn rfl) (fun g1 g2 => call_step1 rfl (hn rfl) rfl ylCo32 (.cons (ev_true rfl (by exact flag2 g1 g2)) (.agg (.cons (.ref _ rfl) (.cons (.refz _ rfl (fz_bts _ _)) .nil))) (.cons (ev_true rfl (by exact flag2 g1 g2)) (.agg (.cons (.ref _ rfl) (.cons (.refz _ rfl (fz_bts _ _)) .nil))) (.nil))) (eqBkI _ _) rfl) ?_
              refine guardS rfl rfl rfl rfl (hn rfl) (fun g1 g2 => step_not rfl (hn rfl) rfl (ev_true rfl (by exact flag2 g1 g2))) ?_
              refine ARun.step rfl (step_or rfl (hn rfl) rfl rfl rfl (fun h => (by exact flag1 h))) ?_
              refine ARun.step rfl (step_moveV rfl (hn rfl) rfl rfl) ?_
              refine guardS rfl rfl rfl rfl (hn rfl) (fun g1 g2 => step_moveV rfl (hn rfl) rfl rfl) ?_
              refine guardS rfl rfl rfl rfl (hn rfl) (fun g1 g2 => step_moveV rfl (hn rfl) rfl rfl) ?_
              refine guardS rfl rfl rfl rfl (hn rfl) (fun g1 g2 => step_neq rfl (hn rfl) rfl (ev_true rfl (by exact flag2 g1 g2)) (ev_true rfl (by exact flag2 g1 g2))) ?_
              refine ARun.step rfl (step_or rfl (hn rfl) rfl rfl rfl (fun h => (by exact flag1 h))) ?_
              refine ARun.nil ?_
              refine AWp.cond rfl (fun c7 => ?_) (fun c7 => ?_)
              · try simp only [decide_eq_true_eq, decide_eq_false_iff_not, beq_iff_eq, bne_iff_ne, Bool.not_eq_true', Bool.not_eq_false', Bool.and_eq_true, Bool.or_eq_true, Bool.and_eq_false_iff, Bool.or_eq_false_iff, Int.not_lt, Int.not_le, gt_iff_lt, ge_iff_le, bne_eq_false_iff_eq, beq_eq_false_iff_ne, ne_eq, Int.toNat_natCast] at c7
                refine AWp.seq (AWp.region ?_)
                refine ARun.step rfl (step_assignV rfl (hn rfl) rfl rfl) ?_
                refine ARun.nil ?_
                refine AWp.ret ?_
                refine RetIs.sc (.inr rfl) rfl rfl ?_
                refine congrArg T.bool ?_
                first
                  | rfl
                  | (exfalso; omega)
                  | (exfalso; simp [eqBk_refl, eqL_refl, strEq_refl, eqBt_refl] at *; done)
                  | (exfalso; simp [eqBk_refl, eqL_refl, strEq_refl, eqBt_refl] at *; omega)
              · try simp only [decide_eq_true_eq, decide_eq_false_iff_not, beq_iff_eq, bne_iff_ne, Bool.not_eq_true', Bool.not_eq_false', Bool.and_eq_true, Bool.or_eq_true, Bool.and_eq_false_iff, Bool.or_eq_false_iff, Int.not_lt, Int.not_le, gt_iff_lt, ge_iff_le, bne_eq_false_iff_eq, beq_eq_false_iff_ne, ne_eq, Int.toNat_natCast] at c7
                refine AWp.skip ?_
                refine AWp.seq (AWp.region ?_)
                refine ARun.step rfl (step_assignV rfl (hn rfl) rfl rfl) ?_
                refine ARun.nil ?_
                refine AWp.seq (AWp.region ?_)
                refine ARun.step rfl (step_loadS_b rfl (hn rfl) rfl ylSt45 rfl rfl rfl (by decide)) ?_
                refine ARun.step rfl (step_moveV rfl (hn rfl) rfl rfl) ?_
                refine ARun.step rfl (mcall_roots (L := [(⟨.arr 49 0, []⟩, 0), (⟨.arr 49 1, []⟩, 1)]) (TL := [(49, 0, _), (49, 1, _)]) rfl (hn rfl) rfl ylCo33 rfl (.cons rfl (.agg (.cons (.rw _ rfl rfl rfl) (.cons (.rw _ rfl rfl rfl) (.nil _)))) (.cons rfl (.one (.v (.refl _))) (.nil _))) (markBk (askR p s l).1 1 (by omega) (by omega)) rfl (.cons (i := 0) (j := 0) rfl rfl rfl rfl rfl rfl (.cons (i := 0) (j := 1) rfl rfl rfl rfl rfl rfl .nil))) ?_
                refine ARun.step rfl (step_assignV rfl (hn rfl) rfl rfl) ?_
                refine ARun.nil ?_
                refine AWp.seq (AWp.region ?_)
                refine ARun.step rfl (step_assignV rfl (hn rfl) rfl rfl) ?_
                refine ARun.nil ?_
                refine AWp.seq (AWp.region ?_)
                refine ARun.step rfl (step_loadS_b rfl (hn rfl) rfl ylSt45 rfl rfl rfl (by decide)) ?_
                refine ARun.step rfl (step_moveV rfl (hn rfl) rfl rfl) ?_
                refine ARun.step rfl (call_step1 rfl (hn rfl) rfl ylCo34 (.cons rfl (.agg (.cons (.ref _ rfl) (.cons (.ref _ rfl) .nil))) (.cons rfl (.one (.v _)) (.nil))) (heldBk (askR p s l).1 1 (by omega) (by omega)) rfl) ?_
                refine ARun.step rfl (step_assignV rfl (hn rfl) rfl rfl) ?_
                refine ARun.nil ?_
                refine AWp.seq ?_
                refine AWp.seq (AWp.region ?_)
                refine ARun.step rfl (step_moveV rfl (hn rfl) rfl rfl) ?_
                refine ARun.step rfl (step_lss rfl (hn rfl) rfl rfl rfl) ?_
                refine ARun.nil ?_
                refine AWp.cond rfl (fun c8 => ?_) (fun c8 => ?_)
                · try simp only [decide_eq_true_eq, decide_eq_false_iff_not, beq_iff_eq, bne_iff_ne, Bool.not_eq_true', Bool.not_eq_false', Bool.and_eq_true, Bool.or_eq_true, Bool.and_eq_false_iff, Bool.or_eq_false_iff, Int.not_lt, Int.not_le, gt_iff_lt, ge_iff_le, bne_eq_false_iff_eq, beq_eq_false_iff_ne, ne_eq, Int.toNat_natCast] at c8
                  refine AWp.seq (AWp.region ?_)
                  refine ARun.step rfl (step_assignV rfl (hn rfl) rfl rfl) ?_
                  refine ARun.nil ?_
                  refine AWp.ret ?_
                  refine RetIs.sc (.inr rfl) rfl rfl ?_
                  refine congrArg T.bool ?_
                  first
                    | rfl
                    | (exfalso; omega)
                    | (exfalso; simp [eqBk_refl, eqL_refl, strEq_refl, eqBt_refl] at *; done)
                    | (exfalso; simp [eqBk_refl, eqL_refl, strEq_refl, eqBt_refl] at *; omega)
                · try simp only [decide_eq_true_eq, decide_eq_false_iff_not, beq_iff_eq, bne_iff_ne, Bool.not_eq_true', Bool.not_eq_false', Bool.and_eq_true, Bool.or_eq_true, Bool.and_eq_false_iff, Bool.or_eq_false_iff, Int.not_lt, Int.not_le, gt_iff_lt, ge_iff_le, bne_eq_false_iff_eq, beq_eq_false_iff_ne, ne_eq, Int.toNat_natCast] at c8
                  refine AWp.skip ?_
                  refine AWp.seq ?_
                  refine AWp.seq (AWp.region ?_)
                  refine ARun.step rfl (step_moveV rfl (hn rfl) rfl rfl) ?_
                  refine ARun.step rfl (step_moveV rfl (hn rfl) rfl rfl) ?_
                  refine ARun.step rfl (step_neq rfl (hn rfl) rfl rfl rfl) ?_
                  refine ARun.nil ?_
                  refine AWp.cond rfl (fun c9 => ?_) (fun c9 => ?_)
                  · try simp only [decide_eq_true_eq, decide_eq_false_iff_not, beq_iff_eq, bne_iff_ne, Bool.not_eq_true', Bool.not_eq_false', Bool.and_eq_true, Bool.or_eq_true, Bool.and_eq_false_iff, Bool.or_eq_false_iff, Int.not_lt, Int.not_le, gt_iff_lt, ge_iff_le, bne_eq_false_iff_eq, beq_eq_false_iff_ne, ne_eq, Int.toNat_natCast] at c9
                    refine AWp.seq (AWp.region ?_)
                    refine ARun.step rfl (step_assignV rfl (hn rfl) rfl rfl) ?_
                    refine ARun.nil ?_
                    refine AWp.ret ?_
                    refine RetIs.sc (.inr rfl) rfl rfl ?_
                    refine congrArg T.bool ?_
                    first
                      | rfl
                      | (exfalso; omega)
                      | (exfalso; simp [eqBk_refl, eqL_refl, strEq_refl, eqBt_refl] at *; done)
                      | (exfalso; simp [eqBk_refl, eqL_refl, strEq_refl, eqBt_refl] at *; omega)
                  · try simp only [decide_eq_true_eq, decide_eq_false_iff_not, beq_iff_eq, bne_iff_ne, Bool.not_eq_true', Bool.not_eq_false', Bool.and_eq_true, Bool.or_eq_true, Bool.and_eq_false_iff, Bool.or_eq_false_iff, Int.not_lt, Int.not_le, gt_iff_lt, ge_iff_le, bne_eq_false_iff_eq, beq_eq_false_iff_ne, ne_eq, Int.toNat_natCast] at c9
                    refine AWp.skip ?_
                    refine AWp.seq (AWp.region ?_)
                    refine ARun.step rfl (step_loadS_b rfl (hn rfl) rfl ylSt58 rfl rfl rfl (by decide)) ?_
                    refine ARun.step rfl (call_stepZ rfl (hn rfl) rfl ylCo30 (.cons rfl (.agg (.cons (.v _) (.cons (.v _) .nil))) (.nil)) (toBkZ _ (by assumption)) rfl rfl) ?_
                    refine ARun.step rfl (step_moveV rfl (hn rfl) rfl rfl) ?_
                    refine ARun.step rfl (step_moveV rfl (hn rfl) rfl rfl) ?_
                    refine ARun.step rfl (call_stepZ rfl (hn rfl) rfl ylCo23 (.cons rfl (.one (.v _)) (.nil)) (toStrSZ _ (by assumption)) rfl rfl) ?_
                    refine ARun.step rfl (call_stepN rfl (hn rfl) rfl ylCo36 (.cons rfl (.agg (.cons (.v _) (.cons (.v _) .nil))) (.cons rfl (.one (.v _)) (.cons rfl (.one (.v _)) (.nil)))) (askI _ _ _ hsm hll) rfl rfl) ?_
                    refine ARun.step rfl (step_moveV rfl (hn rfl) rfl rfl) ?_
                    refine ARun.step rfl (step_extract rfl (hn rfl) rfl rfl rfl (by intro l h; cases h)) ?_
                    refine ARun.step rfl (step_extract rfl (hn rfl) rfl rfl rfl (by intro l h; cases h)) ?_
                    refine ARun.step rfl (step_alloc_p rfl (hn rfl) rfl ylZs45) ?_
                    refine ARun.step rfl (step_store_r rfl rfl ylCs45 rfl rfl rfl rfl rfl rfl rfl) ?_
                    refine ARun.step rfl (step_assignV rfl (hn rfl) rfl rfl) ?_
                    refine ARun.nil ?_
                    refine AWp.seq ?_
                    refine AWp.seq (AWp.region ?_)
                    refine ARun.step rfl (step_loadS_b rfl (hn rfl) rfl ylSt45 rfl rfl rfl (by decide)) ?_
                    refine ARun.step rfl (step_loadS_b rfl (hn rfl) rfl ylSt45 rfl rfl rfl (by decide)) ?_
                    refine ARun.step rfl (call_step1 rfl (hn rfl) rfl ylCo32 (.cons rfl (.agg (.cons (.ref _ rfl) (.cons (.refz _ rfl (fz_bts _ _)) .nil))) (.cons rfl (.agg (.cons (.ref _ rfl) (.cons (.refz _ rfl (fz_bts _ _)) .nil))) (.nil))) (eqBkI _ _) rfl) ?_
                    refine ARun.step rfl (step_not rfl (hn rfl) rfl rfl) ?_
                    refine ARun.step rfl (step_moveV rfl (hn rfl) rfl rfl) ?_
                    refine guardS rfl rfl rfl rfl (hn rfl) (fun g1 g2 => step_moveV rfl (hn rfl) rfl rfl) ?_
                    refine guardS rfl rfl rfl rfl (hn rfl) (fun g1 g2 => step_moveV rfl (hn rfl) rfl rfl) ?_
                    refine guardS rfl rfl rfl rfl (hn rfl) (fun g1 g2 => step_neq rfl (hn rfl) rfl (ev_true rfl (by exact flag2 g1 g2)) (ev_true rfl (by exact flag2 g1 g2))) ?_
                    refine ARun.step rfl (step_or rfl (hn rfl) rfl rfl rfl (fun h => (by exact flag1 h))) ?_
                    refine ARun.nil ?_
                    refine AWp.cond rfl (fun c10 => ?_) (fun c10 => ?_)
                    · try simp only [decide_eq_true_eq, decide_eq_false_iff_not, beq_iff_eq, bne_iff_ne, Bool.not_eq_true', Bool.not_eq_false', Bool.and_eq_true, Bool.or_eq_true, Bool.and_eq_false_iff, Bool.or_eq_false_iff, Int.not_lt, Int.not_le, gt_iff_lt, ge_iff_le, bne_eq_false_iff_eq, beq_eq_false_iff_ne, ne_eq, Int.toNat_natCast] at c10
                      refine AWp.seq (AWp.region ?_)
                      refine ARun.step rfl (step_assignV rfl (hn rfl) rfl rfl) ?_
                      refine ARun.nil ?_
                      refine AWp.ret ?_
                      refine RetIs.sc (.inr rfl) rfl rfl ?_
                      refine congrArg T.bool ?_
                      first
                        | rfl
                        | (exfalso; omega)
                        | (exfalso; simp [eqBk_refl, eqL_refl, strEq_refl, eqBt_refl] at *; done)
                        | (exfalso; simp [eqBk_refl, eqL_refl, strEq_refl, eqBt_refl] at *; omega)
                    · try simp only [decide_eq_true_eq, decide_eq_false_iff_not, beq_iff_eq, bne_iff_ne, Bool.not_eq_true', Bool.not_eq_false', Bool.and_eq_true, Bool.or_eq_true, Bool.and_eq_false_iff, Bool.or_eq_false_iff, Int.not_lt, Int.not_le, gt_iff_lt, ge_iff_le, bne_eq_false_iff_eq, beq_eq_false_iff_ne, ne_eq, Int.toNat_natCast] at c10
                      refine AWp.skip ?_
                      refine AWp.seq (AWp.region ?_)
                      refine ARun.step rfl (step_assignV rfl (hn rfl) rfl rfl) ?_
                      refine ARun.nil ?_
                      refine AWp.seq (AWp.region ?_)
                      refine ARun.step rfl (step_loadS_b rfl (hn rfl) rfl ylSt45 rfl rfl rfl (by decide)) ?_
                      refine ARun.step rfl (step_moveV rfl (hn rfl) rfl rfl) ?_
                      refine ARun.step rfl (call_step1 rfl (hn rfl) rfl ylCo34 (.cons rfl (.agg (.cons (.ref _ rfl) (.cons (.ref _ rfl) .nil))) (.cons rfl (.one (.v _)) (.nil))) (heldBk (askR p s l).1 1 (by omega) (by omega)) rfl) ?_
                      refine ARun.step rfl (step_assignV rfl (hn rfl) rfl rfl) ?_
                      refine ARun.nil ?_
                      refine AWp.seq ?_
                      refine AWp.seq (AWp.region ?_)
                      refine ARun.step rfl (step_moveV rfl (hn rfl) rfl rfl) ?_
                      refine ARun.step rfl (step_lss rfl (hn rfl) rfl rfl rfl) ?_
                      refine ARun.nil ?_
                      refine AWp.cond rfl (fun c11 => ?_) (fun c11 => ?_)
                      · try simp only [decide_eq_true_eq, decide_eq_false_iff_not, beq_iff_eq, bne_iff_ne, Bool.not_eq_true', Bool.not_eq_false', Bool.and_eq_true, Bool.or_eq_true, Bool.and_eq_false_iff, Bool.or_eq_false_iff, Int.not_lt, Int.not_le, gt_iff_lt, ge_iff_le, bne_eq_false_iff_eq, beq_eq_false_iff_ne, ne_eq, Int.toNat_natCast] at c11
                        refine AWp.seq (AWp.region ?_)
                        refine ARun.step rfl (step_assignV rfl (hn rfl) rfl rfl) ?_
                        refine ARun.nil ?_
                        refine AWp.ret ?_
                        refine RetIs.sc (.inr rfl) rfl rfl ?_
                        refine congrArg T.bool ?_
                        first
                          | rfl
                          | (exfalso; omega)
                          | (exfalso; simp [eqBk_refl, eqL_refl, strEq_refl, eqBt_refl] at *; done)
                          | (exfalso; simp [eqBk_refl, eqL_refl, strEq_refl, eqBt_refl] at *; omega)
                      · try simp only [decide_eq_true_eq, decide_eq_false_iff_not, beq_iff_eq, bne_iff_ne, Bool.not_eq_true', Bool.not_eq_false', Bool.and_eq_true, Bool.or_eq_true, Bool.and_eq_false_iff, Bool.or_eq_false_iff, Int.not_lt, Int.not_le, gt_iff_lt, ge_iff_le, bne_eq_false_iff_eq, beq_eq_false_iff_ne, ne_eq, Int.toNat_natCast] at c11
                        refine AWp.skip ?_
                        refine AWp.seq ?_
                        refine AWp.seq (AWp.region ?_)
                        refine ARun.step rfl (step_moveV rfl (hn rfl) rfl rfl) ?_
                        refine ARun.step rfl (step_moveV rfl (hn rfl) rfl rfl) ?_
                        refine ARun.step rfl (step_neq rfl (hn rfl) rfl rfl rfl) ?_
                        refine ARun.nil ?_
                        refine AWp.cond rfl (fun c12 => ?_) (fun c12 => ?_)
                        · try simp only [decide_eq_true_eq, decide_eq_false_iff_not, beq_iff_eq, bne_iff_ne, Bool.not_eq_true', Bool.not_eq_false', Bool.and_eq_true, Bool.or_eq_true, Bool.and_eq_false_iff, Bool.or_eq_false_iff, Int.not_lt, Int.not_le, gt_iff_lt, ge_iff_le, bne_eq_false_iff_eq, beq_eq_false_iff_ne, ne_eq, Int.toNat_natCast] at c12
                          refine AWp.seq (AWp.region ?_)
                          refine ARun.step rfl (step_assignV rfl (hn rfl) rfl rfl) ?_
                          refine ARun.nil ?_
                          refine AWp.ret ?_
                          refine RetIs.sc (.inr rfl) rfl rfl ?_
                          refine congrArg T.bool ?_
                          first
                            | rfl
                            | (exfalso; omega)
                            | (exfalso; simp [eqBk_refl, eqL_refl, strEq_refl, eqBt_refl] at *; done)
                            | (exfalso; simp [eqBk_refl, eqL_refl, strEq_refl, eqBt_refl] at *; omega)
                        · try simp only [decide_eq_true_eq, decide_eq_false_iff_not, beq_iff_eq, bne_iff_ne, Bool.not_eq_true', Bool.not_eq_false', Bool.and_eq_true, Bool.or_eq_true, Bool.and_eq_false_iff, Bool.or_eq_false_iff, Int.not_lt, Int.not_le, gt_iff_lt, ge_iff_le, bne_eq_false_iff_eq, beq_eq_false_iff_ne, ne_eq, Int.toNat_natCast] at c12
                          refine AWp.skip ?_
                          refine AWp.seq (AWp.region ?_)
                          refine ARun.step rfl (step_assignV rfl (hn rfl) rfl rfl) ?_
                          refine ARun.nil ?_
                          refine AWp.ret ?_
                          refine RetIs.sc (.inr rfl) rfl rfl ?_
                          refine congrArg T.bool ?_
                          first
                            | rfl
                            | (exfalso; omega)
                            | (exfalso; simp [eqBk_refl, eqL_refl, strEq_refl, eqBt_refl] at *; done)
                            | (exfalso; simp [eqBk_refl, eqL_refl, strEq_refl, eqBt_refl] at *; omega)

end Go.Proofs.Ytnedadngbhndkaa
