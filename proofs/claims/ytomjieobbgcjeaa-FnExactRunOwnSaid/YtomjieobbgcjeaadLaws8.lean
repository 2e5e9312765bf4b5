/- Contracts of functions of the program, each met by its body; conditions stand in each statement. No condition. -/
import Derived.Test.YtomjieobbgcjeaadRun2
import Derived.Test.YtomjieobbgcjeaaProg
import Derived.KernelRfl
set_option linter.unusedVariables false
set_option linter.unusedSimpArgs false
set_option linter.unnecessarySimpa false
set_option linter.unusedSimpArgs false
set_option maxRecDepth 100000
namespace Go.Proofs.Ytomjieobbgcjeaa
open Go Go.Mh

theorem runThings_len (p : Rb) (s : Str) : (runThings p s).length ≤ 24 := by
  unfold runThings fromB; split
  · rename_i h
    have hr : recOk p.recipe = true := by simp only [rbOk, Bool.and_eq_true] at h; exact h.1.1.1.2
    exact Nat.le_trans (thingsB_len _ _) (slotsB_len hr s)
  · exact Nat.zero_le _
theorem runOwn_len (p : Rb) : (runOwn p).length ≤ 24 := by
  unfold runOwn ownB; split
  · exact Nat.le_trans (thingsB_len _ _) (Nat.le_trans (slots1_len _) (by omega))
  · exact Nat.zero_le _
theorem rbOk_rec {p : Rb} (h : rbOk p = true) : recOk p.recipe = true ∧ 0 ≤ atP p.recipe p.at_ := by
  simp only [rbOk, Bool.and_eq_true, decide_eq_true_eq] at h; exact ⟨h.1.1.1.2, h.2.1⟩

theorem yzSt78 : structSz Try.prog 78 = some 6 := by kernel_rfl
theorem yzCo54 : callOk Try.prog 54 = true := by kernel_rfl
theorem yzCo131 : callOk Try.prog 131 = true := by kernel_rfl
theorem yzCo135 : callOk Try.prog 135 = true := by kernel_rfl
theorem yzCo52 : callOk Try.prog 52 = true := by kernel_rfl
theorem yzSl33 : sliceT Try.prog 33 = some ⟨9, 1, 16⟩ := by kernel_rfl
theorem yzFo78_1 : fieldOff Try.prog 78 1 = some 1 := by kernel_rfl
theorem yzSc23 : scalarB Try.prog 23 = true := by kernel_rfl
theorem yzCo130 : callOk Try.prog 130 = true := by kernel_rfl
theorem yzCo129 : callOk Try.prog 129 = true := by kernel_rfl
theorem yzMo : Try.prog.follows .mixedOrders = true := by kernel_rfl
theorem yzFo78_3 : fieldOff Try.prog 78 3 = some 3 := by kernel_rfl
theorem yzSc9 : scalarB Try.prog 9 = true := by kernel_rfl
theorem yzCo75 : callOk Try.prog 75 = true := by kernel_rfl
theorem yzSl23 : sliceT Try.prog 23 = some ⟨30, 8, 104⟩ := by kernel_rfl
theorem yzSt30 : structSz Try.prog 30 = some 8 := by kernel_rfl
theorem yzCo134 : callOk Try.prog 134 = true := by kernel_rfl
theorem yzCo132 : callOk Try.prog 132 = true := by kernel_rfl
theorem yzFo78_2 : fieldOff Try.prog 78 2 = some 2 := by kernel_rfl
theorem yzSc76 : scalarB Try.prog 76 = true := by kernel_rfl
theorem yzCo133 : callOk Try.prog 133 = true := by kernel_rfl
theorem yzSt73 : structSz Try.prog 73 = some 6 := by kernel_rfl
theorem yzCo51 : callOk Try.prog 51 = true := by kernel_rfl
theorem yzCo53 : callOk Try.prog 53 = true := by kernel_rfl
theorem yzZs78 : zeroSz Try.prog 78 = some 6 := by kernel_rfl
theorem yzCs78 : cellsSz Try.prog 78 = some (5 + 1) := by kernel_rfl
theorem yzUb4 : Try.prog.underlying 4 = some .bool := by kernel_rfl
theorem yzCo55 : callOk Try.prog 55 = true := by kernel_rfl
theorem yzUs9 : Try.prog.underlying 9 = some .string := by kernel_rfl
theorem yzCo60 : callOk Try.prog 60 = true := by kernel_rfl
theorem yzCo61 : callOk Try.prog 61 = true := by kernel_rfl
theorem yzCo47 : callOk Try.prog 47 = true := by kernel_rfl
theorem yzCo62 : callOk Try.prog 62 = true := by kernel_rfl
theorem yzCo48 : callOk Try.prog 48 = true := by kernel_rfl
theorem yzCo63 : callOk Try.prog 63 = true := by kernel_rfl
theorem yzCo64 : callOk Try.prog 64 = true := by kernel_rfl
theorem yzCo65 : callOk Try.prog 65 = true := by kernel_rfl
theorem runThingsI (p : Rb) (s : Str)  : ASpec Try.prog 61 [.agg (p.cells 30 159), .one (.str s)] (.one (strs (runThings p s))) := by
  refine ASpec.body Try.func61 rfl [4] rfl 11 rfl rfl rfl ?_
  refine AWp.seq (AWp.region ?_)
  refine ARun.step rfl (step_box_p (m := 5) rfl (hn rfl) rfl rfl rfl rfl rfl) ?_
  refine ARun.step rfl (step_assignV rfl (hn rfl) rfl rfl) ?_
  refine ARun.nil ?_
  refine AWp.seq ?_
  refine AWp.seq (AWp.region ?_)
  refine ARun.step rfl (step_loadS_b rfl (hn rfl) rfl yzSt78 rfl rfl rfl (by decide)) ?_
  refine ARun.step rfl (call_step1 rfl (hn rfl) rfl yzCo54 (.cons rfl (.agg (.cons (.v _) (.cons (.v _) (.cons (.v _) (.cons (.v _) (.cons (.v _) (.cons (.v _) .nil))))))) (.nil)) (rbOkI _) rfl) ?_
  refine ARun.step rfl (step_not rfl (hn rfl) rfl rfl) ?_
  refine ARun.nil ?_
  refine AWp.cond rfl (fun c1 => ?_) (fun c1 => ?_)
  · try simp only [decide_eq_true_eq, decide_eq_false_iff_not, beq_iff_eq, bne_iff_ne, Bool.not_eq_true', Bool.not_eq_false', Bool.and_eq_true, Bool.or_eq_true, Bool.and_eq_false_iff, Bool.or_eq_false_iff, Int.not_lt, Int.not_le, gt_iff_lt, ge_iff_le, bne_eq_false_iff_eq, beq_eq_false_iff_ne, ne_eq, Int.toNat_natCast] at c1
    refine AWp.seq (AWp.region ?_)
    refine ARun.step rfl (step_assignV rfl (hn rfl) rfl rfl) ?_
    refine ARun.nil ?_
    refine AWp.ret ?_
    refine ⟨.inr rfl, [.one (.sl 9 1 0 (fun i => [.str (nth [] i)]))], [], .cons rfl (.one (.nil _ _ _ _)) (.nil _), rfl, ?_⟩
    rw [show runThings p s = [] by simp [runThings, c1]]; rfl
  · try simp only [decide_eq_true_eq, decide_eq_false_iff_not, beq_iff_eq, bne_iff_ne, Bool.not_eq_true', Bool.not_eq_false', Bool.and_eq_true, Bool.or_eq_true, Bool.and_eq_false_iff, Bool.or_eq_false_iff, Int.not_lt, Int.not_le, gt_iff_lt, ge_iff_le, bne_eq_false_iff_eq, beq_eq_false_iff_ne, ne_eq, Int.toNat_natCast] at c1
    refine AWp.skip ?_
    refine AWp.seq (AWp.region ?_)
    refine ARun.step rfl (step_loadS_b rfl (hn rfl) rfl yzSt78 rfl rfl rfl (by decide)) ?_
    refine ARun.step rfl (step_moveV rfl (hn rfl) rfl rfl) ?_
    refine ARun.step rfl (call_stepN rfl (hn rfl) rfl yzCo131 (.cons rfl (.agg (.cons (.v _) (.cons (.v _) (.cons (.v _) (.cons (.v _) (.cons (.v _) (.cons (.v _) .nil))))))) (.cons rfl (.one (.v _)) (.nil))) (fromI p s (rbOk_rec c1).1) rfl rfl) ?_
    refine ARun.step rfl (step_assignV rfl (hn rfl) rfl rfl) ?_
    refine ARun.nil ?_
    refine AWp.ret ?_
    refine RetIs.ref (.inr rfl) rfl rfl ?_
    rw [show runThings p s = fromB p s by simp [runThings, c1]]; rfl
theorem runOwnI (p : Rb)  : ASpec Try.prog 65 [.agg (p.cells 30 159)] (.one (strs (runOwn p))) := by
  refine ASpec.body Try.func65 rfl [2] rfl 8 rfl rfl rfl ?_
  refine AWp.seq (AWp.region ?_)
  refine ARun.step rfl (step_box_p (m := 5) rfl (hn rfl) rfl rfl rfl rfl rfl) ?_
  refine ARun.step rfl (step_assignV rfl (hn rfl) rfl rfl) ?_
  refine ARun.nil ?_
  refine AWp.seq ?_
  refine AWp.seq (AWp.region ?_)
  refine ARun.step rfl (step_loadS_b rfl (hn rfl) rfl yzSt78 rfl rfl rfl (by decide)) ?_
  refine ARun.step rfl (call_step1 rfl (hn rfl) rfl yzCo54 (.cons rfl (.agg (.cons (.v _) (.cons (.v _) (.cons (.v _) (.cons (.v _) (.cons (.v _) (.cons (.v _) .nil))))))) (.nil)) (rbOkI _) rfl) ?_
  refine ARun.step rfl (step_not rfl (hn rfl) rfl rfl) ?_
  refine ARun.nil ?_
  refine AWp.cond rfl (fun c1 => ?_) (fun c1 => ?_)
  · try simp only [decide_eq_true_eq, decide_eq_false_iff_not, beq_iff_eq, bne_iff_ne, Bool.not_eq_true', Bool.not_eq_false', Bool.and_eq_true, Bool.or_eq_true, Bool.and_eq_false_iff, Bool.or_eq_false_iff, Int.not_lt, Int.not_le, gt_iff_lt, ge_iff_le, bne_eq_false_iff_eq, beq_eq_false_iff_ne, ne_eq, Int.toNat_natCast] at c1
    refine AWp.seq (AWp.region ?_)
    refine ARun.step rfl (step_assignV rfl (hn rfl) rfl rfl) ?_
    refine ARun.nil ?_
    refine AWp.ret ?_
    refine ⟨.inr rfl, [.one (.sl 9 1 0 (fun i => [.str (nth [] i)]))], [], .cons rfl (.one (.nil _ _ _ _)) (.nil _), rfl, ?_⟩
    rw [show runOwn p = [] by simp [runOwn, c1]]; rfl
  · try simp only [decide_eq_true_eq, decide_eq_false_iff_not, beq_iff_eq, bne_iff_ne, Bool.not_eq_true', Bool.not_eq_false', Bool.and_eq_true, Bool.or_eq_true, Bool.and_eq_false_iff, Bool.or_eq_false_iff, Int.not_lt, Int.not_le, gt_iff_lt, ge_iff_le, bne_eq_false_iff_eq, beq_eq_false_iff_ne, ne_eq, Int.toNat_natCast] at c1
    refine AWp.skip ?_
    refine AWp.seq (AWp.region ?_)
    refine ARun.step rfl (step_loadS_b rfl (hn rfl) rfl yzSt78 rfl rfl rfl (by decide)) ?_
    refine ARun.step rfl (call_stepN rfl (hn rfl) rfl yzCo135 (.cons rfl (.agg (.cons (.v _) (.cons (.v _) (.cons (.v _) (.cons (.v _) (.cons (.v _) (.cons (.v _) .nil))))))) (.nil)) (ownI p (rbOk_rec c1).1 (rbOk_rec c1).2) rfl rfl) ?_
    refine ARun.step rfl (step_assignV rfl (hn rfl) rfl rfl) ?_
    refine ARun.nil ?_
    refine AWp.ret ?_
    refine RetIs.ref (.inr rfl) rfl rfl ?_
    rw [show runOwn p = ownB p by simp [runOwn, c1]]; rfl
theorem runThingsS (p : Rb) (s : Str)  : ASpec Try.prog 60 [.agg (p.cells 30 159), .one (.str s)] (.one (.fz (strs (runThings p s)))) := by
  refine ASpec.body Try.func60 rfl [4] rfl 15 rfl rfl rfl ?_
  refine AWp.seq (AWp.region ?_)
  refine ARun.step rfl (step_box_p (m := 5) rfl (hn rfl) rfl rfl rfl rfl rfl) ?_
  refine ARun.step rfl (step_assignV rfl (hn rfl) rfl rfl) ?_
  refine ARun.nil ?_
  refine AWp.seq ?_
  refine AWp.seq (AWp.region ?_)
  refine ARun.step rfl (step_loadS_b rfl (hn rfl) rfl yzSt78 rfl rfl rfl (by decide)) ?_
  refine ARun.step rfl (call_step1 rfl (hn rfl) rfl yzCo52 (.cons rfl (.agg (.cons (.v _) (.cons (.v _) (.cons (.v _) (.cons (.v _) (.cons (.v _) (.cons (.v _) .nil))))))) (.nil)) (rbOkS _) rfl) ?_
  refine ARun.step rfl (step_not rfl (hn rfl) rfl rfl) ?_
  refine ARun.nil ?_
  refine AWp.cond rfl (fun c1 => ?_) (fun c1 => ?_)
  · try simp only [decide_eq_true_eq, decide_eq_false_iff_not, beq_iff_eq, bne_iff_ne, Bool.not_eq_true', Bool.not_eq_false', Bool.and_eq_true, Bool.or_eq_true, Bool.and_eq_false_iff, Bool.or_eq_false_iff, Int.not_lt, Int.not_le, gt_iff_lt, ge_iff_le, bne_eq_false_iff_eq, beq_eq_false_iff_ne, ne_eq, Int.toNat_natCast] at c1
    refine AWp.seq (AWp.region ?_)
    refine ARun.step rfl (step_buildVT rfl (hn rfl) rfl yzSl33 (strs []) (.nil _) rfl rfl rfl rows0) ?_
    refine ARun.step rfl (step_assignV rfl (hn rfl) rfl rfl) ?_
    refine ARun.nil ?_
    refine AWp.ret ?_
    refine RetIs.frz (.inr rfl) rfl ?_
    exact congrArg (fun x => T.fz (strs x)) (show [] = runThings p s by simp [runThings, c1])
  · try simp only [decide_eq_true_eq, decide_eq_false_iff_not, beq_iff_eq, bne_iff_ne, Bool.not_eq_true', Bool.not_eq_false', Bool.and_eq_true, Bool.or_eq_true, Bool.and_eq_false_iff, Bool.or_eq_false_iff, Int.not_lt, Int.not_le, gt_iff_lt, ge_iff_le, bne_eq_false_iff_eq, beq_eq_false_iff_ne, ne_eq, Int.toNat_natCast] at c1
    have hsl := slotsB_len (rbOk_rec c1).1 s
    refine AWp.skip ?_
    refine AWp.seq (AWp.draw [⟨[.s 2, .b 2], [.s 9], false⟩, ⟨[.s 2, .b 2], [.s 10], false⟩, ⟨[.s 10, .b 2], [.s 11], false⟩, ⟨[.s 1], [.s 12], false⟩, ⟨[.s 12, .s 11], [.s 13], false⟩, ⟨[.s 13, .s 9], [.s 14], false⟩, ⟨[], [], true⟩] yzMo rfl ?_)
    refine DRun.step rfl (fun τ hN hr => step_loadS_b rfl (rdN hN (hn rfl)) rfl yzSt78 (by exact rdS hr rfl rfl) (by exact rdBtake hr rfl rfl) rfl (by decide)) ?_
    refine DRun.step rfl (fun τ hN hr => step_field_b rfl (rdN hN (hn rfl)) rfl yzFo78_1 (by exact rdS hr rfl rfl) (by exact rdBne hr rfl (by exact List.cons_ne_nil _ _))) ?_
    refine DRun.step rfl (fun τ hN hr => step_load_b rfl (rdN hN (hn rfl)) rfl yzSc23 (by exact rdS hr rfl rfl) (by exact rdBget hr rfl rfl)) ?_
    refine DRun.step rfl (fun τ hN hr => step_moveV rfl (rdN hN (hn rfl)) rfl (by exact rdS hr rfl rfl)) ?_
    refine DRun.step rfl (fun τ hN hr => call_stepZ rfl (rdN hN (hn rfl)) rfl yzCo130 (.cons (by exact rdS hr rfl rfl) (.one (.v _)) (.cons (by exact rdS hr rfl rfl) (.one (.v _)) (.nil))) (slotsS _ _ (rbOk_rec c1).1) rfl (by exact rdNoRefs hr rfl rfl)) ?_
    refine DRun.step rfl (fun τ hN hr => call_stepZ rfl (rdN hN (hn rfl)) rfl yzCo129 (.cons (by exact rdS hr rfl rfl) (.agg (.cons (.v _) (.cons (.v _) (.cons (.v _) (.cons (.v _) (.cons (.v _) (.cons (.v _) .nil))))))) (.cons (by exact rdS hr rfl rfl) (.one (.v _)) (.nil))) (thingsS p _ (by omega)) rfl (by exact rdNoRefs hr rfl rfl)) ?_
    refine DRun.lastS rfl (step_assignV rfl (hn rfl) rfl rfl) ?_
    refine AWp.ret ?_
    refine RetIs.frz (.inr rfl) rfl ?_
    exact congrArg (fun x => T.fz (strs x)) (show fromB p s = runThings p s by simp [runThings, c1])
theorem runOwnS (p : Rb)  : ASpec Try.prog 64 [.agg (p.cells 30 159)] (.one (.fz (strs (runOwn p)))) := by
  refine ASpec.body Try.func64 rfl [2] rfl 19 rfl rfl rfl ?_
  refine AWp.seq (AWp.region ?_)
  refine ARun.step rfl (step_box_p (m := 5) rfl (hn rfl) rfl rfl rfl rfl rfl) ?_
  refine ARun.step rfl (step_assignV rfl (hn rfl) rfl rfl) ?_
  refine ARun.nil ?_
  refine AWp.seq ?_
  refine AWp.seq (AWp.region ?_)
  refine ARun.step rfl (step_loadS_b rfl (hn rfl) rfl yzSt78 rfl rfl rfl (by decide)) ?_
  refine ARun.step rfl (call_step1 rfl (hn rfl) rfl yzCo52 (.cons rfl (.agg (.cons (.v _) (.cons (.v _) (.cons (.v _) (.cons (.v _) (.cons (.v _) (.cons (.v _) .nil))))))) (.nil)) (rbOkS _) rfl) ?_
  refine ARun.step rfl (step_not rfl (hn rfl) rfl rfl) ?_
  refine ARun.nil ?_
  refine AWp.cond rfl (fun c1 => ?_) (fun c1 => ?_)
  · try simp only [decide_eq_true_eq, decide_eq_false_iff_not, beq_iff_eq, bne_iff_ne, Bool.not_eq_true', Bool.not_eq_false', Bool.and_eq_true, Bool.or_eq_true, Bool.and_eq_false_iff, Bool.or_eq_false_iff, Int.not_lt, Int.not_le, gt_iff_lt, ge_iff_le, bne_eq_false_iff_eq, beq_eq_false_iff_ne, ne_eq, Int.toNat_natCast] at c1
    refine AWp.seq (AWp.region ?_)
    refine ARun.step rfl (step_buildVT rfl (hn rfl) rfl yzSl33 (strs []) (.nil _) rfl rfl rfl rows0) ?_
    refine ARun.step rfl (step_assignV rfl (hn rfl) rfl rfl) ?_
    refine ARun.nil ?_
    refine AWp.ret ?_
    refine RetIs.frz (.inr rfl) rfl ?_
    exact congrArg (fun x => T.fz (strs x)) (show [] = runOwn p by simp [runOwn, c1])
  · try simp only [decide_eq_true_eq, decide_eq_false_iff_not, beq_iff_eq, bne_iff_ne, Bool.not_eq_true', Bool.not_eq_false', Bool.and_eq_true, Bool.or_eq_true, Bool.and_eq_false_iff, Bool.or_eq_false_iff, Int.not_lt, Int.not_le, gt_iff_lt, ge_iff_le, bne_eq_false_iff_eq, beq_eq_false_iff_ne, ne_eq, Int.toNat_natCast] at c1
    have ha := atP_lt p.recipe p.at_
    have h0 := (rbOk_rec c1).2
    have hsl := slots1_len (nth p.recipe (atP p.recipe p.at_).toNat)
    refine AWp.skip ?_
    refine AWp.seq (AWp.draw [⟨[.s 1, .b 1], [.s 7], false⟩, ⟨[.s 1, .b 1], [.s 8], false⟩, ⟨[.s 8, .b 1], [.s 9], false⟩, ⟨[.s 1, .b 1], [.s 10], false⟩, ⟨[.s 10, .b 1], [.s 11], false⟩, ⟨[.s 1, .b 1], [.s 12], false⟩, ⟨[.s 12, .b 1], [.s 13], false⟩, ⟨[.s 13, .s 11], [.s 14], false⟩, ⟨[.s 9, .s 14], [.s 15], false⟩, ⟨[.s 15], [.s 16], false⟩, ⟨[.s 16], [.s 17], false⟩, ⟨[.s 17, .s 7], [.s 18], false⟩, ⟨[], [], true⟩] yzMo rfl ?_)
    refine DRun.step rfl (fun τ hN hr => step_loadS_b rfl (rdN hN (hn rfl)) rfl yzSt78 (by exact rdS hr rfl rfl) (by exact rdBtake hr rfl rfl) rfl (by decide)) ?_
    refine DRun.step rfl (fun τ hN hr => step_field_b rfl (rdN hN (hn rfl)) rfl yzFo78_1 (by exact rdS hr rfl rfl) (by exact rdBne hr rfl (by exact List.cons_ne_nil _ _))) ?_
    refine DRun.step rfl (fun τ hN hr => step_load_b rfl (rdN hN (hn rfl)) rfl yzSc23 (by exact rdS hr rfl rfl) (by exact rdBget hr rfl rfl)) ?_
    refine DRun.step rfl (fun τ hN hr => step_field_b rfl (rdN hN (hn rfl)) rfl yzFo78_1 (by exact rdS hr rfl rfl) (by exact rdBne hr rfl (by exact List.cons_ne_nil _ _))) ?_
    refine DRun.step rfl (fun τ hN hr => step_load_b rfl (rdN hN (hn rfl)) rfl yzSc23 (by exact rdS hr rfl rfl) (by exact rdBget hr rfl rfl)) ?_
    refine DRun.step rfl (fun τ hN hr => step_field_b rfl (rdN hN (hn rfl)) rfl yzFo78_3 (by exact rdS hr rfl rfl) (by exact rdBne hr rfl (by exact List.cons_ne_nil _ _))) ?_
    refine DRun.step rfl (fun τ hN hr => step_load_b rfl (rdN hN (hn rfl)) rfl yzSc9 (by exact rdS hr rfl rfl) (by exact rdBget hr rfl rfl)) ?_
    refine DRun.step rfl (fun τ hN hr => call_step1 rfl (rdN hN (hn rfl)) rfl yzCo75 (.cons (by exact rdS hr rfl rfl) (.one (.v _)) (.cons (by exact rdS hr rfl rfl) (.one (.v _)) (.nil))) (l42At _ _) rfl) ?_
    refine DRun.step rfl (fun τ hN hr => step_index_f rfl (rdN hN (hn rfl)) rfl yzSl23 (by exact rdS hr rfl rfl) (by exact rdS hr rfl rfl) (by omega) (by omega)) ?_
    refine DRun.step rfl (fun τ hN hr => step_loadS_f rfl (rdN hN (hn rfl)) rfl yzSt30 (by exact rdS hr rfl rfl) (hn rfl) rfl rfl) ?_
    refine DRun.step rfl (fun τ hN hr => call_stepZ rfl (rdN hN (hn rfl)) rfl yzCo134 (.cons (by exact rdS hr rfl rfl) (.agg (.cons (.v _) (.cons (.v _) (.cons (.v _) (.cons (.v _) (.cons (.v _) (.cons (.v _) (.cons (.v _) (.cons (.v _) .nil))))))))) (.nil)) (slots1S _) rfl (by exact rdNoRefs hr rfl rfl)) ?_
    refine DRun.step rfl (fun τ hN hr => call_stepZ rfl (rdN hN (hn rfl)) rfl yzCo129 (.cons (by exact rdS hr rfl rfl) (.agg (.cons (.v _) (.cons (.v _) (.cons (.v _) (.cons (.v _) (.cons (.v _) (.cons (.v _) .nil))))))) (.cons (by exact rdS hr rfl rfl) (.one (.v _)) (.nil))) (thingsS p _ (by omega)) rfl (by exact rdNoRefs hr rfl rfl)) ?_
    refine DRun.lastS rfl (step_assignV rfl (hn rfl) rfl rfl) ?_
    refine AWp.ret ?_
    refine RetIs.frz (.inr rfl) rfl ?_
    exact congrArg (fun x => T.fz (strs x)) (show ownB p = runOwn p by simp [runOwn, c1])
theorem markRb (p : Rb) (k : Int) (h0 : 0 ≤ k) (h1 : k + 8 * p.recipe.length + 2 * p.slots.length ≤ 1152921504606846976) : MSpec Try.prog 62 [.agg [.ro (.str p.name), .rw (phs 30 p.recipe) (mkLPh p.recipe.length k), .rw (slts 159 p.slots) (mkLSlt p.slots.length (k + 8 * p.recipe.length)), .ro (.str p.at_), .ro (.int .i64 p.since), .ro (.int .i64 p.start)], .one (.ro (.int .i64 k))] (.int .i64 (k + 8 * p.recipe.length + 2 * p.slots.length)) := by
  refine MSpec.body Try.func62 rfl 4 rfl 14 rfl rfl rfl rfl ?_
  refine AWp.seq (AWp.region ?_)
  refine ARun.step rfl (step_box_r (m := 5) rfl (hn rfl) rfl rfl rfl rfl rfl) ?_
  refine ARun.step rfl (step_assignV rfl (hn rfl) rfl rfl) ?_
  refine ARun.nil ?_
  refine AWp.seq (AWp.region ?_)
  refine ARun.step rfl (step_field_b rfl (hn rfl) rfl yzFo78_1 rfl (by exact List.cons_ne_nil _ _)) ?_
  refine ARun.step rfl (step_load_b rfl (hn rfl) rfl yzSc23 rfl rfl) ?_
  refine ARun.step rfl (step_moveV rfl (hn rfl) rfl rfl) ?_
  refine ARun.step rfl (mcall_roots (L := [(⟨.arr 1000000 1, []⟩, 0)]) (TL := [(1000000, 1, _)]) rfl (hn rfl) rfl yzCo132 rfl (.cons rfl (.one (.rw _ rfl rfl rfl)) (.cons rfl (.one (.v (.refl _))) (.nil _))) (phMark p.recipe k (by omega) (by omega)) rfl (.cons (i := 0) (j := 0) rfl rfl rfl rfl rfl rfl .nil)) ?_
  refine ARun.step rfl (step_assignV rfl (hn rfl) rfl rfl) ?_
  refine ARun.nil ?_
  refine AWp.seq (AWp.region ?_)
  refine ARun.step rfl (step_field_b rfl (hn rfl) rfl yzFo78_2 rfl (by exact List.cons_ne_nil _ _)) ?_
  refine ARun.step rfl (step_load_b rfl (hn rfl) rfl yzSc76 rfl rfl) ?_
  refine ARun.step rfl (step_moveV rfl (hn rfl) rfl rfl) ?_
  refine ARun.step rfl (mcall_roots (L := [(⟨.arr 1000000 2, []⟩, 0)]) (TL := [(1000000, 2, _)]) rfl (hn rfl) rfl yzCo133 rfl (.cons rfl (.one (.rw _ rfl rfl rfl)) (.cons rfl (.one (.v (.refl _))) (.nil _))) (sltMark p.slots _ (by omega) (by omega)) rfl (.cons (i := 0) (j := 0) rfl rfl rfl rfl rfl rfl .nil)) ?_
  refine ARun.step rfl (step_assignV rfl (hn rfl) rfl rfl) ?_
  refine ARun.nil ?_
  refine AWp.seq (AWp.region ?_)
  refine ARun.step rfl (step_moveV rfl (hn rfl) rfl rfl) ?_
  refine ARun.step rfl (step_assignV rfl (hn rfl) rfl rfl) ?_
  refine ARun.nil ?_
  refine AWp.ret ?_
  refine RetIs.mk (.inr rfl) rfl rfl ?_ ⟨⟨⟨_, _, _, _, _, rfl, rfl, .refl _⟩, ⟨⟨_, _, _, _, _, rfl, rfl, .refl _⟩, trivial⟩⟩, ⟨trivial, trivial⟩⟩
  refine congrArg (T.int _) ?_
  rfl
set_option maxHeartbeats 1000000 in
theorem lawRunBatchOk (p : Rb)  : ASpec Try.prog 8 [.agg (p.cells 155 158)] (.one (.bool true)) := by
  refine ASpec.body Try.func8 rfl [2] rfl 27 rfl rfl rfl ?_
  have hzb := szRb_le p 1048576
  refine AWp.seq (AWp.region ?_)
  refine ARun.step rfl (step_box_p (m := 5) rfl (hn rfl) rfl rfl rfl rfl rfl) ?_
  refine ARun.step rfl (step_assignV rfl (hn rfl) rfl rfl) ?_
  refine ARun.nil ?_
  refine AWp.seq (AWp.region ?_)
  refine ARun.step rfl (step_assignV rfl (hn rfl) rfl rfl) ?_
  refine ARun.nil ?_
  refine AWp.seq (AWp.region ?_)
  refine ARun.step rfl (step_loadS_b rfl (hn rfl) rfl yzSt73 rfl rfl rfl (by decide)) ?_
  refine ARun.step rfl (step_moveV rfl (hn rfl) rfl rfl) ?_
  refine ARun.step rfl (call_step1 rfl (hn rfl) rfl yzCo51 (.cons rfl (.agg (.cons (.v _) (.cons (.v _) (.cons (.v _) (.cons (.v _) (.cons (.v _) (.cons (.v _) .nil))))))) (.cons rfl (.one (.v _)) (.nil))) (rbSz _ _ (by omega) (by omega)) rfl) ?_
  refine ARun.step rfl (step_assignV rfl (hn rfl) rfl rfl) ?_
  refine ARun.nil ?_
  refine AWp.seq ?_
  refine AWp.seq (AWp.region ?_)
  refine ARun.step rfl (step_moveV rfl (hn rfl) rfl rfl) ?_
  refine ARun.step rfl (step_lss rfl (hn rfl) rfl rfl rfl) ?_
  refine ARun.nil ?_
  refine AWp.cond rfl (fun c1 => ?_) (fun c1 => ?_)
  · try simp only [decide_eq_true_eq, decide_eq_false_iff_not, beq_iff_eq, bne_iff_ne, Bool.not_eq_true', Bool.not_eq_false', Bool.and_eq_true, Bool.or_eq_true, Bool.and_eq_false_iff, Bool.or_eq_false_iff, Int.not_lt, Int.not_le, gt_iff_lt, ge_iff_le, bne_eq_false_iff_eq, beq_eq_false_iff_ne, ne_eq, Int.toNat_natCast] at c1
    refine AWp.seq (AWp.region ?_)
    refine ARun.step rfl (step_assignV rfl (hn rfl) rfl rfl) ?_
    refine ARun.nil ?_
    refine AWp.ret ?_
    refine RetIs.sc (.inr rfl) rfl rfl ?_
    refine congrArg T.bool ?_
    first
      | rfl
      | (exfalso; omega)
      | (exfalso; simp [eqL_refl, strEq_refl, eqRb_refl] at *; done)
      | (exfalso; simp [eqL_refl, strEq_refl, eqRb_refl] at *; omega)
  · try simp only [decide_eq_true_eq, decide_eq_false_iff_not, beq_iff_eq, bne_iff_ne, Bool.not_eq_true', Bool.not_eq_false', Bool.and_eq_true, Bool.or_eq_true, Bool.and_eq_false_iff, Bool.or_eq_false_iff, Int.not_lt, Int.not_le, gt_iff_lt, ge_iff_le, bne_eq_false_iff_eq, beq_eq_false_iff_ne, ne_eq, Int.toNat_natCast] at c1
    have hsm : smallRb p := szRb_small (m := 1048576) (by omega) (by omega)
    have hsm1 := hsm.1
    have hsm2 := hsm.2
    refine AWp.skip ?_
    refine AWp.seq (AWp.region ?_)
    refine ARun.step rfl (step_loadS_b rfl (hn rfl) rfl yzSt73 rfl rfl rfl (by decide)) ?_
    refine ARun.step rfl (call_stepZ rfl (hn rfl) rfl yzCo53 (.cons rfl (.agg (.cons (.v _) (.cons (.v _) (.cons (.v _) (.cons (.v _) (.cons (.v _) (.cons (.v _) .nil))))))) (.nil)) (rbToZ _ (by assumption)) rfl rfl) ?_
    refine ARun.step rfl (call_step1 rfl (hn rfl) rfl yzCo52 (.cons rfl (.agg (.cons (.v _) (.cons (.v _) (.cons (.v _) (.cons (.v _) (.cons (.v _) (.cons (.v _) .nil))))))) (.nil)) (rbOkS _) rfl) ?_
    refine ARun.step rfl (step_assignV rfl (hn rfl) rfl rfl) ?_
    refine ARun.nil ?_
    refine AWp.seq (AWp.region ?_)
    refine ARun.step rfl (step_loadS_b rfl (hn rfl) rfl yzSt73 rfl rfl rfl (by decide)) ?_
    refine ARun.step rfl (call_stepN rfl (hn rfl) rfl yzCo53 (.cons rfl (.agg (.cons (.v _) (.cons (.v _) (.cons (.v _) (.cons (.v _) (.cons (.v _) (.cons (.v _) .nil))))))) (.nil)) (rbTo _ (by assumption)) rfl rfl) ?_
    refine ARun.step rfl (step_alloc_p rfl (hn rfl) rfl yzZs78) ?_
    refine ARun.step rfl (step_store_r rfl rfl yzCs78 rfl rfl rfl rfl rfl rfl rfl) ?_
    refine ARun.nil ?_
    refine AWp.seq (AWp.region ?_)
    refine ARun.step rfl (step_loadS_b rfl (hn rfl) rfl yzSt78 rfl rfl rfl (by decide)) ?_
    refine ARun.step rfl (call_step1 rfl (hn rfl) rfl yzCo54 (.cons rfl (.agg (.cons (.v _) (.cons (.ref _ rfl) (.cons (.ref _ rfl) (.cons (.v _) (.cons (.v _) (.cons (.v _) .nil))))))) (.nil)) (rbOkI _) rfl) ?_
    refine ARun.step rfl (step_assignV rfl (hn rfl) rfl rfl) ?_
    refine ARun.nil ?_
    refine AWp.seq ?_
    refine AWp.seq (AWp.region ?_)
    refine ARun.step rfl (step_moveV rfl (hn rfl) rfl rfl) ?_
    refine ARun.step rfl (step_moveV rfl (hn rfl) rfl rfl) ?_
    refine ARun.step rfl (step_bneq rfl (hn rfl) rfl yzUb4 rfl rfl) ?_
    refine ARun.nil ?_
    refine AWp.cond rfl (fun c2 => ?_) (fun c2 => ?_)
    · try simp only [decide_eq_true_eq, decide_eq_false_iff_not, beq_iff_eq, bne_iff_ne, Bool.not_eq_true', Bool.not_eq_false', Bool.and_eq_true, Bool.or_eq_true, Bool.and_eq_false_iff, Bool.or_eq_false_iff, Int.not_lt, Int.not_le, gt_iff_lt, ge_iff_le, bne_eq_false_iff_eq, beq_eq_false_iff_ne, ne_eq, Int.toNat_natCast] at c2
      refine AWp.seq (AWp.region ?_)
      refine ARun.step rfl (step_assignV rfl (hn rfl) rfl rfl) ?_
      refine ARun.nil ?_
      refine AWp.ret ?_
      refine RetIs.sc (.inr rfl) rfl rfl ?_
      refine congrArg T.bool ?_
      first
        | rfl
        | (exfalso; omega)
        | (exfalso; simp [eqL_refl, strEq_refl, eqRb_refl] at *; done)
        | (exfalso; simp [eqL_refl, strEq_refl, eqRb_refl] at *; omega)
    · try simp only [decide_eq_true_eq, decide_eq_false_iff_not, beq_iff_eq, bne_iff_ne, Bool.not_eq_true', Bool.not_eq_false', Bool.and_eq_true, Bool.or_eq_true, Bool.and_eq_false_iff, Bool.or_eq_false_iff, Int.not_lt, Int.not_le, gt_iff_lt, ge_iff_le, bne_eq_false_iff_eq, beq_eq_false_iff_ne, ne_eq, Int.toNat_natCast] at c2
      refine AWp.skip ?_
      refine AWp.seq ?_
      refine AWp.seq (AWp.draw [⟨[.s 5, .b 5], [.s 22], false⟩, ⟨[.s 1, .b 1], [.s 23], false⟩, ⟨[.s 23], [.s 24], false⟩, ⟨[.s 24, .a 16 2, .a 16 1, .s 22], [.s 25], false⟩, ⟨[.s 25], [.s 26], false⟩] yzMo rfl ?_)
      refine DRun.step rfl (fun τ hN hr => step_loadS_b rfl (rdN hN (hn rfl)) rfl yzSt78 (by exact rdS hr rfl rfl) (by exact rdBtake hr rfl rfl) rfl (by decide)) ?_
      refine DRun.step rfl (fun τ hN hr => step_loadS_b rfl (rdN hN (hn rfl)) rfl yzSt73 (by exact rdS hr rfl rfl) (by exact rdBtake hr rfl rfl) rfl (by decide)) ?_
      refine DRun.step rfl (fun τ hN hr => call_stepZ rfl (rdN hN (hn rfl)) rfl yzCo53 (.cons (by exact rdS hr rfl rfl) (.agg (.cons (.v _) (.cons (.v _) (.cons (.v _) (.cons (.v _) (.cons (.v _) (.cons (.v _) .nil))))))) (.nil)) (rbToZ _ (by assumption)) rfl (by exact rdNoRefs hr rfl rfl)) ?_
      refine DRun.step rfl (fun τ hN hr => call_step1 rfl (rdN hN (hn rfl)) rfl yzCo55 (.cons (by exact rdS hr rfl rfl) (.agg (.cons (.v _) (.cons (.ref _ (by exact rdA hr rfl rfl)) (.cons (.ref _ (by exact rdA hr rfl rfl)) (.cons (.v _) (.cons (.v _) (.cons (.v _) .nil))))))) (.cons (by exact rdS hr rfl rfl) (.agg (.cons (.v _) (.cons (.v _) (.cons (.v _) (.cons (.v _) (.cons (.v _) (.cons (.v _) .nil))))))) (.nil))) (rbEq p p) rfl) ?_
      refine DRun.step rfl (fun τ hN hr => step_not rfl (rdN hN (hn rfl)) rfl (by exact rdS hr rfl rfl)) ?_
      refine DRun.nil ?_
      refine AWp.cond rfl (fun c3 => ?_) (fun c3 => ?_)
      · try simp only [decide_eq_true_eq, decide_eq_false_iff_not, beq_iff_eq, bne_iff_ne, Bool.not_eq_true', Bool.not_eq_false', Bool.and_eq_true, Bool.or_eq_true, Bool.and_eq_false_iff, Bool.or_eq_false_iff, Int.not_lt, Int.not_le, gt_iff_lt, ge_iff_le, bne_eq_false_iff_eq, beq_eq_false_iff_ne, ne_eq, Int.toNat_natCast] at c3
        refine AWp.seq (AWp.region ?_)
        refine ARun.step rfl (step_assignV rfl (hn rfl) rfl rfl) ?_
        refine ARun.nil ?_
        refine AWp.ret ?_
        refine RetIs.sc (.inr rfl) rfl rfl ?_
        refine congrArg T.bool ?_
        first
          | rfl
          | (exfalso; omega)
          | (exfalso; simp [eqL_refl, strEq_refl, eqRb_refl] at *; done)
          | (exfalso; simp [eqL_refl, strEq_refl, eqRb_refl] at *; omega)
      · try simp only [decide_eq_true_eq, decide_eq_false_iff_not, beq_iff_eq, bne_iff_ne, Bool.not_eq_true', Bool.not_eq_false', Bool.and_eq_true, Bool.or_eq_true, Bool.and_eq_false_iff, Bool.or_eq_false_iff, Int.not_lt, Int.not_le, gt_iff_lt, ge_iff_le, bne_eq_false_iff_eq, beq_eq_false_iff_ne, ne_eq, Int.toNat_natCast] at c3
        refine AWp.skip ?_
        refine AWp.seq (AWp.region ?_)
        refine ARun.step rfl (step_assignV rfl (hn rfl) rfl rfl) ?_
        refine ARun.nil ?_
        refine AWp.ret ?_
        refine RetIs.sc (.inr rfl) rfl rfl ?_
        refine congrArg T.bool ?_
        first
          | rfl
          | (exfalso; omega)
          | (exfalso; simp [eqL_refl, strEq_refl, eqRb_refl] at *; done)
          | (exfalso; simp [eqL_refl, strEq_refl, eqRb_refl] at *; omega)
set_option maxHeartbeats 1000000 in
theorem lawRunThings (p : Rb) (s : Str)  : ASpec Try.prog 11 [.agg (p.cells 155 158), .one (.str s)] (.one (.bool true)) := by
  refine ASpec.body Try.func11 rfl [4] rfl 77 rfl rfl rfl ?_
  have hzb := szRb_le p 1048576
  refine AWp.strLe 1 rfl (fun hs => ?_)
  refine AWp.seq (AWp.region ?_)
  refine ARun.step rfl (step_box_p (m := 5) rfl (hn rfl) rfl rfl rfl rfl rfl) ?_
  refine ARun.step rfl (step_assignV rfl (hn rfl) rfl rfl) ?_
  refine ARun.nil ?_
  refine AWp.seq ?_
  refine AWp.seq (AWp.region ?_)
  refine ARun.step rfl (step_moveV rfl (hn rfl) rfl rfl) ?_
  refine ARun.step rfl (step_len_str rfl (hn rfl) rfl yzUs9 rfl) ?_
  refine ARun.step rfl (step_gtr rfl (hn rfl) rfl rfl rfl) ?_
  refine ARun.nil ?_
  refine AWp.cond rfl (fun c1 => ?_) (fun c1 => ?_)
  · try simp only [decide_eq_true_eq, decide_eq_false_iff_not, beq_iff_eq, bne_iff_ne, Bool.not_eq_true', Bool.not_eq_false', Bool.and_eq_true, Bool.or_eq_true, Bool.and_eq_false_iff, Bool.or_eq_false_iff, Int.not_lt, Int.not_le, gt_iff_lt, ge_iff_le, bne_eq_false_iff_eq, beq_eq_false_iff_ne, ne_eq, Int.toNat_natCast] at c1
    refine AWp.seq (AWp.region ?_)
    refine ARun.step rfl (step_assignV rfl (hn rfl) rfl rfl) ?_
    refine ARun.nil ?_
    refine AWp.ret ?_
    refine RetIs.sc (.inr rfl) rfl rfl ?_
    refine congrArg T.bool ?_
    first
      | rfl
      | (exfalso; omega)
      | (exfalso; simp [eqL_refl, strEq_refl, eqRb_refl] at *; done)
      | (exfalso; simp [eqL_refl, strEq_refl, eqRb_refl] at *; omega)
  · try simp only [decide_eq_true_eq, decide_eq_false_iff_not, beq_iff_eq, bne_iff_ne, Bool.not_eq_true', Bool.not_eq_false', Bool.and_eq_true, Bool.or_eq_true, Bool.and_eq_false_iff, Bool.or_eq_false_iff, Int.not_lt, Int.not_le, gt_iff_lt, ge_iff_le, bne_eq_false_iff_eq, beq_eq_false_iff_ne, ne_eq, Int.toNat_natCast] at c1
    refine AWp.skip ?_
    refine AWp.seq (AWp.region ?_)
    refine ARun.step rfl (step_assignV rfl (hn rfl) rfl rfl) ?_
    refine ARun.nil ?_
    refine AWp.seq (AWp.region ?_)
    refine ARun.step rfl (step_loadS_b rfl (hn rfl) rfl yzSt73 rfl rfl rfl (by decide)) ?_
    refine ARun.step rfl (step_moveV rfl (hn rfl) rfl rfl) ?_
    refine ARun.step rfl (call_step1 rfl (hn rfl) rfl yzCo51 (.cons rfl (.agg (.cons (.v _) (.cons (.v _) (.cons (.v _) (.cons (.v _) (.cons (.v _) (.cons (.v _) .nil))))))) (.cons rfl (.one (.v _)) (.nil))) (rbSz _ _ (by omega) (by omega)) rfl) ?_
    refine ARun.step rfl (step_assignV rfl (hn rfl) rfl rfl) ?_
    refine ARun.nil ?_
    refine AWp.seq ?_
    refine AWp.seq (AWp.region ?_)
    refine ARun.step rfl (step_moveV rfl (hn rfl) rfl rfl) ?_
    refine ARun.step rfl (step_lss rfl (hn rfl) rfl rfl rfl) ?_
    refine ARun.nil ?_
    refine AWp.cond rfl (fun c2 => ?_) (fun c2 => ?_)
    · try simp only [decide_eq_true_eq, decide_eq_false_iff_not, beq_iff_eq, bne_iff_ne, Bool.not_eq_true', Bool.not_eq_false', Bool.and_eq_true, Bool.or_eq_true, Bool.and_eq_false_iff, Bool.or_eq_false_iff, Int.not_lt, Int.not_le, gt_iff_lt, ge_iff_le, bne_eq_false_iff_eq, beq_eq_false_iff_ne, ne_eq, Int.toNat_natCast] at c2
      refine AWp.seq (AWp.region ?_)
      refine ARun.step rfl (step_assignV rfl (hn rfl) rfl rfl) ?_
      refine ARun.nil ?_
      refine AWp.ret ?_
      refine RetIs.sc (.inr rfl) rfl rfl ?_
      refine congrArg T.bool ?_
      first
        | rfl
        | (exfalso; omega)
        | (exfalso; simp [eqL_refl, strEq_refl, eqRb_refl] at *; done)
        | (exfalso; simp [eqL_refl, strEq_refl, eqRb_refl] at *; omega)
    · try simp only [decide_eq_true_eq, decide_eq_false_iff_not, beq_iff_eq, bne_iff_ne, Bool.not_eq_true', Bool.not_eq_false', Bool.and_eq_true, Bool.or_eq_true, Bool.and_eq_false_iff, Bool.or_eq_false_iff, Int.not_lt, Int.not_le, gt_iff_lt, ge_iff_le, bne_eq_false_iff_eq, beq_eq_false_iff_ne, ne_eq, Int.toNat_natCast] at c2
      have hsm : smallRb p := szRb_small (m := 1048576) (by omega) (by omega)
      have hsm1 := hsm.1
      have hsm2 := hsm.2
      have hrl := runThings_len p s
      refine AWp.skip ?_
      refine AWp.seq (AWp.region ?_)
      refine ARun.step rfl (step_loadS_b rfl (hn rfl) rfl yzSt73 rfl rfl rfl (by decide)) ?_
      refine ARun.step rfl (call_stepZ rfl (hn rfl) rfl yzCo53 (.cons rfl (.agg (.cons (.v _) (.cons (.v _) (.cons (.v _) (.cons (.v _) (.cons (.v _) (.cons (.v _) .nil))))))) (.nil)) (rbToZ _ (by assumption)) rfl rfl) ?_
      refine ARun.step rfl (step_moveV rfl (hn rfl) rfl rfl) ?_
      refine ARun.step rfl (call_stepZ rfl (hn rfl) rfl yzCo60 (.cons rfl (.agg (.cons (.v _) (.cons (.v _) (.cons (.v _) (.cons (.v _) (.cons (.v _) (.cons (.v _) .nil))))))) (.cons rfl (.one (.v _)) (.nil))) (runThingsS p s) rfl rfl) ?_
      refine ARun.step rfl (step_assignV rfl (hn rfl) rfl rfl) ?_
      refine ARun.nil ?_
      refine AWp.seq (AWp.region ?_)
      refine ARun.step rfl (step_loadS_b rfl (hn rfl) rfl yzSt73 rfl rfl rfl (by decide)) ?_
      refine ARun.step rfl (call_stepN rfl (hn rfl) rfl yzCo53 (.cons rfl (.agg (.cons (.v _) (.cons (.v _) (.cons (.v _) (.cons (.v _) (.cons (.v _) (.cons (.v _) .nil))))))) (.nil)) (rbTo _ (by assumption)) rfl rfl) ?_
      refine ARun.step rfl (step_alloc_p rfl (hn rfl) rfl yzZs78) ?_
      refine ARun.step rfl (step_store_r rfl rfl yzCs78 rfl rfl rfl rfl rfl rfl rfl) ?_
      refine ARun.nil ?_
      refine AWp.seq (AWp.region ?_)
      refine ARun.step rfl (step_loadS_b rfl (hn rfl) rfl yzSt78 rfl rfl rfl (by decide)) ?_
      refine ARun.step rfl (step_moveV rfl (hn rfl) rfl rfl) ?_
      refine ARun.step rfl (call_stepC rfl (hn rfl) rfl yzCo61 (.cons rfl (.agg (.cons (.v _) (.cons (.ref _ rfl) (.cons (.ref _ rfl) (.cons (.v _) (.cons (.v _) (.cons (.v _) .nil))))))) (.cons rfl (.one (.v _)) (.nil))) (runThingsI p s) rfl (CleanL.all (.cons (clean_strs _) .nil))) ?_
      refine ARun.step rfl (step_assignV rfl (hn rfl) rfl rfl) ?_
      refine ARun.nil ?_
      refine AWp.seq ?_
      refine AWp.seq (AWp.region ?_)
      refine ARun.step rfl (step_moveV rfl (hn rfl) rfl rfl) ?_
      refine ARun.step rfl (step_moveV rfl (hn rfl) rfl rfl) ?_
      refine ARun.step rfl (call_step1 rfl (hn rfl) rfl yzCo47 (.cons rfl (.one (.ref _ rfl)) (.cons rfl (.one (.v _)) (.nil))) (eqStrS _ _) rfl) ?_
      refine ARun.step rfl (step_not rfl (hn rfl) rfl rfl) ?_
      refine ARun.nil ?_
      refine AWp.cond rfl (fun c3 => ?_) (fun c3 => ?_)
      · try simp only [decide_eq_true_eq, decide_eq_false_iff_not, beq_iff_eq, bne_iff_ne, Bool.not_eq_true', Bool.not_eq_false', Bool.and_eq_true, Bool.or_eq_true, Bool.and_eq_false_iff, Bool.or_eq_false_iff, Int.not_lt, Int.not_le, gt_iff_lt, ge_iff_le, bne_eq_false_iff_eq, beq_eq_false_iff_ne, ne_eq, Int.toNat_natCast] at c3
        refine AWp.seq (AWp.region ?_)
        refine ARun.step rfl (step_assignV rfl (hn rfl) rfl rfl) ?_
        refine ARun.nil ?_
        refine AWp.ret ?_
        refine RetIs.sc (.inr rfl) rfl rfl ?_
        refine congrArg T.bool ?_
        first
          | rfl
          | (exfalso; omega)
          | (exfalso; simp [eqL_refl, strEq_refl, eqRb_refl] at *; done)
          | (exfalso; simp [eqL_refl, strEq_refl, eqRb_refl] at *; omega)
      · try simp only [decide_eq_true_eq, decide_eq_false_iff_not, beq_iff_eq, bne_iff_ne, Bool.not_eq_true', Bool.not_eq_false', Bool.and_eq_true, Bool.or_eq_true, Bool.and_eq_false_iff, Bool.or_eq_false_iff, Int.not_lt, Int.not_le, gt_iff_lt, ge_iff_le, bne_eq_false_iff_eq, beq_eq_false_iff_ne, ne_eq, Int.toNat_natCast] at c3
        refine AWp.skip ?_
        refine AWp.seq ?_
        refine AWp.seq (AWp.draw [⟨[.s 7, .b 7], [.s 34], false⟩, ⟨[.s 2, .b 2], [.s 35], false⟩, ⟨[.s 35], [.s 36], false⟩, ⟨[.s 36, .a 26 2, .a 26 1, .s 34], [.s 37], false⟩, ⟨[.s 37], [.s 38], false⟩] yzMo rfl ?_)
        refine DRun.step rfl (fun τ hN hr => step_loadS_b rfl (rdN hN (hn rfl)) rfl yzSt78 (by exact rdS hr rfl rfl) (by exact rdBtake hr rfl rfl) rfl (by decide)) ?_
        refine DRun.step rfl (fun τ hN hr => step_loadS_b rfl (rdN hN (hn rfl)) rfl yzSt73 (by exact rdS hr rfl rfl) (by exact rdBtake hr rfl rfl) rfl (by decide)) ?_
        refine DRun.step rfl (fun τ hN hr => call_stepZ rfl (rdN hN (hn rfl)) rfl yzCo53 (.cons (by exact rdS hr rfl rfl) (.agg (.cons (.v _) (.cons (.v _) (.cons (.v _) (.cons (.v _) (.cons (.v _) (.cons (.v _) .nil))))))) (.nil)) (rbToZ _ (by assumption)) rfl (by exact rdNoRefs hr rfl rfl)) ?_
        refine DRun.step rfl (fun τ hN hr => call_step1 rfl (rdN hN (hn rfl)) rfl yzCo55 (.cons (by exact rdS hr rfl rfl) (.agg (.cons (.v _) (.cons (.ref _ (by exact rdA hr rfl rfl)) (.cons (.ref _ (by exact rdA hr rfl rfl)) (.cons (.v _) (.cons (.v _) (.cons (.v _) .nil))))))) (.cons (by exact rdS hr rfl rfl) (.agg (.cons (.v _) (.cons (.v _) (.cons (.v _) (.cons (.v _) (.cons (.v _) (.cons (.v _) .nil))))))) (.nil))) (rbEq p p) rfl) ?_
        refine DRun.step rfl (fun τ hN hr => step_not rfl (rdN hN (hn rfl)) rfl (by exact rdS hr rfl rfl)) ?_
        refine DRun.nil ?_
        refine AWp.cond rfl (fun c4 => ?_) (fun c4 => ?_)
        · try simp only [decide_eq_true_eq, decide_eq_false_iff_not, beq_iff_eq, bne_iff_ne, Bool.not_eq_true', Bool.not_eq_false', Bool.and_eq_true, Bool.or_eq_true, Bool.and_eq_false_iff, Bool.or_eq_false_iff, Int.not_lt, Int.not_le, gt_iff_lt, ge_iff_le, bne_eq_false_iff_eq, beq_eq_false_iff_ne, ne_eq, Int.toNat_natCast] at c4
          refine AWp.seq (AWp.region ?_)
          refine ARun.step rfl (step_assignV rfl (hn rfl) rfl rfl) ?_
          refine ARun.nil ?_
          refine AWp.ret ?_
          refine RetIs.sc (.inr rfl) rfl rfl ?_
          refine congrArg T.bool ?_
          first
            | rfl
            | (exfalso; omega)
            | (exfalso; simp [eqL_refl, strEq_refl, eqRb_refl] at *; done)
            | (exfalso; simp [eqL_refl, strEq_refl, eqRb_refl] at *; omega)
        · try simp only [decide_eq_true_eq, decide_eq_false_iff_not, beq_iff_eq, bne_iff_ne, Bool.not_eq_true', Bool.not_eq_false', Bool.and_eq_true, Bool.or_eq_true, Bool.and_eq_false_iff, Bool.or_eq_false_iff, Int.not_lt, Int.not_le, gt_iff_lt, ge_iff_le, bne_eq_false_iff_eq, beq_eq_false_iff_ne, ne_eq, Int.toNat_natCast] at c4
          refine AWp.skip ?_
          refine AWp.seq (AWp.region ?_)
          refine ARun.step rfl (step_assignV rfl (hn rfl) rfl rfl) ?_
          refine ARun.nil ?_
          refine AWp.seq (AWp.region ?_)
          refine ARun.step rfl (step_loadS_b rfl (hn rfl) rfl yzSt78 rfl rfl rfl (by decide)) ?_
          refine ARun.step rfl (step_moveV rfl (hn rfl) rfl rfl) ?_
          refine ARun.step rfl (mcall_roots (L := [(⟨.arr 26 1, []⟩, 1), (⟨.arr 26 2, []⟩, 2)]) (TL := [(26, 1, _), (26, 2, _)]) rfl (hn rfl) rfl yzCo62 rfl (.cons rfl (.agg (.cons (.v (.refl _)) (.cons (.rw _ rfl rfl rfl) (.cons (.rw _ rfl rfl rfl) (.cons (.v (.refl _)) (.cons (.v (.refl _)) (.cons (.v (.refl _)) (.nil _)))))))) (.cons rfl (.one (.v (.refl _))) (.nil _))) (markRb p 1 (by omega) (by omega)) rfl (.cons (i := 0) (j := 1) rfl rfl rfl rfl rfl rfl (.cons (i := 0) (j := 2) rfl rfl rfl rfl rfl rfl .nil))) ?_
          refine ARun.step rfl (step_assignV rfl (hn rfl) rfl rfl) ?_
          refine ARun.nil ?_
          refine AWp.seq ?_
          refine AWp.seq (AWp.region ?_)
          refine ARun.step rfl (step_moveV rfl (hn rfl) rfl rfl) ?_
          refine ARun.step rfl (step_lss rfl (hn rfl) rfl rfl rfl) ?_
          refine ARun.step rfl (step_moveV rfl (hn rfl) rfl rfl) ?_
          refine guardS rfl rfl rfl rfl (hn rfl) (fun g1 g2 => step_moveV rfl (hn rfl) rfl rfl) ?_
          refine guardS rfl rfl rfl rfl (hn rfl) (fun g1 g2 => step_moveV rfl (hn rfl) rfl rfl) ?_
          refine guardS rfl rfl rfl rfl (hn rfl) (fun g1 g2 => call_step1 rfl (hn rfl) rfl yzCo47 (.cons (ev_true rfl (by exact flag2 g1 g2)) (.one (.ref _ rfl)) (.cons (ev_true rfl (by exact flag2 g1 g2)) (.one (.v _)) (.nil))) (eqStrS _ _) rfl) ?_
          refine guardS rfl rfl rfl rfl (hn rfl) (fun g1 g2 => step_not rfl (hn rfl) rfl (ev_true rfl (by exact flag2 g1 g2))) ?_
          refine ARun.step rfl (step_or rfl (hn rfl) rfl rfl rfl (fun h => (by exact flag1 h))) ?_
          refine ARun.nil ?_
          refine AWp.cond rfl (fun c5 => ?_) (fun c5 => ?_)
          · try simp only [decide_eq_true_eq, decide_eq_false_iff_not, beq_iff_eq, bne_iff_ne, Bool.not_eq_true', Bool.not_eq_false', Bool.and_eq_true, Bool.or_eq_true, Bool.and_eq_false_iff, Bool.or_eq_false_iff, Int.not_lt, Int.not_le, gt_iff_lt, ge_iff_le, bne_eq_false_iff_eq, beq_eq_false_iff_ne, ne_eq, Int.toNat_natCast] at c5
            refine AWp.seq (AWp.region ?_)
            refine ARun.step rfl (step_assignV rfl (hn rfl) rfl rfl) ?_
            refine ARun.nil ?_
            refine AWp.ret ?_
            refine RetIs.sc (.inr rfl) rfl rfl ?_
            refine congrArg T.bool ?_
            first
              | rfl
              | (exfalso; omega)
              | (exfalso; simp [eqL_refl, strEq_refl, eqRb_refl] at *; done)
              | (exfalso; simp [eqL_refl, strEq_refl, eqRb_refl] at *; omega)
          · try simp only [decide_eq_true_eq, decide_eq_false_iff_not, beq_iff_eq, bne_iff_ne, Bool.not_eq_true', Bool.not_eq_false', Bool.and_eq_true, Bool.or_eq_true, Bool.and_eq_false_iff, Bool.or_eq_false_iff, Int.not_lt, Int.not_le, gt_iff_lt, ge_iff_le, bne_eq_false_iff_eq, beq_eq_false_iff_ne, ne_eq, Int.toNat_natCast] at c5
            refine AWp.skip ?_
            refine AWp.seq (AWp.region ?_)
            refine ARun.step rfl (step_assignV rfl (hn rfl) rfl rfl) ?_
            refine ARun.nil ?_
            refine AWp.seq (AWp.region ?_)
            refine ARun.step rfl (step_moveV rfl (hn rfl) rfl rfl) ?_
            refine ARun.step rfl (step_moveV rfl (hn rfl) rfl rfl) ?_
            refine ARun.step rfl (mcall_roots (L := [(⟨.arr 29 0, []⟩, 0)]) (TL := [(29, 0, _)]) rfl (hn rfl) rfl yzCo48 rfl (.cons rfl (.one (.rw _ rfl rfl rfl)) (.cons rfl (.one (.v (.refl _))) (.nil _))) (markStrS (runThings p s) 1 (by omega) (by omega)) rfl (.cons (i := 0) (j := 0) rfl rfl rfl rfl rfl rfl .nil)) ?_
            refine ARun.step rfl (step_assignV rfl (hn rfl) rfl rfl) ?_
            refine ARun.nil ?_
            refine AWp.seq (AWp.region ?_)
            refine ARun.step rfl (step_assignV rfl (hn rfl) rfl rfl) ?_
            refine ARun.nil ?_
            refine AWp.seq (AWp.region ?_)
            refine ARun.step rfl (step_moveV rfl (hn rfl) rfl rfl) ?_
            refine ARun.step rfl (step_moveV rfl (hn rfl) rfl rfl) ?_
            refine ARun.step rfl (call_step1 rfl (hn rfl) rfl yzCo63 (.cons rfl (.one (.ref _ rfl)) (.cons rfl (.one (.v _)) (.nil))) (heldStrS (runThings p s).length 1 (by omega) (by omega)) rfl) ?_
            refine ARun.step rfl (step_assignV rfl (hn rfl) rfl rfl) ?_
            refine ARun.nil ?_
            refine AWp.seq ?_
            refine AWp.seq (AWp.region ?_)
            refine ARun.step rfl (step_moveV rfl (hn rfl) rfl rfl) ?_
            refine ARun.step rfl (step_lss rfl (hn rfl) rfl rfl rfl) ?_
            refine ARun.nil ?_
            refine AWp.cond rfl (fun c6 => ?_) (fun c6 => ?_)
            · try simp only [decide_eq_true_eq, decide_eq_false_iff_not, beq_iff_eq, bne_iff_ne, Bool.not_eq_true', Bool.not_eq_false', Bool.and_eq_true, Bool.or_eq_true, Bool.and_eq_false_iff, Bool.or_eq_false_iff, Int.not_lt, Int.not_le, gt_iff_lt, ge_iff_le, bne_eq_false_iff_eq, beq_eq_false_iff_ne, ne_eq, Int.toNat_natCast] at c6
              refine AWp.seq (AWp.region ?_)
              refine ARun.step rfl (step_assignV rfl (hn rfl) rfl rfl) ?_
              refine ARun.nil ?_
              refine AWp.ret ?_
              refine RetIs.sc (.inr rfl) rfl rfl ?_
              refine congrArg T.bool ?_
              first
                | rfl
                | (exfalso; omega)
                | (exfalso; simp [eqL_refl, strEq_refl, eqRb_refl] at *; done)
                | (exfalso; simp [eqL_refl, strEq_refl, eqRb_refl] at *; omega)
            · try simp only [decide_eq_true_eq, decide_eq_false_iff_not, beq_iff_eq, bne_iff_ne, Bool.not_eq_true', Bool.not_eq_false', Bool.and_eq_true, Bool.or_eq_true, Bool.and_eq_false_iff, Bool.or_eq_false_iff, Int.not_lt, Int.not_le, gt_iff_lt, ge_iff_le, bne_eq_false_iff_eq, beq_eq_false_iff_ne, ne_eq, Int.toNat_natCast] at c6
              refine AWp.skip ?_
              refine AWp.seq ?_
              refine AWp.seq (AWp.region ?_)
              refine ARun.step rfl (step_moveV rfl (hn rfl) rfl rfl) ?_
              refine ARun.step rfl (step_moveV rfl (hn rfl) rfl rfl) ?_
              refine ARun.step rfl (step_neq rfl (hn rfl) rfl rfl rfl) ?_
              refine ARun.nil ?_
              refine AWp.cond rfl (fun c7 => ?_) (fun c7 => ?_)
              · try simp only [decide_eq_true_eq, decide_eq_false_iff_not, beq_iff_eq, bne_iff_ne, Bool.not_eq_true', Bool.not_eq_false', Bool.and_eq_true, Bool.or_eq_true, Bool.and_eq_false_iff, Bool.or_eq_false_iff, Int.not_lt, Int.not_le, gt_iff_lt, ge_iff_le, bne_eq_false_iff_eq, beq_eq_false_iff_ne, ne_eq, Int.toNat_natCast] at c7
                refine AWp.seq (AWp.region ?_)
                refine ARun.step rfl (step_assignV rfl (hn rfl) rfl rfl) ?_
                refine ARun.nil ?_
                refine AWp.ret ?_
                refine RetIs.sc (.inr rfl) rfl rfl ?_
                refine congrArg T.bool ?_
                first
                  | rfl
                  | (exfalso; omega)
                  | (exfalso; simp [eqL_refl, strEq_refl, eqRb_refl] at *; done)
                  | (exfalso; simp [eqL_refl, strEq_refl, eqRb_refl] at *; omega)
              · try simp only [decide_eq_true_eq, decide_eq_false_iff_not, beq_iff_eq, bne_iff_ne, Bool.not_eq_true', Bool.not_eq_false', Bool.and_eq_true, Bool.or_eq_true, Bool.and_eq_false_iff, Bool.or_eq_false_iff, Int.not_lt, Int.not_le, gt_iff_lt, ge_iff_le, bne_eq_false_iff_eq, beq_eq_false_iff_ne, ne_eq, Int.toNat_natCast] at c7
                refine AWp.skip ?_
                refine AWp.seq (AWp.region ?_)
                refine ARun.step rfl (step_loadS_b rfl (hn rfl) rfl yzSt73 rfl rfl rfl (by decide)) ?_
                refine ARun.step rfl (call_stepZ rfl (hn rfl) rfl yzCo53 (.cons rfl (.agg (.cons (.v _) (.cons (.v _) (.cons (.v _) (.cons (.v _) (.cons (.v _) (.cons (.v _) .nil))))))) (.nil)) (rbToZ _ (by assumption)) rfl rfl) ?_
                refine ARun.step rfl (step_moveV rfl (hn rfl) rfl rfl) ?_
                refine ARun.step rfl (call_stepN rfl (hn rfl) rfl yzCo61 (.cons rfl (.agg (.cons (.v _) (.cons (.v _) (.cons (.v _) (.cons (.v _) (.cons (.v _) (.cons (.v _) .nil))))))) (.cons rfl (.one (.v _)) (.nil))) (runThingsI p s) rfl rfl) ?_
                refine ARun.step rfl (step_assignV rfl (hn rfl) rfl rfl) ?_
                refine ARun.nil ?_
                refine AWp.seq ?_
                refine AWp.seq (AWp.region ?_)
                refine ARun.step rfl (step_moveV rfl (hn rfl) rfl rfl) ?_
                refine ARun.step rfl (step_moveV rfl (hn rfl) rfl rfl) ?_
                refine ARun.step rfl (call_step1 rfl (hn rfl) rfl yzCo47 (.cons rfl (.one (.ref _ rfl)) (.cons rfl (.one (.v _)) (.nil))) (eqStrS _ _) rfl) ?_
                refine ARun.step rfl (step_not rfl (hn rfl) rfl rfl) ?_
                refine ARun.nil ?_
                refine AWp.cond rfl (fun c8 => ?_) (fun c8 => ?_)
                · try simp only [decide_eq_true_eq, decide_eq_false_iff_not, beq_iff_eq, bne_iff_ne, Bool.not_eq_true', Bool.not_eq_false', Bool.and_eq_true, Bool.or_eq_true, Bool.and_eq_false_iff, Bool.or_eq_false_iff, Int.not_lt, Int.not_le, gt_iff_lt, ge_iff_le, bne_eq_false_iff_eq, beq_eq_false_iff_ne, ne_eq, Int.toNat_natCast] at c8
                  refine AWp.seq (AWp.region ?_)
                  refine ARun.step rfl (step_assignV rfl (hn rfl) rfl rfl) ?_
                  refine ARun.nil ?_
                  refine AWp.ret ?_
                  refine RetIs.sc (.inr rfl) rfl rfl ?_
                  refine congrArg T.bool ?_
                  first
                    | rfl
                    | (exfalso; omega)
                    | (exfalso; simp [eqL_refl, strEq_refl, eqRb_refl] at *; done)
                    | (exfalso; simp [eqL_refl, strEq_refl, eqRb_refl] at *; omega)
                · try simp only [decide_eq_true_eq, decide_eq_false_iff_not, beq_iff_eq, bne_iff_ne, Bool.not_eq_true', Bool.not_eq_false', Bool.and_eq_true, Bool.or_eq_true, Bool.and_eq_false_iff, Bool.or_eq_false_iff, Int.not_lt, Int.not_le, gt_iff_lt, ge_iff_le, bne_eq_false_iff_eq, beq_eq_false_iff_ne, ne_eq, Int.toNat_natCast] at c8
                  refine AWp.skip ?_
                  refine AWp.seq (AWp.region ?_)
                  refine ARun.step rfl (step_assignV rfl (hn rfl) rfl rfl) ?_
                  refine ARun.nil ?_
                  refine AWp.seq (AWp.region ?_)
                  refine ARun.step rfl (step_moveV rfl (hn rfl) rfl rfl) ?_
                  refine ARun.step rfl (step_moveV rfl (hn rfl) rfl rfl) ?_
                  refine ARun.step rfl (call_step1 rfl (hn rfl) rfl yzCo63 (.cons rfl (.one (.ref _ rfl)) (.cons rfl (.one (.v _)) (.nil))) (heldStrS (runThings p s).length 1 (by omega) (by omega)) rfl) ?_
                  refine ARun.step rfl (step_assignV rfl (hn rfl) rfl rfl) ?_
                  refine ARun.nil ?_
                  refine AWp.seq ?_
                  refine AWp.seq (AWp.region ?_)
                  refine ARun.step rfl (step_moveV rfl (hn rfl) rfl rfl) ?_
                  refine ARun.step rfl (step_lss rfl (hn rfl) rfl rfl rfl) ?_
                  refine ARun.nil ?_
                  refine AWp.cond rfl (fun c9 => ?_) (fun c9 => ?_)
                  · try simp only [decide_eq_true_eq, decide_eq_false_iff_not, beq_iff_eq, bne_iff_ne, Bool.not_eq_true', Bool.not_eq_false', Bool.and_eq_true, Bool.or_eq_true, Bool.and_eq_false_iff, Bool.or_eq_false_iff, Int.not_lt, Int.not_le, gt_iff_lt, ge_iff_le, bne_eq_false_iff_eq, beq_eq_false_iff_ne, ne_eq, Int.toNat_natCast] at c9
                    refine AWp.seq (AWp.region ?_)
                    refine ARun.step rfl (step_assignV rfl (hn rfl) rfl rfl) ?_
                    refine ARun.nil ?_
                    refine AWp.ret ?_
                    refine RetIs.sc (.inr rfl) rfl rfl ?_
                    refine congrArg T.bool ?_
                    first
                      | rfl
                      | (exfalso; omega)
                      | (exfalso; simp [eqL_refl, strEq_refl, eqRb_refl] at *; done)
                      | (exfalso; simp [eqL_refl, strEq_refl, eqRb_refl] at *; omega)
                  · try simp only [decide_eq_true_eq, decide_eq_false_iff_not, beq_iff_eq, bne_iff_ne, Bool.not_eq_true', Bool.not_eq_false', Bool.and_eq_true, Bool.or_eq_true, Bool.and_eq_false_iff, Bool.or_eq_false_iff, Int.not_lt, Int.not_le, gt_iff_lt, ge_iff_le, bne_eq_false_iff_eq, beq_eq_false_iff_ne, ne_eq, Int.toNat_natCast] at c9
                    refine AWp.skip ?_
                    refine AWp.seq ?_
                    refine AWp.seq (AWp.region ?_)
                    refine ARun.step rfl (step_moveV rfl (hn rfl) rfl rfl) ?_
                    refine ARun.step rfl (step_moveV rfl (hn rfl) rfl rfl) ?_
                    refine ARun.step rfl (step_neq rfl (hn rfl) rfl rfl rfl) ?_
                    refine ARun.nil ?_
                    refine AWp.cond rfl (fun c10 => ?_) (fun c10 => ?_)
                    · try simp only [decide_eq_true_eq, decide_eq_false_iff_not, beq_iff_eq, bne_iff_ne, Bool.not_eq_true', Bool.not_eq_false', Bool.and_eq_true, Bool.or_eq_true, Bool.and_eq_false_iff, Bool.or_eq_false_iff, Int.not_lt, Int.not_le, gt_iff_lt, ge_iff_le, bne_eq_false_iff_eq, beq_eq_false_iff_ne, ne_eq, Int.toNat_natCast] at c10
                      refine AWp.seq (AWp.region ?_)
                      refine ARun.step rfl (step_assignV rfl (hn rfl) rfl rfl) ?_
                      refine ARun.nil ?_
                      refine AWp.ret ?_
                      refine RetIs.sc (.inr rfl) rfl rfl ?_
                      refine congrArg T.bool ?_
                      first
                        | rfl
                        | (exfalso; omega)
                        | (exfalso; simp [eqL_refl, strEq_refl, eqRb_refl] at *; done)
                        | (exfalso; simp [eqL_refl, strEq_refl, eqRb_refl] at *; omega)
                    · try simp only [decide_eq_true_eq, decide_eq_false_iff_not, beq_iff_eq, bne_iff_ne, Bool.not_eq_true', Bool.not_eq_false', Bool.and_eq_true, Bool.or_eq_true, Bool.and_eq_false_iff, Bool.or_eq_false_iff, Int.not_lt, Int.not_le, gt_iff_lt, ge_iff_le, bne_eq_false_iff_eq, beq_eq_false_iff_ne, ne_eq, Int.toNat_natCast] at c10
                      refine AWp.skip ?_
                      refine AWp.seq (AWp.region ?_)
                      refine ARun.step rfl (step_assignV rfl (hn rfl) rfl rfl) ?_
                      refine ARun.nil ?_
                      refine AWp.ret ?_
                      refine RetIs.sc (.inr rfl) rfl rfl ?_
                      refine congrArg T.bool ?_
                      first
                        | rfl
                        | (exfalso; omega)
                        | (exfalso; simp [eqL_refl, strEq_refl, eqRb_refl] at *; done)
                        | (exfalso; simp [eqL_refl, strEq_refl, eqRb_refl] at *; omega)
set_option maxHeartbeats 1000000 in
theorem lawRunOwn (p : Rb)  : ASpec Try.prog 12 [.agg (p.cells 155 158)] (.one (.bool true)) := by
  refine ASpec.body Try.func12 rfl [2] rfl 69 rfl rfl rfl ?_
  have hzb := szRb_le p 1048576
  refine AWp.seq (AWp.region ?_)
  refine ARun.step rfl (step_box_p (m := 5) rfl (hn rfl) rfl rfl rfl rfl rfl) ?_
  refine ARun.step rfl (step_assignV rfl (hn rfl) rfl rfl) ?_
  refine ARun.nil ?_
  refine AWp.seq (AWp.region ?_)
  refine ARun.step rfl (step_assignV rfl (hn rfl) rfl rfl) ?_
  refine ARun.nil ?_
  refine AWp.seq (AWp.region ?_)
  refine ARun.step rfl (step_loadS_b rfl (hn rfl) rfl yzSt73 rfl rfl rfl (by decide)) ?_
  refine ARun.step rfl (step_moveV rfl (hn rfl) rfl rfl) ?_
  refine ARun.step rfl (call_step1 rfl (hn rfl) rfl yzCo51 (.cons rfl (.agg (.cons (.v _) (.cons (.v _) (.cons (.v _) (.cons (.v _) (.cons (.v _) (.cons (.v _) .nil))))))) (.cons rfl (.one (.v _)) (.nil))) (rbSz _ _ (by omega) (by omega)) rfl) ?_
  refine ARun.step rfl (step_assignV rfl (hn rfl) rfl rfl) ?_
  refine ARun.nil ?_
  refine AWp.seq ?_
  refine AWp.seq (AWp.region ?_)
  refine ARun.step rfl (step_moveV rfl (hn rfl) rfl rfl) ?_
  refine ARun.step rfl (step_lss rfl (hn rfl) rfl rfl rfl) ?_
  refine ARun.nil ?_
  refine AWp.cond rfl (fun c1 => ?_) (fun c1 => ?_)
  · try simp only [decide_eq_true_eq, decide_eq_false_iff_not, beq_iff_eq, bne_iff_ne, Bool.not_eq_true', Bool.not_eq_false', Bool.and_eq_true, Bool.or_eq_true, Bool.and_eq_false_iff, Bool.or_eq_false_iff, Int.not_lt, Int.not_le, gt_iff_lt, ge_iff_le, bne_eq_false_iff_eq, beq_eq_false_iff_ne, ne_eq, Int.toNat_natCast] at c1
    refine AWp.seq (AWp.region ?_)
    refine ARun.step rfl (step_assignV rfl (hn rfl) rfl rfl) ?_
    refine ARun.nil ?_
    refine AWp.ret ?_
    refine RetIs.sc (.inr rfl) rfl rfl ?_
    refine congrArg T.bool ?_
    first
      | rfl
      | (exfalso; omega)
      | (exfalso; simp [eqL_refl, strEq_refl, eqRb_refl] at *; done)
      | (exfalso; simp [eqL_refl, strEq_refl, eqRb_refl] at *; omega)
  · try simp only [decide_eq_true_eq, decide_eq_false_iff_not, beq_iff_eq, bne_iff_ne, Bool.not_eq_true', Bool.not_eq_false', Bool.and_eq_true, Bool.or_eq_true, Bool.and_eq_false_iff, Bool.or_eq_false_iff, Int.not_lt, Int.not_le, gt_iff_lt, ge_iff_le, bne_eq_false_iff_eq, beq_eq_false_iff_ne, ne_eq, Int.toNat_natCast] at c1
    have hsm : smallRb p := szRb_small (m := 1048576) (by omega) (by omega)
    have hsm1 := hsm.1
    have hsm2 := hsm.2
    have hrl := runOwn_len p
    refine AWp.skip ?_
    refine AWp.seq (AWp.region ?_)
    refine ARun.step rfl (step_loadS_b rfl (hn rfl) rfl yzSt73 rfl rfl rfl (by decide)) ?_
    refine ARun.step rfl (call_stepZ rfl (hn rfl) rfl yzCo53 (.cons rfl (.agg (.cons (.v _) (.cons (.v _) (.cons (.v _) (.cons (.v _) (.cons (.v _) (.cons (.v _) .nil))))))) (.nil)) (rbToZ _ (by assumption)) rfl rfl) ?_
    refine ARun.step rfl (call_stepZ rfl (hn rfl) rfl yzCo64 (.cons rfl (.agg (.cons (.v _) (.cons (.v _) (.cons (.v _) (.cons (.v _) (.cons (.v _) (.cons (.v _) .nil))))))) (.nil)) (runOwnS p) rfl rfl) ?_
    refine ARun.step rfl (step_assignV rfl (hn rfl) rfl rfl) ?_
    refine ARun.nil ?_
    refine AWp.seq (AWp.region ?_)
    refine ARun.step rfl (step_loadS_b rfl (hn rfl) rfl yzSt73 rfl rfl rfl (by decide)) ?_
    refine ARun.step rfl (call_stepN rfl (hn rfl) rfl yzCo53 (.cons rfl (.agg (.cons (.v _) (.cons (.v _) (.cons (.v _) (.cons (.v _) (.cons (.v _) (.cons (.v _) .nil))))))) (.nil)) (rbTo _ (by assumption)) rfl rfl) ?_
    refine ARun.step rfl (step_alloc_p rfl (hn rfl) rfl yzZs78) ?_
    refine ARun.step rfl (step_store_r rfl rfl yzCs78 rfl rfl rfl rfl rfl rfl rfl) ?_
    refine ARun.nil ?_
    refine AWp.seq (AWp.region ?_)
    refine ARun.step rfl (step_loadS_b rfl (hn rfl) rfl yzSt78 rfl rfl rfl (by decide)) ?_
    refine ARun.step rfl (call_stepC rfl (hn rfl) rfl yzCo65 (.cons rfl (.agg (.cons (.v _) (.cons (.ref _ rfl) (.cons (.ref _ rfl) (.cons (.v _) (.cons (.v _) (.cons (.v _) .nil))))))) (.nil)) (runOwnI p) rfl (CleanL.all (.cons (clean_strs _) .nil))) ?_
    refine ARun.step rfl (step_assignV rfl (hn rfl) rfl rfl) ?_
    refine ARun.nil ?_
    refine AWp.seq ?_
    refine AWp.seq (AWp.region ?_)
    refine ARun.step rfl (step_moveV rfl (hn rfl) rfl rfl) ?_
    refine ARun.step rfl (step_moveV rfl (hn rfl) rfl rfl) ?_
    refine ARun.step rfl (call_step1 rfl (hn rfl) rfl yzCo47 (.cons rfl (.one (.ref _ rfl)) (.cons rfl (.one (.v _)) (.nil))) (eqStrS _ _) rfl) ?_
    refine ARun.step rfl (step_not rfl (hn rfl) rfl rfl) ?_
    refine ARun.nil ?_
    refine AWp.cond rfl (fun c2 => ?_) (fun c2 => ?_)
    · try simp only [decide_eq_true_eq, decide_eq_false_iff_not, beq_iff_eq, bne_iff_ne, Bool.not_eq_true', Bool.not_eq_false', Bool.and_eq_true, Bool.or_eq_true, Bool.and_eq_false_iff, Bool.or_eq_false_iff, Int.not_lt, Int.not_le, gt_iff_lt, ge_iff_le, bne_eq_false_iff_eq, beq_eq_false_iff_ne, ne_eq, Int.toNat_natCast] at c2
      refine AWp.seq (AWp.region ?_)
      refine ARun.step rfl (step_assignV rfl (hn rfl) rfl rfl) ?_
      refine ARun.nil ?_
      refine AWp.ret ?_
      refine RetIs.sc (.inr rfl) rfl rfl ?_
      refine congrArg T.bool ?_
      first
        | rfl
        | (exfalso; omega)
        | (exfalso; simp [eqL_refl, strEq_refl, eqRb_refl] at *; done)
        | (exfalso; simp [eqL_refl, strEq_refl, eqRb_refl] at *; omega)
    · try simp only [decide_eq_true_eq, decide_eq_false_iff_not, beq_iff_eq, bne_iff_ne, Bool.not_eq_true', Bool.not_eq_false', Bool.and_eq_true, Bool.or_eq_true, Bool.and_eq_false_iff, Bool.or_eq_false_iff, Int.not_lt, Int.not_le, gt_iff_lt, ge_iff_le, bne_eq_false_iff_eq, beq_eq_false_iff_ne, ne_eq, Int.toNat_natCast] at c2
      refine AWp.skip ?_
      refine AWp.seq ?_
      refine AWp.seq (AWp.draw [⟨[.s 5, .b 5], [.s 27], false⟩, ⟨[.s 1, .b 1], [.s 28], false⟩, ⟨[.s 28], [.s 29], false⟩, ⟨[.s 29, .a 20 2, .a 20 1, .s 27], [.s 30], false⟩, ⟨[.s 30], [.s 31], false⟩] yzMo rfl ?_)
      refine DRun.step rfl (fun τ hN hr => step_loadS_b rfl (rdN hN (hn rfl)) rfl yzSt78 (by exact rdS hr rfl rfl) (by exact rdBtake hr rfl rfl) rfl (by decide)) ?_
      refine DRun.step rfl (fun τ hN hr => step_loadS_b rfl (rdN hN (hn rfl)) rfl yzSt73 (by exact rdS hr rfl rfl) (by exact rdBtake hr rfl rfl) rfl (by decide)) ?_
      refine DRun.step rfl (fun τ hN hr => call_stepZ rfl (rdN hN (hn rfl)) rfl yzCo53 (.cons (by exact rdS hr rfl rfl) (.agg (.cons (.v _) (.cons (.v _) (.cons (.v _) (.cons (.v _) (.cons (.v _) (.cons (.v _) .nil))))))) (.nil)) (rbToZ _ (by assumption)) rfl (by exact rdNoRefs hr rfl rfl)) ?_
      refine DRun.step rfl (fun τ hN hr => call_step1 rfl (rdN hN (hn rfl)) rfl yzCo55 (.cons (by exact rdS hr rfl rfl) (.agg (.cons (.v _) (.cons (.ref _ (by exact rdA hr rfl rfl)) (.cons (.ref _ (by exact rdA hr rfl rfl)) (.cons (.v _) (.cons (.v _) (.cons (.v _) .nil))))))) (.cons (by exact rdS hr rfl rfl) (.agg (.cons (.v _) (.cons (.v _) (.cons (.v _) (.cons (.v _) (.cons (.v _) (.cons (.v _) .nil))))))) (.nil))) (rbEq p p) rfl) ?_
      refine DRun.step rfl (fun τ hN hr => step_not rfl (rdN hN (hn rfl)) rfl (by exact rdS hr rfl rfl)) ?_
      refine DRun.nil ?_
      refine AWp.cond rfl (fun c3 => ?_) (fun c3 => ?_)
      · try simp only [decide_eq_true_eq, decide_eq_false_iff_not, beq_iff_eq, bne_iff_ne, Bool.not_eq_true', Bool.not_eq_false', Bool.and_eq_true, Bool.or_eq_true, Bool.and_eq_false_iff, Bool.or_eq_false_iff, Int.not_lt, Int.not_le, gt_iff_lt, ge_iff_le, bne_eq_false_iff_eq, beq_eq_false_iff_ne, ne_eq, Int.toNat_natCast] at c3
        refine AWp.seq (AWp.region ?_)
        refine ARun.step rfl (step_assignV rfl (hn rfl) rfl rfl) ?_
        refine ARun.nil ?_
        refine AWp.ret ?_
        refine RetIs.sc (.inr rfl) rfl rfl ?_
        refine congrArg T.bool ?_
        first
          | rfl
          | (exfalso; omega)
          | (exfalso; simp [eqL_refl, strEq_refl, eqRb_refl] at *; done)
          | (exfalso; simp [eqL_refl, strEq_refl, eqRb_refl] at *; omega)
      · try simp only [decide_eq_true_eq, decide_eq_false_iff_not, beq_iff_eq, bne_iff_ne, Bool.not_eq_true', Bool.not_eq_false', Bool.and_eq_true, Bool.or_eq_true, Bool.and_eq_false_iff, Bool.or_eq_false_iff, Int.not_lt, Int.not_le, gt_iff_lt, ge_iff_le, bne_eq_false_iff_eq, beq_eq_false_iff_ne, ne_eq, Int.toNat_natCast] at c3
        refine AWp.skip ?_
        refine AWp.seq (AWp.region ?_)
        refine ARun.step rfl (step_assignV rfl (hn rfl) rfl rfl) ?_
        refine ARun.nil ?_
        refine AWp.seq (AWp.region ?_)
        refine ARun.step rfl (step_loadS_b rfl (hn rfl) rfl yzSt78 rfl rfl rfl (by decide)) ?_
        refine ARun.step rfl (step_moveV rfl (hn rfl) rfl rfl) ?_
        refine ARun.step rfl (mcall_roots (L := [(⟨.arr 20 1, []⟩, 1), (⟨.arr 20 2, []⟩, 2)]) (TL := [(20, 1, _), (20, 2, _)]) rfl (hn rfl) rfl yzCo62 rfl (.cons rfl (.agg (.cons (.v (.refl _)) (.cons (.rw _ rfl rfl rfl) (.cons (.rw _ rfl rfl rfl) (.cons (.v (.refl _)) (.cons (.v (.refl _)) (.cons (.v (.refl _)) (.nil _)))))))) (.cons rfl (.one (.v (.refl _))) (.nil _))) (markRb p 1 (by omega) (by omega)) rfl (.cons (i := 0) (j := 1) rfl rfl rfl rfl rfl rfl (.cons (i := 0) (j := 2) rfl rfl rfl rfl rfl rfl .nil))) ?_
        refine ARun.step rfl (step_assignV rfl (hn rfl) rfl rfl) ?_
        refine ARun.nil ?_
        refine AWp.seq ?_
        refine AWp.seq (AWp.region ?_)
        refine ARun.step rfl (step_moveV rfl (hn rfl) rfl rfl) ?_
        refine ARun.step rfl (step_lss rfl (hn rfl) rfl rfl rfl) ?_
        refine ARun.step rfl (step_moveV rfl (hn rfl) rfl rfl) ?_
        refine guardS rfl rfl rfl rfl (hn rfl) (fun g1 g2 => step_moveV rfl (hn rfl) rfl rfl) ?_
        refine guardS rfl rfl rfl rfl (hn rfl) (fun g1 g2 => step_moveV rfl (hn rfl) rfl rfl) ?_
        refine guardS rfl rfl rfl rfl (hn rfl) (fun g1 g2 => call_step1 rfl (hn rfl) rfl yzCo47 (.cons (ev_true rfl (by exact flag2 g1 g2)) (.one (.ref _ rfl)) (.cons (ev_true rfl (by exact flag2 g1 g2)) (.one (.v _)) (.nil))) (eqStrS _ _) rfl) ?_
        refine guardS rfl rfl rfl rfl (hn rfl) (fun g1 g2 => step_not rfl (hn rfl) rfl (ev_true rfl (by exact flag2 g1 g2))) ?_
        refine ARun.step rfl (step_or rfl (hn rfl) rfl rfl rfl (fun h => (by exact flag1 h))) ?_
        refine ARun.nil ?_
        refine AWp.cond rfl (fun c4 => ?_) (fun c4 => ?_)
        · try simp only [decide_eq_true_eq, decide_eq_false_iff_not, beq_iff_eq, bne_iff_ne, Bool.not_eq_true', Bool.not_eq_false', Bool.and_eq_true, Bool.or_eq_true, Bool.and_eq_false_iff, Bool.or_eq_false_iff, Int.not_lt, Int.not_le, gt_iff_lt, ge_iff_le, bne_eq_false_iff_eq, beq_eq_false_iff_ne, ne_eq, Int.toNat_natCast] at c4
          refine AWp.seq (AWp.region ?_)
          refine ARun.step rfl (step_assignV rfl (hn rfl) rfl rfl) ?_
          refine ARun.nil ?_
          refine AWp.ret ?_
          refine RetIs.sc (.inr rfl) rfl rfl ?_
          refine congrArg T.bool ?_
          first
            | rfl
            | (exfalso; omega)
            | (exfalso; simp [eqL_refl, strEq_refl, eqRb_refl] at *; done)
            | (exfalso; simp [eqL_refl, strEq_refl, eqRb_refl] at *; omega)
        · try simp only [decide_eq_true_eq, decide_eq_false_iff_not, beq_iff_eq, bne_iff_ne, Bool.not_eq_true', Bool.not_eq_false', Bool.and_eq_true, Bool.or_eq_true, Bool.and_eq_false_iff, Bool.or_eq_false_iff, Int.not_lt, Int.not_le, gt_iff_lt, ge_iff_le, bne_eq_false_iff_eq, beq_eq_false_iff_ne, ne_eq, Int.toNat_natCast] at c4
          refine AWp.skip ?_
          refine AWp.seq (AWp.region ?_)
          refine ARun.step rfl (step_assignV rfl (hn rfl) rfl rfl) ?_
          refine ARun.nil ?_
          refine AWp.seq (AWp.region ?_)
          refine ARun.step rfl (step_moveV rfl (hn rfl) rfl rfl) ?_
          refine ARun.step rfl (step_moveV rfl (hn rfl) rfl rfl) ?_
          refine ARun.step rfl (mcall_roots (L := [(⟨.arr 22 0, []⟩, 0)]) (TL := [(22, 0, _)]) rfl (hn rfl) rfl yzCo48 rfl (.cons rfl (.one (.rw _ rfl rfl rfl)) (.cons rfl (.one (.v (.refl _))) (.nil _))) (markStrS (runOwn p) 1 (by omega) (by omega)) rfl (.cons (i := 0) (j := 0) rfl rfl rfl rfl rfl rfl .nil)) ?_
          refine ARun.step rfl (step_assignV rfl (hn rfl) rfl rfl) ?_
          refine ARun.nil ?_
          refine AWp.seq (AWp.region ?_)
          refine ARun.step rfl (step_assignV rfl (hn rfl) rfl rfl) ?_
          refine ARun.nil ?_
          refine AWp.seq (AWp.region ?_)
          refine ARun.step rfl (step_moveV rfl (hn rfl) rfl rfl) ?_
          refine ARun.step rfl (step_moveV rfl (hn rfl) rfl rfl) ?_
          refine ARun.step rfl (call_step1 rfl (hn rfl) rfl yzCo63 (.cons rfl (.one (.ref _ rfl)) (.cons rfl (.one (.v _)) (.nil))) (heldStrS (runOwn p).length 1 (by omega) (by omega)) rfl) ?_
          refine ARun.step rfl (step_assignV rfl (hn rfl) rfl rfl) ?_
          refine ARun.nil ?_
          refine AWp.seq ?_
          refine AWp.seq (AWp.region ?_)
          refine ARun.step rfl (step_moveV rfl (hn rfl) rfl rfl) ?_
          refine ARun.step rfl (step_lss rfl (hn rfl) rfl rfl rfl) ?_
          refine ARun.nil ?_
          refine AWp.cond rfl (fun c5 => ?_) (fun c5 => ?_)
          · try simp only [decide_eq_true_eq, decide_eq_false_iff_not, beq_iff_eq, bne_iff_ne, Bool.not_eq_true', Bool.not_eq_false', Bool.and_eq_true, Bool.or_eq_true, Bool.and_eq_false_iff, Bool.or_eq_false_iff, Int.not_lt, Int.not_le, gt_iff_lt, ge_iff_le, bne_eq_false_iff_eq, beq_eq_false_iff_ne, ne_eq, Int.toNat_natCast] at c5
            refine AWp.seq (AWp.region ?_)
            refine ARun.step rfl (step_assignV rfl (hn rfl) rfl rfl) ?_
            refine ARun.nil ?_
            refine AWp.ret ?_
            refine RetIs.sc (.inr rfl) rfl rfl ?_
            refine congrArg T.bool ?_
            first
              | rfl
              | (exfalso; omega)
              | (exfalso; simp [eqL_refl, strEq_refl, eqRb_refl] at *; done)
              | (exfalso; simp [eqL_refl, strEq_refl, eqRb_refl] at *; omega)
          · try simp only [decide_eq_true_eq, decide_eq_false_iff_not, beq_iff_eq, bne_iff_ne, Bool.not_eq_true', Bool.not_eq_false', Bool.and_eq_true, Bool.or_eq_true, Bool.and_eq_false_iff, Bool.or_eq_false_iff, Int.not_lt, Int.not_le, gt_iff_lt, ge_iff_le, bne_eq_false_iff_eq, beq_eq_false_iff_ne, ne_eq, Int.toNat_natCast] at c5
            refine AWp.skip ?_
            refine AWp.seq ?_
            refine AWp.seq (AWp.region ?_)
            refine ARun.step rfl (step_moveV rfl (hn rfl) rfl rfl) ?_
            refine ARun.step rfl (step_moveV rfl (hn rfl) rfl rfl) ?_
            refine ARun.step rfl (step_neq rfl (hn rfl) rfl rfl rfl) ?_
            refine ARun.nil ?_
            refine AWp.cond rfl (fun c6 => ?_) (fun c6 => ?_)
            · try simp only [decide_eq_true_eq, decide_eq_false_iff_not, beq_iff_eq, bne_iff_ne, Bool.not_eq_true', Bool.not_eq_false', Bool.and_eq_true, Bool.or_eq_true, Bool.and_eq_false_iff, Bool.or_eq_false_iff, Int.not_lt, Int.not_le, gt_iff_lt, ge_iff_le, bne_eq_false_iff_eq, beq_eq_false_iff_ne, ne_eq, Int.toNat_natCast] at c6
              refine AWp.seq (AWp.region ?_)
              refine ARun.step rfl (step_assignV rfl (hn rfl) rfl rfl) ?_
              refine ARun.nil ?_
              refine AWp.ret ?_
              refine RetIs.sc (.inr rfl) rfl rfl ?_
              refine congrArg T.bool ?_
              first
                | rfl
                | (exfalso; omega)
                | (exfalso; simp [eqL_refl, strEq_refl, eqRb_refl] at *; done)
                | (exfalso; simp [eqL_refl, strEq_refl, eqRb_refl] at *; omega)
            · try simp only [decide_eq_true_eq, decide_eq_false_iff_not, beq_iff_eq, bne_iff_ne, Bool.not_eq_true', Bool.not_eq_false', Bool.and_eq_true, Bool.or_eq_true, Bool.and_eq_false_iff, Bool.or_eq_false_iff, Int.not_lt, Int.not_le, gt_iff_lt, ge_iff_le, bne_eq_false_iff_eq, beq_eq_false_iff_ne, ne_eq, Int.toNat_natCast] at c6
              refine AWp.skip ?_
              refine AWp.seq (AWp.region ?_)
              refine ARun.step rfl (step_loadS_b rfl (hn rfl) rfl yzSt73 rfl rfl rfl (by decide)) ?_
              refine ARun.step rfl (call_stepZ rfl (hn rfl) rfl yzCo53 (.cons rfl (.agg (.cons (.v _) (.cons (.v _) (.cons (.v _) (.cons (.v _) (.cons (.v _) (.cons (.v _) .nil))))))) (.nil)) (rbToZ _ (by assumption)) rfl rfl) ?_
              refine ARun.step rfl (call_stepN rfl (hn rfl) rfl yzCo65 (.cons rfl (.agg (.cons (.v _) (.cons (.v _) (.cons (.v _) (.cons (.v _) (.cons (.v _) (.cons (.v _) .nil))))))) (.nil)) (runOwnI p) rfl rfl) ?_
              refine ARun.step rfl (step_assignV rfl (hn rfl) rfl rfl) ?_
              refine ARun.nil ?_
              refine AWp.seq ?_
              refine AWp.seq (AWp.region ?_)
              refine ARun.step rfl (step_moveV rfl (hn rfl) rfl rfl) ?_
              refine ARun.step rfl (step_moveV rfl (hn rfl) rfl rfl) ?_
              refine ARun.step rfl (call_step1 rfl (hn rfl) rfl yzCo47 (.cons rfl (.one (.ref _ rfl)) (.cons rfl (.one (.v _)) (.nil))) (eqStrS _ _) rfl) ?_
              refine ARun.step rfl (step_not rfl (hn rfl) rfl rfl) ?_
              refine ARun.nil ?_
              refine AWp.cond rfl (fun c7 => ?_) (fun c7 => ?_)
              · try simp only [decide_eq_true_eq, decide_eq_false_iff_not, beq_iff_eq, bne_iff_ne, Bool.not_eq_true', Bool.not_eq_false', Bool.and_eq_true, Bool.or_eq_true, Bool.and_eq_false_iff, Bool.or_eq_false_iff, Int.not_lt, Int.not_le, gt_iff_lt, ge_iff_le, bne_eq_false_iff_eq, beq_eq_false_iff_ne, ne_eq, Int.toNat_natCast] at c7
                refine AWp.seq (AWp.region ?_)
                refine ARun.step rfl (step_assignV rfl (hn rfl) rfl rfl) ?_
                refine ARun.nil ?_
                refine AWp.ret ?_
                refine RetIs.sc (.inr rfl) rfl rfl ?_
                refine congrArg T.bool ?_
                first
                  | rfl
                  | (exfalso; omega)
                  | (exfalso; simp [eqL_refl, strEq_refl, eqRb_refl] at *; done)
                  | (exfalso; simp [eqL_refl, strEq_refl, eqRb_refl] at *; omega)
              · try simp only [decide_eq_true_eq, decide_eq_false_iff_not, beq_iff_eq, bne_iff_ne, Bool.not_eq_true', Bool.not_eq_false', Bool.and_eq_true, Bool.or_eq_true, Bool.and_eq_false_iff, Bool.or_eq_false_iff, Int.not_lt, Int.not_le, gt_iff_lt, ge_iff_le, bne_eq_false_iff_eq, beq_eq_false_iff_ne, ne_eq, Int.toNat_natCast] at c7
                refine AWp.skip ?_
                refine AWp.seq (AWp.region ?_)
                refine ARun.step rfl (step_assignV rfl (hn rfl) rfl rfl) ?_
                refine ARun.nil ?_
                refine AWp.seq (AWp.region ?_)
                refine ARun.step rfl (step_moveV rfl (hn rfl) rfl rfl) ?_
                refine ARun.step rfl (step_moveV rfl (hn rfl) rfl rfl) ?_
                refine ARun.step rfl (call_step1 rfl (hn rfl) rfl yzCo63 (.cons rfl (.one (.ref _ rfl)) (.cons rfl (.one (.v _)) (.nil))) (heldStrS (runOwn p).length 1 (by omega) (by omega)) rfl) ?_
                refine ARun.step rfl (step_assignV rfl (hn rfl) rfl rfl) ?_
                refine ARun.nil ?_
                refine AWp.seq ?_
                refine AWp.seq (AWp.region ?_)
                refine ARun.step rfl (step_moveV rfl (hn rfl) rfl rfl) ?_
                refine ARun.step rfl (step_lss rfl (hn rfl) rfl rfl rfl) ?_
                refine ARun.nil ?_
                refine AWp.cond rfl (fun c8 => ?_) (fun c8 => ?_)
                · try simp only [decide_eq_true_eq, decide_eq_false_iff_not, beq_iff_eq, bne_iff_ne, Bool.not_eq_true', Bool.not_eq_false', Bool.and_eq_true, Bool.or_eq_true, Bool.and_eq_false_iff, Bool.or_eq_false_iff, Int.not_lt, Int.not_le, gt_iff_lt, ge_iff_le, bne_eq_false_iff_eq, beq_eq_false_iff_ne, ne_eq, Int.toNat_natCast] at c8
                  refine AWp.seq (AWp.region ?_)
                  refine ARun.step rfl (step_assignV rfl (hn rfl) rfl rfl) ?_
                  refine ARun.nil ?_
                  refine AWp.ret ?_
                  refine RetIs.sc (.inr rfl) rfl rfl ?_
                  refine congrArg T.bool ?_
                  first
                    | rfl
                    | (exfalso; omega)
                    | (exfalso; simp [eqL_refl, strEq_refl, eqRb_refl] at *; done)
                    | (exfalso; simp [eqL_refl, strEq_refl, eqRb_refl] at *; omega)
                · try simp only [decide_eq_true_eq, decide_eq_false_iff_not, beq_iff_eq, bne_iff_ne, Bool.not_eq_true', Bool.not_eq_false', Bool.and_eq_true, Bool.or_eq_true, Bool.and_eq_false_iff, Bool.or_eq_false_iff, Int.not_lt, Int.not_le, gt_iff_lt, ge_iff_le, bne_eq_false_iff_eq, beq_eq_false_iff_ne, ne_eq, Int.toNat_natCast] at c8
                  refine AWp.skip ?_
                  refine AWp.seq ?_
                  refine AWp.seq (AWp.region ?_)
                  refine ARun.step rfl (step_moveV rfl (hn rfl) rfl rfl) ?_
                  refine ARun.step rfl (step_moveV rfl (hn rfl) rfl rfl) ?_
                  refine ARun.step rfl (step_neq rfl (hn rfl) rfl rfl rfl) ?_
                  refine ARun.nil ?_
                  refine AWp.cond rfl (fun c9 => ?_) (fun c9 => ?_)
                  · try simp only [decide_eq_true_eq, decide_eq_false_iff_not, beq_iff_eq, bne_iff_ne, Bool.not_eq_true', Bool.not_eq_false', Bool.and_eq_true, Bool.or_eq_true, Bool.and_eq_false_iff, Bool.or_eq_false_iff, Int.not_lt, Int.not_le, gt_iff_lt, ge_iff_le, bne_eq_false_iff_eq, beq_eq_false_iff_ne, ne_eq, Int.toNat_natCast] at c9
                    refine AWp.seq (AWp.region ?_)
                    refine ARun.step rfl (step_assignV rfl (hn rfl) rfl rfl) ?_
                    refine ARun.nil ?_
                    refine AWp.ret ?_
                    refine RetIs.sc (.inr rfl) rfl rfl ?_
                    refine congrArg T.bool ?_
                    first
                      | rfl
                      | (exfalso; omega)
                      | (exfalso; simp [eqL_refl, strEq_refl, eqRb_refl] at *; done)
                      | (exfalso; simp [eqL_refl, strEq_refl, eqRb_refl] at *; omega)
                  · try simp only [decide_eq_true_eq, decide_eq_false_iff_not, beq_iff_eq, bne_iff_ne, Bool.not_eq_true', Bool.not_eq_false', Bool.and_eq_true, Bool.or_eq_true, Bool.and_eq_false_iff, Bool.or_eq_false_iff, Int.not_lt, Int.not_le, gt_iff_lt, ge_iff_le, bne_eq_false_iff_eq, beq_eq_false_iff_ne, ne_eq, Int.toNat_natCast] at c9
                    refine AWp.skip ?_
                    refine AWp.seq (AWp.region ?_)
                    refine ARun.step rfl (step_assignV rfl (hn rfl) rfl rfl) ?_
                    refine ARun.nil ?_
                    refine AWp.ret ?_
                    refine RetIs.sc (.inr rfl) rfl rfl ?_
                    refine congrArg T.bool ?_
                    first
                      | rfl
                      | (exfalso; omega)
                      | (exfalso; simp [eqL_refl, strEq_refl, eqRb_refl] at *; done)
                      | (exfalso; simp [eqL_refl, strEq_refl, eqRb_refl] at *; omega)

end Go.Proofs.Ytomjieobbgcjeaa
