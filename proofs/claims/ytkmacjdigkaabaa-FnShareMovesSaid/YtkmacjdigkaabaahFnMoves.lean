/- Contracts of functions of the program, each met by its body; conditions stand in each statement. No condition. -/
import Derived.Test.YtkmacjdigkaabaahRd52
import Derived.Test.YtkmacjdigkaabaahBank
import Derived.Test.YtkmacjdigkaabaahWh
import Derived.Test.YtkmacjdigkaabaaProg
import Derived.KernelRfl
set_option linter.unusedVariables false
set_option linter.unusedSimpArgs false
set_option linter.unnecessarySimpa false
set_option linter.unusedSimpArgs false
set_option maxRecDepth 100000
namespace Go.Proofs.Ytkmacjdigkaabaa
open Go Go.Mh

end Go.Proofs.Ytkmacjdigkaabaa

set_option linter.unusedVariables false
set_option linter.unusedSimpArgs false
set_option maxRecDepth 100000
namespace Go.Proofs.Ytkmacjdigkaabaa
open Go Go.Mh

theorem waitsIZ (p : Bk) (s : Str) : ASpec Try.prog 36 [.agg (p.cells 48), .one (.str s)] (.one (.fz (strs (waitsB p s)))) := (waitsI p s).letGo (.p (.one (.fz (.refl _))))

theorem waitsSZ (p : Bk) (s : Str) : ASpec Try.prog 38 [.agg (p.cells 48), .one (.str s)] (.one (.fz (strs (waitsB p s)))) := (waitsS p s).letGo (.p (.one (.fz (.refl _))))

theorem zbSl41 : sliceT Try.prog 41 = some ⟨5, 1, 1⟩ := by kernel_rfl
theorem zbCo29 : callOk Try.prog 29 = true := by kernel_rfl
theorem zbZs29 : zeroSz Try.prog 29 = some 2 := by kernel_rfl
theorem zbCs29 : cellsSz Try.prog 29 = some (1 + 1) := by kernel_rfl
theorem zbSt29 : structSz Try.prog 29 = some 2 := by kernel_rfl
theorem zbCo30 : callOk Try.prog 30 = true := by kernel_rfl
theorem zbCo32 : callOk Try.prog 32 = true := by kernel_rfl
theorem zbCo31 : callOk Try.prog 31 = true := by kernel_rfl
theorem zbCo33 : callOk Try.prog 33 = true := by kernel_rfl
theorem zbCo34 : callOk Try.prog 34 = true := by kernel_rfl
theorem zbUb4 : Try.prog.underlying 4 = some .bool := by kernel_rfl
theorem zbCo35 : callOk Try.prog 35 = true := by kernel_rfl
theorem zbMo : Try.prog.follows .mixedOrders = true := by kernel_rfl
theorem zbFo29_1 : fieldOff Try.prog 29 1 = some 1 := by kernel_rfl
theorem zbSc27 : scalarB Try.prog 27 = true := by kernel_rfl
theorem zbSl27 : sliceT Try.prog 27 = some ⟨48, 3, 64⟩ := by kernel_rfl
theorem zbCo27 : callOk Try.prog 27 = true := by kernel_rfl
theorem zbFo48_0 : fieldOff Try.prog 48 0 = some 0 := by kernel_rfl
theorem zbSc9 : scalarB Try.prog 9 = true := by kernel_rfl
theorem zbCo28 : callOk Try.prog 28 = true := by kernel_rfl
theorem zbCo36 : callOk Try.prog 36 = true := by kernel_rfl
theorem zbSl22 : sliceT Try.prog 22 = some ⟨9, 1, 16⟩ := by kernel_rfl
theorem zbCo37 : callOk Try.prog 37 = true := by kernel_rfl
theorem zbCo38 : callOk Try.prog 38 = true := by kernel_rfl
set_option maxHeartbeats 1000000 in
theorem lawFnShareMoves (b m : List UInt8)  : ASpec Try.prog 6 [.one (bytesT 5 b), .one (bytesT 5 m)] (.one (.bool true)) := by
  refine ASpec.body Try.func6 rfl [4] rfl 96 rfl rfl rfl ?_
  refine AWp.seq (AWp.region ?_)
  refine ARun.step rfl (step_assignV rfl (hn rfl) rfl rfl) ?_
  refine ARun.nil ?_
  refine AWp.seq ?_
  refine AWp.seq (AWp.region ?_)
  refine ARun.step rfl (step_moveV rfl (hn rfl) rfl rfl) ?_
  refine ARun.step rfl (step_len_f rfl (hn rfl) rfl zbSl41 rfl) ?_
  refine ARun.step rfl (step_gtr rfl (hn rfl) rfl rfl rfl) ?_
  refine ARun.step rfl (step_moveV rfl (hn rfl) rfl rfl) ?_
  refine guardS rfl rfl rfl rfl (hn rfl) (fun g1 g2 => step_moveV rfl (hn rfl) rfl rfl) ?_
  refine guardS rfl rfl rfl rfl (hn rfl) (fun g1 g2 => step_len_f rfl (hn rfl) rfl zbSl41 (ev_true rfl (by exact flag2 g1 g2))) ?_
  refine guardS rfl rfl rfl rfl (hn rfl) (fun g1 g2 => step_gtr rfl (hn rfl) rfl (ev_true rfl (by exact flag2 g1 g2)) rfl) ?_
  refine ARun.step rfl (step_or rfl (hn rfl) rfl rfl rfl (fun h => (by exact flag1 h))) ?_
  refine ARun.nil ?_
  refine AWp.cond rfl (fun c1 => ?_) (fun c1 => ?_)
  · try simp only [nrm] at c1
    refine AWp.seq (AWp.region ?_)
    refine ARun.step rfl (step_assignV rfl (hn rfl) rfl rfl) ?_
    refine ARun.nil ?_
    refine AWp.ret ?_
    refine RetIs.sc (.inr rfl) rfl rfl ?_
    refine congrArg T.bool ?_
    rfl
  · try simp only [nrm] at c1
    refine AWp.skip ?_
    obtain ⟨k, _, hk, hd⟩ := drawShareMoves b (by omega)
    have hkl := hk.2.1
    refine AWp.seq (AWp.region ?_)
    refine ARun.step rfl (step_moveV rfl (hn rfl) rfl rfl) ?_
    refine ARun.step rfl (call_stepZ rfl (hn rfl) rfl zbCo29 (.cons rfl (.one (.v _)) (.nil)) hd rfl rfl) ?_
    refine ARun.step rfl (step_alloc_p rfl (hn rfl) rfl zbZs29) ?_
    refine ARun.step rfl (step_store_p rfl rfl zbCs29 rfl rfl rfl rfl rfl rfl rfl) ?_
    refine ARun.nil ?_
    refine AWp.seq (AWp.region ?_)
    refine ARun.step rfl (step_loadS_b rfl (hn rfl) rfl zbSt29 rfl rfl rfl (by decide)) ?_
    refine ARun.step rfl (call_stepZ rfl (hn rfl) rfl zbCo30 (.cons rfl (.agg (.cons (.v _) (.cons (.v _) .nil))) (.nil)) (movesIZ k) rfl rfl) ?_
    refine ARun.step rfl (step_assignV rfl (hn rfl) rfl rfl) ?_
    refine ARun.nil ?_
    refine AWp.seq ?_
    refine AWp.seq (AWp.draw [⟨[.s 6], [.s 25], false⟩, ⟨[.s 5, .b 5], [.s 26], false⟩, ⟨[.s 26], [.s 27], false⟩, ⟨[.s 27, .s 25], [.s 28], false⟩, ⟨[.s 28], [.s 29], false⟩, ⟨[.s 29], [.s 30], false⟩, ⟨[.s 5, .b 5, .s 30], [.s 31], false⟩, ⟨[.s 31, .s 30], [.s 32], false⟩, ⟨[.s 5, .b 5, .s 30], [.s 33], false⟩, ⟨[.s 33, .s 30], [.s 34], false⟩, ⟨[.s 32, .s 34, .s 30], [.s 35], false⟩, ⟨[.s 30, .s 35], [.s 36], false⟩, ⟨[.s 36], [.s 37], false⟩, ⟨[.s 5, .b 5, .s 37], [.s 38], false⟩, ⟨[.s 38, .s 37], [.s 39], false⟩, ⟨[.s 39, .s 37], [.s 40], false⟩, ⟨[.s 5, .b 5, .s 40], [.s 41], false⟩, ⟨[.s 41, .s 40], [.s 42], false⟩, ⟨[.s 40, .s 42, .s 37], [.s 43], false⟩, ⟨[.s 37, .s 43], [.s 44], false⟩] zbMo rfl ?_)
    refine DRun.step rfl (fun τ hN hr => step_moveV rfl (rdN hN (hn rfl)) rfl (by exact rdS hr rfl rfl)) ?_
    refine DRun.step rfl (fun τ hN hr => step_loadS_b rfl (rdN hN (hn rfl)) rfl zbSt29 (by exact rdS hr rfl rfl) (by exact rdBtake hr rfl rfl) rfl (by decide)) ?_
    refine DRun.step rfl (fun τ hN hr => call_stepZ rfl (rdN hN (hn rfl)) rfl zbCo32 (.cons (by exact rdS hr rfl rfl) (.agg (.cons (.v _) (.cons (.v _) .nil))) (.nil)) (movesSZ k) rfl (by exact rdNoRefs hr rfl rfl)) ?_
    refine DRun.step rfl (fun τ hN hr => call_step1 rfl (rdN hN (hn rfl)) rfl zbCo31 (.cons (by exact rdS hr rfl rfl) (.one (.v _)) (.cons (by exact rdS hr rfl rfl) (.one (.v _)) (.nil))) (whTexts _ _) rfl) ?_
    refine DRun.step rfl (fun τ hN hr => step_not rfl (rdN hN (hn rfl)) rfl (by exact rdS hr rfl rfl)) ?_
    refine DRun.step rfl (fun τ hN hr => step_moveV rfl (rdN hN (hn rfl)) rfl (by exact rdS hr rfl rfl)) ?_
    refine guardD rfl rfl rfl rfl rfl (hn rfl) (fun τ hN hr g1 g2 => step_loadS_b rfl (rdN hN (hn rfl)) rfl zbSt29 (by exact rdS hr rfl rfl) (by exact rdBtake hr rfl rfl) rfl (by decide)) ?_
    refine guardD rfl rfl rfl rfl rfl (hn rfl) (fun τ hN hr g1 g2 => call_step1 rfl (rdN hN (hn rfl)) rfl zbCo33 (.cons (ev_true (by exact rdS hr rfl rfl) (by exact flag2 g1 g2)) (.agg (.cons (.v _) (.cons (.v _) .nil))) (.nil)) (stuckI _) rfl) ?_
    refine guardD rfl rfl rfl rfl rfl (hn rfl) (fun τ hN hr g1 g2 => step_loadS_b rfl (rdN hN (hn rfl)) rfl zbSt29 (by exact rdS hr rfl rfl) (by exact rdBtake hr rfl rfl) rfl (by decide)) ?_
    refine guardD rfl rfl rfl rfl rfl (hn rfl) (fun τ hN hr g1 g2 => call_step1 rfl (rdN hN (hn rfl)) rfl zbCo34 (.cons (ev_true (by exact rdS hr rfl rfl) (by exact flag2 g1 g2)) (.agg (.cons (.v _) (.cons (.v _) .nil))) (.nil)) (stuckS _) rfl) ?_
    refine guardD rfl rfl rfl rfl rfl (hn rfl) (fun τ hN hr g1 g2 => step_bneq rfl (rdN hN (hn rfl)) rfl zbUb4 (ev_true (by exact rdS hr rfl rfl) (by exact flag2 g1 g2)) (ev_true (by exact rdS hr rfl rfl) (by exact flag2 g1 g2))) ?_
    refine DRun.step rfl (fun τ hN hr => step_or rfl (rdN hN (hn rfl)) rfl (by exact rdS hr rfl rfl) (by exact rdS hr rfl rfl) (fun h => (by exact flag1 h))) ?_
    refine DRun.step rfl (fun τ hN hr => step_moveV rfl (rdN hN (hn rfl)) rfl (by exact rdS hr rfl rfl)) ?_
    refine guardD rfl rfl rfl rfl rfl (hn rfl) (fun τ hN hr g1 g2 => step_loadS_b rfl (rdN hN (hn rfl)) rfl zbSt29 (by exact rdS hr rfl rfl) (by exact rdBtake hr rfl rfl) rfl (by decide)) ?_
    refine guardD rfl rfl rfl rfl rfl (hn rfl) (fun τ hN hr g1 g2 => call_step1 rfl (rdN hN (hn rfl)) rfl zbCo33 (.cons (ev_true (by exact rdS hr rfl rfl) (by exact flag2 g1 g2)) (.agg (.cons (.v _) (.cons (.v _) .nil))) (.nil)) (stuckI _) rfl) ?_
    refine guardD rfl rfl rfl rfl rfl (hn rfl) (fun τ hN hr g1 g2 => step_moveV rfl (rdN hN (hn rfl)) rfl (ev_true (by exact rdS hr rfl rfl) (by exact flag2 g1 g2))) ?_
    refine guardD rfl rfl rfl rfl rfl (hn rfl) (fun τ hN hr g1 g2 => step_loadS_b rfl (rdN hN (hn rfl)) rfl zbSt29 (by exact rdS hr rfl rfl) (by exact rdBtake hr rfl rfl) rfl (by decide)) ?_
    refine guardD rfl rfl rfl rfl rfl (hn rfl) (fun τ hN hr g1 g2 => call_step1 rfl (rdN hN (hn rfl)) rfl zbCo35 (.cons (ev_true (by exact rdS hr rfl rfl) (by exact flag2 g1 g2)) (.agg (.cons (.v _) (.cons (.v _) .nil))) (.nil)) (safeI _) rfl) ?_
    refine guardD rfl rfl rfl rfl rfl (hn rfl) (fun τ hN hr g1 g2 => step_and rfl (rdN hN (hn rfl)) rfl (ev_true (by exact rdS hr rfl rfl) (by exact flag2 g1 g2)) (by exact rdS hr rfl rfl) (fun h => (by exact flag2 (by exact flag2 g1 g2) h))) ?_
    refine DRun.step rfl (fun τ hN hr => step_or rfl (rdN hN (hn rfl)) rfl (by exact rdS hr rfl rfl) (by exact rdS hr rfl rfl) (fun h => (by exact flag1 h))) ?_
    refine DRun.nil ?_
    refine AWp.cond rfl (fun c2 => ?_) (fun c2 => ?_)
    · try simp only [nrm] at c2
      refine AWp.seq (AWp.region ?_)
      refine ARun.step rfl (step_assignV rfl (hn rfl) rfl rfl) ?_
      refine ARun.nil ?_
      refine AWp.ret ?_
      refine RetIs.sc (.inr rfl) rfl rfl ?_
      refine congrArg T.bool ?_
      exfalso
      rcases c2 with (c2 | c2) | c2
      · rw [eqL_refl strEq_refl] at c2; cases c2
      · exact c2 trivial
      · rw [stuck_not c2.2] at c2; cases c2.1
    · try simp only [nrm] at c2
      refine AWp.skip ?_
      refine AWp.seq ?_
      refine AWp.seq (AWp.region ?_)
      refine ARun.step rfl (step_assignV rfl (hn rfl) rfl rfl) ?_
      refine ARun.nil ?_
      refine AWp.block ?_
      refine AWp.loopM (fun i : Nat => mkAS 96 [(1, ⟨true, .one (.v (bytesT 5 m))⟩), (5, ⟨true, .one (.bptr 5 0)⟩), (6, ⟨true, .one (.v (strs (movesB k)))⟩), (7, ⟨true, .one (.v (.int .i64 (i : Nat)))⟩)] [(5, [.v (strs k.things), .v (bts 48 k.bs)])] []) (fun i => i ≤ k.bs.length) (fun i => k.bs.length - i) 0 ?_ (Le.forgetR rfl ⟨rfl, rfl, rfl, rfl, trivial⟩ ⟨rfl, trivial⟩ trivial) ?_
      · try dsimp only
        omega
      rintro i hi
      refine AWp.seq ?_
      refine AWp.seq (AWp.region ?_)
      refine ARun.step rfl (step_moveV rfl (hn rfl) rfl rfl) ?_
      refine ARun.step rfl (step_field_b rfl (hn rfl) rfl zbFo29_1 rfl (by exact List.cons_ne_nil _ _)) ?_
      refine ARun.step rfl (step_load_b rfl (hn rfl) rfl zbSc27 rfl rfl) ?_
      refine ARun.step rfl (step_len_f rfl (hn rfl) rfl zbSl27 rfl) ?_
      refine ARun.step rfl (step_lss rfl (hn rfl) rfl rfl rfl) ?_
      refine ARun.step rfl (step_moveV rfl (hn rfl) rfl rfl) ?_
      refine guardS rfl rfl rfl rfl (hn rfl) (fun g1 g2 => step_loadS_b rfl (hn rfl) rfl zbSt29 rfl rfl rfl (by decide)) ?_
      refine guardS rfl rfl rfl rfl (hn rfl) (fun g1 g2 => call_step1 rfl (hn rfl) rfl zbCo27 (.cons (ev_true rfl (by exact flag2 g1 g2)) (.agg (.cons (.v _) (.cons (.v _) .nil))) (.nil)) (bookOkS _) rfl) ?_
      refine ARun.step rfl (step_and rfl (hn rfl) rfl rfl rfl (fun h => (by exact flag1 h))) ?_
      refine ARun.nil ?_
      refine AWp.cond rfl (fun c3 => ?_) (fun c3 => ?_)
      · try simp only [nrm] at c3
        refine AWp.skip ?_
        refine AWp.seq ?_
        refine AWp.block ?_
        refine AWp.seq (AWp.region ?_)
        refine ARun.step rfl (step_field_b rfl (hn rfl) rfl zbFo29_1 rfl (by exact List.cons_ne_nil _ _)) ?_
        refine ARun.step rfl (step_load_b rfl (hn rfl) rfl zbSc27 rfl rfl) ?_
        refine ARun.step rfl (step_moveV rfl (hn rfl) rfl rfl) ?_
        refine ARun.step rfl (step_index_fN rfl (hn rfl) rfl zbSl27 rfl rfl (by omega)) ?_
        refine ARun.step rfl (step_field_f rfl (hn rfl) rfl zbFo48_0 rfl) ?_
        refine ARun.step rfl (step_load_f rfl (hn rfl) rfl zbSc9 rfl (hn rfl) rfl) ?_
        refine ARun.step rfl (step_assignV rfl (hn rfl) rfl rfl) ?_
        refine ARun.nil ?_
        refine AWp.seq (AWp.draw [⟨[.s 6], [.s 62], false⟩, ⟨[.s 8], [.s 63], false⟩, ⟨[.s 63, .s 62], [.s 64], false⟩, ⟨[.s 5, .b 5], [.s 65], false⟩, ⟨[.s 8], [.s 66], false⟩, ⟨[.s 66, .s 65], [.s 67], false⟩, ⟨[.s 67], [.s 68], false⟩, ⟨[.s 68], [.s 69], false⟩, ⟨[.s 64, .s 69], [.s 70], false⟩] zbMo rfl ?_)
        refine DRun.step rfl (fun τ hN hr => step_moveV rfl (rdN hN (hn rfl)) rfl (by exact rdS hr rfl rfl)) ?_
        refine DRun.step rfl (fun τ hN hr => step_moveV rfl (rdN hN (hn rfl)) rfl (by exact rdS hr rfl rfl)) ?_
        refine DRun.step rfl (fun τ hN hr => call_step1 rfl (rdN hN (hn rfl)) rfl zbCo28 (.cons (by exact rdS hr rfl rfl) (.one (.v _)) (.cons (by exact rdS hr rfl rfl) (.one (.v _)) (.nil))) (whHas _ _) rfl) ?_
        refine DRun.step rfl (fun τ hN hr => step_loadS_b rfl (rdN hN (hn rfl)) rfl zbSt29 (by exact rdS hr rfl rfl) (by exact rdBtake hr rfl rfl) rfl (by decide)) ?_
        refine DRun.step rfl (fun τ hN hr => step_moveV rfl (rdN hN (hn rfl)) rfl (by exact rdS hr rfl rfl)) ?_
        refine DRun.step rfl (fun τ hN hr => call_stepZ rfl (rdN hN (hn rfl)) rfl zbCo36 (.cons (by exact rdS hr rfl rfl) (.agg (.cons (.v _) (.cons (.v _) .nil))) (.cons (by exact rdS hr rfl rfl) (.one (.v _)) (.nil))) (waitsIZ k (nth k.bs i).name) rfl (by exact rdNoRefs hr rfl rfl)) ?_
        refine DRun.step rfl (fun τ hN hr => step_len_f rfl (rdN hN (hn rfl)) rfl zbSl22 (by exact rdS hr rfl rfl)) ?_
        refine DRun.step rfl (fun τ hN hr => step_eql rfl (rdN hN (hn rfl)) rfl (by exact rdS hr rfl rfl) rfl) ?_
        refine DRun.step rfl (fun τ hN hr => step_bneq rfl (rdN hN (hn rfl)) rfl zbUb4 (by exact rdS hr rfl rfl) (by exact rdS hr rfl rfl)) ?_
        refine DRun.nil ?_
        refine AWp.cond rfl (fun c4 => ?_) (fun c4 => ?_)
        · try simp only [nrm] at c4
          refine AWp.seq (AWp.region ?_)
          refine ARun.step rfl (step_assignV rfl (hn rfl) rfl rfl) ?_
          refine ARun.nil ?_
          refine AWp.ret ?_
          refine RetIs.sc (.inr rfl) rfl rfl ?_
          refine congrArg T.bool ?_
          exfalso
          apply c4
          rw [Bool.eq_iff_iff, moves_has ((bk_ok k).1 c3.2) (by omega), ← waits_nil ((bk_ok k).1 c3.2) (by omega), beq_iff_eq]
          omega
        · try simp only [nrm] at c4
          refine AWp.skip ?_
          refine AWp.region ?_
          refine ARun.step rfl (step_moveV rfl (hn rfl) rfl rfl) ?_
          refine ARun.step rfl (step_addI rfl (hn rfl) rfl rfl rfl (by omega) (by omega)) ?_
          refine ARun.step rfl (step_assignV rfl (hn rfl) rfl rfl) ?_
          refine ARun.nil ?_
          refine ⟨i + 1, ?_, ?_, Le.forgetR rfl ⟨rfl, rfl, rfl, rfl, trivial⟩ ⟨rfl, trivial⟩ trivial⟩
          · try dsimp only
            omega
          · try dsimp only
            omega
      · try simp only [nrm] at c3
        refine AWp.exit ?_
        obtain ⟨q, s, hq, hd2⟩ := drawShareWaits m (by omega)
        have hwl := waitsB_len q s
        refine AWp.seq (AWp.region ?_)
        refine ARun.step rfl (step_moveV rfl (hn rfl) rfl rfl) ?_
        refine ARun.step rfl (call_stepZ rfl (hn rfl) rfl zbCo37 (.cons rfl (.one (.v _)) (.nil)) hd2 rfl rfl) ?_
        refine ARun.step rfl (step_moveV rfl (hn rfl) rfl rfl) ?_
        refine ARun.step rfl (step_extract rfl (hn rfl) rfl rfl rfl (by intro l h; cases h)) ?_
        refine ARun.step rfl (step_extract rfl (hn rfl) rfl rfl rfl (by intro l h; cases h)) ?_
        refine ARun.step rfl (step_alloc_p rfl (hn rfl) rfl zbZs29) ?_
        refine ARun.step rfl (step_store_p rfl rfl zbCs29 rfl rfl rfl rfl rfl rfl rfl) ?_
        refine ARun.step rfl (step_assignV rfl (hn rfl) rfl rfl) ?_
        refine ARun.nil ?_
        refine AWp.seq (AWp.region ?_)
        refine ARun.step rfl (step_loadS_b rfl (hn rfl) rfl zbSt29 rfl rfl rfl (by decide)) ?_
        refine ARun.step rfl (step_moveV rfl (hn rfl) rfl rfl) ?_
        refine ARun.step rfl (call_stepZ rfl (hn rfl) rfl zbCo36 (.cons rfl (.agg (.cons (.v _) (.cons (.v _) .nil))) (.cons rfl (.one (.v _)) (.nil))) (waitsIZ q s) rfl rfl) ?_
        refine ARun.step rfl (step_assignV rfl (hn rfl) rfl rfl) ?_
        refine ARun.nil ?_
        refine AWp.seq ?_
        refine AWp.seq (AWp.region ?_)
        refine ARun.step rfl (step_assignV rfl (hn rfl) rfl rfl) ?_
        refine ARun.nil ?_
        refine AWp.block ?_
        refine AWp.loopM (fun j : Nat => mkAS 96 [(9, ⟨true, .one (.bptr 9 0)⟩), (10, ⟨true, .one (.v (.str s))⟩), (11, ⟨true, .one (.v (strs (waitsB q s)))⟩), (12, ⟨true, .one (.v (.int .i64 (j : Nat)))⟩)] [(9, [.v (strs q.things), .v (bts 48 q.bs)])] []) (fun j => j ≤ (waitsB q s).length) (fun j => (waitsB q s).length - j) 0 ?_ (Le.forgetR rfl ⟨rfl, rfl, rfl, rfl, trivial⟩ ⟨rfl, trivial⟩ trivial) ?_
        · try dsimp only
          omega
        rintro j hj
        refine AWp.seq ?_
        refine AWp.seq (AWp.region ?_)
        refine ARun.step rfl (step_moveV rfl (hn rfl) rfl rfl) ?_
        refine ARun.step rfl (step_moveV rfl (hn rfl) rfl rfl) ?_
        refine ARun.step rfl (step_len_f rfl (hn rfl) rfl zbSl22 rfl) ?_
        refine ARun.step rfl (step_lss rfl (hn rfl) rfl rfl rfl) ?_
        refine ARun.nil ?_
        refine AWp.cond rfl (fun c5 => ?_) (fun c5 => ?_)
        · try simp only [nrm] at c5
          refine AWp.skip ?_
          refine AWp.seq ?_
          refine AWp.block ?_
          refine AWp.seq (AWp.region ?_)
          refine ARun.step rfl (step_moveV rfl (hn rfl) rfl rfl) ?_
          refine ARun.step rfl (step_moveV rfl (hn rfl) rfl rfl) ?_
          refine ARun.step rfl (step_index_fN rfl (hn rfl) rfl zbSl22 rfl rfl (by omega)) ?_
          refine ARun.step rfl (step_load_f rfl (hn rfl) rfl zbSc9 rfl (hn rfl) rfl) ?_
          refine ARun.step rfl (step_moveV rfl (hn rfl) rfl rfl) ?_
          refine ARun.step rfl (step_seql rfl (hn rfl) rfl rfl rfl) ?_
          refine ARun.nil ?_
          refine AWp.cond rfl (fun c6 => ?_) (fun c6 => ?_)
          · try simp only [nrm] at c6
            refine AWp.seq (AWp.region ?_)
            refine ARun.step rfl (step_assignV rfl (hn rfl) rfl rfl) ?_
            refine ARun.nil ?_
            refine AWp.ret ?_
            refine RetIs.sc (.inr rfl) rfl rfl ?_
            refine congrArg T.bool ?_
            exfalso
            have e := (strEq_iff _ _).1 c6
            have h := nth_mem (l := waitsB q s) (i := j) (by omega)
            rw [e] at h
            exact waits_not h
          · try simp only [nrm] at c6
            refine AWp.skip ?_
            refine AWp.region ?_
            refine ARun.step rfl (step_moveV rfl (hn rfl) rfl rfl) ?_
            refine ARun.step rfl (step_addI rfl (hn rfl) rfl rfl rfl (by omega) (by omega)) ?_
            refine ARun.step rfl (step_assignV rfl (hn rfl) rfl rfl) ?_
            refine ARun.nil ?_
            refine ⟨j + 1, ?_, ?_, Le.forgetR rfl ⟨rfl, rfl, rfl, rfl, trivial⟩ ⟨rfl, trivial⟩ trivial⟩
            · try dsimp only
              omega
            · try dsimp only
              omega
        · try simp only [nrm] at c5
          refine AWp.exit ?_
          refine AWp.seq (AWp.region ?_)
          refine ARun.step rfl (step_moveV rfl (hn rfl) rfl rfl) ?_
          refine ARun.step rfl (step_loadS_b rfl (hn rfl) rfl zbSt29 rfl rfl rfl (by decide)) ?_
          refine ARun.step rfl (step_moveV rfl (hn rfl) rfl rfl) ?_
          refine ARun.step rfl (call_stepZ rfl (hn rfl) rfl zbCo38 (.cons rfl (.agg (.cons (.v _) (.cons (.v _) .nil))) (.cons rfl (.one (.v _)) (.nil))) (waitsSZ q s) rfl rfl) ?_
          refine ARun.step rfl (call_step1 rfl (hn rfl) rfl zbCo31 (.cons rfl (.one (.v _)) (.cons rfl (.one (.v _)) (.nil))) (whTexts _ _) rfl) ?_
          refine ARun.step rfl (step_assignV rfl (hn rfl) rfl rfl) ?_
          refine ARun.nil ?_
          refine AWp.ret ?_
          refine RetIs.sc (.inr rfl) rfl rfl ?_
          refine congrArg T.bool ?_
          exact eqL_refl strEq_refl _

end Go.Proofs.Ytkmacjdigkaabaa
