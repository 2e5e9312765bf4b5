/- Contracts of functions of the program, each met by its body; conditions stand in each statement. No condition. -/
import Derived.Test.YtkmacjdigkaabaahBase
import Derived.Test.YtkmacjdigkaabaaProg
import Derived.KernelRfl
set_option linter.unusedVariables false
set_option linter.unusedSimpArgs false
set_option linter.unnecessarySimpa false
set_option linter.unusedSimpArgs false
set_option maxRecDepth 100000
namespace Go.Proofs.Ytkmacjdigkaabaa
open Go Go.Mh

theorem yrUs9 : Try.prog.underlying 9 = some .string := by kernel_rfl
theorem yrCo117 : callOk Try.prog 117 = true := by kernel_rfl
theorem yrCo146 : callOk Try.prog 146 = true := by kernel_rfl
theorem yrCo119 : callOk Try.prog 119 = true := by kernel_rfl
theorem yrFo74_1 : fieldOff Try.prog 74 1 = some 1 := by kernel_rfl
theorem yrSc3 : scalarB Try.prog 3 = true := by kernel_rfl
theorem yrFo74_2 : fieldOff Try.prog 74 2 = some 2 := by kernel_rfl
theorem yrSc9 : scalarB Try.prog 9 = true := by kernel_rfl
theorem yrFo74_3 : fieldOff Try.prog 74 3 = some 3 := by kernel_rfl
theorem yrFo74_4 : fieldOff Try.prog 74 4 = some 4 := by kernel_rfl
theorem yrFo74_5 : fieldOff Try.prog 74 5 = some 5 := by kernel_rfl
theorem yrFo74_0 : fieldOff Try.prog 74 0 = some 0 := by kernel_rfl
theorem yrCo144 : callOk Try.prog 144 = true := by kernel_rfl
theorem yrSt74 : structSz Try.prog 74 = some 8 := by kernel_rfl
theorem yrCo145 : callOk Try.prog 145 = true := by kernel_rfl
theorem yrFo74_6 : fieldOff Try.prog 74 6 = some 6 := by kernel_rfl
theorem yrFo74_7 : fieldOff Try.prog 74 7 = some 7 := by kernel_rfl
theorem yrCo81 : callOk Try.prog 81 = true := by kernel_rfl
theorem yrCo61 : callOk Try.prog 61 = true := by kernel_rfl
theorem yrSl62 : sliceT Try.prog 62 = some ⟨74, 8, 104⟩ := by kernel_rfl
theorem yrZs74 : zeroSz Try.prog 74 = some 8 := by kernel_rfl
theorem yrCs74 : cellsSz Try.prog 74 = some (7 + 1) := by kernel_rfl
theorem yrCo118 : callOk Try.prog 118 = true := by kernel_rfl
theorem yrCo115 : callOk Try.prog 115 = true := by kernel_rfl
theorem yrCo141 : callOk Try.prog 141 = true := by kernel_rfl
theorem yrCo122 : callOk Try.prog 122 = true := by kernel_rfl
theorem yrSl22 : sliceT Try.prog 22 = some ⟨9, 1, 16⟩ := by kernel_rfl
theorem yrCo120 : callOk Try.prog 120 = true := by kernel_rfl
theorem yrCo113 : callOk Try.prog 113 = true := by kernel_rfl
theorem RecEndI (s : Str)  : ASpec Try.prog 61 [.one (.str s)] (.one (.int .i64 (recEnd s))) := by
  refine ASpec.body Try.func61 rfl [2] rfl 10 rfl rfl rfl ?_
  refine AWp.seq (AWp.region ?_)
  refine ARun.step rfl (step_assignV rfl (hn rfl) rfl rfl) ?_
  refine ARun.nil ?_
  refine AWp.seq ?_
  refine AWp.seq (AWp.region ?_)
  refine ARun.step rfl (step_moveV rfl (hn rfl) rfl rfl) ?_
  refine ARun.nil ?_
  refine AWp.block ?_
  refine AWp.seq (AWp.region ?_)
  refine ARun.step rfl (step_seql rfl (hn rfl) rfl rfl rfl) ?_
  refine ARun.step rfl (step_assignV rfl (hn rfl) rfl rfl) ?_
  refine ARun.nil ?_
  refine AWp.cond rfl (fun c1 => ?_) (fun c1 => ?_)
  · try simp only [nrm] at c1
    refine AWp.seq (AWp.region ?_)
    refine ARun.step rfl (step_assignV rfl (hn rfl) rfl rfl) ?_
    refine ARun.nil ?_
    refine AWp.ret ?_
    refine RetIs.sc (.inr rfl) rfl rfl ?_
    refine congrArg (T.int _) ?_
    simp [recEnd, *]
  · try simp only [nrm] at c1
    refine AWp.seq (AWp.region ?_)
    refine ARun.step rfl (step_seql rfl (hn rfl) rfl rfl rfl) ?_
    refine ARun.step rfl (step_assignV rfl (hn rfl) rfl rfl) ?_
    refine ARun.nil ?_
    refine AWp.cond rfl (fun c2 => ?_) (fun c2 => ?_)
    · try simp only [nrm] at c2
      refine AWp.seq (AWp.region ?_)
      refine ARun.step rfl (step_assignV rfl (hn rfl) rfl rfl) ?_
      refine ARun.nil ?_
      refine AWp.ret ?_
      refine RetIs.sc (.inr rfl) rfl rfl ?_
      refine congrArg (T.int _) ?_
      simp [recEnd, *]
    · try simp only [nrm] at c2
      refine AWp.seq (AWp.region ?_)
      refine ARun.step rfl (step_seql rfl (hn rfl) rfl rfl rfl) ?_
      refine ARun.step rfl (step_assignV rfl (hn rfl) rfl rfl) ?_
      refine ARun.nil ?_
      refine AWp.cond rfl (fun c3 => ?_) (fun c3 => ?_)
      · try simp only [nrm] at c3
        refine AWp.seq (AWp.region ?_)
        refine ARun.step rfl (step_assignV rfl (hn rfl) rfl rfl) ?_
        refine ARun.nil ?_
        refine AWp.ret ?_
        refine RetIs.sc (.inr rfl) rfl rfl ?_
        refine congrArg (T.int _) ?_
        simp [recEnd, *]
      · try simp only [nrm] at c3
        refine AWp.skip ?_
        refine AWp.seq (AWp.region ?_)
        refine ARun.step rfl (step_assignV rfl (hn rfl) rfl rfl) ?_
        refine ARun.nil ?_
        refine AWp.ret ?_
        refine RetIs.sc (.inr rfl) rfl rfl ?_
        refine congrArg (T.int _) ?_
        simp [recEnd, *]
theorem RecEndS (s : Str)  : ASpec Try.prog 119 [.one (.str s)] (.one (.int .i64 (recEnd s))) := by
  refine ASpec.body Try.func119 rfl [2] rfl 10 rfl rfl rfl ?_
  refine AWp.seq (AWp.region ?_)
  refine ARun.step rfl (step_assignV rfl (hn rfl) rfl rfl) ?_
  refine ARun.nil ?_
  refine AWp.seq ?_
  refine AWp.seq (AWp.region ?_)
  refine ARun.step rfl (step_moveV rfl (hn rfl) rfl rfl) ?_
  refine ARun.nil ?_
  refine AWp.block ?_
  refine AWp.seq (AWp.region ?_)
  refine ARun.step rfl (step_seql rfl (hn rfl) rfl rfl rfl) ?_
  refine ARun.step rfl (step_assignV rfl (hn rfl) rfl rfl) ?_
  refine ARun.nil ?_
  refine AWp.cond rfl (fun c1 => ?_) (fun c1 => ?_)
  · try simp only [nrm] at c1
    refine AWp.seq (AWp.region ?_)
    refine ARun.step rfl (step_assignV rfl (hn rfl) rfl rfl) ?_
    refine ARun.nil ?_
    refine AWp.ret ?_
    refine RetIs.sc (.inr rfl) rfl rfl ?_
    refine congrArg (T.int _) ?_
    simp [recEnd, *]
  · try simp only [nrm] at c1
    refine AWp.seq (AWp.region ?_)
    refine ARun.step rfl (step_seql rfl (hn rfl) rfl rfl rfl) ?_
    refine ARun.step rfl (step_assignV rfl (hn rfl) rfl rfl) ?_
    refine ARun.nil ?_
    refine AWp.cond rfl (fun c2 => ?_) (fun c2 => ?_)
    · try simp only [nrm] at c2
      refine AWp.seq (AWp.region ?_)
      refine ARun.step rfl (step_assignV rfl (hn rfl) rfl rfl) ?_
      refine ARun.nil ?_
      refine AWp.ret ?_
      refine RetIs.sc (.inr rfl) rfl rfl ?_
      refine congrArg (T.int _) ?_
      simp [recEnd, *]
    · try simp only [nrm] at c2
      refine AWp.seq (AWp.region ?_)
      refine ARun.step rfl (step_seql rfl (hn rfl) rfl rfl rfl) ?_
      refine ARun.step rfl (step_assignV rfl (hn rfl) rfl rfl) ?_
      refine ARun.nil ?_
      refine AWp.cond rfl (fun c3 => ?_) (fun c3 => ?_)
      · try simp only [nrm] at c3
        refine AWp.seq (AWp.region ?_)
        refine ARun.step rfl (step_assignV rfl (hn rfl) rfl rfl) ?_
        refine ARun.nil ?_
        refine AWp.ret ?_
        refine RetIs.sc (.inr rfl) rfl rfl ?_
        refine congrArg (T.int _) ?_
        simp [recEnd, *]
      · try simp only [nrm] at c3
        refine AWp.skip ?_
        refine AWp.seq (AWp.region ?_)
        refine ARun.step rfl (step_assignV rfl (hn rfl) rfl rfl) ?_
        refine ARun.nil ?_
        refine AWp.ret ?_
        refine RetIs.sc (.inr rfl) rfl rfl ?_
        refine congrArg (T.int _) ?_
        simp [recEnd, *]
theorem l41In (x a b : Int)  : ASpec Try.prog 117 [.one (.int .i64 x), .one (.int .i64 a), .one (.int .i64 b)] (.one (.bool (inB x a b))) := by
  refine ASpec.body Try.func117 rfl [6] rfl 15 rfl rfl rfl ?_
  refine AWp.seq (AWp.region ?_)
  refine ARun.step rfl (step_assignV rfl (hn rfl) rfl rfl) ?_
  refine ARun.nil ?_
  refine AWp.seq (AWp.region ?_)
  refine ARun.step rfl (step_moveV rfl (hn rfl) rfl rfl) ?_
  refine ARun.step rfl (step_moveV rfl (hn rfl) rfl rfl) ?_
  refine ARun.step rfl (step_geq rfl (hn rfl) rfl rfl rfl) ?_
  refine ARun.step rfl (step_moveV rfl (hn rfl) rfl rfl) ?_
  refine guardS rfl rfl rfl rfl (hn rfl) (fun g1 g2 => step_moveV rfl (hn rfl) rfl rfl) ?_
  refine guardS rfl rfl rfl rfl (hn rfl) (fun g1 g2 => step_moveV rfl (hn rfl) rfl rfl) ?_
  refine guardS rfl rfl rfl rfl (hn rfl) (fun g1 g2 => step_leq rfl (hn rfl) rfl (ev_true rfl (by exact flag2 g1 g2)) (ev_true rfl (by exact flag2 g1 g2))) ?_
  refine ARun.step rfl (step_and rfl (hn rfl) rfl rfl rfl (fun h => (by exact flag1 h))) ?_
  refine ARun.step rfl (step_assignV rfl (hn rfl) rfl rfl) ?_
  refine ARun.nil ?_
  refine AWp.ret ?_
  refine RetIs.sc (.inr rfl) rfl rfl ?_
  refine congrArg T.bool ?_
  rfl
theorem l41NameOk (s : Str)  : ASpec Try.prog 146 [.one (.str s)] (.one (.bool (nameOk s))) := by
  refine ASpec.body Try.func146 rfl [2] rfl 37 rfl rfl rfl ?_
  refine AWp.strLe 0 rfl (fun hs => ?_)
  refine AWp.seq (AWp.region ?_)
  refine ARun.step rfl (step_assignV rfl (hn rfl) rfl rfl) ?_
  refine ARun.nil ?_
  refine AWp.seq ?_
  refine AWp.seq (AWp.region ?_)
  refine ARun.step rfl (step_moveV rfl (hn rfl) rfl rfl) ?_
  refine ARun.step rfl (step_len_str rfl (hn rfl) rfl yrUs9 rfl) ?_
  refine ARun.step rfl (call_step1 rfl (hn rfl) rfl yrCo117 (.cons rfl (.one (.v _)) (.cons rfl (.one (.v _)) (.cons rfl (.one (.v _)) (.nil)))) (l41In _ _ _) rfl) ?_
  refine ARun.step rfl (step_not rfl (hn rfl) rfl rfl) ?_
  refine ARun.nil ?_
  refine AWp.cond rfl (fun c1 => ?_) (fun c1 => ?_)
  · try simp only [nrm] at c1
    refine AWp.seq (AWp.region ?_)
    refine ARun.step rfl (step_assignV rfl (hn rfl) rfl rfl) ?_
    refine ARun.nil ?_
    refine AWp.ret ?_
    refine RetIs.sc (.inr rfl) rfl rfl ?_
    refine congrArg T.bool ?_
    simp [nameOk, c1]
  · try simp only [nrm] at c1
    refine AWp.skip ?_
    refine AWp.seq ?_
    refine AWp.seq (AWp.region ?_)
    refine ARun.step rfl (step_assignV rfl (hn rfl) rfl rfl) ?_
    refine ARun.nil ?_
    refine AWp.block ?_
    refine AWp.loopM (fun i : Nat => mkAS 37 [(0, ⟨true, .one (.v (.str s))⟩), (3, ⟨true, .one (.v (.int .i64 (i : Nat)))⟩)] [] []) (fun i => i ≤ s.size ∧ ∀ j, j < i → nmC (bAt s j) = true) (fun i => s.size - i) 0 ?_ (Le.forgetR rfl ⟨rfl, rfl, trivial⟩ trivial trivial) ?_
    · try dsimp only
      exact ⟨by omega, by omega⟩
    rintro i ⟨hi, hall⟩
    refine AWp.seq ?_
    refine AWp.seq (AWp.region ?_)
    refine ARun.step rfl (step_moveV rfl (hn rfl) rfl rfl) ?_
    refine ARun.step rfl (step_moveV rfl (hn rfl) rfl rfl) ?_
    refine ARun.step rfl (step_len_str rfl (hn rfl) rfl yrUs9 rfl) ?_
    refine ARun.step rfl (step_lss rfl (hn rfl) rfl rfl rfl) ?_
    refine ARun.nil ?_
    refine AWp.cond rfl (fun c2 => ?_) (fun c2 => ?_)
    · try simp only [nrm] at c2
      refine AWp.skip ?_
      refine AWp.seq ?_
      refine AWp.block ?_
      refine AWp.seq (AWp.region ?_)
      refine ARun.step rfl (step_moveV rfl (hn rfl) rfl rfl) ?_
      refine ARun.step rfl (step_moveV rfl (hn rfl) rfl rfl) ?_
      refine ARun.step rfl (step_index_str rfl (hn rfl) rfl yrUs9 rfl rfl (by omega) (by omega)) ?_
      refine ARun.step rfl (step_assignV rfl (hn rfl) rfl rfl) ?_
      refine ARun.nil ?_
      refine AWp.seq (AWp.region ?_)
      refine ARun.step rfl (step_moveV rfl (hn rfl) rfl rfl) ?_
      refine ARun.step rfl (step_geq rfl (hn rfl) rfl rfl rfl) ?_
      refine ARun.step rfl (step_moveV rfl (hn rfl) rfl rfl) ?_
      refine guardS rfl rfl rfl rfl (hn rfl) (fun g1 g2 => step_moveV rfl (hn rfl) rfl rfl) ?_
      refine guardS rfl rfl rfl rfl (hn rfl) (fun g1 g2 => step_leq rfl (hn rfl) rfl (ev_true rfl (by exact flag2 g1 g2)) rfl) ?_
      refine ARun.step rfl (step_and rfl (hn rfl) rfl rfl rfl (fun h => (by exact flag1 h))) ?_
      refine ARun.step rfl (step_moveV rfl (hn rfl) rfl rfl) ?_
      refine guardS rfl rfl rfl rfl (hn rfl) (fun g1 g2 => step_moveV rfl (hn rfl) rfl rfl) ?_
      refine guardS rfl rfl rfl rfl (hn rfl) (fun g1 g2 => step_geq rfl (hn rfl) rfl (ev_true rfl (by exact flag2 g1 g2)) rfl) ?_
      refine guardS rfl rfl rfl rfl (hn rfl) (fun g1 g2 => step_moveV rfl (hn rfl) rfl (ev_true rfl (by exact flag2 g1 g2))) ?_
      refine guardS rfl rfl rfl rfl (hn rfl) (fun g1 g2 => step_moveV rfl (hn rfl) rfl rfl) ?_
      refine guardS rfl rfl rfl rfl (hn rfl) (fun g1 g2 => step_leq rfl (hn rfl) rfl (ev_true rfl (by exact flag2 g1 g2)) rfl) ?_
      refine guardS rfl rfl rfl rfl (hn rfl) (fun g1 g2 => step_and rfl (hn rfl) rfl (ev_true rfl (by exact flag2 g1 g2)) rfl (fun h => (by exact flag2 (by exact flag2 g1 g2) h))) ?_
      refine ARun.step rfl (step_or rfl (hn rfl) rfl rfl rfl (fun h => (by exact flag1 h))) ?_
      refine ARun.step rfl (step_moveV rfl (hn rfl) rfl rfl) ?_
      refine guardS rfl rfl rfl rfl (hn rfl) (fun g1 g2 => step_moveV rfl (hn rfl) rfl rfl) ?_
      refine guardS rfl rfl rfl rfl (hn rfl) (fun g1 g2 => step_eql rfl (hn rfl) rfl (ev_true rfl (by exact flag2 g1 g2)) rfl) ?_
      refine ARun.step rfl (step_or rfl (hn rfl) rfl rfl rfl (fun h => (by exact flag1 h))) ?_
      refine ARun.step rfl (step_not rfl (hn rfl) rfl rfl) ?_
      refine ARun.nil ?_
      refine AWp.cond rfl (fun c3 => ?_) (fun c3 => ?_)
      · try simp only [nrm] at c3
        refine AWp.seq (AWp.region ?_)
        refine ARun.step rfl (step_assignV rfl (hn rfl) rfl rfl) ?_
        refine ARun.nil ?_
        refine AWp.ret ?_
        refine RetIs.sc (.inr rfl) rfl rfl ?_
        refine congrArg T.bool ?_
        rw [nameOk, nameB, all_not (i := i) (by omega) (by simp only [nmC, bAt] at *; grind), Bool.and_false]
      · try simp only [nrm] at c3
        refine AWp.skip ?_
        refine AWp.region ?_
        refine ARun.step rfl (step_moveV rfl (hn rfl) rfl rfl) ?_
        refine ARun.step rfl (step_addI rfl (hn rfl) rfl rfl rfl (by omega) (by omega)) ?_
        refine ARun.step rfl (step_assignV rfl (hn rfl) rfl rfl) ?_
        refine ARun.nil ?_
        refine ⟨i + 1, ?_, ?_, Le.forgetR rfl ⟨rfl, rfl, trivial⟩ trivial trivial⟩
        · try dsimp only
          exact ⟨by omega, upto hall (by simp only [nmC, bAt] at *; grind)⟩
        · try dsimp only
          omega
    · try simp only [nrm] at c2
      refine AWp.exit ?_
      refine AWp.seq (AWp.region ?_)
      refine ARun.step rfl (step_assignV rfl (hn rfl) rfl rfl) ?_
      refine ARun.nil ?_
      refine AWp.ret ?_
      refine RetIs.sc (.inr rfl) rfl rfl ?_
      refine congrArg T.bool ?_
      rw [nameOk, nameB, all_of (fun j hj => hall j (by omega)), Bool.and_true]; simpa using c1.symm
theorem l41PlainOk (s : Str)  : ASpec Try.prog 144 [.one (.str s)] (.one (.bool (plainOk s))) := by
  refine ASpec.body Try.func144 rfl [2] rfl 10 rfl rfl rfl ?_
  refine AWp.seq (AWp.region ?_)
  refine ARun.step rfl (step_assignV rfl (hn rfl) rfl rfl) ?_
  refine ARun.nil ?_
  refine AWp.seq (AWp.region ?_)
  refine ARun.step rfl (step_moveV rfl (hn rfl) rfl rfl) ?_
  refine ARun.step rfl (call_step1 rfl (hn rfl) rfl yrCo146 (.cons rfl (.one (.v _)) (.nil)) (l41NameOk _) rfl) ?_
  refine ARun.step rfl (step_moveV rfl (hn rfl) rfl rfl) ?_
  refine guardS rfl rfl rfl rfl (hn rfl) (fun g1 g2 => step_moveV rfl (hn rfl) rfl rfl) ?_
  refine guardS rfl rfl rfl rfl (hn rfl) (fun g1 g2 => call_step1 rfl (hn rfl) rfl yrCo119 (.cons (ev_true rfl (by exact flag2 g1 g2)) (.one (.v _)) (.nil)) (RecEndS _) rfl) ?_
  refine guardS rfl rfl rfl rfl (hn rfl) (fun g1 g2 => step_eql rfl (hn rfl) rfl (ev_true rfl (by exact flag2 g1 g2)) rfl) ?_
  refine ARun.step rfl (step_and rfl (hn rfl) rfl rfl rfl (fun h => (by exact flag1 h))) ?_
  refine ARun.step rfl (step_assignV rfl (hn rfl) rfl rfl) ?_
  refine ARun.nil ?_
  refine AWp.ret ?_
  refine RetIs.sc (.inr rfl) rfl rfl ?_
  refine congrArg T.bool ?_
  rfl
theorem l41ArgsOk (p : Ph)  : ASpec Try.prog 145 [.agg p.cells] (.one (.bool (argsOk p))) := by
  refine ASpec.body Try.func145 rfl [2] rfl 75 rfl rfl rfl ?_
  refine AWp.seq (AWp.region ?_)
  refine ARun.step rfl (step_box_p (m := 7) rfl (hn rfl) rfl rfl rfl rfl rfl) ?_
  refine ARun.step rfl (step_assignV rfl (hn rfl) rfl rfl) ?_
  refine ARun.nil ?_
  refine AWp.seq ?_
  refine AWp.seq (AWp.region ?_)
  refine ARun.step rfl (step_field_b rfl (hn rfl) rfl yrFo74_1 rfl (by exact List.cons_ne_nil _ _)) ?_
  refine ARun.step rfl (step_load_b rfl (hn rfl) rfl yrSc3 rfl rfl) ?_
  refine ARun.nil ?_
  refine AWp.block ?_
  refine AWp.seq (AWp.region ?_)
  refine ARun.step rfl (step_eql rfl (hn rfl) rfl rfl rfl) ?_
  refine ARun.step rfl (step_assignV rfl (hn rfl) rfl rfl) ?_
  refine ARun.nil ?_
  refine AWp.cond rfl (fun c1 => ?_) (fun c1 => ?_)
  · try simp only [nrm] at c1
    refine AWp.seq (AWp.region ?_)
    refine ARun.step rfl (step_field_b rfl (hn rfl) rfl yrFo74_2 rfl (by exact List.cons_ne_nil _ _)) ?_
    refine ARun.step rfl (step_load_b rfl (hn rfl) rfl yrSc9 rfl rfl) ?_
    refine ARun.step rfl (call_step1 rfl (hn rfl) rfl yrCo146 (.cons rfl (.one (.v _)) (.nil)) (l41NameOk _) rfl) ?_
    refine ARun.step rfl (step_moveV rfl (hn rfl) rfl rfl) ?_
    refine guardS rfl rfl rfl rfl (hn rfl) (fun g1 g2 => step_field_b rfl (hn rfl) rfl yrFo74_3 rfl (by exact List.cons_ne_nil _ _)) ?_
    refine guardS rfl rfl rfl rfl (hn rfl) (fun g1 g2 => step_load_b rfl (hn rfl) rfl yrSc9 (ev_true rfl (by exact flag2 g1 g2)) rfl) ?_
    refine guardS rfl rfl rfl rfl (hn rfl) (fun g1 g2 => call_step1 rfl (hn rfl) rfl yrCo146 (.cons (ev_true rfl (by exact flag2 g1 g2)) (.one (.v _)) (.nil)) (l41NameOk _) rfl) ?_
    refine ARun.step rfl (step_and rfl (hn rfl) rfl rfl rfl (fun h => (by exact flag1 h))) ?_
    refine ARun.step rfl (step_moveV rfl (hn rfl) rfl rfl) ?_
    refine guardS rfl rfl rfl rfl (hn rfl) (fun g1 g2 => step_field_b rfl (hn rfl) rfl yrFo74_4 rfl (by exact List.cons_ne_nil _ _)) ?_
    refine guardS rfl rfl rfl rfl (hn rfl) (fun g1 g2 => step_load_b rfl (hn rfl) rfl yrSc3 (ev_true rfl (by exact flag2 g1 g2)) rfl) ?_
    refine guardS rfl rfl rfl rfl (hn rfl) (fun g1 g2 => call_step1 rfl (hn rfl) rfl yrCo117 (.cons (ev_true rfl (by exact flag2 g1 g2)) (.one (.v _)) (.cons rfl (.one (.v _)) (.cons rfl (.one (.v _)) (.nil)))) (l41In _ _ _) rfl) ?_
    refine ARun.step rfl (step_and rfl (hn rfl) rfl rfl rfl (fun h => (by exact flag1 h))) ?_
    refine ARun.step rfl (step_assignV rfl (hn rfl) rfl rfl) ?_
    refine ARun.nil ?_
    refine AWp.ret ?_
    refine RetIs.sc (.inr rfl) rfl rfl ?_
    refine congrArg T.bool ?_
    simp_all [argsOk]
  · try simp only [nrm] at c1
    refine AWp.seq (AWp.region ?_)
    refine ARun.step rfl (step_eql rfl (hn rfl) rfl rfl rfl) ?_
    refine ARun.step rfl (step_assignV rfl (hn rfl) rfl rfl) ?_
    refine ARun.nil ?_
    refine AWp.cond rfl (fun c2 => ?_) (fun c2 => ?_)
    · try simp only [nrm] at c2
      refine AWp.seq (AWp.region ?_)
      refine ARun.step rfl (step_field_b rfl (hn rfl) rfl yrFo74_2 rfl (by exact List.cons_ne_nil _ _)) ?_
      refine ARun.step rfl (step_load_b rfl (hn rfl) rfl yrSc9 rfl rfl) ?_
      refine ARun.step rfl (call_step1 rfl (hn rfl) rfl yrCo146 (.cons rfl (.one (.v _)) (.nil)) (l41NameOk _) rfl) ?_
      refine ARun.step rfl (step_moveV rfl (hn rfl) rfl rfl) ?_
      refine guardS rfl rfl rfl rfl (hn rfl) (fun g1 g2 => step_field_b rfl (hn rfl) rfl yrFo74_3 rfl (by exact List.cons_ne_nil _ _)) ?_
      refine guardS rfl rfl rfl rfl (hn rfl) (fun g1 g2 => step_load_b rfl (hn rfl) rfl yrSc9 (ev_true rfl (by exact flag2 g1 g2)) rfl) ?_
      refine guardS rfl rfl rfl rfl (hn rfl) (fun g1 g2 => call_step1 rfl (hn rfl) rfl yrCo146 (.cons (ev_true rfl (by exact flag2 g1 g2)) (.one (.v _)) (.nil)) (l41NameOk _) rfl) ?_
      refine ARun.step rfl (step_and rfl (hn rfl) rfl rfl rfl (fun h => (by exact flag1 h))) ?_
      refine ARun.step rfl (step_moveV rfl (hn rfl) rfl rfl) ?_
      refine guardS rfl rfl rfl rfl (hn rfl) (fun g1 g2 => step_field_b rfl (hn rfl) rfl yrFo74_2 rfl (by exact List.cons_ne_nil _ _)) ?_
      refine guardS rfl rfl rfl rfl (hn rfl) (fun g1 g2 => step_load_b rfl (hn rfl) rfl yrSc9 (ev_true rfl (by exact flag2 g1 g2)) rfl) ?_
      refine guardS rfl rfl rfl rfl (hn rfl) (fun g1 g2 => step_field_b rfl (hn rfl) rfl yrFo74_3 rfl (by exact List.cons_ne_nil _ _)) ?_
      refine guardS rfl rfl rfl rfl (hn rfl) (fun g1 g2 => step_load_b rfl (hn rfl) rfl yrSc9 (ev_true rfl (by exact flag2 g1 g2)) rfl) ?_
      refine guardS rfl rfl rfl rfl (hn rfl) (fun g1 g2 => step_sneq rfl (hn rfl) rfl (ev_true rfl (by exact flag2 g1 g2)) (ev_true rfl (by exact flag2 g1 g2))) ?_
      refine ARun.step rfl (step_and rfl (hn rfl) rfl rfl rfl (fun h => (by exact flag1 h))) ?_
      refine ARun.step rfl (step_moveV rfl (hn rfl) rfl rfl) ?_
      refine guardS rfl rfl rfl rfl (hn rfl) (fun g1 g2 => step_field_b rfl (hn rfl) rfl yrFo74_4 rfl (by exact List.cons_ne_nil _ _)) ?_
      refine guardS rfl rfl rfl rfl (hn rfl) (fun g1 g2 => step_load_b rfl (hn rfl) rfl yrSc3 (ev_true rfl (by exact flag2 g1 g2)) rfl) ?_
      refine guardS rfl rfl rfl rfl (hn rfl) (fun g1 g2 => call_step1 rfl (hn rfl) rfl yrCo117 (.cons (ev_true rfl (by exact flag2 g1 g2)) (.one (.v _)) (.cons rfl (.one (.v _)) (.cons rfl (.one (.v _)) (.nil)))) (l41In _ _ _) rfl) ?_
      refine ARun.step rfl (step_and rfl (hn rfl) rfl rfl rfl (fun h => (by exact flag1 h))) ?_
      refine ARun.step rfl (step_assignV rfl (hn rfl) rfl rfl) ?_
      refine ARun.nil ?_
      refine AWp.ret ?_
      refine RetIs.sc (.inr rfl) rfl rfl ?_
      refine congrArg T.bool ?_
      simp_all [argsOk]
    · try simp only [nrm] at c2
      refine AWp.seq (AWp.region ?_)
      refine ARun.step rfl (step_eql rfl (hn rfl) rfl rfl rfl) ?_
      refine ARun.step rfl (step_assignV rfl (hn rfl) rfl rfl) ?_
      refine ARun.nil ?_
      refine AWp.cond rfl (fun c3 => ?_) (fun c3 => ?_)
      · try simp only [nrm] at c3
        refine AWp.seq (AWp.region ?_)
        refine ARun.step rfl (step_field_b rfl (hn rfl) rfl yrFo74_2 rfl (by exact List.cons_ne_nil _ _)) ?_
        refine ARun.step rfl (step_load_b rfl (hn rfl) rfl yrSc9 rfl rfl) ?_
        refine ARun.step rfl (call_step1 rfl (hn rfl) rfl yrCo146 (.cons rfl (.one (.v _)) (.nil)) (l41NameOk _) rfl) ?_
        refine ARun.step rfl (step_moveV rfl (hn rfl) rfl rfl) ?_
        refine guardS rfl rfl rfl rfl (hn rfl) (fun g1 g2 => step_field_b rfl (hn rfl) rfl yrFo74_3 rfl (by exact List.cons_ne_nil _ _)) ?_
        refine guardS rfl rfl rfl rfl (hn rfl) (fun g1 g2 => step_load_b rfl (hn rfl) rfl yrSc9 (ev_true rfl (by exact flag2 g1 g2)) rfl) ?_
        refine guardS rfl rfl rfl rfl (hn rfl) (fun g1 g2 => step_seql rfl (hn rfl) rfl (ev_true rfl (by exact flag2 g1 g2)) rfl) ?_
        refine ARun.step rfl (step_and rfl (hn rfl) rfl rfl rfl (fun h => (by exact flag1 h))) ?_
        refine ARun.step rfl (step_moveV rfl (hn rfl) rfl rfl) ?_
        refine guardS rfl rfl rfl rfl (hn rfl) (fun g1 g2 => step_field_b rfl (hn rfl) rfl yrFo74_4 rfl (by exact List.cons_ne_nil _ _)) ?_
        refine guardS rfl rfl rfl rfl (hn rfl) (fun g1 g2 => step_load_b rfl (hn rfl) rfl yrSc3 (ev_true rfl (by exact flag2 g1 g2)) rfl) ?_
        refine guardS rfl rfl rfl rfl (hn rfl) (fun g1 g2 => step_field_b rfl (hn rfl) rfl yrFo74_5 rfl (by exact List.cons_ne_nil _ _)) ?_
        refine guardS rfl rfl rfl rfl (hn rfl) (fun g1 g2 => step_load_b rfl (hn rfl) rfl yrSc3 (ev_true rfl (by exact flag2 g1 g2)) rfl) ?_
        refine guardS rfl rfl rfl rfl (hn rfl) (fun g1 g2 => call_step1 rfl (hn rfl) rfl yrCo117 (.cons (ev_true rfl (by exact flag2 g1 g2)) (.one (.v _)) (.cons rfl (.one (.v _)) (.cons (ev_true rfl (by exact flag2 g1 g2)) (.one (.v _)) (.nil)))) (l41In _ _ _) rfl) ?_
        refine ARun.step rfl (step_and rfl (hn rfl) rfl rfl rfl (fun h => (by exact flag1 h))) ?_
        refine ARun.step rfl (step_assignV rfl (hn rfl) rfl rfl) ?_
        refine ARun.nil ?_
        refine AWp.ret ?_
        refine RetIs.sc (.inr rfl) rfl rfl ?_
        refine congrArg T.bool ?_
        simp_all [argsOk]
      · try simp only [nrm] at c3
        refine AWp.seq ?_
        refine AWp.seq (AWp.region ?_)
        refine ARun.step rfl (step_eql rfl (hn rfl) rfl rfl rfl) ?_
        refine ARun.step rfl (step_assignV rfl (hn rfl) rfl rfl) ?_
        refine ARun.nil ?_
        refine AWp.cond rfl (fun c4 => ?_) (fun c4 => ?_)
        · try simp only [nrm] at c4
          refine AWp.skip ?_
          refine AWp.cond rfl (fun c5 => ?_) (fun c5 => ?_)
          · try simp only [nrm] at c5
            refine AWp.seq (AWp.region ?_)
            refine ARun.step rfl (step_field_b rfl (hn rfl) rfl yrFo74_2 rfl (by exact List.cons_ne_nil _ _)) ?_
            refine ARun.step rfl (step_load_b rfl (hn rfl) rfl yrSc9 rfl rfl) ?_
            refine ARun.step rfl (call_step1 rfl (hn rfl) rfl yrCo146 (.cons rfl (.one (.v _)) (.nil)) (l41NameOk _) rfl) ?_
            refine ARun.step rfl (step_moveV rfl (hn rfl) rfl rfl) ?_
            refine guardS rfl rfl rfl rfl (hn rfl) (fun g1 g2 => step_field_b rfl (hn rfl) rfl yrFo74_3 rfl (by exact List.cons_ne_nil _ _)) ?_
            refine guardS rfl rfl rfl rfl (hn rfl) (fun g1 g2 => step_load_b rfl (hn rfl) rfl yrSc9 (ev_true rfl (by exact flag2 g1 g2)) rfl) ?_
            refine guardS rfl rfl rfl rfl (hn rfl) (fun g1 g2 => step_seql rfl (hn rfl) rfl (ev_true rfl (by exact flag2 g1 g2)) rfl) ?_
            refine ARun.step rfl (step_and rfl (hn rfl) rfl rfl rfl (fun h => (by exact flag1 h))) ?_
            refine ARun.step rfl (step_moveV rfl (hn rfl) rfl rfl) ?_
            refine guardS rfl rfl rfl rfl (hn rfl) (fun g1 g2 => step_field_b rfl (hn rfl) rfl yrFo74_4 rfl (by exact List.cons_ne_nil _ _)) ?_
            refine guardS rfl rfl rfl rfl (hn rfl) (fun g1 g2 => step_load_b rfl (hn rfl) rfl yrSc3 (ev_true rfl (by exact flag2 g1 g2)) rfl) ?_
            refine guardS rfl rfl rfl rfl (hn rfl) (fun g1 g2 => step_eql rfl (hn rfl) rfl (ev_true rfl (by exact flag2 g1 g2)) rfl) ?_
            refine ARun.step rfl (step_and rfl (hn rfl) rfl rfl rfl (fun h => (by exact flag1 h))) ?_
            refine ARun.step rfl (step_assignV rfl (hn rfl) rfl rfl) ?_
            refine ARun.nil ?_
            refine AWp.ret ?_
            refine RetIs.sc (.inr rfl) rfl rfl ?_
            refine congrArg T.bool ?_
            simp_all [argsOk]
          · try simp only [nrm] at c5
            refine AWp.skip ?_
            refine AWp.seq (AWp.region ?_)
            refine ARun.step rfl (step_assignV rfl (hn rfl) rfl rfl) ?_
            refine ARun.nil ?_
            refine AWp.ret ?_
            refine RetIs.sc (.inr rfl) rfl rfl ?_
            refine congrArg T.bool ?_
            simp_all [argsOk]
        · try simp only [nrm] at c4
          refine AWp.region ?_
          refine ARun.step rfl (step_eql rfl (hn rfl) rfl rfl rfl) ?_
          refine ARun.step rfl (step_assignV rfl (hn rfl) rfl rfl) ?_
          refine ARun.nil ?_
          refine AWp.cond rfl (fun c6 => ?_) (fun c6 => ?_)
          · try simp only [nrm] at c6
            refine AWp.seq (AWp.region ?_)
            refine ARun.step rfl (step_field_b rfl (hn rfl) rfl yrFo74_2 rfl (by exact List.cons_ne_nil _ _)) ?_
            refine ARun.step rfl (step_load_b rfl (hn rfl) rfl yrSc9 rfl rfl) ?_
            refine ARun.step rfl (call_step1 rfl (hn rfl) rfl yrCo146 (.cons rfl (.one (.v _)) (.nil)) (l41NameOk _) rfl) ?_
            refine ARun.step rfl (step_moveV rfl (hn rfl) rfl rfl) ?_
            refine guardS rfl rfl rfl rfl (hn rfl) (fun g1 g2 => step_field_b rfl (hn rfl) rfl yrFo74_3 rfl (by exact List.cons_ne_nil _ _)) ?_
            refine guardS rfl rfl rfl rfl (hn rfl) (fun g1 g2 => step_load_b rfl (hn rfl) rfl yrSc9 (ev_true rfl (by exact flag2 g1 g2)) rfl) ?_
            refine guardS rfl rfl rfl rfl (hn rfl) (fun g1 g2 => step_seql rfl (hn rfl) rfl (ev_true rfl (by exact flag2 g1 g2)) rfl) ?_
            refine ARun.step rfl (step_and rfl (hn rfl) rfl rfl rfl (fun h => (by exact flag1 h))) ?_
            refine ARun.step rfl (step_moveV rfl (hn rfl) rfl rfl) ?_
            refine guardS rfl rfl rfl rfl (hn rfl) (fun g1 g2 => step_field_b rfl (hn rfl) rfl yrFo74_4 rfl (by exact List.cons_ne_nil _ _)) ?_
            refine guardS rfl rfl rfl rfl (hn rfl) (fun g1 g2 => step_load_b rfl (hn rfl) rfl yrSc3 (ev_true rfl (by exact flag2 g1 g2)) rfl) ?_
            refine guardS rfl rfl rfl rfl (hn rfl) (fun g1 g2 => step_eql rfl (hn rfl) rfl (ev_true rfl (by exact flag2 g1 g2)) rfl) ?_
            refine ARun.step rfl (step_and rfl (hn rfl) rfl rfl rfl (fun h => (by exact flag1 h))) ?_
            refine ARun.step rfl (step_assignV rfl (hn rfl) rfl rfl) ?_
            refine ARun.nil ?_
            refine AWp.ret ?_
            refine RetIs.sc (.inr rfl) rfl rfl ?_
            refine congrArg T.bool ?_
            simp_all [argsOk]
          · try simp only [nrm] at c6
            refine AWp.skip ?_
            refine AWp.seq (AWp.region ?_)
            refine ARun.step rfl (step_assignV rfl (hn rfl) rfl rfl) ?_
            refine ARun.nil ?_
            refine AWp.ret ?_
            refine RetIs.sc (.inr rfl) rfl rfl ?_
            refine congrArg T.bool ?_
            simp_all [argsOk]
theorem phaseOkS (p : Ph)  : ASpec Try.prog 118 [.agg p.cells] (.one (.bool (phaseOk p))) := by
  refine ASpec.body Try.func118 rfl [2] rfl 25 rfl rfl rfl ?_
  refine AWp.seq (AWp.region ?_)
  refine ARun.step rfl (step_box_p (m := 7) rfl (hn rfl) rfl rfl rfl rfl rfl) ?_
  refine ARun.step rfl (step_assignV rfl (hn rfl) rfl rfl) ?_
  refine ARun.nil ?_
  refine AWp.seq (AWp.region ?_)
  refine ARun.step rfl (step_field_b rfl (hn rfl) rfl yrFo74_0 rfl (by exact List.cons_ne_nil _ _)) ?_
  refine ARun.step rfl (step_load_b rfl (hn rfl) rfl yrSc9 rfl rfl) ?_
  refine ARun.step rfl (call_step1 rfl (hn rfl) rfl yrCo144 (.cons rfl (.one (.v _)) (.nil)) (l41PlainOk _) rfl) ?_
  refine ARun.step rfl (step_moveV rfl (hn rfl) rfl rfl) ?_
  refine guardS rfl rfl rfl rfl (hn rfl) (fun g1 g2 => step_field_b rfl (hn rfl) rfl yrFo74_5 rfl (by exact List.cons_ne_nil _ _)) ?_
  refine guardS rfl rfl rfl rfl (hn rfl) (fun g1 g2 => step_load_b rfl (hn rfl) rfl yrSc3 (ev_true rfl (by exact flag2 g1 g2)) rfl) ?_
  refine guardS rfl rfl rfl rfl (hn rfl) (fun g1 g2 => call_step1 rfl (hn rfl) rfl yrCo117 (.cons (ev_true rfl (by exact flag2 g1 g2)) (.one (.v _)) (.cons rfl (.one (.v _)) (.cons rfl (.one (.v _)) (.nil)))) (l41In _ _ _) rfl) ?_
  refine ARun.step rfl (step_and rfl (hn rfl) rfl rfl rfl (fun h => (by exact flag1 h))) ?_
  refine ARun.step rfl (step_moveV rfl (hn rfl) rfl rfl) ?_
  refine guardS rfl rfl rfl rfl (hn rfl) (fun g1 g2 => step_loadS_b rfl (hn rfl) rfl yrSt74 rfl rfl rfl (by decide)) ?_
  refine guardS rfl rfl rfl rfl (hn rfl) (fun g1 g2 => call_step1 rfl (hn rfl) rfl yrCo145 (.cons (ev_true rfl (by exact flag2 g1 g2)) (.agg (.cons (.v _) (.cons (.v _) (.cons (.v _) (.cons (.v _) (.cons (.v _) (.cons (.v _) (.cons (.v _) (.cons (.v _) .nil))))))))) (.nil)) (l41ArgsOk _) rfl) ?_
  refine ARun.step rfl (step_and rfl (hn rfl) rfl rfl rfl (fun h => (by exact flag1 h))) ?_
  refine ARun.step rfl (step_moveV rfl (hn rfl) rfl rfl) ?_
  refine guardS rfl rfl rfl rfl (hn rfl) (fun g1 g2 => step_field_b rfl (hn rfl) rfl yrFo74_6 rfl (by exact List.cons_ne_nil _ _)) ?_
  refine guardS rfl rfl rfl rfl (hn rfl) (fun g1 g2 => step_load_b rfl (hn rfl) rfl yrSc9 (ev_true rfl (by exact flag2 g1 g2)) rfl) ?_
  refine guardS rfl rfl rfl rfl (hn rfl) (fun g1 g2 => call_step1 rfl (hn rfl) rfl yrCo146 (.cons (ev_true rfl (by exact flag2 g1 g2)) (.one (.v _)) (.nil)) (l41NameOk _) rfl) ?_
  refine ARun.step rfl (step_and rfl (hn rfl) rfl rfl rfl (fun h => (by exact flag1 h))) ?_
  refine ARun.step rfl (step_moveV rfl (hn rfl) rfl rfl) ?_
  refine guardS rfl rfl rfl rfl (hn rfl) (fun g1 g2 => step_field_b rfl (hn rfl) rfl yrFo74_7 rfl (by exact List.cons_ne_nil _ _)) ?_
  refine guardS rfl rfl rfl rfl (hn rfl) (fun g1 g2 => step_load_b rfl (hn rfl) rfl yrSc9 (ev_true rfl (by exact flag2 g1 g2)) rfl) ?_
  refine guardS rfl rfl rfl rfl (hn rfl) (fun g1 g2 => call_step1 rfl (hn rfl) rfl yrCo146 (.cons (ev_true rfl (by exact flag2 g1 g2)) (.one (.v _)) (.nil)) (l41NameOk _) rfl) ?_
  refine ARun.step rfl (step_and rfl (hn rfl) rfl rfl rfl (fun h => (by exact flag1 h))) ?_
  refine ARun.step rfl (step_assignV rfl (hn rfl) rfl rfl) ?_
  refine ARun.nil ?_
  refine AWp.ret ?_
  refine RetIs.sc (.inr rfl) rfl rfl ?_
  refine congrArg T.bool ?_
  rfl
theorem phaseOkI (p : Ph)  : ASpec Try.prog 141 [.agg p.cells] (.one (.bool (phaseOk p))) := by
  refine ASpec.body Try.func141 rfl [2] rfl 95 rfl rfl rfl ?_
  refine AWp.seq (AWp.region ?_)
  refine ARun.step rfl (step_box_p (m := 7) rfl (hn rfl) rfl rfl rfl rfl rfl) ?_
  refine ARun.step rfl (step_assignV rfl (hn rfl) rfl rfl) ?_
  refine ARun.nil ?_
  refine AWp.seq ?_
  refine AWp.seq (AWp.region ?_)
  refine ARun.step rfl (step_field_b rfl (hn rfl) rfl yrFo74_0 rfl (by exact List.cons_ne_nil _ _)) ?_
  refine ARun.step rfl (step_load_b rfl (hn rfl) rfl yrSc9 rfl rfl) ?_
  refine ARun.step rfl (call_step1 rfl (hn rfl) rfl yrCo81 (.cons rfl (.one (.v _)) (.nil)) (isNameI _) rfl) ?_
  refine ARun.step rfl (step_not rfl (hn rfl) rfl rfl) ?_
  refine ARun.step rfl (step_moveV rfl (hn rfl) rfl rfl) ?_
  refine guardS rfl rfl rfl rfl (hn rfl) (fun g1 g2 => step_field_b rfl (hn rfl) rfl yrFo74_0 rfl (by exact List.cons_ne_nil _ _)) ?_
  refine guardS rfl rfl rfl rfl (hn rfl) (fun g1 g2 => step_load_b rfl (hn rfl) rfl yrSc9 (ev_true rfl (by exact flag2 g1 g2)) rfl) ?_
  refine guardS rfl rfl rfl rfl (hn rfl) (fun g1 g2 => call_step1 rfl (hn rfl) rfl yrCo61 (.cons (ev_true rfl (by exact flag2 g1 g2)) (.one (.v _)) (.nil)) (RecEndI _) rfl) ?_
  refine guardS rfl rfl rfl rfl (hn rfl) (fun g1 g2 => step_neq rfl (hn rfl) rfl (ev_true rfl (by exact flag2 g1 g2)) rfl) ?_
  refine ARun.step rfl (step_or rfl (hn rfl) rfl rfl rfl (fun h => (by exact flag1 h))) ?_
  refine ARun.step rfl (step_moveV rfl (hn rfl) rfl rfl) ?_
  refine guardS rfl rfl rfl rfl (hn rfl) (fun g1 g2 => step_field_b rfl (hn rfl) rfl yrFo74_5 rfl (by exact List.cons_ne_nil _ _)) ?_
  refine guardS rfl rfl rfl rfl (hn rfl) (fun g1 g2 => step_load_b rfl (hn rfl) rfl yrSc3 (ev_true rfl (by exact flag2 g1 g2)) rfl) ?_
  refine guardS rfl rfl rfl rfl (hn rfl) (fun g1 g2 => step_lss rfl (hn rfl) rfl (ev_true rfl (by exact flag2 g1 g2)) rfl) ?_
  refine ARun.step rfl (step_or rfl (hn rfl) rfl rfl rfl (fun h => (by exact flag1 h))) ?_
  refine ARun.step rfl (step_moveV rfl (hn rfl) rfl rfl) ?_
  refine guardS rfl rfl rfl rfl (hn rfl) (fun g1 g2 => step_field_b rfl (hn rfl) rfl yrFo74_5 rfl (by exact List.cons_ne_nil _ _)) ?_
  refine guardS rfl rfl rfl rfl (hn rfl) (fun g1 g2 => step_load_b rfl (hn rfl) rfl yrSc3 (ev_true rfl (by exact flag2 g1 g2)) rfl) ?_
  refine guardS rfl rfl rfl rfl (hn rfl) (fun g1 g2 => step_gtr rfl (hn rfl) rfl (ev_true rfl (by exact flag2 g1 g2)) rfl) ?_
  refine ARun.step rfl (step_or rfl (hn rfl) rfl rfl rfl (fun h => (by exact flag1 h))) ?_
  refine ARun.step rfl (step_moveV rfl (hn rfl) rfl rfl) ?_
  refine guardS rfl rfl rfl rfl (hn rfl) (fun g1 g2 => step_field_b rfl (hn rfl) rfl yrFo74_2 rfl (by exact List.cons_ne_nil _ _)) ?_
  refine guardS rfl rfl rfl rfl (hn rfl) (fun g1 g2 => step_load_b rfl (hn rfl) rfl yrSc9 (ev_true rfl (by exact flag2 g1 g2)) rfl) ?_
  refine guardS rfl rfl rfl rfl (hn rfl) (fun g1 g2 => call_step1 rfl (hn rfl) rfl yrCo81 (.cons (ev_true rfl (by exact flag2 g1 g2)) (.one (.v _)) (.nil)) (isNameI _) rfl) ?_
  refine guardS rfl rfl rfl rfl (hn rfl) (fun g1 g2 => step_not rfl (hn rfl) rfl (ev_true rfl (by exact flag2 g1 g2))) ?_
  refine ARun.step rfl (step_or rfl (hn rfl) rfl rfl rfl (fun h => (by exact flag1 h))) ?_
  refine ARun.step rfl (step_moveV rfl (hn rfl) rfl rfl) ?_
  refine guardS rfl rfl rfl rfl (hn rfl) (fun g1 g2 => step_field_b rfl (hn rfl) rfl yrFo74_6 rfl (by exact List.cons_ne_nil _ _)) ?_
  refine guardS rfl rfl rfl rfl (hn rfl) (fun g1 g2 => step_load_b rfl (hn rfl) rfl yrSc9 (ev_true rfl (by exact flag2 g1 g2)) rfl) ?_
  refine guardS rfl rfl rfl rfl (hn rfl) (fun g1 g2 => call_step1 rfl (hn rfl) rfl yrCo81 (.cons (ev_true rfl (by exact flag2 g1 g2)) (.one (.v _)) (.nil)) (isNameI _) rfl) ?_
  refine guardS rfl rfl rfl rfl (hn rfl) (fun g1 g2 => step_not rfl (hn rfl) rfl (ev_true rfl (by exact flag2 g1 g2))) ?_
  refine ARun.step rfl (step_or rfl (hn rfl) rfl rfl rfl (fun h => (by exact flag1 h))) ?_
  refine ARun.step rfl (step_moveV rfl (hn rfl) rfl rfl) ?_
  refine guardS rfl rfl rfl rfl (hn rfl) (fun g1 g2 => step_field_b rfl (hn rfl) rfl yrFo74_7 rfl (by exact List.cons_ne_nil _ _)) ?_
  refine guardS rfl rfl rfl rfl (hn rfl) (fun g1 g2 => step_load_b rfl (hn rfl) rfl yrSc9 (ev_true rfl (by exact flag2 g1 g2)) rfl) ?_
  refine guardS rfl rfl rfl rfl (hn rfl) (fun g1 g2 => call_step1 rfl (hn rfl) rfl yrCo81 (.cons (ev_true rfl (by exact flag2 g1 g2)) (.one (.v _)) (.nil)) (isNameI _) rfl) ?_
  refine guardS rfl rfl rfl rfl (hn rfl) (fun g1 g2 => step_not rfl (hn rfl) rfl (ev_true rfl (by exact flag2 g1 g2))) ?_
  refine ARun.step rfl (step_or rfl (hn rfl) rfl rfl rfl (fun h => (by exact flag1 h))) ?_
  refine ARun.nil ?_
  refine AWp.cond rfl (fun c1 => ?_) (fun c1 => ?_)
  · try simp only [nrm] at c1
    refine AWp.seq (AWp.region ?_)
    refine ARun.step rfl (step_assignV rfl (hn rfl) rfl rfl) ?_
    refine ARun.nil ?_
    refine AWp.ret ?_
    refine RetIs.sc (.inr rfl) rfl rfl ?_
    refine congrArg T.bool ?_
    simp_all [phaseOk, argsOk, plainOk, inB]; try grind
  · try simp only [nrm] at c1
    refine AWp.skip ?_
    refine AWp.seq (AWp.region ?_)
    refine ARun.step rfl (step_assignV rfl (hn rfl) rfl rfl) ?_
    refine ARun.step rfl (step_assignV rfl (hn rfl) rfl rfl) ?_
    refine ARun.nil ?_
    refine AWp.seq ?_
    refine AWp.seq (AWp.region ?_)
    refine ARun.step rfl (step_field_b rfl (hn rfl) rfl yrFo74_1 rfl (by exact List.cons_ne_nil _ _)) ?_
    refine ARun.step rfl (step_load_b rfl (hn rfl) rfl yrSc3 rfl rfl) ?_
    refine ARun.nil ?_
    refine AWp.block ?_
    refine AWp.seq (AWp.region ?_)
    refine ARun.step rfl (step_eql rfl (hn rfl) rfl rfl rfl) ?_
    refine ARun.step rfl (step_assignV rfl (hn rfl) rfl rfl) ?_
    refine ARun.nil ?_
    refine AWp.cond rfl (fun c2 => ?_) (fun c2 => ?_)
    · try simp only [nrm] at c2
      refine AWp.region ?_
      refine ARun.step rfl (step_assignV rfl (hn rfl) rfl rfl) ?_
      refine ARun.nil ?_
      refine AWp.seq ?_
      refine AWp.seq (AWp.region ?_)
      refine ARun.step rfl (step_moveV rfl (hn rfl) rfl rfl) ?_
      refine ARun.step rfl (step_moveV rfl (hn rfl) rfl rfl) ?_
      refine guardS rfl rfl rfl rfl (hn rfl) (fun g1 g2 => step_field_b rfl (hn rfl) rfl yrFo74_3 rfl (by exact List.cons_ne_nil _ _)) ?_
      refine guardS rfl rfl rfl rfl (hn rfl) (fun g1 g2 => step_load_b rfl (hn rfl) rfl yrSc9 (ev_true rfl (by exact flag2 g1 g2)) rfl) ?_
      refine guardS rfl rfl rfl rfl (hn rfl) (fun g1 g2 => call_step1 rfl (hn rfl) rfl yrCo81 (.cons (ev_true rfl (by exact flag2 g1 g2)) (.one (.v _)) (.nil)) (isNameI _) rfl) ?_
      refine guardS rfl rfl rfl rfl (hn rfl) (fun g1 g2 => step_not rfl (hn rfl) rfl (ev_true rfl (by exact flag2 g1 g2))) ?_
      refine ARun.step rfl (step_and rfl (hn rfl) rfl rfl rfl (fun h => (by exact flag1 h))) ?_
      refine ARun.step rfl (step_moveV rfl (hn rfl) rfl rfl) ?_
      refine guardS rfl rfl rfl rfl (hn rfl) (fun g1 g2 => step_moveV rfl (hn rfl) rfl rfl) ?_
      refine guardS rfl rfl rfl rfl (hn rfl) (fun g1 g2 => step_not rfl (hn rfl) rfl (ev_true rfl (by exact flag2 g1 g2))) ?_
      refine guardS rfl rfl rfl rfl (hn rfl) (fun g1 g2 => step_moveV rfl (hn rfl) rfl (ev_true rfl (by exact flag2 g1 g2))) ?_
      refine guardS rfl rfl rfl rfl (hn rfl) (fun g1 g2 => step_field_b rfl (hn rfl) rfl yrFo74_3 rfl (by exact List.cons_ne_nil _ _)) ?_
      refine guardS rfl rfl rfl rfl (hn rfl) (fun g1 g2 => step_load_b rfl (hn rfl) rfl yrSc9 (ev_true rfl (by exact flag2 g1 g2)) rfl) ?_
      refine guardS rfl rfl rfl rfl (hn rfl) (fun g1 g2 => step_sneq rfl (hn rfl) rfl (ev_true rfl (by exact flag2 g1 g2)) rfl) ?_
      refine guardS rfl rfl rfl rfl (hn rfl) (fun g1 g2 => step_and rfl (hn rfl) rfl (ev_true rfl (by exact flag2 g1 g2)) rfl (fun h => (by exact flag2 (by exact flag2 g1 g2) h))) ?_
      refine ARun.step rfl (step_or rfl (hn rfl) rfl rfl rfl (fun h => (by exact flag1 h))) ?_
      refine ARun.nil ?_
      refine AWp.cond rfl (fun c3 => ?_) (fun c3 => ?_)
      · try simp only [nrm] at c3
        refine AWp.seq (AWp.region ?_)
        refine ARun.step rfl (step_assignV rfl (hn rfl) rfl rfl) ?_
        refine ARun.nil ?_
        refine AWp.ret ?_
        refine RetIs.sc (.inr rfl) rfl rfl ?_
        refine congrArg T.bool ?_
        simp_all [phaseOk, argsOk, plainOk, inB]; try grind
      · try simp only [nrm] at c3
        refine AWp.skip ?_
        refine AWp.seq (AWp.region ?_)
        refine ARun.step rfl (step_field_b rfl (hn rfl) rfl yrFo74_4 rfl (by exact List.cons_ne_nil _ _)) ?_
        refine ARun.step rfl (step_load_b rfl (hn rfl) rfl yrSc3 rfl rfl) ?_
        refine ARun.step rfl (step_moveV rfl (hn rfl) rfl rfl) ?_
        refine ARun.step rfl (step_leq rfl (hn rfl) rfl rfl rfl) ?_
        refine ARun.step rfl (step_moveV rfl (hn rfl) rfl rfl) ?_
        refine guardS rfl rfl rfl rfl (hn rfl) (fun g1 g2 => step_field_b rfl (hn rfl) rfl yrFo74_4 rfl (by exact List.cons_ne_nil _ _)) ?_
        refine guardS rfl rfl rfl rfl (hn rfl) (fun g1 g2 => step_load_b rfl (hn rfl) rfl yrSc3 (ev_true rfl (by exact flag2 g1 g2)) rfl) ?_
        refine guardS rfl rfl rfl rfl (hn rfl) (fun g1 g2 => step_geq rfl (hn rfl) rfl (ev_true rfl (by exact flag2 g1 g2)) rfl) ?_
        refine guardS rfl rfl rfl rfl (hn rfl) (fun g1 g2 => step_moveV rfl (hn rfl) rfl (ev_true rfl (by exact flag2 g1 g2))) ?_
        refine guardS rfl rfl rfl rfl (hn rfl) (fun g1 g2 => step_moveV rfl (hn rfl) rfl rfl) ?_
        refine guardS rfl rfl rfl rfl (hn rfl) (fun g1 g2 => step_eql rfl (hn rfl) rfl (ev_true rfl (by exact flag2 g1 g2)) rfl) ?_
        refine guardS rfl rfl rfl rfl (hn rfl) (fun g1 g2 => step_moveV rfl (hn rfl) rfl (ev_true rfl (by exact flag2 g1 g2))) ?_
        refine guardS rfl rfl rfl rfl (hn rfl) (fun g1 g2 => step_field_b rfl (hn rfl) rfl yrFo74_4 rfl (by exact List.cons_ne_nil _ _)) ?_
        refine guardS rfl rfl rfl rfl (hn rfl) (fun g1 g2 => step_load_b rfl (hn rfl) rfl yrSc3 (ev_true rfl (by exact flag2 g1 g2)) rfl) ?_
        refine guardS rfl rfl rfl rfl (hn rfl) (fun g1 g2 => step_eql rfl (hn rfl) rfl (ev_true rfl (by exact flag2 g1 g2)) rfl) ?_
        refine guardS rfl rfl rfl rfl (hn rfl) (fun g1 g2 => step_and rfl (hn rfl) rfl (ev_true rfl (by exact flag2 g1 g2)) rfl (fun h => (by exact flag2 (by exact flag2 g1 g2) h))) ?_
        refine guardS rfl rfl rfl rfl (hn rfl) (fun g1 g2 => step_or rfl (hn rfl) rfl (ev_true rfl (by exact flag2 g1 g2)) rfl (fun h => (by exact flag2 (by exact flag2 g1 g2) h))) ?_
        refine ARun.step rfl (step_and rfl (hn rfl) rfl rfl rfl (fun h => (by exact flag1 h))) ?_
        refine ARun.step rfl (step_assignV rfl (hn rfl) rfl rfl) ?_
        refine ARun.nil ?_
        refine AWp.ret ?_
        refine RetIs.sc (.inr rfl) rfl rfl ?_
        refine congrArg T.bool ?_
        simp_all [phaseOk, argsOk, plainOk, inB]; try grind
    · try simp only [nrm] at c2
      refine AWp.seq (AWp.region ?_)
      refine ARun.step rfl (step_eql rfl (hn rfl) rfl rfl rfl) ?_
      refine ARun.step rfl (step_assignV rfl (hn rfl) rfl rfl) ?_
      refine ARun.nil ?_
      refine AWp.cond rfl (fun c4 => ?_) (fun c4 => ?_)
      · try simp only [nrm] at c4
        refine AWp.seq (AWp.region ?_)
        refine ARun.step rfl (step_assignV rfl (hn rfl) rfl rfl) ?_
        refine ARun.nil ?_
        refine AWp.seq (AWp.region ?_)
        refine ARun.step rfl (step_field_b rfl (hn rfl) rfl yrFo74_2 rfl (by exact List.cons_ne_nil _ _)) ?_
        refine ARun.step rfl (step_load_b rfl (hn rfl) rfl yrSc9 rfl rfl) ?_
        refine ARun.step rfl (step_field_b rfl (hn rfl) rfl yrFo74_3 rfl (by exact List.cons_ne_nil _ _)) ?_
        refine ARun.step rfl (step_load_b rfl (hn rfl) rfl yrSc9 rfl rfl) ?_
        refine ARun.step rfl (step_seql rfl (hn rfl) rfl rfl rfl) ?_
        refine ARun.nil ?_
        refine AWp.cond rfl (fun c5 => ?_) (fun c5 => ?_)
        · try simp only [nrm] at c5
          refine AWp.seq (AWp.region ?_)
          refine ARun.step rfl (step_assignV rfl (hn rfl) rfl rfl) ?_
          refine ARun.nil ?_
          refine AWp.ret ?_
          refine RetIs.sc (.inr rfl) rfl rfl ?_
          refine congrArg T.bool ?_
          simp_all [phaseOk, argsOk, plainOk, inB]; try grind
        · try simp only [nrm] at c5
          refine AWp.skip ?_
          refine AWp.seq ?_
          refine AWp.seq (AWp.region ?_)
          refine ARun.step rfl (step_moveV rfl (hn rfl) rfl rfl) ?_
          refine ARun.step rfl (step_moveV rfl (hn rfl) rfl rfl) ?_
          refine guardS rfl rfl rfl rfl (hn rfl) (fun g1 g2 => step_field_b rfl (hn rfl) rfl yrFo74_3 rfl (by exact List.cons_ne_nil _ _)) ?_
          refine guardS rfl rfl rfl rfl (hn rfl) (fun g1 g2 => step_load_b rfl (hn rfl) rfl yrSc9 (ev_true rfl (by exact flag2 g1 g2)) rfl) ?_
          refine guardS rfl rfl rfl rfl (hn rfl) (fun g1 g2 => call_step1 rfl (hn rfl) rfl yrCo81 (.cons (ev_true rfl (by exact flag2 g1 g2)) (.one (.v _)) (.nil)) (isNameI _) rfl) ?_
          refine guardS rfl rfl rfl rfl (hn rfl) (fun g1 g2 => step_not rfl (hn rfl) rfl (ev_true rfl (by exact flag2 g1 g2))) ?_
          refine ARun.step rfl (step_and rfl (hn rfl) rfl rfl rfl (fun h => (by exact flag1 h))) ?_
          refine ARun.step rfl (step_moveV rfl (hn rfl) rfl rfl) ?_
          refine guardS rfl rfl rfl rfl (hn rfl) (fun g1 g2 => step_moveV rfl (hn rfl) rfl rfl) ?_
          refine guardS rfl rfl rfl rfl (hn rfl) (fun g1 g2 => step_not rfl (hn rfl) rfl (ev_true rfl (by exact flag2 g1 g2))) ?_
          refine guardS rfl rfl rfl rfl (hn rfl) (fun g1 g2 => step_moveV rfl (hn rfl) rfl (ev_true rfl (by exact flag2 g1 g2))) ?_
          refine guardS rfl rfl rfl rfl (hn rfl) (fun g1 g2 => step_field_b rfl (hn rfl) rfl yrFo74_3 rfl (by exact List.cons_ne_nil _ _)) ?_
          refine guardS rfl rfl rfl rfl (hn rfl) (fun g1 g2 => step_load_b rfl (hn rfl) rfl yrSc9 (ev_true rfl (by exact flag2 g1 g2)) rfl) ?_
          refine guardS rfl rfl rfl rfl (hn rfl) (fun g1 g2 => step_sneq rfl (hn rfl) rfl (ev_true rfl (by exact flag2 g1 g2)) rfl) ?_
          refine guardS rfl rfl rfl rfl (hn rfl) (fun g1 g2 => step_and rfl (hn rfl) rfl (ev_true rfl (by exact flag2 g1 g2)) rfl (fun h => (by exact flag2 (by exact flag2 g1 g2) h))) ?_
          refine ARun.step rfl (step_or rfl (hn rfl) rfl rfl rfl (fun h => (by exact flag1 h))) ?_
          refine ARun.nil ?_
          refine AWp.cond rfl (fun c6 => ?_) (fun c6 => ?_)
          · try simp only [nrm] at c6
            refine AWp.seq (AWp.region ?_)
            refine ARun.step rfl (step_assignV rfl (hn rfl) rfl rfl) ?_
            refine ARun.nil ?_
            refine AWp.ret ?_
            refine RetIs.sc (.inr rfl) rfl rfl ?_
            refine congrArg T.bool ?_
            simp_all [phaseOk, argsOk, plainOk, inB]; try grind
          · try simp only [nrm] at c6
            refine AWp.skip ?_
            refine AWp.seq (AWp.region ?_)
            refine ARun.step rfl (step_field_b rfl (hn rfl) rfl yrFo74_4 rfl (by exact List.cons_ne_nil _ _)) ?_
            refine ARun.step rfl (step_load_b rfl (hn rfl) rfl yrSc3 rfl rfl) ?_
            refine ARun.step rfl (step_moveV rfl (hn rfl) rfl rfl) ?_
            refine ARun.step rfl (step_leq rfl (hn rfl) rfl rfl rfl) ?_
            refine ARun.step rfl (step_moveV rfl (hn rfl) rfl rfl) ?_
            refine guardS rfl rfl rfl rfl (hn rfl) (fun g1 g2 => step_field_b rfl (hn rfl) rfl yrFo74_4 rfl (by exact List.cons_ne_nil _ _)) ?_
            refine guardS rfl rfl rfl rfl (hn rfl) (fun g1 g2 => step_load_b rfl (hn rfl) rfl yrSc3 (ev_true rfl (by exact flag2 g1 g2)) rfl) ?_
            refine guardS rfl rfl rfl rfl (hn rfl) (fun g1 g2 => step_geq rfl (hn rfl) rfl (ev_true rfl (by exact flag2 g1 g2)) rfl) ?_
            refine guardS rfl rfl rfl rfl (hn rfl) (fun g1 g2 => step_moveV rfl (hn rfl) rfl (ev_true rfl (by exact flag2 g1 g2))) ?_
            refine guardS rfl rfl rfl rfl (hn rfl) (fun g1 g2 => step_moveV rfl (hn rfl) rfl rfl) ?_
            refine guardS rfl rfl rfl rfl (hn rfl) (fun g1 g2 => step_eql rfl (hn rfl) rfl (ev_true rfl (by exact flag2 g1 g2)) rfl) ?_
            refine guardS rfl rfl rfl rfl (hn rfl) (fun g1 g2 => step_moveV rfl (hn rfl) rfl (ev_true rfl (by exact flag2 g1 g2))) ?_
            refine guardS rfl rfl rfl rfl (hn rfl) (fun g1 g2 => step_field_b rfl (hn rfl) rfl yrFo74_4 rfl (by exact List.cons_ne_nil _ _)) ?_
            refine guardS rfl rfl rfl rfl (hn rfl) (fun g1 g2 => step_load_b rfl (hn rfl) rfl yrSc3 (ev_true rfl (by exact flag2 g1 g2)) rfl) ?_
            refine guardS rfl rfl rfl rfl (hn rfl) (fun g1 g2 => step_eql rfl (hn rfl) rfl (ev_true rfl (by exact flag2 g1 g2)) rfl) ?_
            refine guardS rfl rfl rfl rfl (hn rfl) (fun g1 g2 => step_and rfl (hn rfl) rfl (ev_true rfl (by exact flag2 g1 g2)) rfl (fun h => (by exact flag2 (by exact flag2 g1 g2) h))) ?_
            refine guardS rfl rfl rfl rfl (hn rfl) (fun g1 g2 => step_or rfl (hn rfl) rfl (ev_true rfl (by exact flag2 g1 g2)) rfl (fun h => (by exact flag2 (by exact flag2 g1 g2) h))) ?_
            refine ARun.step rfl (step_and rfl (hn rfl) rfl rfl rfl (fun h => (by exact flag1 h))) ?_
            refine ARun.step rfl (step_assignV rfl (hn rfl) rfl rfl) ?_
            refine ARun.nil ?_
            refine AWp.ret ?_
            refine RetIs.sc (.inr rfl) rfl rfl ?_
            refine congrArg T.bool ?_
            simp_all [phaseOk, argsOk, plainOk, inB]; try grind
      · try simp only [nrm] at c4
        refine AWp.seq (AWp.region ?_)
        refine ARun.step rfl (step_eql rfl (hn rfl) rfl rfl rfl) ?_
        refine ARun.step rfl (step_assignV rfl (hn rfl) rfl rfl) ?_
        refine ARun.nil ?_
        refine AWp.cond rfl (fun c7 => ?_) (fun c7 => ?_)
        · try simp only [nrm] at c7
          refine AWp.region ?_
          refine ARun.step rfl (step_field_b rfl (hn rfl) rfl yrFo74_5 rfl (by exact List.cons_ne_nil _ _)) ?_
          refine ARun.step rfl (step_load_b rfl (hn rfl) rfl yrSc3 rfl rfl) ?_
          refine ARun.step rfl (step_assignV rfl (hn rfl) rfl rfl) ?_
          refine ARun.nil ?_
          refine AWp.seq ?_
          refine AWp.seq (AWp.region ?_)
          refine ARun.step rfl (step_moveV rfl (hn rfl) rfl rfl) ?_
          refine ARun.step rfl (step_moveV rfl (hn rfl) rfl rfl) ?_
          refine guardS rfl rfl rfl rfl (hn rfl) (fun g1 g2 => step_field_b rfl (hn rfl) rfl yrFo74_3 rfl (by exact List.cons_ne_nil _ _)) ?_
          refine guardS rfl rfl rfl rfl (hn rfl) (fun g1 g2 => step_load_b rfl (hn rfl) rfl yrSc9 (ev_true rfl (by exact flag2 g1 g2)) rfl) ?_
          refine guardS rfl rfl rfl rfl (hn rfl) (fun g1 g2 => call_step1 rfl (hn rfl) rfl yrCo81 (.cons (ev_true rfl (by exact flag2 g1 g2)) (.one (.v _)) (.nil)) (isNameI _) rfl) ?_
          refine guardS rfl rfl rfl rfl (hn rfl) (fun g1 g2 => step_not rfl (hn rfl) rfl (ev_true rfl (by exact flag2 g1 g2))) ?_
          refine ARun.step rfl (step_and rfl (hn rfl) rfl rfl rfl (fun h => (by exact flag1 h))) ?_
          refine ARun.step rfl (step_moveV rfl (hn rfl) rfl rfl) ?_
          refine guardS rfl rfl rfl rfl (hn rfl) (fun g1 g2 => step_moveV rfl (hn rfl) rfl rfl) ?_
          refine guardS rfl rfl rfl rfl (hn rfl) (fun g1 g2 => step_not rfl (hn rfl) rfl (ev_true rfl (by exact flag2 g1 g2))) ?_
          refine guardS rfl rfl rfl rfl (hn rfl) (fun g1 g2 => step_moveV rfl (hn rfl) rfl (ev_true rfl (by exact flag2 g1 g2))) ?_
          refine guardS rfl rfl rfl rfl (hn rfl) (fun g1 g2 => step_field_b rfl (hn rfl) rfl yrFo74_3 rfl (by exact List.cons_ne_nil _ _)) ?_
          refine guardS rfl rfl rfl rfl (hn rfl) (fun g1 g2 => step_load_b rfl (hn rfl) rfl yrSc9 (ev_true rfl (by exact flag2 g1 g2)) rfl) ?_
          refine guardS rfl rfl rfl rfl (hn rfl) (fun g1 g2 => step_sneq rfl (hn rfl) rfl (ev_true rfl (by exact flag2 g1 g2)) rfl) ?_
          refine guardS rfl rfl rfl rfl (hn rfl) (fun g1 g2 => step_and rfl (hn rfl) rfl (ev_true rfl (by exact flag2 g1 g2)) rfl (fun h => (by exact flag2 (by exact flag2 g1 g2) h))) ?_
          refine ARun.step rfl (step_or rfl (hn rfl) rfl rfl rfl (fun h => (by exact flag1 h))) ?_
          refine ARun.nil ?_
          refine AWp.cond rfl (fun c8 => ?_) (fun c8 => ?_)
          · try simp only [nrm] at c8
            refine AWp.seq (AWp.region ?_)
            refine ARun.step rfl (step_assignV rfl (hn rfl) rfl rfl) ?_
            refine ARun.nil ?_
            refine AWp.ret ?_
            refine RetIs.sc (.inr rfl) rfl rfl ?_
            refine congrArg T.bool ?_
            simp_all [phaseOk, argsOk, plainOk, inB]; try grind
          · try simp only [nrm] at c8
            refine AWp.skip ?_
            refine AWp.seq (AWp.region ?_)
            refine ARun.step rfl (step_field_b rfl (hn rfl) rfl yrFo74_4 rfl (by exact List.cons_ne_nil _ _)) ?_
            refine ARun.step rfl (step_load_b rfl (hn rfl) rfl yrSc3 rfl rfl) ?_
            refine ARun.step rfl (step_moveV rfl (hn rfl) rfl rfl) ?_
            refine ARun.step rfl (step_leq rfl (hn rfl) rfl rfl rfl) ?_
            refine ARun.step rfl (step_moveV rfl (hn rfl) rfl rfl) ?_
            refine guardS rfl rfl rfl rfl (hn rfl) (fun g1 g2 => step_field_b rfl (hn rfl) rfl yrFo74_4 rfl (by exact List.cons_ne_nil _ _)) ?_
            refine guardS rfl rfl rfl rfl (hn rfl) (fun g1 g2 => step_load_b rfl (hn rfl) rfl yrSc3 (ev_true rfl (by exact flag2 g1 g2)) rfl) ?_
            refine guardS rfl rfl rfl rfl (hn rfl) (fun g1 g2 => step_geq rfl (hn rfl) rfl (ev_true rfl (by exact flag2 g1 g2)) rfl) ?_
            refine guardS rfl rfl rfl rfl (hn rfl) (fun g1 g2 => step_moveV rfl (hn rfl) rfl (ev_true rfl (by exact flag2 g1 g2))) ?_
            refine guardS rfl rfl rfl rfl (hn rfl) (fun g1 g2 => step_moveV rfl (hn rfl) rfl rfl) ?_
            refine guardS rfl rfl rfl rfl (hn rfl) (fun g1 g2 => step_eql rfl (hn rfl) rfl (ev_true rfl (by exact flag2 g1 g2)) rfl) ?_
            refine guardS rfl rfl rfl rfl (hn rfl) (fun g1 g2 => step_moveV rfl (hn rfl) rfl (ev_true rfl (by exact flag2 g1 g2))) ?_
            refine guardS rfl rfl rfl rfl (hn rfl) (fun g1 g2 => step_field_b rfl (hn rfl) rfl yrFo74_4 rfl (by exact List.cons_ne_nil _ _)) ?_
            refine guardS rfl rfl rfl rfl (hn rfl) (fun g1 g2 => step_load_b rfl (hn rfl) rfl yrSc3 (ev_true rfl (by exact flag2 g1 g2)) rfl) ?_
            refine guardS rfl rfl rfl rfl (hn rfl) (fun g1 g2 => step_eql rfl (hn rfl) rfl (ev_true rfl (by exact flag2 g1 g2)) rfl) ?_
            refine guardS rfl rfl rfl rfl (hn rfl) (fun g1 g2 => step_and rfl (hn rfl) rfl (ev_true rfl (by exact flag2 g1 g2)) rfl (fun h => (by exact flag2 (by exact flag2 g1 g2) h))) ?_
            refine guardS rfl rfl rfl rfl (hn rfl) (fun g1 g2 => step_or rfl (hn rfl) rfl (ev_true rfl (by exact flag2 g1 g2)) rfl (fun h => (by exact flag2 (by exact flag2 g1 g2) h))) ?_
            refine ARun.step rfl (step_and rfl (hn rfl) rfl rfl rfl (fun h => (by exact flag1 h))) ?_
            refine ARun.step rfl (step_assignV rfl (hn rfl) rfl rfl) ?_
            refine ARun.nil ?_
            refine AWp.ret ?_
            refine RetIs.sc (.inr rfl) rfl rfl ?_
            refine congrArg T.bool ?_
            simp_all [phaseOk, argsOk, plainOk, inB]; try grind
        · try simp only [nrm] at c7
          refine AWp.seq ?_
          refine AWp.seq (AWp.region ?_)
          refine ARun.step rfl (step_eql rfl (hn rfl) rfl rfl rfl) ?_
          refine ARun.step rfl (step_assignV rfl (hn rfl) rfl rfl) ?_
          refine ARun.nil ?_
          refine AWp.cond rfl (fun c9 => ?_) (fun c9 => ?_)
          · try simp only [nrm] at c9
            refine AWp.skip ?_
            refine AWp.cond rfl (fun c10 => ?_) (fun c10 => ?_)
            · try simp only [nrm] at c10
              refine AWp.region ?_
              refine ARun.step rfl (step_assignV rfl (hn rfl) rfl rfl) ?_
              refine ARun.nil ?_
              refine AWp.seq ?_
              refine AWp.seq (AWp.region ?_)
              refine ARun.step rfl (step_moveV rfl (hn rfl) rfl rfl) ?_
              refine ARun.step rfl (step_moveV rfl (hn rfl) rfl rfl) ?_
              refine guardS rfl rfl rfl rfl (hn rfl) (fun g1 g2 => step_field_b rfl (hn rfl) rfl yrFo74_3 rfl (by exact List.cons_ne_nil _ _)) ?_
              refine guardS rfl rfl rfl rfl (hn rfl) (fun g1 g2 => step_load_b rfl (hn rfl) rfl yrSc9 (ev_true rfl (by exact flag2 g1 g2)) rfl) ?_
              refine guardS rfl rfl rfl rfl (hn rfl) (fun g1 g2 => call_step1 rfl (hn rfl) rfl yrCo81 (.cons (ev_true rfl (by exact flag2 g1 g2)) (.one (.v _)) (.nil)) (isNameI _) rfl) ?_
              refine guardS rfl rfl rfl rfl (hn rfl) (fun g1 g2 => step_not rfl (hn rfl) rfl (ev_true rfl (by exact flag2 g1 g2))) ?_
              refine ARun.step rfl (step_and rfl (hn rfl) rfl rfl rfl (fun h => (by exact flag1 h))) ?_
              refine ARun.step rfl (step_moveV rfl (hn rfl) rfl rfl) ?_
              refine guardS rfl rfl rfl rfl (hn rfl) (fun g1 g2 => step_moveV rfl (hn rfl) rfl rfl) ?_
              refine guardS rfl rfl rfl rfl (hn rfl) (fun g1 g2 => step_not rfl (hn rfl) rfl (ev_true rfl (by exact flag2 g1 g2))) ?_
              refine guardS rfl rfl rfl rfl (hn rfl) (fun g1 g2 => step_moveV rfl (hn rfl) rfl (ev_true rfl (by exact flag2 g1 g2))) ?_
              refine guardS rfl rfl rfl rfl (hn rfl) (fun g1 g2 => step_field_b rfl (hn rfl) rfl yrFo74_3 rfl (by exact List.cons_ne_nil _ _)) ?_
              refine guardS rfl rfl rfl rfl (hn rfl) (fun g1 g2 => step_load_b rfl (hn rfl) rfl yrSc9 (ev_true rfl (by exact flag2 g1 g2)) rfl) ?_
              refine guardS rfl rfl rfl rfl (hn rfl) (fun g1 g2 => step_sneq rfl (hn rfl) rfl (ev_true rfl (by exact flag2 g1 g2)) rfl) ?_
              refine guardS rfl rfl rfl rfl (hn rfl) (fun g1 g2 => step_and rfl (hn rfl) rfl (ev_true rfl (by exact flag2 g1 g2)) rfl (fun h => (by exact flag2 (by exact flag2 g1 g2) h))) ?_
              refine ARun.step rfl (step_or rfl (hn rfl) rfl rfl rfl (fun h => (by exact flag1 h))) ?_
              refine ARun.nil ?_
              refine AWp.cond rfl (fun c11 => ?_) (fun c11 => ?_)
              · try simp only [nrm] at c11
                refine AWp.seq (AWp.region ?_)
                refine ARun.step rfl (step_assignV rfl (hn rfl) rfl rfl) ?_
                refine ARun.nil ?_
                refine AWp.ret ?_
                refine RetIs.sc (.inr rfl) rfl rfl ?_
                refine congrArg T.bool ?_
                simp_all [phaseOk, argsOk, plainOk, inB]; try grind
              · try simp only [nrm] at c11
                refine AWp.skip ?_
                refine AWp.seq (AWp.region ?_)
                refine ARun.step rfl (step_field_b rfl (hn rfl) rfl yrFo74_4 rfl (by exact List.cons_ne_nil _ _)) ?_
                refine ARun.step rfl (step_load_b rfl (hn rfl) rfl yrSc3 rfl rfl) ?_
                refine ARun.step rfl (step_moveV rfl (hn rfl) rfl rfl) ?_
                refine ARun.step rfl (step_leq rfl (hn rfl) rfl rfl rfl) ?_
                refine ARun.step rfl (step_moveV rfl (hn rfl) rfl rfl) ?_
                refine guardS rfl rfl rfl rfl (hn rfl) (fun g1 g2 => step_field_b rfl (hn rfl) rfl yrFo74_4 rfl (by exact List.cons_ne_nil _ _)) ?_
                refine guardS rfl rfl rfl rfl (hn rfl) (fun g1 g2 => step_load_b rfl (hn rfl) rfl yrSc3 (ev_true rfl (by exact flag2 g1 g2)) rfl) ?_
                refine guardS rfl rfl rfl rfl (hn rfl) (fun g1 g2 => step_geq rfl (hn rfl) rfl (ev_true rfl (by exact flag2 g1 g2)) rfl) ?_
                refine guardS rfl rfl rfl rfl (hn rfl) (fun g1 g2 => step_moveV rfl (hn rfl) rfl (ev_true rfl (by exact flag2 g1 g2))) ?_
                refine guardS rfl rfl rfl rfl (hn rfl) (fun g1 g2 => step_moveV rfl (hn rfl) rfl rfl) ?_
                refine guardS rfl rfl rfl rfl (hn rfl) (fun g1 g2 => step_eql rfl (hn rfl) rfl (ev_true rfl (by exact flag2 g1 g2)) rfl) ?_
                refine guardS rfl rfl rfl rfl (hn rfl) (fun g1 g2 => step_moveV rfl (hn rfl) rfl (ev_true rfl (by exact flag2 g1 g2))) ?_
                refine guardS rfl rfl rfl rfl (hn rfl) (fun g1 g2 => step_field_b rfl (hn rfl) rfl yrFo74_4 rfl (by exact List.cons_ne_nil _ _)) ?_
                refine guardS rfl rfl rfl rfl (hn rfl) (fun g1 g2 => step_load_b rfl (hn rfl) rfl yrSc3 (ev_true rfl (by exact flag2 g1 g2)) rfl) ?_
                refine guardS rfl rfl rfl rfl (hn rfl) (fun g1 g2 => step_eql rfl (hn rfl) rfl (ev_true rfl (by exact flag2 g1 g2)) rfl) ?_
                refine guardS rfl rfl rfl rfl (hn rfl) (fun g1 g2 => step_and rfl (hn rfl) rfl (ev_true rfl (by exact flag2 g1 g2)) rfl (fun h => (by exact flag2 (by exact flag2 g1 g2) h))) ?_
                refine guardS rfl rfl rfl rfl (hn rfl) (fun g1 g2 => step_or rfl (hn rfl) rfl (ev_true rfl (by exact flag2 g1 g2)) rfl (fun h => (by exact flag2 (by exact flag2 g1 g2) h))) ?_
                refine ARun.step rfl (step_and rfl (hn rfl) rfl rfl rfl (fun h => (by exact flag1 h))) ?_
                refine ARun.step rfl (step_assignV rfl (hn rfl) rfl rfl) ?_
                refine ARun.nil ?_
                refine AWp.ret ?_
                refine RetIs.sc (.inr rfl) rfl rfl ?_
                refine congrArg T.bool ?_
                simp_all [phaseOk, argsOk, plainOk, inB]; try grind
            · try simp only [nrm] at c10
              refine AWp.seq (AWp.region ?_)
              refine ARun.step rfl (step_assignV rfl (hn rfl) rfl rfl) ?_
              refine ARun.nil ?_
              refine AWp.ret ?_
              refine RetIs.sc (.inr rfl) rfl rfl ?_
              refine congrArg T.bool ?_
              simp_all [phaseOk, argsOk, plainOk, inB]; try grind
          · try simp only [nrm] at c9
            refine AWp.region ?_
            refine ARun.step rfl (step_eql rfl (hn rfl) rfl rfl rfl) ?_
            refine ARun.step rfl (step_assignV rfl (hn rfl) rfl rfl) ?_
            refine ARun.nil ?_
            refine AWp.cond rfl (fun c12 => ?_) (fun c12 => ?_)
            · try simp only [nrm] at c12
              refine AWp.region ?_
              refine ARun.step rfl (step_assignV rfl (hn rfl) rfl rfl) ?_
              refine ARun.nil ?_
              refine AWp.seq ?_
              refine AWp.seq (AWp.region ?_)
              refine ARun.step rfl (step_moveV rfl (hn rfl) rfl rfl) ?_
              refine ARun.step rfl (step_moveV rfl (hn rfl) rfl rfl) ?_
              refine guardS rfl rfl rfl rfl (hn rfl) (fun g1 g2 => step_field_b rfl (hn rfl) rfl yrFo74_3 rfl (by exact List.cons_ne_nil _ _)) ?_
              refine guardS rfl rfl rfl rfl (hn rfl) (fun g1 g2 => step_load_b rfl (hn rfl) rfl yrSc9 (ev_true rfl (by exact flag2 g1 g2)) rfl) ?_
              refine guardS rfl rfl rfl rfl (hn rfl) (fun g1 g2 => call_step1 rfl (hn rfl) rfl yrCo81 (.cons (ev_true rfl (by exact flag2 g1 g2)) (.one (.v _)) (.nil)) (isNameI _) rfl) ?_
              refine guardS rfl rfl rfl rfl (hn rfl) (fun g1 g2 => step_not rfl (hn rfl) rfl (ev_true rfl (by exact flag2 g1 g2))) ?_
              refine ARun.step rfl (step_and rfl (hn rfl) rfl rfl rfl (fun h => (by exact flag1 h))) ?_
              refine ARun.step rfl (step_moveV rfl (hn rfl) rfl rfl) ?_
              refine guardS rfl rfl rfl rfl (hn rfl) (fun g1 g2 => step_moveV rfl (hn rfl) rfl rfl) ?_
              refine guardS rfl rfl rfl rfl (hn rfl) (fun g1 g2 => step_not rfl (hn rfl) rfl (ev_true rfl (by exact flag2 g1 g2))) ?_
              refine guardS rfl rfl rfl rfl (hn rfl) (fun g1 g2 => step_moveV rfl (hn rfl) rfl (ev_true rfl (by exact flag2 g1 g2))) ?_
              refine guardS rfl rfl rfl rfl (hn rfl) (fun g1 g2 => step_field_b rfl (hn rfl) rfl yrFo74_3 rfl (by exact List.cons_ne_nil _ _)) ?_
              refine guardS rfl rfl rfl rfl (hn rfl) (fun g1 g2 => step_load_b rfl (hn rfl) rfl yrSc9 (ev_true rfl (by exact flag2 g1 g2)) rfl) ?_
              refine guardS rfl rfl rfl rfl (hn rfl) (fun g1 g2 => step_sneq rfl (hn rfl) rfl (ev_true rfl (by exact flag2 g1 g2)) rfl) ?_
              refine guardS rfl rfl rfl rfl (hn rfl) (fun g1 g2 => step_and rfl (hn rfl) rfl (ev_true rfl (by exact flag2 g1 g2)) rfl (fun h => (by exact flag2 (by exact flag2 g1 g2) h))) ?_
              refine ARun.step rfl (step_or rfl (hn rfl) rfl rfl rfl (fun h => (by exact flag1 h))) ?_
              refine ARun.nil ?_
              refine AWp.cond rfl (fun c13 => ?_) (fun c13 => ?_)
              · try simp only [nrm] at c13
                refine AWp.seq (AWp.region ?_)
                refine ARun.step rfl (step_assignV rfl (hn rfl) rfl rfl) ?_
                refine ARun.nil ?_
                refine AWp.ret ?_
                refine RetIs.sc (.inr rfl) rfl rfl ?_
                refine congrArg T.bool ?_
                simp_all [phaseOk, argsOk, plainOk, inB]; try grind
              · try simp only [nrm] at c13
                refine AWp.skip ?_
                refine AWp.seq (AWp.region ?_)
                refine ARun.step rfl (step_field_b rfl (hn rfl) rfl yrFo74_4 rfl (by exact List.cons_ne_nil _ _)) ?_
                refine ARun.step rfl (step_load_b rfl (hn rfl) rfl yrSc3 rfl rfl) ?_
                refine ARun.step rfl (step_moveV rfl (hn rfl) rfl rfl) ?_
                refine ARun.step rfl (step_leq rfl (hn rfl) rfl rfl rfl) ?_
                refine ARun.step rfl (step_moveV rfl (hn rfl) rfl rfl) ?_
                refine guardS rfl rfl rfl rfl (hn rfl) (fun g1 g2 => step_field_b rfl (hn rfl) rfl yrFo74_4 rfl (by exact List.cons_ne_nil _ _)) ?_
                refine guardS rfl rfl rfl rfl (hn rfl) (fun g1 g2 => step_load_b rfl (hn rfl) rfl yrSc3 (ev_true rfl (by exact flag2 g1 g2)) rfl) ?_
                refine guardS rfl rfl rfl rfl (hn rfl) (fun g1 g2 => step_geq rfl (hn rfl) rfl (ev_true rfl (by exact flag2 g1 g2)) rfl) ?_
                refine guardS rfl rfl rfl rfl (hn rfl) (fun g1 g2 => step_moveV rfl (hn rfl) rfl (ev_true rfl (by exact flag2 g1 g2))) ?_
                refine guardS rfl rfl rfl rfl (hn rfl) (fun g1 g2 => step_moveV rfl (hn rfl) rfl rfl) ?_
                refine guardS rfl rfl rfl rfl (hn rfl) (fun g1 g2 => step_eql rfl (hn rfl) rfl (ev_true rfl (by exact flag2 g1 g2)) rfl) ?_
                refine guardS rfl rfl rfl rfl (hn rfl) (fun g1 g2 => step_moveV rfl (hn rfl) rfl (ev_true rfl (by exact flag2 g1 g2))) ?_
                refine guardS rfl rfl rfl rfl (hn rfl) (fun g1 g2 => step_field_b rfl (hn rfl) rfl yrFo74_4 rfl (by exact List.cons_ne_nil _ _)) ?_
                refine guardS rfl rfl rfl rfl (hn rfl) (fun g1 g2 => step_load_b rfl (hn rfl) rfl yrSc3 (ev_true rfl (by exact flag2 g1 g2)) rfl) ?_
                refine guardS rfl rfl rfl rfl (hn rfl) (fun g1 g2 => step_eql rfl (hn rfl) rfl (ev_true rfl (by exact flag2 g1 g2)) rfl) ?_
                refine guardS rfl rfl rfl rfl (hn rfl) (fun g1 g2 => step_and rfl (hn rfl) rfl (ev_true rfl (by exact flag2 g1 g2)) rfl (fun h => (by exact flag2 (by exact flag2 g1 g2) h))) ?_
                refine guardS rfl rfl rfl rfl (hn rfl) (fun g1 g2 => step_or rfl (hn rfl) rfl (ev_true rfl (by exact flag2 g1 g2)) rfl (fun h => (by exact flag2 (by exact flag2 g1 g2) h))) ?_
                refine ARun.step rfl (step_and rfl (hn rfl) rfl rfl rfl (fun h => (by exact flag1 h))) ?_
                refine ARun.step rfl (step_assignV rfl (hn rfl) rfl rfl) ?_
                refine ARun.nil ?_
                refine AWp.ret ?_
                refine RetIs.sc (.inr rfl) rfl rfl ?_
                refine congrArg T.bool ?_
                simp_all [phaseOk, argsOk, plainOk, inB]; try grind
            · try simp only [nrm] at c12
              refine AWp.seq (AWp.region ?_)
              refine ARun.step rfl (step_assignV rfl (hn rfl) rfl rfl) ?_
              refine ARun.nil ?_
              refine AWp.ret ?_
              refine RetIs.sc (.inr rfl) rfl rfl ?_
              refine congrArg T.bool ?_
              simp_all [phaseOk, argsOk, plainOk, inB]; try grind
theorem phaseI (l : List Ph) (s : Str)  : ASpec Try.prog 122 [.one (phs 74 l), .one (.str s)] (.one (.int .i64 (atP l s))) := by
  refine ASpec.body Try.func122 rfl [4] rfl 20 rfl rfl rfl ?_
  refine AWp.lenLe 0 rfl (fun hl => ?_)
  refine AWp.seq (AWp.region ?_)
  refine ARun.step rfl (step_assignV rfl (hn rfl) rfl rfl) ?_
  refine ARun.nil ?_
  refine AWp.seq ?_
  refine AWp.seq (AWp.region ?_)
  refine ARun.step rfl (step_moveV rfl (hn rfl) rfl rfl) ?_
  refine ARun.step rfl (step_len_f rfl (hn rfl) rfl yrSl62 rfl) ?_
  refine ARun.step rfl (step_moveV rfl (hn rfl) rfl rfl) ?_
  refine ARun.nil ?_
  refine AWp.block ?_
  refine AWp.loopM (fun i : Nat => mkAS 20 [(0, ⟨true, .one (.v (phs 74 l))⟩), (1, ⟨true, .one (.v (.str s))⟩), (7, ⟨true, .one (.v (phs 74 l))⟩), (8, ⟨true, .one (.v (.int .i64 (l.length : Nat)))⟩), (9, ⟨true, .one (.v (.int .i64 (i : Nat)))⟩)] [] []) (fun i => i ≤ l.length ∧ ∀ j, j < i → strEq (nth l j).name s = false) (fun i => l.length - i) 0 ?_ (Le.forgetR rfl ⟨rfl, rfl, rfl, rfl, rfl, trivial⟩ trivial trivial) ?_
  · try dsimp only
    exact ⟨by omega, by omega⟩
  rintro i ⟨hi, hall⟩
  refine AWp.seq (AWp.region ?_)
  refine ARun.step rfl (step_lss rfl (hn rfl) rfl rfl rfl) ?_
  refine ARun.nil ?_
  refine AWp.seq ?_
  refine AWp.cond rfl (fun c1 => ?_) (fun c1 => ?_)
  · try simp only [nrm] at c1
    refine AWp.skip ?_
    refine AWp.seq ?_
    refine AWp.block ?_
    refine AWp.seq (AWp.region ?_)
    refine ARun.step rfl (step_moveV rfl (hn rfl) rfl rfl) ?_
    refine ARun.step rfl (step_index_fN rfl (hn rfl) rfl yrSl62 rfl rfl (by omega)) ?_
    refine ARun.step rfl (step_loadS_f rfl (hn rfl) rfl yrSt74 rfl (hn rfl) rfl rfl) ?_
    refine ARun.step rfl (step_alloc_p rfl (hn rfl) rfl yrZs74) ?_
    refine ARun.step rfl (step_assignV rfl (hn rfl) rfl rfl) ?_
    refine ARun.step rfl (step_store_p rfl rfl yrCs74 rfl rfl rfl rfl rfl rfl rfl) ?_
    refine ARun.nil ?_
    refine AWp.seq (AWp.region ?_)
    refine ARun.step rfl (step_field_b rfl (hn rfl) rfl yrFo74_0 rfl (by exact List.cons_ne_nil _ _)) ?_
    refine ARun.step rfl (step_load_b rfl (hn rfl) rfl yrSc9 rfl rfl) ?_
    refine ARun.step rfl (step_moveV rfl (hn rfl) rfl rfl) ?_
    refine ARun.step rfl (step_seql rfl (hn rfl) rfl rfl rfl) ?_
    refine ARun.nil ?_
    refine AWp.cond rfl (fun c2 => ?_) (fun c2 => ?_)
    · try simp only [nrm] at c2
      refine AWp.seq (AWp.region ?_)
      refine ARun.step rfl (step_moveV rfl (hn rfl) rfl rfl) ?_
      refine ARun.step rfl (step_assignV rfl (hn rfl) rfl rfl) ?_
      refine ARun.nil ?_
      refine AWp.ret ?_
      refine RetIs.sc (.inr rfl) rfl rfl ?_
      refine congrArg (T.int _) ?_
      exact atP_some hall (by omega) c2
    · try simp only [nrm] at c2
      refine AWp.skip ?_
      refine AWp.region ?_
      refine ARun.step rfl (step_addI rfl (hn rfl) rfl rfl rfl (by omega) (by omega)) ?_
      refine ARun.step rfl (step_moveV rfl (hn rfl) rfl rfl) ?_
      refine ARun.nil ?_
      refine ⟨i + 1, ?_, ?_, Le.forgetR rfl ⟨rfl, rfl, rfl, rfl, rfl, trivial⟩ trivial trivial⟩
      · try dsimp only
        exact ⟨by omega, upto hall (by assumption)⟩
      · try dsimp only
        omega
  · try simp only [nrm] at c1
    refine AWp.exit ?_
    refine AWp.seq (AWp.region ?_)
    refine ARun.step rfl (step_assignV rfl (hn rfl) rfl rfl) ?_
    refine ARun.nil ?_
    refine AWp.ret ?_
    refine RetIs.sc (.inr rfl) rfl rfl ?_
    refine congrArg (T.int _) ?_
    exact atP_none hall (by omega)
theorem l42At (l : List Ph) (s : Str)  : ASpec Try.prog 115 [.one (phs 74 l), .one (.str s)] (.one (.int .i64 (atP l s))) := by
  refine ASpec.body Try.func115 rfl [4] rfl 20 rfl rfl rfl ?_
  refine AWp.lenLe 0 rfl (fun hl => ?_)
  refine AWp.seq (AWp.region ?_)
  refine ARun.step rfl (step_assignV rfl (hn rfl) rfl rfl) ?_
  refine ARun.nil ?_
  refine AWp.seq ?_
  refine AWp.seq (AWp.region ?_)
  refine ARun.step rfl (step_assignV rfl (hn rfl) rfl rfl) ?_
  refine ARun.nil ?_
  refine AWp.block ?_
  refine AWp.loopM (fun i : Nat => mkAS 20 [(0, ⟨true, .one (.v (phs 74 l))⟩), (1, ⟨true, .one (.v (.str s))⟩), (5, ⟨true, .one (.v (.int .i64 (i : Nat)))⟩)] [] []) (fun i => i ≤ l.length ∧ ∀ j, j < i → strEq (nth l j).name s = false) (fun i => l.length - i) 0 ?_ (Le.forgetR rfl ⟨rfl, rfl, rfl, trivial⟩ trivial trivial) ?_
  · try dsimp only
    exact ⟨by omega, by omega⟩
  rintro i ⟨hi, hall⟩
  refine AWp.seq ?_
  refine AWp.seq (AWp.region ?_)
  refine ARun.step rfl (step_moveV rfl (hn rfl) rfl rfl) ?_
  refine ARun.step rfl (step_moveV rfl (hn rfl) rfl rfl) ?_
  refine ARun.step rfl (step_len_f rfl (hn rfl) rfl yrSl62 rfl) ?_
  refine ARun.step rfl (step_lss rfl (hn rfl) rfl rfl rfl) ?_
  refine ARun.nil ?_
  refine AWp.cond rfl (fun c1 => ?_) (fun c1 => ?_)
  · try simp only [nrm] at c1
    refine AWp.skip ?_
    refine AWp.seq ?_
    refine AWp.block ?_
    refine AWp.seq (AWp.region ?_)
    refine ARun.step rfl (step_moveV rfl (hn rfl) rfl rfl) ?_
    refine ARun.step rfl (step_moveV rfl (hn rfl) rfl rfl) ?_
    refine ARun.step rfl (step_index_fN rfl (hn rfl) rfl yrSl62 rfl rfl (by omega)) ?_
    refine ARun.step rfl (step_field_f rfl (hn rfl) rfl yrFo74_0 rfl) ?_
    refine ARun.step rfl (step_load_f rfl (hn rfl) rfl yrSc9 rfl (hn rfl) rfl) ?_
    refine ARun.step rfl (step_moveV rfl (hn rfl) rfl rfl) ?_
    refine ARun.step rfl (step_seql rfl (hn rfl) rfl rfl rfl) ?_
    refine ARun.nil ?_
    refine AWp.cond rfl (fun c2 => ?_) (fun c2 => ?_)
    · try simp only [nrm] at c2
      refine AWp.seq (AWp.region ?_)
      refine ARun.step rfl (step_moveV rfl (hn rfl) rfl rfl) ?_
      refine ARun.step rfl (step_assignV rfl (hn rfl) rfl rfl) ?_
      refine ARun.nil ?_
      refine AWp.ret ?_
      refine RetIs.sc (.inr rfl) rfl rfl ?_
      refine congrArg (T.int _) ?_
      exact atP_some hall (by omega) c2
    · try simp only [nrm] at c2
      refine AWp.skip ?_
      refine AWp.region ?_
      refine ARun.step rfl (step_moveV rfl (hn rfl) rfl rfl) ?_
      refine ARun.step rfl (step_addI rfl (hn rfl) rfl rfl rfl (by omega) (by omega)) ?_
      refine ARun.step rfl (step_assignV rfl (hn rfl) rfl rfl) ?_
      refine ARun.nil ?_
      refine ⟨i + 1, ?_, ?_, Le.forgetR rfl ⟨rfl, rfl, rfl, trivial⟩ trivial trivial⟩
      · try dsimp only
        exact ⟨by omega, upto hall (by assumption)⟩
      · try dsimp only
        omega
  · try simp only [nrm] at c1
    refine AWp.exit ?_
    refine AWp.seq (AWp.region ?_)
    refine ARun.step rfl (step_assignV rfl (hn rfl) rfl rfl) ?_
    refine ARun.nil ?_
    refine AWp.ret ?_
    refine RetIs.sc (.inr rfl) rfl rfl ?_
    refine congrArg (T.int _) ?_
    exact atP_none hall (by omega)
theorem recOkS (l : List Ph)  : ASpec Try.prog 60 [.one (phs 74 l)] (.one (.bool (recOk l))) := by
  refine ASpec.body Try.func60 rfl [2] rfl 69 rfl rfl rfl ?_
  refine AWp.lenLe 0 rfl (fun hl => ?_)
  refine AWp.seq (AWp.region ?_)
  refine ARun.step rfl (step_assignV rfl (hn rfl) rfl rfl) ?_
  refine ARun.nil ?_
  refine AWp.seq ?_
  refine AWp.seq (AWp.region ?_)
  refine ARun.step rfl (step_moveV rfl (hn rfl) rfl rfl) ?_
  refine ARun.step rfl (step_len_f rfl (hn rfl) rfl yrSl62 rfl) ?_
  refine ARun.step rfl (call_step1 rfl (hn rfl) rfl yrCo117 (.cons rfl (.one (.v _)) (.cons rfl (.one (.v _)) (.cons rfl (.one (.v _)) (.nil)))) (l41In _ _ _) rfl) ?_
  refine ARun.step rfl (step_not rfl (hn rfl) rfl rfl) ?_
  refine ARun.nil ?_
  refine AWp.cond rfl (fun c1 => ?_) (fun c1 => ?_)
  · try simp only [nrm] at c1
    refine AWp.seq (AWp.region ?_)
    refine ARun.step rfl (step_assignV rfl (hn rfl) rfl rfl) ?_
    refine ARun.nil ?_
    refine AWp.ret ?_
    refine RetIs.sc (.inr rfl) rfl rfl ?_
    refine congrArg T.bool ?_
    simp [recOk_eq, c1]
  · try simp only [nrm] at c1
    refine AWp.skip ?_
    refine AWp.seq ?_
    refine AWp.seq (AWp.region ?_)
    refine ARun.step rfl (step_assignV rfl (hn rfl) rfl rfl) ?_
    refine ARun.nil ?_
    refine AWp.block ?_
    refine AWp.loopM (fun i : Nat => mkAS 69 [(0, ⟨true, .one (.v (phs 74 l))⟩), (3, ⟨true, .one (.v (.int .i64 (i : Nat)))⟩)] [] []) (fun i => i ≤ l.length ∧ ∀ j, j < i → okAt l j = true) (fun i => l.length - i) 0 ?_ (Le.forgetR rfl ⟨rfl, rfl, trivial⟩ trivial trivial) ?_
    · try dsimp only
      exact ⟨by omega, by omega⟩
    rintro i ⟨hi, hall⟩
    refine AWp.seq ?_
    refine AWp.seq (AWp.region ?_)
    refine ARun.step rfl (step_moveV rfl (hn rfl) rfl rfl) ?_
    refine ARun.step rfl (step_moveV rfl (hn rfl) rfl rfl) ?_
    refine ARun.step rfl (step_len_f rfl (hn rfl) rfl yrSl62 rfl) ?_
    refine ARun.step rfl (step_lss rfl (hn rfl) rfl rfl rfl) ?_
    refine ARun.nil ?_
    refine AWp.cond rfl (fun c2 => ?_) (fun c2 => ?_)
    · try simp only [nrm] at c2
      refine AWp.skip ?_
      refine AWp.seq ?_
      refine AWp.block ?_
      refine AWp.seq ?_
      refine AWp.seq (AWp.region ?_)
      refine ARun.step rfl (step_moveV rfl (hn rfl) rfl rfl) ?_
      refine ARun.step rfl (step_moveV rfl (hn rfl) rfl rfl) ?_
      refine ARun.step rfl (step_index_fN rfl (hn rfl) rfl yrSl62 rfl rfl (by omega)) ?_
      refine ARun.step rfl (step_loadS_f rfl (hn rfl) rfl yrSt74 rfl (hn rfl) rfl rfl) ?_
      refine ARun.step rfl (call_step1 rfl (hn rfl) rfl yrCo118 (.cons rfl (.agg (.cons (.v _) (.cons (.v _) (.cons (.v _) (.cons (.v _) (.cons (.v _) (.cons (.v _) (.cons (.v _) (.cons (.v _) .nil))))))))) (.nil)) (phaseOkS _) rfl) ?_
      refine ARun.step rfl (step_not rfl (hn rfl) rfl rfl) ?_
      refine ARun.step rfl (step_moveV rfl (hn rfl) rfl rfl) ?_
      refine guardS rfl rfl rfl rfl (hn rfl) (fun g1 g2 => step_moveV rfl (hn rfl) rfl rfl) ?_
      refine guardS rfl rfl rfl rfl (hn rfl) (fun g1 g2 => step_moveV rfl (hn rfl) rfl rfl) ?_
      refine guardS rfl rfl rfl rfl (hn rfl) (fun g1 g2 => step_moveV rfl (hn rfl) rfl rfl) ?_
      refine guardS rfl rfl rfl rfl (hn rfl) (fun g1 g2 => step_index_fN rfl (hn rfl) rfl yrSl62 (ev_true rfl (by exact flag2 g1 g2)) (ev_true rfl (by exact flag2 g1 g2)) (by first | omega | (have := of_decide_eq_true g2; omega) | (have := of_decide_eq_false g2; omega) | (simp only [nrm] at g2; omega) | (simp only [nrm, Bool.true_and] at g1 g2; omega))) ?_
      refine guardS rfl rfl rfl rfl (hn rfl) (fun g1 g2 => step_field_f rfl (hn rfl) rfl yrFo74_0 (ev_true rfl (by exact flag2 g1 g2))) ?_
      refine guardS rfl rfl rfl rfl (hn rfl) (fun g1 g2 => step_load_f rfl (hn rfl) rfl yrSc9 (ev_true rfl (by exact flag2 g1 g2)) (hn rfl) rfl) ?_
      refine guardS rfl rfl rfl rfl (hn rfl) (fun g1 g2 => call_step1 rfl (hn rfl) rfl yrCo115 (.cons (ev_true rfl (by exact flag2 g1 g2)) (.one (.v _)) (.cons (ev_true rfl (by exact flag2 g1 g2)) (.one (.v _)) (.nil))) (l42At _ _) rfl) ?_
      refine guardS rfl rfl rfl rfl (hn rfl) (fun g1 g2 => step_moveV rfl (hn rfl) rfl rfl) ?_
      refine guardS rfl rfl rfl rfl (hn rfl) (fun g1 g2 => step_neq rfl (hn rfl) rfl (ev_true rfl (by exact flag2 g1 g2)) (ev_true rfl (by exact flag2 g1 g2))) ?_
      refine ARun.step rfl (step_or rfl (hn rfl) rfl rfl rfl (fun h => (by exact flag1 h))) ?_
      refine ARun.nil ?_
      refine AWp.cond rfl (fun c3 => ?_) (fun c3 => ?_)
      · try simp only [nrm] at c3
        refine AWp.seq (AWp.region ?_)
        refine ARun.step rfl (step_assignV rfl (hn rfl) rfl rfl) ?_
        refine ARun.nil ?_
        refine AWp.ret ?_
        refine RetIs.sc (.inr rfl) rfl rfl ?_
        refine congrArg T.bool ?_
        rw [recOk_eq, all_not (i := i) (by omega) (by simp only [okAt, refOk]; grind), Bool.and_false]
      · try simp only [nrm] at c3
        refine AWp.skip ?_
        refine AWp.seq (AWp.region ?_)
        refine ARun.step rfl (step_moveV rfl (hn rfl) rfl rfl) ?_
        refine ARun.step rfl (step_moveV rfl (hn rfl) rfl rfl) ?_
        refine ARun.step rfl (step_index_fN rfl (hn rfl) rfl yrSl62 rfl rfl (by omega)) ?_
        refine ARun.step rfl (step_field_f rfl (hn rfl) rfl yrFo74_6 rfl) ?_
        refine ARun.step rfl (step_load_f rfl (hn rfl) rfl yrSc9 rfl (hn rfl) rfl) ?_
        refine ARun.step rfl (call_step1 rfl (hn rfl) rfl yrCo119 (.cons rfl (.one (.v _)) (.nil)) (RecEndS _) rfl) ?_
        refine ARun.step rfl (step_eql rfl (hn rfl) rfl rfl rfl) ?_
        refine ARun.step rfl (step_moveV rfl (hn rfl) rfl rfl) ?_
        refine guardS rfl rfl rfl rfl (hn rfl) (fun g1 g2 => step_moveV rfl (hn rfl) rfl rfl) ?_
        refine guardS rfl rfl rfl rfl (hn rfl) (fun g1 g2 => step_moveV rfl (hn rfl) rfl rfl) ?_
        refine guardS rfl rfl rfl rfl (hn rfl) (fun g1 g2 => step_moveV rfl (hn rfl) rfl rfl) ?_
        refine guardS rfl rfl rfl rfl (hn rfl) (fun g1 g2 => step_index_fN rfl (hn rfl) rfl yrSl62 (ev_true rfl (by exact flag2 g1 g2)) (ev_true rfl (by exact flag2 g1 g2)) (by first | omega | (have := of_decide_eq_true g2; omega) | (have := of_decide_eq_false g2; omega) | (simp only [nrm] at g2; omega) | (simp only [nrm, Bool.true_and] at g1 g2; omega))) ?_
        refine guardS rfl rfl rfl rfl (hn rfl) (fun g1 g2 => step_field_f rfl (hn rfl) rfl yrFo74_6 (ev_true rfl (by exact flag2 g1 g2))) ?_
        refine guardS rfl rfl rfl rfl (hn rfl) (fun g1 g2 => step_load_f rfl (hn rfl) rfl yrSc9 (ev_true rfl (by exact flag2 g1 g2)) (hn rfl) rfl) ?_
        refine guardS rfl rfl rfl rfl (hn rfl) (fun g1 g2 => call_step1 rfl (hn rfl) rfl yrCo115 (.cons (ev_true rfl (by exact flag2 g1 g2)) (.one (.v _)) (.cons (ev_true rfl (by exact flag2 g1 g2)) (.one (.v _)) (.nil))) (l42At _ _) rfl) ?_
        refine guardS rfl rfl rfl rfl (hn rfl) (fun g1 g2 => step_moveV rfl (hn rfl) rfl rfl) ?_
        refine guardS rfl rfl rfl rfl (hn rfl) (fun g1 g2 => step_leq rfl (hn rfl) rfl (ev_true rfl (by exact flag2 g1 g2)) (ev_true rfl (by exact flag2 g1 g2))) ?_
        refine ARun.step rfl (step_and rfl (hn rfl) rfl rfl rfl (fun h => (by exact flag1 h))) ?_
        refine ARun.step rfl (step_moveV rfl (hn rfl) rfl rfl) ?_
        refine guardS rfl rfl rfl rfl (hn rfl) (fun g1 g2 => step_moveV rfl (hn rfl) rfl rfl) ?_
        refine guardS rfl rfl rfl rfl (hn rfl) (fun g1 g2 => step_moveV rfl (hn rfl) rfl rfl) ?_
        refine guardS rfl rfl rfl rfl (hn rfl) (fun g1 g2 => step_index_fN rfl (hn rfl) rfl yrSl62 (ev_true rfl (by exact flag2 g1 g2)) (ev_true rfl (by exact flag2 g1 g2)) (by first | omega | (have := of_decide_eq_true g2; omega) | (have := of_decide_eq_false g2; omega) | (simp only [nrm] at g2; omega) | (simp only [nrm, Bool.true_and] at g1 g2; omega))) ?_
        refine guardS rfl rfl rfl rfl (hn rfl) (fun g1 g2 => step_field_f rfl (hn rfl) rfl yrFo74_7 (ev_true rfl (by exact flag2 g1 g2))) ?_
        refine guardS rfl rfl rfl rfl (hn rfl) (fun g1 g2 => step_load_f rfl (hn rfl) rfl yrSc9 (ev_true rfl (by exact flag2 g1 g2)) (hn rfl) rfl) ?_
        refine guardS rfl rfl rfl rfl (hn rfl) (fun g1 g2 => call_step1 rfl (hn rfl) rfl yrCo119 (.cons (ev_true rfl (by exact flag2 g1 g2)) (.one (.v _)) (.nil)) (RecEndS _) rfl) ?_
        refine guardS rfl rfl rfl rfl (hn rfl) (fun g1 g2 => step_eql rfl (hn rfl) rfl (ev_true rfl (by exact flag2 g1 g2)) rfl) ?_
        refine guardS rfl rfl rfl rfl (hn rfl) (fun g1 g2 => step_moveV rfl (hn rfl) rfl (ev_true rfl (by exact flag2 g1 g2))) ?_
        refine guardS rfl rfl rfl rfl (hn rfl) (fun g1 g2 => step_moveV rfl (hn rfl) rfl rfl) ?_
        refine guardS rfl rfl rfl rfl (hn rfl) (fun g1 g2 => step_moveV rfl (hn rfl) rfl rfl) ?_
        refine guardS rfl rfl rfl rfl (hn rfl) (fun g1 g2 => step_moveV rfl (hn rfl) rfl rfl) ?_
        refine guardS rfl rfl rfl rfl (hn rfl) (fun g1 g2 => step_index_fN rfl (hn rfl) rfl yrSl62 (ev_true rfl (by exact flag2 g1 g2)) (ev_true rfl (by exact flag2 g1 g2)) (by first | omega | (have := of_decide_eq_true g2; omega) | (have := of_decide_eq_false g2; omega) | (simp only [nrm] at g2; omega) | (simp only [nrm, Bool.true_and] at g1 g2; omega))) ?_
        refine guardS rfl rfl rfl rfl (hn rfl) (fun g1 g2 => step_field_f rfl (hn rfl) rfl yrFo74_7 (ev_true rfl (by exact flag2 g1 g2))) ?_
        refine guardS rfl rfl rfl rfl (hn rfl) (fun g1 g2 => step_load_f rfl (hn rfl) rfl yrSc9 (ev_true rfl (by exact flag2 g1 g2)) (hn rfl) rfl) ?_
        refine guardS rfl rfl rfl rfl (hn rfl) (fun g1 g2 => call_step1 rfl (hn rfl) rfl yrCo115 (.cons (ev_true rfl (by exact flag2 g1 g2)) (.one (.v _)) (.cons (ev_true rfl (by exact flag2 g1 g2)) (.one (.v _)) (.nil))) (l42At _ _) rfl) ?_
        refine guardS rfl rfl rfl rfl (hn rfl) (fun g1 g2 => step_moveV rfl (hn rfl) rfl rfl) ?_
        refine guardS rfl rfl rfl rfl (hn rfl) (fun g1 g2 => step_leq rfl (hn rfl) rfl (ev_true rfl (by exact flag2 g1 g2)) (ev_true rfl (by exact flag2 g1 g2))) ?_
        refine guardS rfl rfl rfl rfl (hn rfl) (fun g1 g2 => step_and rfl (hn rfl) rfl (ev_true rfl (by exact flag2 g1 g2)) rfl (fun h => (by exact flag2 (by exact flag2 g1 g2) h))) ?_
        refine ARun.step rfl (step_or rfl (hn rfl) rfl rfl rfl (fun h => (by exact flag1 h))) ?_
        refine ARun.nil ?_
        refine AWp.cond rfl (fun c4 => ?_) (fun c4 => ?_)
        · try simp only [nrm] at c4
          refine AWp.seq (AWp.region ?_)
          refine ARun.step rfl (step_assignV rfl (hn rfl) rfl rfl) ?_
          refine ARun.nil ?_
          refine AWp.ret ?_
          refine RetIs.sc (.inr rfl) rfl rfl ?_
          refine congrArg T.bool ?_
          rw [recOk_eq, all_not (i := i) (by omega) (by simp only [okAt, refOk]; grind), Bool.and_false]
        · try simp only [nrm] at c4
          refine AWp.skip ?_
          refine AWp.region ?_
          refine ARun.step rfl (step_moveV rfl (hn rfl) rfl rfl) ?_
          refine ARun.step rfl (step_addI rfl (hn rfl) rfl rfl rfl (by omega) (by omega)) ?_
          refine ARun.step rfl (step_assignV rfl (hn rfl) rfl rfl) ?_
          refine ARun.nil ?_
          refine ⟨i + 1, ?_, ?_, Le.forgetR rfl ⟨rfl, rfl, trivial⟩ trivial trivial⟩
          · try dsimp only
            exact ⟨by omega, upto hall (by simp only [okAt, refOk]; grind)⟩
          · try dsimp only
            omega
    · try simp only [nrm] at c2
      refine AWp.exit ?_
      refine AWp.seq (AWp.region ?_)
      refine ARun.step rfl (step_assignV rfl (hn rfl) rfl rfl) ?_
      refine ARun.nil ?_
      refine AWp.ret ?_
      refine RetIs.sc (.inr rfl) rfl rfl ?_
      refine congrArg T.bool ?_
      rw [recOk_eq, all_of (fun j hj => hall j (by omega)), Bool.and_true, c1]
theorem recOkI (l : List Ph)  : ASpec Try.prog 113 [.one (phs 74 l)] (.one (.bool (recOk l))) := by
  refine ASpec.body Try.func113 rfl [2] rfl 65 rfl rfl rfl ?_
  refine AWp.lenLe 0 rfl (fun hl => ?_)
  refine AWp.seq (AWp.region ?_)
  refine ARun.step rfl (step_assignV rfl (hn rfl) rfl rfl) ?_
  refine ARun.nil ?_
  refine AWp.seq ?_
  refine AWp.seq (AWp.region ?_)
  refine ARun.step rfl (step_moveV rfl (hn rfl) rfl rfl) ?_
  refine ARun.step rfl (step_len_f rfl (hn rfl) rfl yrSl62 rfl) ?_
  refine ARun.step rfl (step_lss rfl (hn rfl) rfl rfl rfl) ?_
  refine ARun.step rfl (step_moveV rfl (hn rfl) rfl rfl) ?_
  refine guardS rfl rfl rfl rfl (hn rfl) (fun g1 g2 => step_moveV rfl (hn rfl) rfl rfl) ?_
  refine guardS rfl rfl rfl rfl (hn rfl) (fun g1 g2 => step_len_f rfl (hn rfl) rfl yrSl62 (ev_true rfl (by exact flag2 g1 g2))) ?_
  refine guardS rfl rfl rfl rfl (hn rfl) (fun g1 g2 => step_gtr rfl (hn rfl) rfl (ev_true rfl (by exact flag2 g1 g2)) rfl) ?_
  refine ARun.step rfl (step_or rfl (hn rfl) rfl rfl rfl (fun h => (by exact flag1 h))) ?_
  refine ARun.nil ?_
  refine AWp.cond rfl (fun c1 => ?_) (fun c1 => ?_)
  · try simp only [nrm] at c1
    refine AWp.seq (AWp.region ?_)
    refine ARun.step rfl (step_assignV rfl (hn rfl) rfl rfl) ?_
    refine ARun.nil ?_
    refine AWp.ret ?_
    refine RetIs.sc (.inr rfl) rfl rfl ?_
    refine congrArg T.bool ?_
    rw [recOk_eq, show inB l.length 1 12 = false by simp only [inB]; grind, Bool.false_and]
  · try simp only [nrm] at c1
    refine AWp.skip ?_
    refine AWp.seq ?_
    refine AWp.seq (AWp.region ?_)
    refine ARun.step rfl (step_moveV rfl (hn rfl) rfl rfl) ?_
    refine ARun.step rfl (step_len_f rfl (hn rfl) rfl yrSl62 rfl) ?_
    refine ARun.step rfl (step_moveV rfl (hn rfl) rfl rfl) ?_
    refine ARun.nil ?_
    refine AWp.block ?_
    refine AWp.loopM (fun i : Nat => mkAS 65 [(0, ⟨true, .one (.v (phs 74 l))⟩), (17, ⟨true, .one (.v (phs 74 l))⟩), (18, ⟨true, .one (.v (.int .i64 (l.length : Nat)))⟩), (19, ⟨true, .one (.v (.int .i64 (i : Nat)))⟩)] [] []) (fun i => i ≤ l.length ∧ ∀ j, j < i → (phaseOk (nth l j) && atP l (nth l j).name == j) = true) (fun i => l.length - i) 0 ?_ (Le.forgetR rfl ⟨rfl, rfl, rfl, rfl, trivial⟩ trivial trivial) ?_
    · try dsimp only
      exact ⟨by omega, by omega⟩
    rintro i ⟨hi, hall⟩
    refine AWp.seq (AWp.region ?_)
    refine ARun.step rfl (step_lss rfl (hn rfl) rfl rfl rfl) ?_
    refine ARun.nil ?_
    refine AWp.seq ?_
    refine AWp.cond rfl (fun c2 => ?_) (fun c2 => ?_)
    · try simp only [nrm] at c2
      refine AWp.skip ?_
      refine AWp.seq ?_
      refine AWp.block ?_
      refine AWp.seq (AWp.region ?_)
      refine ARun.step rfl (step_moveV rfl (hn rfl) rfl rfl) ?_
      refine ARun.step rfl (step_index_fN rfl (hn rfl) rfl yrSl62 rfl rfl (by omega)) ?_
      refine ARun.step rfl (step_loadS_f rfl (hn rfl) rfl yrSt74 rfl (hn rfl) rfl rfl) ?_
      refine ARun.step rfl (step_alloc_p rfl (hn rfl) rfl yrZs74) ?_
      refine ARun.step rfl (step_assignV rfl (hn rfl) rfl rfl) ?_
      refine ARun.step rfl (step_store_p rfl rfl yrCs74 rfl rfl rfl rfl rfl rfl rfl) ?_
      refine ARun.nil ?_
      refine AWp.seq (AWp.region ?_)
      refine ARun.step rfl (step_loadS_b rfl (hn rfl) rfl yrSt74 rfl rfl rfl (by decide)) ?_
      refine ARun.step rfl (call_step1 rfl (hn rfl) rfl yrCo141 (.cons rfl (.agg (.cons (.v _) (.cons (.v _) (.cons (.v _) (.cons (.v _) (.cons (.v _) (.cons (.v _) (.cons (.v _) (.cons (.v _) .nil))))))))) (.nil)) (phaseOkI _) rfl) ?_
      refine ARun.step rfl (step_not rfl (hn rfl) rfl rfl) ?_
      refine ARun.step rfl (step_moveV rfl (hn rfl) rfl rfl) ?_
      refine guardS rfl rfl rfl rfl (hn rfl) (fun g1 g2 => step_moveV rfl (hn rfl) rfl rfl) ?_
      refine guardS rfl rfl rfl rfl (hn rfl) (fun g1 g2 => step_field_b rfl (hn rfl) rfl yrFo74_0 rfl (by exact List.cons_ne_nil _ _)) ?_
      refine guardS rfl rfl rfl rfl (hn rfl) (fun g1 g2 => step_load_b rfl (hn rfl) rfl yrSc9 (ev_true rfl (by exact flag2 g1 g2)) rfl) ?_
      refine guardS rfl rfl rfl rfl (hn rfl) (fun g1 g2 => call_step1 rfl (hn rfl) rfl yrCo122 (.cons (ev_true rfl (by exact flag2 g1 g2)) (.one (.v _)) (.cons (ev_true rfl (by exact flag2 g1 g2)) (.one (.v _)) (.nil))) (phaseI _ _) rfl) ?_
      refine guardS rfl rfl rfl rfl (hn rfl) (fun g1 g2 => step_moveV rfl (hn rfl) rfl rfl) ?_
      refine guardS rfl rfl rfl rfl (hn rfl) (fun g1 g2 => step_neq rfl (hn rfl) rfl (ev_true rfl (by exact flag2 g1 g2)) (ev_true rfl (by exact flag2 g1 g2))) ?_
      refine ARun.step rfl (step_or rfl (hn rfl) rfl rfl rfl (fun h => (by exact flag1 h))) ?_
      refine ARun.nil ?_
      refine AWp.cond rfl (fun c3 => ?_) (fun c3 => ?_)
      · try simp only [nrm] at c3
        refine AWp.seq (AWp.region ?_)
        refine ARun.step rfl (step_assignV rfl (hn rfl) rfl rfl) ?_
        refine ARun.nil ?_
        refine AWp.ret ?_
        refine RetIs.sc (.inr rfl) rfl rfl ?_
        refine congrArg T.bool ?_
        rw [recOk_eq, all_not (i := i) (by omega) (by simp only [okAt]; grind), Bool.and_false]
      · try simp only [nrm] at c3
        refine AWp.skip ?_
        refine AWp.region ?_
        refine ARun.step rfl (step_addI rfl (hn rfl) rfl rfl rfl (by omega) (by omega)) ?_
        refine ARun.step rfl (step_moveV rfl (hn rfl) rfl rfl) ?_
        refine ARun.nil ?_
        refine ⟨i + 1, ?_, ?_, Le.forgetR rfl ⟨rfl, rfl, rfl, rfl, trivial⟩ trivial trivial⟩
        · try dsimp only
          exact ⟨by omega, upto hall (by grind)⟩
        · try dsimp only
          omega
    · try simp only [nrm] at c2
      refine AWp.exit ?_
      refine AWp.seq ?_
      refine AWp.seq (AWp.region ?_)
      refine ARun.step rfl (step_moveV rfl (hn rfl) rfl rfl) ?_
      refine ARun.step rfl (step_len_f rfl (hn rfl) rfl yrSl62 rfl) ?_
      refine ARun.step rfl (step_moveV rfl (hn rfl) rfl rfl) ?_
      refine ARun.nil ?_
      refine AWp.block ?_
      refine AWp.loopM (fun i : Nat => mkAS 65 [(0, ⟨true, .one (.v (phs 74 l))⟩), (36, ⟨true, .one (.v (phs 74 l))⟩), (37, ⟨true, .one (.v (.int .i64 (l.length : Nat)))⟩), (38, ⟨true, .one (.v (.int .i64 (i : Nat)))⟩)] [] []) (fun i => i ≤ l.length ∧ ∀ j, j < i → (refOk l j (nth l j).thn && refOk l j (nth l j).els) = true) (fun i => l.length - i) 0 ?_ (Le.forgetR rfl ⟨rfl, rfl, rfl, rfl, trivial⟩ trivial trivial) ?_
      · try dsimp only
        exact ⟨by omega, by omega⟩
      rintro i ⟨hi2, hall2⟩
      refine AWp.seq (AWp.region ?_)
      refine ARun.step rfl (step_lss rfl (hn rfl) rfl rfl rfl) ?_
      refine ARun.nil ?_
      refine AWp.seq ?_
      refine AWp.cond rfl (fun c4 => ?_) (fun c4 => ?_)
      · try simp only [nrm] at c4
        refine AWp.skip ?_
        refine AWp.seq ?_
        refine AWp.block ?_
        refine AWp.seq (AWp.region ?_)
        refine ARun.step rfl (step_moveV rfl (hn rfl) rfl rfl) ?_
        refine ARun.step rfl (step_index_fN rfl (hn rfl) rfl yrSl62 rfl rfl (by omega)) ?_
        refine ARun.step rfl (step_loadS_f rfl (hn rfl) rfl yrSt74 rfl (hn rfl) rfl rfl) ?_
        refine ARun.step rfl (step_alloc_p rfl (hn rfl) rfl yrZs74) ?_
        refine ARun.step rfl (step_assignV rfl (hn rfl) rfl rfl) ?_
        refine ARun.step rfl (step_store_p rfl rfl yrCs74 rfl rfl rfl rfl rfl rfl rfl) ?_
        refine ARun.nil ?_
        refine AWp.seq (AWp.region ?_)
        refine ARun.step rfl (step_field_b rfl (hn rfl) rfl yrFo74_6 rfl (by exact List.cons_ne_nil _ _)) ?_
        refine ARun.step rfl (step_load_b rfl (hn rfl) rfl yrSc9 rfl rfl) ?_
        refine ARun.step rfl (step_field_b rfl (hn rfl) rfl yrFo74_7 rfl (by exact List.cons_ne_nil _ _)) ?_
        refine ARun.step rfl (step_load_b rfl (hn rfl) rfl yrSc9 rfl rfl) ?_
        refine ARun.step rfl (step_buildSlice rfl (hn rfl) (ps := [(0, .tmp 44), (1, .tmp 46)]) rfl yrSl22 rfl rfl (by simp) (by intro q hq; simp only [List.mem_cons, List.not_mem_nil, or_false] at hq; rcases hq with rfl | rfl <;> exact ⟨rfl, rfl, by intro c hc; cases hc; rfl⟩) rfl) ?_
        refine ARun.step rfl (step_len_r rfl (hn rfl) rfl yrSl22 rfl rfl) ?_
        refine ARun.step rfl (step_moveV rfl (hn rfl) rfl rfl) ?_
        refine ARun.nil ?_
        refine AWp.block ?_
        refine AWp.loopM (fun q : Nat => mkAS 65 [(0, ⟨true, .one (.v (phs 74 l))⟩), (5, ⟨true, .one (.v (.int .i64 (i : Nat)))⟩), (36, ⟨true, .one (.v (phs 74 l))⟩), (37, ⟨true, .one (.v (.int .i64 (l.length : Nat)))⟩), (38, ⟨true, .one (.v (.int .i64 (i : Nat)))⟩), (47, ⟨true, .one (.ref ⟨.arr 47 0, []⟩)⟩), (48, ⟨true, .one (.v (.int .i64 2))⟩), (49, ⟨true, .one (.v (.int .i64 (q : Nat)))⟩)] [] [(47, 0, .sl 9 1 2 (fun q => [.str (nth [(nth l i).thn, (nth l i).els] q)]))]) (fun q => q ≤ 2 ∧ ∀ r, r < q → refOk l i (nth [(nth l i).thn, (nth l i).els] r) = true) (fun q => 2 - q) 0 ?_ (Le.forgetR rfl ⟨rfl, rfl, rfl, rfl, rfl, rfl, rfl, rfl, trivial⟩ trivial ⟨.rows (fun q hq => match q, hq with | 0, _ => rfl | 1, _ => rfl), trivial⟩) ?_
        · try dsimp only
          exact ⟨by omega, by omega⟩
        rintro q ⟨hi3, hall3⟩
        refine AWp.seq (AWp.region ?_)
        refine ARun.step rfl (step_lss rfl (hn rfl) rfl rfl rfl) ?_
        refine ARun.nil ?_
        refine AWp.seq ?_
        refine AWp.cond rfl (fun c5 => ?_) (fun c5 => ?_)
        · try simp only [nrm] at c5
          refine AWp.skip ?_
          refine AWp.seq ?_
          refine AWp.block ?_
          refine AWp.seq (AWp.region ?_)
          refine ARun.step rfl (step_index_rN rfl (hn rfl) rfl yrSl22 rfl rfl rfl (by omega)) ?_
          refine ARun.step rfl (step_load_e rfl (hn rfl) rfl yrSc9 rfl rfl (by omega) (hn rfl) rfl) ?_
          refine ARun.step rfl (step_assignV rfl (hn rfl) rfl rfl) ?_
          refine ARun.nil ?_
          refine AWp.seq (AWp.region ?_)
          refine ARun.step rfl (step_moveV rfl (hn rfl) rfl rfl) ?_
          refine ARun.step rfl (call_step1 rfl (hn rfl) rfl yrCo61 (.cons rfl (.one (.v _)) (.nil)) (RecEndI _) rfl) ?_
          refine ARun.step rfl (step_eql rfl (hn rfl) rfl rfl rfl) ?_
          refine ARun.step rfl (step_moveV rfl (hn rfl) rfl rfl) ?_
          refine guardS rfl rfl rfl rfl (hn rfl) (fun g1 g2 => step_moveV rfl (hn rfl) rfl rfl) ?_
          refine guardS rfl rfl rfl rfl (hn rfl) (fun g1 g2 => step_moveV rfl (hn rfl) rfl rfl) ?_
          refine guardS rfl rfl rfl rfl (hn rfl) (fun g1 g2 => call_step1 rfl (hn rfl) rfl yrCo122 (.cons (ev_true rfl (by exact flag2 g1 g2)) (.one (.v _)) (.cons (ev_true rfl (by exact flag2 g1 g2)) (.one (.v _)) (.nil))) (phaseI _ _) rfl) ?_
          refine guardS rfl rfl rfl rfl (hn rfl) (fun g1 g2 => step_moveV rfl (hn rfl) rfl rfl) ?_
          refine guardS rfl rfl rfl rfl (hn rfl) (fun g1 g2 => step_leq rfl (hn rfl) rfl (ev_true rfl (by exact flag2 g1 g2)) (ev_true rfl (by exact flag2 g1 g2))) ?_
          refine ARun.step rfl (step_and rfl (hn rfl) rfl rfl rfl (fun h => (by exact flag1 h))) ?_
          refine ARun.nil ?_
          refine AWp.cond rfl (fun c6 => ?_) (fun c6 => ?_)
          · try simp only [nrm] at c6
            refine AWp.seq (AWp.region ?_)
            refine ARun.step rfl (step_assignV rfl (hn rfl) rfl rfl) ?_
            refine ARun.nil ?_
            refine AWp.ret ?_
            refine RetIs.sc (.inr rfl) rfl rfl ?_
            refine congrArg T.bool ?_
            rw [recOk_eq, all_not (i := i) (by omega) (okAt_two hi3 (q := q) (by omega) (by simp only [refOk]; grind)), Bool.and_false]
          · try simp only [nrm] at c6
            refine AWp.skip ?_
            refine AWp.region ?_
            refine ARun.step rfl (step_addI rfl (hn rfl) rfl rfl rfl (by omega) (by omega)) ?_
            refine ARun.step rfl (step_moveV rfl (hn rfl) rfl rfl) ?_
            refine ARun.nil ?_
            refine ⟨q + 1, ?_, ?_, Le.forgetR rfl ⟨rfl, rfl, rfl, rfl, rfl, rfl, rfl, rfl, trivial⟩ trivial ⟨.refl _, trivial⟩⟩
            · try dsimp only
              exact ⟨by omega, upto hall3 (by simp only [refOk]; grind)⟩
            · try dsimp only
              omega
        · try simp only [nrm] at c5
          refine AWp.exit ?_
          refine AWp.region ?_
          refine ARun.step rfl (step_addI rfl (hn rfl) rfl rfl rfl (by omega) (by omega)) ?_
          refine ARun.step rfl (step_moveV rfl (hn rfl) rfl rfl) ?_
          refine ARun.nil ?_
          refine ⟨i + 1, ?_, ?_, Le.forgetR rfl ⟨rfl, rfl, rfl, rfl, trivial⟩ trivial trivial⟩
          · try dsimp only
            exact ⟨by omega, upto hall2 (by have e0 := hall3 0 (by omega); have e1 := hall3 1 (by omega); exact Bool.and_eq_true_iff.2 ⟨e0, e1⟩)⟩
          · try dsimp only
            omega
      · try simp only [nrm] at c4
        refine AWp.exit ?_
        refine AWp.seq (AWp.region ?_)
        refine ARun.step rfl (step_assignV rfl (hn rfl) rfl rfl) ?_
        refine ARun.nil ?_
        refine AWp.ret ?_
        refine RetIs.sc (.inr rfl) rfl rfl ?_
        refine congrArg T.bool ?_
        rw [recOk_eq, all_of (fun j hj => by have e0 := hall j (by omega); have e1 := hall2 j (by omega); simp only [okAt]; grind), Bool.and_true, show inB l.length 1 12 = true by simp only [inB]; grind]
theorem rcanI0 (l : List Ph) (o : Int) (n : Nat) (s : Str) (h : recOk l = true) (hr : rank l s < n + 1) (ih : ∀ s, rank l s < n → ASpec Try.prog 120 [.one (phs 74 l), .one (.str s), .one (.int .i64 o)] (.one (.bool (canG l o n s)))) : ASpec Try.prog 120 [.one (phs 74 l), .one (.str s), .one (.int .i64 o)] (.one (.bool (canG l o (n + 1) s))) := by
  refine ASpec.body Try.func120 rfl [6] rfl 35 rfl rfl rfl ?_
  have ha := atP_lt l s
  refine AWp.seq (AWp.region ?_)
  refine ARun.step rfl (step_assignV rfl (hn rfl) rfl rfl) ?_
  refine ARun.nil ?_
  refine AWp.seq (AWp.region ?_)
  refine ARun.step rfl (step_moveV rfl (hn rfl) rfl rfl) ?_
  refine ARun.step rfl (step_moveV rfl (hn rfl) rfl rfl) ?_
  refine ARun.step rfl (call_step1 rfl (hn rfl) rfl yrCo122 (.cons rfl (.one (.v _)) (.cons rfl (.one (.v _)) (.nil))) (phaseI _ _) rfl) ?_
  refine ARun.step rfl (step_assignV rfl (hn rfl) rfl rfl) ?_
  refine ARun.nil ?_
  refine AWp.seq ?_
  refine AWp.seq (AWp.region ?_)
  refine ARun.step rfl (step_moveV rfl (hn rfl) rfl rfl) ?_
  refine ARun.step rfl (step_lss rfl (hn rfl) rfl rfl rfl) ?_
  refine ARun.nil ?_
  refine AWp.cond rfl (fun c1 => ?_) (fun c1 => ?_)
  · try simp only [nrm] at c1
    refine AWp.seq (AWp.region ?_)
    refine ARun.step rfl (step_moveV rfl (hn rfl) rfl rfl) ?_
    refine ARun.step rfl (call_step1 rfl (hn rfl) rfl yrCo61 (.cons rfl (.one (.v _)) (.nil)) (RecEndI _) rfl) ?_
    refine ARun.step rfl (step_moveV rfl (hn rfl) rfl rfl) ?_
    refine ARun.step rfl (step_eql rfl (hn rfl) rfl rfl rfl) ?_
    refine ARun.step rfl (step_assignV rfl (hn rfl) rfl rfl) ?_
    refine ARun.nil ?_
    refine AWp.ret ?_
    refine RetIs.sc (.inr rfl) rfl rfl ?_
    refine congrArg T.bool ?_
    rw [canG, if_pos (by omega)]
  · try simp only [nrm] at c1
    refine AWp.skip ?_
    refine AWp.seq (AWp.region ?_)
    refine ARun.step rfl (step_moveV rfl (hn rfl) rfl rfl) ?_
    refine ARun.step rfl (step_moveV rfl (hn rfl) rfl rfl) ?_
    refine ARun.step rfl (step_moveV rfl (hn rfl) rfl rfl) ?_
    refine ARun.step rfl (step_index_f rfl (hn rfl) rfl yrSl62 rfl rfl (by omega) (by omega)) ?_
    refine ARun.step rfl (step_field_f rfl (hn rfl) rfl yrFo74_6 rfl) ?_
    refine ARun.step rfl (step_load_f rfl (hn rfl) rfl yrSc9 rfl (hn rfl) rfl) ?_
    refine ARun.step rfl (step_moveV rfl (hn rfl) rfl rfl) ?_
    refine ARun.step rfl (call_step1 rfl (hn rfl) rfl yrCo120 (.cons rfl (.one (.v _)) (.cons rfl (.one (.v _)) (.cons rfl (.one (.v _)) (.nil)))) (ih _ (by have := (rank_thn (s := s) h (by omega)).1; omega)) rfl) ?_
    refine ARun.step rfl (step_moveV rfl (hn rfl) rfl rfl) ?_
    refine guardS rfl rfl rfl rfl (hn rfl) (fun g1 g2 => step_moveV rfl (hn rfl) rfl rfl) ?_
    refine guardS rfl rfl rfl rfl (hn rfl) (fun g1 g2 => step_moveV rfl (hn rfl) rfl rfl) ?_
    refine guardS rfl rfl rfl rfl (hn rfl) (fun g1 g2 => step_moveV rfl (hn rfl) rfl rfl) ?_
    refine guardS rfl rfl rfl rfl (hn rfl) (fun g1 g2 => step_index_f rfl (hn rfl) rfl yrSl62 (ev_true rfl (by exact flag2 g1 g2)) (ev_true rfl (by exact flag2 g1 g2)) (by first | omega | (have := of_decide_eq_true g2; omega) | (have := of_decide_eq_false g2; omega) | (simp only [nrm] at g2; omega) | (simp only [nrm, Bool.true_and] at g1 g2; omega)) (by first | omega | (have := of_decide_eq_true g2; omega) | (have := of_decide_eq_false g2; omega) | (simp only [nrm] at g2; omega) | (simp only [nrm, Bool.true_and] at g1 g2; omega))) ?_
    refine guardS rfl rfl rfl rfl (hn rfl) (fun g1 g2 => step_field_f rfl (hn rfl) rfl yrFo74_7 (ev_true rfl (by exact flag2 g1 g2))) ?_
    refine guardS rfl rfl rfl rfl (hn rfl) (fun g1 g2 => step_load_f rfl (hn rfl) rfl yrSc9 (ev_true rfl (by exact flag2 g1 g2)) (hn rfl) rfl) ?_
    refine guardS rfl rfl rfl rfl (hn rfl) (fun g1 g2 => step_moveV rfl (hn rfl) rfl rfl) ?_
    refine guardS rfl rfl rfl rfl (hn rfl) (fun g1 g2 => call_step1 rfl (hn rfl) rfl yrCo120 (.cons (ev_true rfl (by exact flag2 g1 g2)) (.one (.v _)) (.cons (ev_true rfl (by exact flag2 g1 g2)) (.one (.v _)) (.cons (ev_true rfl (by exact flag2 g1 g2)) (.one (.v _)) (.nil)))) (ih _ (by have := (rank_thn (s := s) h (by omega)).2; omega)) rfl) ?_
    refine ARun.step rfl (step_or rfl (hn rfl) rfl rfl rfl (fun h => (by exact flag1 h))) ?_
    refine ARun.step rfl (step_assignV rfl (hn rfl) rfl rfl) ?_
    refine ARun.nil ?_
    refine AWp.ret ?_
    refine RetIs.sc (.inr rfl) rfl rfl ?_
    refine congrArg T.bool ?_
    rw [canG, if_neg (by omega)]
theorem rcanI (l : List Ph) (o : Int) (h : recOk l = true) : ∀ (n : Nat) (s : Str), rank l s < n → ASpec Try.prog 120 [.one (phs 74 l), .one (.str s), .one (.int .i64 o)] (.one (.bool (canG l o n s)))
  | 0, s, hr => by omega
  | n + 1, s, hr => rcanI0 l o n s h hr (rcanI l o h n)
theorem recCanI (l : List Ph) (s : Str) (o : Int)  : ASpec Try.prog 62 [.one (phs 74 l), .one (.str s), .one (.int .i64 o)] (.one (.bool (recCan l s o))) := by
  refine ASpec.body Try.func62 rfl [6] rfl 23 rfl rfl rfl ?_
  refine AWp.seq (AWp.region ?_)
  refine ARun.step rfl (step_assignV rfl (hn rfl) rfl rfl) ?_
  refine ARun.nil ?_
  refine AWp.seq (AWp.region ?_)
  refine ARun.step rfl (step_moveV rfl (hn rfl) rfl rfl) ?_
  refine ARun.step rfl (step_geq rfl (hn rfl) rfl rfl rfl) ?_
  refine ARun.step rfl (step_moveV rfl (hn rfl) rfl rfl) ?_
  refine guardS rfl rfl rfl rfl (hn rfl) (fun g1 g2 => step_moveV rfl (hn rfl) rfl rfl) ?_
  refine guardS rfl rfl rfl rfl (hn rfl) (fun g1 g2 => step_leq rfl (hn rfl) rfl (ev_true rfl (by exact flag2 g1 g2)) rfl) ?_
  refine ARun.step rfl (step_and rfl (hn rfl) rfl rfl rfl (fun h => (by exact flag1 h))) ?_
  refine ARun.step rfl (step_moveV rfl (hn rfl) rfl rfl) ?_
  refine guardS rfl rfl rfl rfl (hn rfl) (fun g1 g2 => step_moveV rfl (hn rfl) rfl rfl) ?_
  refine guardS rfl rfl rfl rfl (hn rfl) (fun g1 g2 => call_step1 rfl (hn rfl) rfl yrCo113 (.cons (ev_true rfl (by exact flag2 g1 g2)) (.one (.v _)) (.nil)) (recOkI _) rfl) ?_
  refine ARun.step rfl (step_and rfl (hn rfl) rfl rfl rfl (fun h => (by exact flag1 h))) ?_
  refine ARun.step rfl (step_moveV rfl (hn rfl) rfl rfl) ?_
  refine guardS rfl rfl rfl rfl (hn rfl) (fun g1 g2 => step_moveV rfl (hn rfl) rfl rfl) ?_
  refine guardS rfl rfl rfl rfl (hn rfl) (fun g1 g2 => step_moveV rfl (hn rfl) rfl rfl) ?_
  refine guardS rfl rfl rfl rfl (hn rfl) (fun g1 g2 => step_moveV rfl (hn rfl) rfl rfl) ?_
  refine guardS rfl rfl rfl rfl (hn rfl) (fun g1 g2 => call_step1 rfl (hn rfl) rfl yrCo120 (.cons (ev_true rfl (by exact flag2 g1 g2)) (.one (.v _)) (.cons (ev_true rfl (by exact flag2 g1 g2)) (.one (.v _)) (.cons (ev_true rfl (by exact flag2 g1 g2)) (.one (.v _)) (.nil)))) (rcanI l _ (Bool.and_eq_true_iff.1 g2).2 (l.length + 1) _ (rank_le _ _)) rfl) ?_
  refine ARun.step rfl (step_and rfl (hn rfl) rfl rfl rfl (fun h => (by exact flag1 h))) ?_
  refine ARun.step rfl (step_assignV rfl (hn rfl) rfl rfl) ?_
  refine ARun.nil ?_
  refine AWp.ret ?_
  refine RetIs.sc (.inr rfl) rfl rfl ?_
  refine congrArg T.bool ?_
  rw [recCan, Bool.and_comm (recOk l)]; rfl

end Go.Proofs.Ytkmacjdigkaabaa
