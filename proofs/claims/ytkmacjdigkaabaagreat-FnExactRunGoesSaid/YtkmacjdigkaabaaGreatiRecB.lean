/- Contracts of functions of the program, each met by its body; conditions stand in each statement. No condition. -/
import Derived.Test.YtkmacjdigkaabaaGreatiBase
import Derived.Test.YtkmacjdigkaabaaGreatProg
import Derived.KernelRfl
set_option linter.unusedVariables false
set_option linter.unusedSimpArgs false
set_option linter.unnecessarySimpa false
set_option linter.unusedSimpArgs false
set_option maxRecDepth 100000
namespace Go.Proofs.YtkmacjdigkaabaaGreat
open Go Go.Mh

theorem yrUs9 : Tryz.prog.underlying 9 = some .string := by kernel_rfl
theorem yrCo106 : callOk Tryz.prog 106 = true := by kernel_rfl
theorem yrCo102 : callOk Tryz.prog 102 = true := by kernel_rfl
theorem yrCo161 : callOk Tryz.prog 161 = true := by kernel_rfl
theorem yrFo68_1 : fieldOff Tryz.prog 68 1 = some 1 := by kernel_rfl
theorem yrSc3 : scalarB Tryz.prog 3 = true := by kernel_rfl
theorem yrFo68_2 : fieldOff Tryz.prog 68 2 = some 2 := by kernel_rfl
theorem yrSc9 : scalarB Tryz.prog 9 = true := by kernel_rfl
theorem yrFo68_3 : fieldOff Tryz.prog 68 3 = some 3 := by kernel_rfl
theorem yrFo68_4 : fieldOff Tryz.prog 68 4 = some 4 := by kernel_rfl
theorem yrFo68_5 : fieldOff Tryz.prog 68 5 = some 5 := by kernel_rfl
theorem yrFo68_0 : fieldOff Tryz.prog 68 0 = some 0 := by kernel_rfl
theorem yrCo211 : callOk Tryz.prog 211 = true := by kernel_rfl
theorem yrSt68 : structSz Tryz.prog 68 = some 8 := by kernel_rfl
theorem yrCo212 : callOk Tryz.prog 212 = true := by kernel_rfl
theorem yrFo68_6 : fieldOff Tryz.prog 68 6 = some 6 := by kernel_rfl
theorem yrFo68_7 : fieldOff Tryz.prog 68 7 = some 7 := by kernel_rfl
theorem yrCo67 : callOk Tryz.prog 67 = true := by kernel_rfl
theorem yrCo159 : callOk Tryz.prog 159 = true := by kernel_rfl
theorem yrSl59 : sliceT Tryz.prog 59 = some ⟨68, 8, 104⟩ := by kernel_rfl
theorem yrZs68 : zeroSz Tryz.prog 68 = some 8 := by kernel_rfl
theorem yrCs68 : cellsSz Tryz.prog 68 = some (7 + 1) := by kernel_rfl
theorem yrFo229_0 : fieldOff Tryz.prog 229 0 = some 0 := by kernel_rfl
theorem yrFo229_2 : fieldOff Tryz.prog 229 2 = some 2 := by kernel_rfl
theorem yrFo229_3 : fieldOff Tryz.prog 229 3 = some 3 := by kernel_rfl
theorem yrFo229_6 : fieldOff Tryz.prog 229 6 = some 6 := by kernel_rfl
theorem yrFo229_7 : fieldOff Tryz.prog 229 7 = some 7 := by kernel_rfl
theorem yrSl138 : sliceT Tryz.prog 138 = some ⟨229, 8, 104⟩ := by kernel_rfl
theorem yrSt229 : structSz Tryz.prog 229 = some 8 := by kernel_rfl
theorem yrCo220 : callOk Tryz.prog 220 = true := by kernel_rfl
theorem yrCo160 : callOk Tryz.prog 160 = true := by kernel_rfl
theorem yrCo105 : callOk Tryz.prog 105 = true := by kernel_rfl
theorem yrCo158 : callOk Tryz.prog 158 = true := by kernel_rfl
theorem yrCo101 : callOk Tryz.prog 101 = true := by kernel_rfl
theorem yrSl22 : sliceT Tryz.prog 22 = some ⟨9, 1, 16⟩ := by kernel_rfl
theorem RecEndI (s : Str)  : ASpec Tryz.prog 159 [.one (.str s)] (.one (.int .i64 (recEnd s))) := by
  refine ASpec.body Tryz.func159 rfl [2] rfl 10 rfl rfl rfl ?_
  refine AWp.seq (AWp.region ?_)
  refine ARun.step rfl (step_assignV rfl (hn rfl) rfl rfl) ?_
  refine ARun.nil ?_
  refine AWp.seq ?_
  refine AWp.seq (AWp.region ?_)
  refine ARun.step rfl (step_moveV rfl (hn rfl) rfl rfl) ?_
  refine ARun.nil ?_
  refine AWp.block ?_
  refine AWp.seq (AWp.region ?_)
  refine ARun.step rfl (step_seql rfl (hn rfl) rfl rfl rfl) ?_
  refine ARun.step rfl (step_assignV rfl (hn rfl) rfl rfl) ?_
  refine ARun.nil ?_
  refine AWp.cond rfl (fun c1 => ?_) (fun c1 => ?_)
  · try simp only [nrm] at c1
    refine AWp.seq (AWp.region ?_)
    refine ARun.step rfl (step_assignV rfl (hn rfl) rfl rfl) ?_
    refine ARun.nil ?_
    refine AWp.ret ?_
    refine RetIs.sc (.inr rfl) rfl rfl ?_
    refine congrArg (T.int _) ?_
    simp [recEnd, *]
  · try simp only [nrm] at c1
    refine AWp.seq (AWp.region ?_)
    refine ARun.step rfl (step_seql rfl (hn rfl) rfl rfl rfl) ?_
    refine ARun.step rfl (step_assignV rfl (hn rfl) rfl rfl) ?_
    refine ARun.nil ?_
    refine AWp.cond rfl (fun c2 => ?_) (fun c2 => ?_)
    · try simp only [nrm] at c2
      refine AWp.seq (AWp.region ?_)
      refine ARun.step rfl (step_assignV rfl (hn rfl) rfl rfl) ?_
      refine ARun.nil ?_
      refine AWp.ret ?_
      refine RetIs.sc (.inr rfl) rfl rfl ?_
      refine congrArg (T.int _) ?_
      simp [recEnd, *]
    · try simp only [nrm] at c2
      refine AWp.seq (AWp.region ?_)
      refine ARun.step rfl (step_seql rfl (hn rfl) rfl rfl rfl) ?_
      refine ARun.step rfl (step_assignV rfl (hn rfl) rfl rfl) ?_
      refine ARun.nil ?_
      refine AWp.cond rfl (fun c3 => ?_) (fun c3 => ?_)
      · try simp only [nrm] at c3
        refine AWp.seq (AWp.region ?_)
        refine ARun.step rfl (step_assignV rfl (hn rfl) rfl rfl) ?_
        refine ARun.nil ?_
        refine AWp.ret ?_
        refine RetIs.sc (.inr rfl) rfl rfl ?_
        refine congrArg (T.int _) ?_
        simp [recEnd, *]
      · try simp only [nrm] at c3
        refine AWp.skip ?_
        refine AWp.seq (AWp.region ?_)
        refine ARun.step rfl (step_assignV rfl (hn rfl) rfl rfl) ?_
        refine ARun.nil ?_
        refine AWp.ret ?_
        refine RetIs.sc (.inr rfl) rfl rfl ?_
        refine congrArg (T.int _) ?_
        simp [recEnd, *]
theorem RecEndS (s : Str)  : ASpec Tryz.prog 161 [.one (.str s)] (.one (.int .i64 (recEnd s))) := by
  refine ASpec.body Tryz.func161 rfl [2] rfl 10 rfl rfl rfl ?_
  refine AWp.seq (AWp.region ?_)
  refine ARun.step rfl (step_assignV rfl (hn rfl) rfl rfl) ?_
  refine ARun.nil ?_
  refine AWp.seq ?_
  refine AWp.seq (AWp.region ?_)
  refine ARun.step rfl (step_moveV rfl (hn rfl) rfl rfl) ?_
  refine ARun.nil ?_
  refine AWp.block ?_
  refine AWp.seq (AWp.region ?_)
  refine ARun.step rfl (step_seql rfl (hn rfl) rfl rfl rfl) ?_
  refine ARun.step rfl (step_assignV rfl (hn rfl) rfl rfl) ?_
  refine ARun.nil ?_
  refine AWp.cond rfl (fun c1 => ?_) (fun c1 => ?_)
  · try simp only [nrm] at c1
    refine AWp.seq (AWp.region ?_)
    refine ARun.step rfl (step_assignV rfl (hn rfl) rfl rfl) ?_
    refine ARun.nil ?_
    refine AWp.ret ?_
    refine RetIs.sc (.inr rfl) rfl rfl ?_
    refine congrArg (T.int _) ?_
    simp [recEnd, *]
  · try simp only [nrm] at c1
    refine AWp.seq (AWp.region ?_)
    refine ARun.step rfl (step_seql rfl (hn rfl) rfl rfl rfl) ?_
    refine ARun.step rfl (step_assignV rfl (hn rfl) rfl rfl) ?_
    refine ARun.nil ?_
    refine AWp.cond rfl (fun c2 => ?_) (fun c2 => ?_)
    · try simp only [nrm] at c2
      refine AWp.seq (AWp.region ?_)
      refine ARun.step rfl (step_assignV rfl (hn rfl) rfl rfl) ?_
      refine ARun.nil ?_
      refine AWp.ret ?_
      refine RetIs.sc (.inr rfl) rfl rfl ?_
      refine congrArg (T.int _) ?_
      simp [recEnd, *]
    · try simp only [nrm] at c2
      refine AWp.seq (AWp.region ?_)
      refine ARun.step rfl (step_seql rfl (hn rfl) rfl rfl rfl) ?_
      refine ARun.step rfl (step_assignV rfl (hn rfl) rfl rfl) ?_
      refine ARun.nil ?_
      refine AWp.cond rfl (fun c3 => ?_) (fun c3 => ?_)
      · try simp only [nrm] at c3
        refine AWp.seq (AWp.region ?_)
        refine ARun.step rfl (step_assignV rfl (hn rfl) rfl rfl) ?_
        refine ARun.nil ?_
        refine AWp.ret ?_
        refine RetIs.sc (.inr rfl) rfl rfl ?_
        refine congrArg (T.int _) ?_
        simp [recEnd, *]
      · try simp only [nrm] at c3
        refine AWp.skip ?_
        refine AWp.seq (AWp.region ?_)
        refine ARun.step rfl (step_assignV rfl (hn rfl) rfl rfl) ?_
        refine ARun.nil ?_
        refine AWp.ret ?_
        refine RetIs.sc (.inr rfl) rfl rfl ?_
        refine congrArg (T.int _) ?_
        simp [recEnd, *]
theorem l41In (x a b : Int)  : ASpec Tryz.prog 106 [.one (.int .i64 x), .one (.int .i64 a), .one (.int .i64 b)] (.one (.bool (inB x a b))) := by
  refine ASpec.body Tryz.func106 rfl [6] rfl 15 rfl rfl rfl ?_
  refine AWp.seq (AWp.region ?_)
  refine ARun.step rfl (step_assignV rfl (hn rfl) rfl rfl) ?_
  refine ARun.nil ?_
  refine AWp.seq (AWp.region ?_)
  refine ARun.step rfl (step_moveV rfl (hn rfl) rfl rfl) ?_
  refine ARun.step rfl (step_moveV rfl (hn rfl) rfl rfl) ?_
  refine ARun.step rfl (step_geq rfl (hn rfl) rfl rfl rfl) ?_
  refine ARun.step rfl (step_moveV rfl (hn rfl) rfl rfl) ?_
  refine guardS rfl rfl rfl rfl (hn rfl) (fun g1 g2 => step_moveV rfl (hn rfl) rfl rfl) ?_
  refine guardS rfl rfl rfl rfl (hn rfl) (fun g1 g2 => step_moveV rfl (hn rfl) rfl rfl) ?_
  refine guardS rfl rfl rfl rfl (hn rfl) (fun g1 g2 => step_leq rfl (hn rfl) rfl (ev_true rfl (by exact flag2 g1 g2)) (ev_true rfl (by exact flag2 g1 g2))) ?_
  refine ARun.step rfl (step_and rfl (hn rfl) rfl rfl rfl (fun h => (by exact flag1 h))) ?_
  refine ARun.step rfl (step_assignV rfl (hn rfl) rfl rfl) ?_
  refine ARun.nil ?_
  refine AWp.ret ?_
  refine RetIs.sc (.inr rfl) rfl rfl ?_
  refine congrArg T.bool ?_
  rfl
theorem l41NameOk (s : Str)  : ASpec Tryz.prog 102 [.one (.str s)] (.one (.bool (nameOk s))) := by
  refine ASpec.body Tryz.func102 rfl [2] rfl 37 rfl rfl rfl ?_
  refine AWp.strLe 0 rfl (fun hs => ?_)
  refine AWp.seq (AWp.region ?_)
  refine ARun.step rfl (step_assignV rfl (hn rfl) rfl rfl) ?_
  refine ARun.nil ?_
  refine AWp.seq ?_
  refine AWp.seq (AWp.region ?_)
  refine ARun.step rfl (step_moveV rfl (hn rfl) rfl rfl) ?_
  refine ARun.step rfl (step_len_str rfl (hn rfl) rfl yrUs9 rfl) ?_
  refine ARun.step rfl (call_step1 rfl (hn rfl) rfl yrCo106 (.cons rfl (.one (.v _)) (.cons rfl (.one (.v _)) (.cons rfl (.one (.v _)) (.nil)))) (l41In _ _ _) rfl) ?_
  refine ARun.step rfl (step_not rfl (hn rfl) rfl rfl) ?_
  refine ARun.nil ?_
  refine AWp.cond rfl (fun c1 => ?_) (fun c1 => ?_)
  · try simp only [nrm] at c1
    refine AWp.seq (AWp.region ?_)
    refine ARun.step rfl (step_assignV rfl (hn rfl) rfl rfl) ?_
    refine ARun.nil ?_
    refine AWp.ret ?_
    refine RetIs.sc (.inr rfl) rfl rfl ?_
    refine congrArg T.bool ?_
    simp [nameOk, c1]
  · try simp only [nrm] at c1
    refine AWp.skip ?_
    refine AWp.seq ?_
    refine AWp.seq (AWp.region ?_)
    refine ARun.step rfl (step_assignV rfl (hn rfl) rfl rfl) ?_
    refine ARun.nil ?_
    refine AWp.block ?_
    refine AWp.loopM (fun i : Nat => mkAS 37 [(0, ⟨true, .one (.v (.str s))⟩), (3, ⟨true, .one (.v (.int .i64 (i : Nat)))⟩)] [] []) (fun i => i ≤ s.size ∧ ∀ j, j < i → nmC (bAt s j) = true) (fun i => s.size - i) 0 ?_ (Le.forgetR rfl ⟨rfl, rfl, trivial⟩ trivial trivial) ?_
    · try dsimp only
      exact ⟨by omega, by omega⟩
    rintro i ⟨hi, hall⟩
    refine AWp.seq ?_
    refine AWp.seq (AWp.region ?_)
    refine ARun.step rfl (step_moveV rfl (hn rfl) rfl rfl) ?_
    refine ARun.step rfl (step_moveV rfl (hn rfl) rfl rfl) ?_
    refine ARun.step rfl (step_len_str rfl (hn rfl) rfl yrUs9 rfl) ?_
    refine ARun.step rfl (step_lss rfl (hn rfl) rfl rfl rfl) ?_
    refine ARun.nil ?_
    refine AWp.cond rfl (fun c2 => ?_) (fun c2 => ?_)
    · try simp only [nrm] at c2
      refine AWp.skip ?_
      refine AWp.seq ?_
      refine AWp.block ?_
      refine AWp.seq (AWp.region ?_)
      refine ARun.step rfl (step_moveV rfl (hn rfl) rfl rfl) ?_
      refine ARun.step rfl (step_moveV rfl (hn rfl) rfl rfl) ?_
      refine ARun.step rfl (step_index_str rfl (hn rfl) rfl yrUs9 rfl rfl (by omega) (by omega)) ?_
      refine ARun.step rfl (step_assignV rfl (hn rfl) rfl rfl) ?_
      refine ARun.nil ?_
      refine AWp.seq (AWp.region ?_)
      refine ARun.step rfl (step_moveV rfl (hn rfl) rfl rfl) ?_
      refine ARun.step rfl (step_geq rfl (hn rfl) rfl rfl rfl) ?_
      refine ARun.step rfl (step_moveV rfl (hn rfl) rfl rfl) ?_
      refine guardS rfl rfl rfl rfl (hn rfl) (fun g1 g2 => step_moveV rfl (hn rfl) rfl rfl) ?_
      refine guardS rfl rfl rfl rfl (hn rfl) (fun g1 g2 => step_leq rfl (hn rfl) rfl (ev_true rfl (by exact flag2 g1 g2)) rfl) ?_
      refine ARun.step rfl (step_and rfl (hn rfl) rfl rfl rfl (fun h => (by exact flag1 h))) ?_
      refine ARun.step rfl (step_moveV rfl (hn rfl) rfl rfl) ?_
      refine guardS rfl rfl rfl rfl (hn rfl) (fun g1 g2 => step_moveV rfl (hn rfl) rfl rfl) ?_
      refine guardS rfl rfl rfl rfl (hn rfl) (fun g1 g2 => step_geq rfl (hn rfl) rfl (ev_true rfl (by exact flag2 g1 g2)) rfl) ?_
      refine guardS rfl rfl rfl rfl (hn rfl) (fun g1 g2 => step_moveV rfl (hn rfl) rfl (ev_true rfl (by exact flag2 g1 g2))) ?_
      refine guardS rfl rfl rfl rfl (hn rfl) (fun g1 g2 => step_moveV rfl (hn rfl) rfl rfl) ?_
      refine guardS rfl rfl rfl rfl (hn rfl) (fun g1 g2 => step_leq rfl (hn rfl) rfl (ev_true rfl (by exact flag2 g1 g2)) rfl) ?_
      refine guardS rfl rfl rfl rfl (hn rfl) (fun g1 g2 => step_and rfl (hn rfl) rfl (ev_true rfl (by exact flag2 g1 g2)) rfl (fun h => (by exact flag2 (by exact flag2 g1 g2) h))) ?_
      refine ARun.step rfl (step_or rfl (hn rfl) rfl rfl rfl (fun h => (by exact flag1 h))) ?_
      refine ARun.step rfl (step_moveV rfl (hn rfl) rfl rfl) ?_
      refine guardS rfl rfl rfl rfl (hn rfl) (fun g1 g2 => step_moveV rfl (hn rfl) rfl rfl) ?_
      refine guardS rfl rfl rfl rfl (hn rfl) (fun g1 g2 => step_eql rfl (hn rfl) rfl (ev_true rfl (by exact flag2 g1 g2)) rfl) ?_
      refine ARun.step rfl (step_or rfl (hn rfl) rfl rfl rfl (fun h => (by exact flag1 h))) ?_
      refine ARun.step rfl (step_not rfl (hn rfl) rfl rfl) ?_
      refine ARun.nil ?_
      refine AWp.cond rfl (fun c3 => ?_) (fun c3 => ?_)
      · try simp only [nrm] at c3
        refine AWp.seq (AWp.region ?_)
        refine ARun.step rfl (step_assignV rfl (hn rfl) rfl rfl) ?_
        refine ARun.nil ?_
        refine AWp.ret ?_
        refine RetIs.sc (.inr rfl) rfl rfl ?_
        refine congrArg T.bool ?_
        rw [nameOk, nameB, all_not (i := i) (by omega) (by simp only [nmC, bAt] at *; grind), Bool.and_false]
      · try simp only [nrm] at c3
        refine AWp.skip ?_
        refine AWp.region ?_
        refine ARun.step rfl (step_moveV rfl (hn rfl) rfl rfl) ?_
        refine ARun.step rfl (step_addI rfl (hn rfl) rfl rfl rfl (by omega) (by omega)) ?_
        refine ARun.step rfl (step_assignV rfl (hn rfl) rfl rfl) ?_
        refine ARun.nil ?_
        refine ⟨i + 1, ?_, ?_, Le.forgetR rfl ⟨rfl, rfl, trivial⟩ trivial trivial⟩
        · try dsimp only
          exact ⟨by omega, upto hall (by simp only [nmC, bAt] at *; grind)⟩
        · try dsimp only
          omega
    · try simp only [nrm] at c2
      refine AWp.exit ?_
      refine AWp.seq (AWp.region ?_)
      refine ARun.step rfl (step_assignV rfl (hn rfl) rfl rfl) ?_
      refine ARun.nil ?_
      refine AWp.ret ?_
      refine RetIs.sc (.inr rfl) rfl rfl ?_
      refine congrArg T.bool ?_
      rw [nameOk, nameB, all_of (fun j hj => hall j (by omega)), Bool.and_true]; simpa using c1.symm
theorem l41PlainOk (s : Str)  : ASpec Tryz.prog 211 [.one (.str s)] (.one (.bool (plainOk s))) := by
  refine ASpec.body Tryz.func211 rfl [2] rfl 10 rfl rfl rfl ?_
  refine AWp.seq (AWp.region ?_)
  refine ARun.step rfl (step_assignV rfl (hn rfl) rfl rfl) ?_
  refine ARun.nil ?_
  refine AWp.seq (AWp.region ?_)
  refine ARun.step rfl (step_moveV rfl (hn rfl) rfl rfl) ?_
  refine ARun.step rfl (call_step1 rfl (hn rfl) rfl yrCo102 (.cons rfl (.one (.v _)) (.nil)) (l41NameOk _) rfl) ?_
  refine ARun.step rfl (step_moveV rfl (hn rfl) rfl rfl) ?_
  refine guardS rfl rfl rfl rfl (hn rfl) (fun g1 g2 => step_moveV rfl (hn rfl) rfl rfl) ?_
  refine guardS rfl rfl rfl rfl (hn rfl) (fun g1 g2 => call_step1 rfl (hn rfl) rfl yrCo161 (.cons (ev_true rfl (by exact flag2 g1 g2)) (.one (.v _)) (.nil)) (RecEndS _) rfl) ?_
  refine guardS rfl rfl rfl rfl (hn rfl) (fun g1 g2 => step_eql rfl (hn rfl) rfl (ev_true rfl (by exact flag2 g1 g2)) rfl) ?_
  refine ARun.step rfl (step_and rfl (hn rfl) rfl rfl rfl (fun h => (by exact flag1 h))) ?_
  refine ARun.step rfl (step_assignV rfl (hn rfl) rfl rfl) ?_
  refine ARun.nil ?_
  refine AWp.ret ?_
  refine RetIs.sc (.inr rfl) rfl rfl ?_
  refine congrArg T.bool ?_
  rfl
theorem l41ArgsOk (p : Ph)  : ASpec Tryz.prog 212 [.agg p.cells] (.one (.bool (argsOk p))) := by
  refine ASpec.body Tryz.func212 rfl [2] rfl 75 rfl rfl rfl ?_
  refine AWp.seq (AWp.region ?_)
  refine ARun.step rfl (step_box_p (m := 7) rfl (hn rfl) rfl rfl rfl rfl rfl) ?_
  refine ARun.step rfl (step_assignV rfl (hn rfl) rfl rfl) ?_
  refine ARun.nil ?_
  refine AWp.seq ?_
  refine AWp.seq (AWp.region ?_)
  refine ARun.step rfl (step_field_b rfl (hn rfl) rfl yrFo68_1 rfl (by exact List.cons_ne_nil _ _)) ?_
  refine ARun.step rfl (step_load_b rfl (hn rfl) rfl yrSc3 rfl rfl) ?_
  refine ARun.nil ?_
  refine AWp.block ?_
  refine AWp.seq (AWp.region ?_)
  refine ARun.step rfl (step_eql rfl (hn rfl) rfl rfl rfl) ?_
  refine ARun.step rfl (step_assignV rfl (hn rfl) rfl rfl) ?_
  refine ARun.nil ?_
  refine AWp.cond rfl (fun c1 => ?_) (fun c1 => ?_)
  · try simp only [nrm] at c1
    refine AWp.seq (AWp.region ?_)
    refine ARun.step rfl (step_field_b rfl (hn rfl) rfl yrFo68_2 rfl (by exact List.cons_ne_nil _ _)) ?_
    refine ARun.step rfl (step_load_b rfl (hn rfl) rfl yrSc9 rfl rfl) ?_
    refine ARun.step rfl (call_step1 rfl (hn rfl) rfl yrCo102 (.cons rfl (.one (.v _)) (.nil)) (l41NameOk _) rfl) ?_
    refine ARun.step rfl (step_moveV rfl (hn rfl) rfl rfl) ?_
    refine guardS rfl rfl rfl rfl (hn rfl) (fun g1 g2 => step_field_b rfl (hn rfl) rfl yrFo68_3 rfl (by exact List.cons_ne_nil _ _)) ?_
    refine guardS rfl rfl rfl rfl (hn rfl) (fun g1 g2 => step_load_b rfl (hn rfl) rfl yrSc9 (ev_true rfl (by exact flag2 g1 g2)) rfl) ?_
    refine guardS rfl rfl rfl rfl (hn rfl) (fun g1 g2 => call_step1 rfl (hn rfl) rfl yrCo102 (.cons (ev_true rfl (by exact flag2 g1 g2)) (.one (.v _)) (.nil)) (l41NameOk _) rfl) ?_
    refine ARun.step rfl (step_and rfl (hn rfl) rfl rfl rfl (fun h => (by exact flag1 h))) ?_
    refine ARun.step rfl (step_moveV rfl (hn rfl) rfl rfl) ?_
    refine guardS rfl rfl rfl rfl (hn rfl) (fun g1 g2 => step_field_b rfl (hn rfl) rfl yrFo68_4 rfl (by exact List.cons_ne_nil _ _)) ?_
    refine guardS rfl rfl rfl rfl (hn rfl) (fun g1 g2 => step_load_b rfl (hn rfl) rfl yrSc3 (ev_true rfl (by exact flag2 g1 g2)) rfl) ?_
    refine guardS rfl rfl rfl rfl (hn rfl) (fun g1 g2 => call_step1 rfl (hn rfl) rfl yrCo106 (.cons (ev_true rfl (by exact flag2 g1 g2)) (.one (.v _)) (.cons rfl (.one (.v _)) (.cons rfl (.one (.v _)) (.nil)))) (l41In _ _ _) rfl) ?_
    refine ARun.step rfl (step_and rfl (hn rfl) rfl rfl rfl (fun h => (by exact flag1 h))) ?_
    refine ARun.step rfl (step_assignV rfl (hn rfl) rfl rfl) ?_
    refine ARun.nil ?_
    refine AWp.ret ?_
    refine RetIs.sc (.inr rfl) rfl rfl ?_
    refine congrArg T.bool ?_
    simp_all [argsOk]
  · try simp only [nrm] at c1
    refine AWp.seq (AWp.region ?_)
    refine ARun.step rfl (step_eql rfl (hn rfl) rfl rfl rfl) ?_
    refine ARun.step rfl (step_assignV rfl (hn rfl) rfl rfl) ?_
    refine ARun.nil ?_
    refine AWp.cond rfl (fun c2 => ?_) (fun c2 => ?_)
    · try simp only [nrm] at c2
      refine AWp.seq (AWp.region ?_)
      refine ARun.step rfl (step_field_b rfl (hn rfl) rfl yrFo68_2 rfl (by exact List.cons_ne_nil _ _)) ?_
      refine ARun.step rfl (step_load_b rfl (hn rfl) rfl yrSc9 rfl rfl) ?_
      refine ARun.step rfl (call_step1 rfl (hn rfl) rfl yrCo102 (.cons rfl (.one (.v _)) (.nil)) (l41NameOk _) rfl) ?_
      refine ARun.step rfl (step_moveV rfl (hn rfl) rfl rfl) ?_
      refine guardS rfl rfl rfl rfl (hn rfl) (fun g1 g2 => step_field_b rfl (hn rfl) rfl yrFo68_3 rfl (by exact List.cons_ne_nil _ _)) ?_
      refine guardS rfl rfl rfl rfl (hn rfl) (fun g1 g2 => step_load_b rfl (hn rfl) rfl yrSc9 (ev_true rfl (by exact flag2 g1 g2)) rfl) ?_
      refine guardS rfl rfl rfl rfl (hn rfl) (fun g1 g2 => call_step1 rfl (hn rfl) rfl yrCo102 (.cons (ev_true rfl (by exact flag2 g1 g2)) (.one (.v _)) (.nil)) (l41NameOk _) rfl) ?_
      refine ARun.step rfl (step_and rfl (hn rfl) rfl rfl rfl (fun h => (by exact flag1 h))) ?_
      refine ARun.step rfl (step_moveV rfl (hn rfl) rfl rfl) ?_
      refine guardS rfl rfl rfl rfl (hn rfl) (fun g1 g2 => step_field_b rfl (hn rfl) rfl yrFo68_2 rfl (by exact List.cons_ne_nil _ _)) ?_
      refine guardS rfl rfl rfl rfl (hn rfl) (fun g1 g2 => step_load_b rfl (hn rfl) rfl yrSc9 (ev_true rfl (by exact flag2 g1 g2)) rfl) ?_
      refine guardS rfl rfl rfl rfl (hn rfl) (fun g1 g2 => step_field_b rfl (hn rfl) rfl yrFo68_3 rfl (by exact List.cons_ne_nil _ _)) ?_
      refine guardS rfl rfl rfl rfl (hn rfl) (fun g1 g2 => step_load_b rfl (hn rfl) rfl yrSc9 (ev_true rfl (by exact flag2 g1 g2)) rfl) ?_
      refine guardS rfl rfl rfl rfl (hn rfl) (fun g1 g2 => step_sneq rfl (hn rfl) rfl (ev_true rfl (by exact flag2 g1 g2)) (ev_true rfl (by exact flag2 g1 g2))) ?_
      refine ARun.step rfl (step_and rfl (hn rfl) rfl rfl rfl (fun h => (by exact flag1 h))) ?_
      refine ARun.step rfl (step_moveV rfl (hn rfl) rfl rfl) ?_
      refine guardS rfl rfl rfl rfl (hn rfl) (fun g1 g2 => step_field_b rfl (hn rfl) rfl yrFo68_4 rfl (by exact List.cons_ne_nil _ _)) ?_
      refine guardS rfl rfl rfl rfl (hn rfl) (fun g1 g2 => step_load_b rfl (hn rfl) rfl yrSc3 (ev_true rfl (by exact flag2 g1 g2)) rfl) ?_
      refine guardS rfl rfl rfl rfl (hn rfl) (fun g1 g2 => call_step1 rfl (hn rfl) rfl yrCo106 (.cons (ev_true rfl (by exact flag2 g1 g2)) (.one (.v _)) (.cons rfl (.one (.v _)) (.cons rfl (.one (.v _)) (.nil)))) (l41In _ _ _) rfl) ?_
      refine ARun.step rfl (step_and rfl (hn rfl) rfl rfl rfl (fun h => (by exact flag1 h))) ?_
      refine ARun.step rfl (step_assignV rfl (hn rfl) rfl rfl) ?_
      refine ARun.nil ?_
      refine AWp.ret ?_
      refine RetIs.sc (.inr rfl) rfl rfl ?_
      refine congrArg T.bool ?_
      simp_all [argsOk]
    · try simp only [nrm] at c2
      refine AWp.seq (AWp.region ?_)
      refine ARun.step rfl (step_eql rfl (hn rfl) rfl rfl rfl) ?_
      refine ARun.step rfl (step_assignV rfl (hn rfl) rfl rfl) ?_
      refine ARun.nil ?_
      refine AWp.cond rfl (fun c3 => ?_) (fun c3 => ?_)
      · try simp only [nrm] at c3
        refine AWp.seq (AWp.region ?_)
        refine ARun.step rfl (step_field_b rfl (hn rfl) rfl yrFo68_2 rfl (by exact List.cons_ne_nil _ _)) ?_
        refine ARun.step rfl (step_load_b rfl (hn rfl) rfl yrSc9 rfl rfl) ?_
        refine ARun.step rfl (call_step1 rfl (hn rfl) rfl yrCo102 (.cons rfl (.one (.v _)) (.nil)) (l41NameOk _) rfl) ?_
        refine ARun.step rfl (step_moveV rfl (hn rfl) rfl rfl) ?_
        refine guardS rfl rfl rfl rfl (hn rfl) (fun g1 g2 => step_field_b rfl (hn rfl) rfl yrFo68_3 rfl (by exact List.cons_ne_nil _ _)) ?_
        refine guardS rfl rfl rfl rfl (hn rfl) (fun g1 g2 => step_load_b rfl (hn rfl) rfl yrSc9 (ev_true rfl (by exact flag2 g1 g2)) rfl) ?_
        refine guardS rfl rfl rfl rfl (hn rfl) (fun g1 g2 => step_seql rfl (hn rfl) rfl (ev_true rfl (by exact flag2 g1 g2)) rfl) ?_
        refine ARun.step rfl (step_and rfl (hn rfl) rfl rfl rfl (fun h => (by exact flag1 h))) ?_
        refine ARun.step rfl (step_moveV rfl (hn rfl) rfl rfl) ?_
        refine guardS rfl rfl rfl rfl (hn rfl) (fun g1 g2 => step_field_b rfl (hn rfl) rfl yrFo68_4 rfl (by exact List.cons_ne_nil _ _)) ?_
        refine guardS rfl rfl rfl rfl (hn rfl) (fun g1 g2 => step_load_b rfl (hn rfl) rfl yrSc3 (ev_true rfl (by exact flag2 g1 g2)) rfl) ?_
        refine guardS rfl rfl rfl rfl (hn rfl) (fun g1 g2 => step_field_b rfl (hn rfl) rfl yrFo68_5 rfl (by exact List.cons_ne_nil _ _)) ?_
        refine guardS rfl rfl rfl rfl (hn rfl) (fun g1 g2 => step_load_b rfl (hn rfl) rfl yrSc3 (ev_true rfl (by exact flag2 g1 g2)) rfl) ?_
        refine guardS rfl rfl rfl rfl (hn rfl) (fun g1 g2 => call_step1 rfl (hn rfl) rfl yrCo106 (.cons (ev_true rfl (by exact flag2 g1 g2)) (.one (.v _)) (.cons rfl (.one (.v _)) (.cons (ev_true rfl (by exact flag2 g1 g2)) (.one (.v _)) (.nil)))) (l41In _ _ _) rfl) ?_
        refine ARun.step rfl (step_and rfl (hn rfl) rfl rfl rfl (fun h => (by exact flag1 h))) ?_
        refine ARun.step rfl (step_assignV rfl (hn rfl) rfl rfl) ?_
        refine ARun.nil ?_
        refine AWp.ret ?_
        refine RetIs.sc (.inr rfl) rfl rfl ?_
        refine congrArg T.bool ?_
        simp_all [argsOk]
      · try simp only [nrm] at c3
        refine AWp.seq ?_
        refine AWp.seq (AWp.region ?_)
        refine ARun.step rfl (step_eql rfl (hn rfl) rfl rfl rfl) ?_
        refine ARun.step rfl (step_assignV rfl (hn rfl) rfl rfl) ?_
        refine ARun.nil ?_
        refine AWp.cond rfl (fun c4 => ?_) (fun c4 => ?_)
        · try simp only [nrm] at c4
          refine AWp.skip ?_
          refine AWp.cond rfl (fun c5 => ?_) (fun c5 => ?_)
          · try simp only [nrm] at c5
            refine AWp.seq (AWp.region ?_)
            refine ARun.step rfl (step_field_b rfl (hn rfl) rfl yrFo68_2 rfl (by exact List.cons_ne_nil _ _)) ?_
            refine ARun.step rfl (step_load_b rfl (hn rfl) rfl yrSc9 rfl rfl) ?_
            refine ARun.step rfl (call_step1 rfl (hn rfl) rfl yrCo102 (.cons rfl (.one (.v _)) (.nil)) (l41NameOk _) rfl) ?_
            refine ARun.step rfl (step_moveV rfl (hn rfl) rfl rfl) ?_
            refine guardS rfl rfl rfl rfl (hn rfl) (fun g1 g2 => step_field_b rfl (hn rfl) rfl yrFo68_3 rfl (by exact List.cons_ne_nil _ _)) ?_
            refine guardS rfl rfl rfl rfl (hn rfl) (fun g1 g2 => step_load_b rfl (hn rfl) rfl yrSc9 (ev_true rfl (by exact flag2 g1 g2)) rfl) ?_
            refine guardS rfl rfl rfl rfl (hn rfl) (fun g1 g2 => step_seql rfl (hn rfl) rfl (ev_true rfl (by exact flag2 g1 g2)) rfl) ?_
            refine ARun.step rfl (step_and rfl (hn rfl) rfl rfl rfl (fun h => (by exact flag1 h))) ?_
            refine ARun.step rfl (step_moveV rfl (hn rfl) rfl rfl) ?_
            refine guardS rfl rfl rfl rfl (hn rfl) (fun g1 g2 => step_field_b rfl (hn rfl) rfl yrFo68_4 rfl (by exact List.cons_ne_nil _ _)) ?_
            refine guardS rfl rfl rfl rfl (hn rfl) (fun g1 g2 => step_load_b rfl (hn rfl) rfl yrSc3 (ev_true rfl (by exact flag2 g1 g2)) rfl) ?_
            refine guardS rfl rfl rfl rfl (hn rfl) (fun g1 g2 => step_eql rfl (hn rfl) rfl (ev_true rfl (by exact flag2 g1 g2)) rfl) ?_
            refine ARun.step rfl (step_and rfl (hn rfl) rfl rfl rfl (fun h => (by exact flag1 h))) ?_
            refine ARun.step rfl (step_assignV rfl (hn rfl) rfl rfl) ?_
            refine ARun.nil ?_
            refine AWp.ret ?_
            refine RetIs.sc (.inr rfl) rfl rfl ?_
            refine congrArg T.bool ?_
            simp_all [argsOk]
          · try simp only [nrm] at c5
            refine AWp.skip ?_
            refine AWp.seq (AWp.region ?_)
            refine ARun.step rfl (step_assignV rfl (hn rfl) rfl rfl) ?_
            refine ARun.nil ?_
            refine AWp.ret ?_
            refine RetIs.sc (.inr rfl) rfl rfl ?_
            refine congrArg T.bool ?_
            simp_all [argsOk]
        · try simp only [nrm] at c4
          refine AWp.region ?_
          refine ARun.step rfl (step_eql rfl (hn rfl) rfl rfl rfl) ?_
          refine ARun.step rfl (step_assignV rfl (hn rfl) rfl rfl) ?_
          refine ARun.nil ?_
          refine AWp.cond rfl (fun c6 => ?_) (fun c6 => ?_)
          · try simp only [nrm] at c6
            refine AWp.seq (AWp.region ?_)
            refine ARun.step rfl (step_field_b rfl (hn rfl) rfl yrFo68_2 rfl (by exact List.cons_ne_nil _ _)) ?_
            refine ARun.step rfl (step_load_b rfl (hn rfl) rfl yrSc9 rfl rfl) ?_
            refine ARun.step rfl (call_step1 rfl (hn rfl) rfl yrCo102 (.cons rfl (.one (.v _)) (.nil)) (l41NameOk _) rfl) ?_
            refine ARun.step rfl (step_moveV rfl (hn rfl) rfl rfl) ?_
            refine guardS rfl rfl rfl rfl (hn rfl) (fun g1 g2 => step_field_b rfl (hn rfl) rfl yrFo68_3 rfl (by exact List.cons_ne_nil _ _)) ?_
            refine guardS rfl rfl rfl rfl (hn rfl) (fun g1 g2 => step_load_b rfl (hn rfl) rfl yrSc9 (ev_true rfl (by exact flag2 g1 g2)) rfl) ?_
            refine guardS rfl rfl rfl rfl (hn rfl) (fun g1 g2 => step_seql rfl (hn rfl) rfl (ev_true rfl (by exact flag2 g1 g2)) rfl) ?_
            refine ARun.step rfl (step_and rfl (hn rfl) rfl rfl rfl (fun h => (by exact flag1 h))) ?_
            refine ARun.step rfl (step_moveV rfl (hn rfl) rfl rfl) ?_
            refine guardS rfl rfl rfl rfl (hn rfl) (fun g1 g2 => step_field_b rfl (hn rfl) rfl yrFo68_4 rfl (by exact List.cons_ne_nil _ _)) ?_
            refine guardS rfl rfl rfl rfl (hn rfl) (fun g1 g2 => step_load_b rfl (hn rfl) rfl yrSc3 (ev_true rfl (by exact flag2 g1 g2)) rfl) ?_
            refine guardS rfl rfl rfl rfl (hn rfl) (fun g1 g2 => step_eql rfl (hn rfl) rfl (ev_true rfl (by exact flag2 g1 g2)) rfl) ?_
            refine ARun.step rfl (step_and rfl (hn rfl) rfl rfl rfl (fun h => (by exact flag1 h))) ?_
            refine ARun.step rfl (step_assignV rfl (hn rfl) rfl rfl) ?_
            refine ARun.nil ?_
            refine AWp.ret ?_
            refine RetIs.sc (.inr rfl) rfl rfl ?_
            refine congrArg T.bool ?_
            simp_all [argsOk]
          · try simp only [nrm] at c6
            refine AWp.skip ?_
            refine AWp.seq (AWp.region ?_)
            refine ARun.step rfl (step_assignV rfl (hn rfl) rfl rfl) ?_
            refine ARun.nil ?_
            refine AWp.ret ?_
            refine RetIs.sc (.inr rfl) rfl rfl ?_
            refine congrArg T.bool ?_
            simp_all [argsOk]
theorem phaseOkS (p : Ph)  : ASpec Tryz.prog 160 [.agg p.cells] (.one (.bool (phaseOk p))) := by
  refine ASpec.body Tryz.func160 rfl [2] rfl 25 rfl rfl rfl ?_
  refine AWp.seq (AWp.region ?_)
  refine ARun.step rfl (step_box_p (m := 7) rfl (hn rfl) rfl rfl rfl rfl rfl) ?_
  refine ARun.step rfl (step_assignV rfl (hn rfl) rfl rfl) ?_
  refine ARun.nil ?_
  refine AWp.seq (AWp.region ?_)
  refine ARun.step rfl (step_field_b rfl (hn rfl) rfl yrFo68_0 rfl (by exact List.cons_ne_nil _ _)) ?_
  refine ARun.step rfl (step_load_b rfl (hn rfl) rfl yrSc9 rfl rfl) ?_
  refine ARun.step rfl (call_step1 rfl (hn rfl) rfl yrCo211 (.cons rfl (.one (.v _)) (.nil)) (l41PlainOk _) rfl) ?_
  refine ARun.step rfl (step_moveV rfl (hn rfl) rfl rfl) ?_
  refine guardS rfl rfl rfl rfl (hn rfl) (fun g1 g2 => step_field_b rfl (hn rfl) rfl yrFo68_5 rfl (by exact List.cons_ne_nil _ _)) ?_
  refine guardS rfl rfl rfl rfl (hn rfl) (fun g1 g2 => step_load_b rfl (hn rfl) rfl yrSc3 (ev_true rfl (by exact flag2 g1 g2)) rfl) ?_
  refine guardS rfl rfl rfl rfl (hn rfl) (fun g1 g2 => call_step1 rfl (hn rfl) rfl yrCo106 (.cons (ev_true rfl (by exact flag2 g1 g2)) (.one (.v _)) (.cons rfl (.one (.v _)) (.cons rfl (.one (.v _)) (.nil)))) (l41In _ _ _) rfl) ?_
  refine ARun.step rfl (step_and rfl (hn rfl) rfl rfl rfl (fun h => (by exact flag1 h))) ?_
  refine ARun.step rfl (step_moveV rfl (hn rfl) rfl rfl) ?_
  refine guardS rfl rfl rfl rfl (hn rfl) (fun g1 g2 => step_loadS_b rfl (hn rfl) rfl yrSt68 rfl rfl rfl (by decide)) ?_
  refine guardS rfl rfl rfl rfl (hn rfl) (fun g1 g2 => call_step1 rfl (hn rfl) rfl yrCo212 (.cons (ev_true rfl (by exact flag2 g1 g2)) (.agg (.cons (.v _) (.cons (.v _) (.cons (.v _) (.cons (.v _) (.cons (.v _) (.cons (.v _) (.cons (.v _) (.cons (.v _) .nil))))))))) (.nil)) (l41ArgsOk _) rfl) ?_
  refine ARun.step rfl (step_and rfl (hn rfl) rfl rfl rfl (fun h => (by exact flag1 h))) ?_
  refine ARun.step rfl (step_moveV rfl (hn rfl) rfl rfl) ?_
  refine guardS rfl rfl rfl rfl (hn rfl) (fun g1 g2 => step_field_b rfl (hn rfl) rfl yrFo68_6 rfl (by exact List.cons_ne_nil _ _)) ?_
  refine guardS rfl rfl rfl rfl (hn rfl) (fun g1 g2 => step_load_b rfl (hn rfl) rfl yrSc9 (ev_true rfl (by exact flag2 g1 g2)) rfl) ?_
  refine guardS rfl rfl rfl rfl (hn rfl) (fun g1 g2 => call_step1 rfl (hn rfl) rfl yrCo102 (.cons (ev_true rfl (by exact flag2 g1 g2)) (.one (.v _)) (.nil)) (l41NameOk _) rfl) ?_
  refine ARun.step rfl (step_and rfl (hn rfl) rfl rfl rfl (fun h => (by exact flag1 h))) ?_
  refine ARun.step rfl (step_moveV rfl (hn rfl) rfl rfl) ?_
  refine guardS rfl rfl rfl rfl (hn rfl) (fun g1 g2 => step_field_b rfl (hn rfl) rfl yrFo68_7 rfl (by exact List.cons_ne_nil _ _)) ?_
  refine guardS rfl rfl rfl rfl (hn rfl) (fun g1 g2 => step_load_b rfl (hn rfl) rfl yrSc9 (ev_true rfl (by exact flag2 g1 g2)) rfl) ?_
  refine guardS rfl rfl rfl rfl (hn rfl) (fun g1 g2 => call_step1 rfl (hn rfl) rfl yrCo102 (.cons (ev_true rfl (by exact flag2 g1 g2)) (.one (.v _)) (.nil)) (l41NameOk _) rfl) ?_
  refine ARun.step rfl (step_and rfl (hn rfl) rfl rfl rfl (fun h => (by exact flag1 h))) ?_
  refine ARun.step rfl (step_assignV rfl (hn rfl) rfl rfl) ?_
  refine ARun.nil ?_
  refine AWp.ret ?_
  refine RetIs.sc (.inr rfl) rfl rfl ?_
  refine congrArg T.bool ?_
  rfl
theorem phaseOkI (p : Ph)  : ASpec Tryz.prog 158 [.agg p.cells] (.one (.bool (phaseOk p))) := by
  refine ASpec.body Tryz.func158 rfl [2] rfl 95 rfl rfl rfl ?_
  refine AWp.seq (AWp.region ?_)
  refine ARun.step rfl (step_box_p (m := 7) rfl (hn rfl) rfl rfl rfl rfl rfl) ?_
  refine ARun.step rfl (step_assignV rfl (hn rfl) rfl rfl) ?_
  refine ARun.nil ?_
  refine AWp.seq ?_
  refine AWp.seq (AWp.region ?_)
  refine ARun.step rfl (step_field_b rfl (hn rfl) rfl yrFo68_0 rfl (by exact List.cons_ne_nil _ _)) ?_
  refine ARun.step rfl (step_load_b rfl (hn rfl) rfl yrSc9 rfl rfl) ?_
  refine ARun.step rfl (call_step1 rfl (hn rfl) rfl yrCo67 (.cons rfl (.one (.v _)) (.nil)) (isNameI _) rfl) ?_
  refine ARun.step rfl (step_not rfl (hn rfl) rfl rfl) ?_
  refine ARun.step rfl (step_moveV rfl (hn rfl) rfl rfl) ?_
  refine guardS rfl rfl rfl rfl (hn rfl) (fun g1 g2 => step_field_b rfl (hn rfl) rfl yrFo68_0 rfl (by exact List.cons_ne_nil _ _)) ?_
  refine guardS rfl rfl rfl rfl (hn rfl) (fun g1 g2 => step_load_b rfl (hn rfl) rfl yrSc9 (ev_true rfl (by exact flag2 g1 g2)) rfl) ?_
  refine guardS rfl rfl rfl rfl (hn rfl) (fun g1 g2 => call_step1 rfl (hn rfl) rfl yrCo159 (.cons (ev_true rfl (by exact flag2 g1 g2)) (.one (.v _)) (.nil)) (RecEndI _) rfl) ?_
  refine guardS rfl rfl rfl rfl (hn rfl) (fun g1 g2 => step_neq rfl (hn rfl) rfl (ev_true rfl (by exact flag2 g1 g2)) rfl) ?_
  refine ARun.step rfl (step_or rfl (hn rfl) rfl rfl rfl (fun h => (by exact flag1 h))) ?_
  refine ARun.step rfl (step_moveV rfl (hn rfl) rfl rfl) ?_
  refine guardS rfl rfl rfl rfl (hn rfl) (fun g1 g2 => step_field_b rfl (hn rfl) rfl yrFo68_5 rfl (by exact List.cons_ne_nil _ _)) ?_
  refine guardS rfl rfl rfl rfl (hn rfl) (fun g1 g2 => step_load_b rfl (hn rfl) rfl yrSc3 (ev_true rfl (by exact flag2 g1 g2)) rfl) ?_
  refine guardS rfl rfl rfl rfl (hn rfl) (fun g1 g2 => step_lss rfl (hn rfl) rfl (ev_true rfl (by exact flag2 g1 g2)) rfl) ?_
  refine ARun.step rfl (step_or rfl (hn rfl) rfl rfl rfl (fun h => (by exact flag1 h))) ?_
  refine ARun.step rfl (step_moveV rfl (hn rfl) rfl rfl) ?_
  refine guardS rfl rfl rfl rfl (hn rfl) (fun g1 g2 => step_field_b rfl (hn rfl) rfl yrFo68_5 rfl (by exact List.cons_ne_nil _ _)) ?_
  refine guardS rfl rfl rfl rfl (hn rfl) (fun g1 g2 => step_load_b rfl (hn rfl) rfl yrSc3 (ev_true rfl (by exact flag2 g1 g2)) rfl) ?_
  refine guardS rfl rfl rfl rfl (hn rfl) (fun g1 g2 => step_gtr rfl (hn rfl) rfl (ev_true rfl (by exact flag2 g1 g2)) rfl) ?_
  refine ARun.step rfl (step_or rfl (hn rfl) rfl rfl rfl (fun h => (by exact flag1 h))) ?_
  refine ARun.step rfl (step_moveV rfl (hn rfl) rfl rfl) ?_
  refine guardS rfl rfl rfl rfl (hn rfl) (fun g1 g2 => step_field_b rfl (hn rfl) rfl yrFo68_2 rfl (by exact List.cons_ne_nil _ _)) ?_
  refine guardS rfl rfl rfl rfl (hn rfl) (fun g1 g2 => step_load_b rfl (hn rfl) rfl yrSc9 (ev_true rfl (by exact flag2 g1 g2)) rfl) ?_
  refine guardS rfl rfl rfl rfl (hn rfl) (fun g1 g2 => call_step1 rfl (hn rfl) rfl yrCo67 (.cons (ev_true rfl (by exact flag2 g1 g2)) (.one (.v _)) (.nil)) (isNameI _) rfl) ?_
  refine guardS rfl rfl rfl rfl (hn rfl) (fun g1 g2 => step_not rfl (hn rfl) rfl (ev_true rfl (by exact flag2 g1 g2))) ?_
  refine ARun.step rfl (step_or rfl (hn rfl) rfl rfl rfl (fun h => (by exact flag1 h))) ?_
  refine ARun.step rfl (step_moveV rfl (hn rfl) rfl rfl) ?_
  refine guardS rfl rfl rfl rfl (hn rfl) (fun g1 g2 => step_field_b rfl (hn rfl) rfl yrFo68_6 rfl (by exact List.cons_ne_nil _ _)) ?_
  refine guardS rfl rfl rfl rfl (hn rfl) (fun g1 g2 => step_load_b rfl (hn rfl) rfl yrSc9 (ev_true rfl (by exact flag2 g1 g2)) rfl) ?_
  refine guardS rfl rfl rfl rfl (hn rfl) (fun g1 g2 => call_step1 rfl (hn rfl) rfl yrCo67 (.cons (ev_true rfl (by exact flag2 g1 g2)) (.one (.v _)) (.nil)) (isNameI _) rfl) ?_
  refine guardS rfl rfl rfl rfl (hn rfl) (fun g1 g2 => step_not rfl (hn rfl) rfl (ev_true rfl (by exact flag2 g1 g2))) ?_
  refine ARun.step rfl (step_or rfl (hn rfl) rfl rfl rfl (fun h => (by exact flag1 h))) ?_
  refine ARun.step rfl (step_moveV rfl (hn rfl) rfl rfl) ?_
  refine guardS rfl rfl rfl rfl (hn rfl) (fun g1 g2 => step_field_b rfl (hn rfl) rfl yrFo68_7 rfl (by exact List.cons_ne_nil _ _)) ?_
  refine guardS rfl rfl rfl rfl (hn rfl) (fun g1 g2 => step_load_b rfl (hn rfl) rfl yrSc9 (ev_true rfl (by exact flag2 g1 g2)) rfl) ?_
  refine guardS rfl rfl rfl rfl (hn rfl) (fun g1 g2 => call_step1 rfl (hn rfl) rfl yrCo67 (.cons (ev_true rfl (by exact flag2 g1 g2)) (.one (.v _)) (.nil)) (isNameI _) rfl) ?_
  refine guardS rfl rfl rfl rfl (hn rfl) (fun g1 g2 => step_not rfl (hn rfl) rfl (ev_true rfl (by exact flag2 g1 g2))) ?_
  refine ARun.step rfl (step_or rfl (hn rfl) rfl rfl rfl (fun h => (by exact flag1 h))) ?_
  refine ARun.nil ?_
  refine AWp.cond rfl (fun c1 => ?_) (fun c1 => ?_)
  · try simp only [nrm] at c1
    refine AWp.seq (AWp.region ?_)
    refine ARun.step rfl (step_assignV rfl (hn rfl) rfl rfl) ?_
    refine ARun.nil ?_
    refine AWp.ret ?_
    refine RetIs.sc (.inr rfl) rfl rfl ?_
    refine congrArg T.bool ?_
    simp_all [phaseOk, argsOk, plainOk, inB]; try grind
  · try simp only [nrm] at c1
    refine AWp.skip ?_
    refine AWp.seq (AWp.region ?_)
    refine ARun.step rfl (step_assignV rfl (hn rfl) rfl rfl) ?_
    refine ARun.step rfl (step_assignV rfl (hn rfl) rfl rfl) ?_
    refine ARun.nil ?_
    refine AWp.seq ?_
    refine AWp.seq (AWp.region ?_)
    refine ARun.step rfl (step_field_b rfl (hn rfl) rfl yrFo68_1 rfl (by exact List.cons_ne_nil _ _)) ?_
    refine ARun.step rfl (step_load_b rfl (hn rfl) rfl yrSc3 rfl rfl) ?_
    refine ARun.nil ?_
    refine AWp.block ?_
    refine AWp.seq (AWp.region ?_)
    refine ARun.step rfl (step_eql rfl (hn rfl) rfl rfl rfl) ?_
    refine ARun.step rfl (step_assignV rfl (hn rfl) rfl rfl) ?_
    refine ARun.nil ?_
    refine AWp.cond rfl (fun c2 => ?_) (fun c2 => ?_)
    · try simp only [nrm] at c2
      refine AWp.region ?_
      refine ARun.step rfl (step_assignV rfl (hn rfl) rfl rfl) ?_
      refine ARun.nil ?_
      refine AWp.seq ?_
      refine AWp.seq (AWp.region ?_)
      refine ARun.step rfl (step_moveV rfl (hn rfl) rfl rfl) ?_
      refine ARun.step rfl (step_moveV rfl (hn rfl) rfl rfl) ?_
      refine guardS rfl rfl rfl rfl (hn rfl) (fun g1 g2 => step_field_b rfl (hn rfl) rfl yrFo68_3 rfl (by exact List.cons_ne_nil _ _)) ?_
      refine guardS rfl rfl rfl rfl (hn rfl) (fun g1 g2 => step_load_b rfl (hn rfl) rfl yrSc9 (ev_true rfl (by exact flag2 g1 g2)) rfl) ?_
      refine guardS rfl rfl rfl rfl (hn rfl) (fun g1 g2 => call_step1 rfl (hn rfl) rfl yrCo67 (.cons (ev_true rfl (by exact flag2 g1 g2)) (.one (.v _)) (.nil)) (isNameI _) rfl) ?_
      refine guardS rfl rfl rfl rfl (hn rfl) (fun g1 g2 => step_not rfl (hn rfl) rfl (ev_true rfl (by exact flag2 g1 g2))) ?_
      refine ARun.step rfl (step_and rfl (hn rfl) rfl rfl rfl (fun h => (by exact flag1 h))) ?_
      refine ARun.step rfl (step_moveV rfl (hn rfl) rfl rfl) ?_
      refine guardS rfl rfl rfl rfl (hn rfl) (fun g1 g2 => step_moveV rfl (hn rfl) rfl rfl) ?_
      refine guardS rfl rfl rfl rfl (hn rfl) (fun g1 g2 => step_not rfl (hn rfl) rfl (ev_true rfl (by exact flag2 g1 g2))) ?_
      refine guardS rfl rfl rfl rfl (hn rfl) (fun g1 g2 => step_moveV rfl (hn rfl) rfl (ev_true rfl (by exact flag2 g1 g2))) ?_
      refine guardS rfl rfl rfl rfl (hn rfl) (fun g1 g2 => step_field_b rfl (hn rfl) rfl yrFo68_3 rfl (by exact List.cons_ne_nil _ _)) ?_
      refine guardS rfl rfl rfl rfl (hn rfl) (fun g1 g2 => step_load_b rfl (hn rfl) rfl yrSc9 (ev_true rfl (by exact flag2 g1 g2)) rfl) ?_
      refine guardS rfl rfl rfl rfl (hn rfl) (fun g1 g2 => step_sneq rfl (hn rfl) rfl (ev_true rfl (by exact flag2 g1 g2)) rfl) ?_
      refine guardS rfl rfl rfl rfl (hn rfl) (fun g1 g2 => step_and rfl (hn rfl) rfl (ev_true rfl (by exact flag2 g1 g2)) rfl (fun h => (by exact flag2 (by exact flag2 g1 g2) h))) ?_
      refine ARun.step rfl (step_or rfl (hn rfl) rfl rfl rfl (fun h => (by exact flag1 h))) ?_
      refine ARun.nil ?_
      refine AWp.cond rfl (fun c3 => ?_) (fun c3 => ?_)
      · try simp only [nrm] at c3
        refine AWp.seq (AWp.region ?_)
        refine ARun.step rfl (step_assignV rfl (hn rfl) rfl rfl) ?_
        refine ARun.nil ?_
        refine AWp.ret ?_
        refine RetIs.sc (.inr rfl) rfl rfl ?_
        refine congrArg T.bool ?_
        simp_all [phaseOk, argsOk, plainOk, inB]; try grind
      · try simp only [nrm] at c3
        refine AWp.skip ?_
        refine AWp.seq (AWp.region ?_)
        refine ARun.step rfl (step_field_b rfl (hn rfl) rfl yrFo68_4 rfl (by exact List.cons_ne_nil _ _)) ?_
        refine ARun.step rfl (step_load_b rfl (hn rfl) rfl yrSc3 rfl rfl) ?_
        refine ARun.step rfl (step_moveV rfl (hn rfl) rfl rfl) ?_
        refine ARun.step rfl (step_leq rfl (hn rfl) rfl rfl rfl) ?_
        refine ARun.step rfl (step_moveV rfl (hn rfl) rfl rfl) ?_
        refine guardS rfl rfl rfl rfl (hn rfl) (fun g1 g2 => step_field_b rfl (hn rfl) rfl yrFo68_4 rfl (by exact List.cons_ne_nil _ _)) ?_
        refine guardS rfl rfl rfl rfl (hn rfl) (fun g1 g2 => step_load_b rfl (hn rfl) rfl yrSc3 (ev_true rfl (by exact flag2 g1 g2)) rfl) ?_
        refine guardS rfl rfl rfl rfl (hn rfl) (fun g1 g2 => step_geq rfl (hn rfl) rfl (ev_true rfl (by exact flag2 g1 g2)) rfl) ?_
        refine guardS rfl rfl rfl rfl (hn rfl) (fun g1 g2 => step_moveV rfl (hn rfl) rfl (ev_true rfl (by exact flag2 g1 g2))) ?_
        refine guardS rfl rfl rfl rfl (hn rfl) (fun g1 g2 => step_moveV rfl (hn rfl) rfl rfl) ?_
        refine guardS rfl rfl rfl rfl (hn rfl) (fun g1 g2 => step_eql rfl (hn rfl) rfl (ev_true rfl (by exact flag2 g1 g2)) rfl) ?_
        refine guardS rfl rfl rfl rfl (hn rfl) (fun g1 g2 => step_moveV rfl (hn rfl) rfl (ev_true rfl (by exact flag2 g1 g2))) ?_
        refine guardS rfl rfl rfl rfl (hn rfl) (fun g1 g2 => step_field_b rfl (hn rfl) rfl yrFo68_4 rfl (by exact List.cons_ne_nil _ _)) ?_
        refine guardS rfl rfl rfl rfl (hn rfl) (fun g1 g2 => step_load_b rfl (hn rfl) rfl yrSc3 (ev_true rfl (by exact flag2 g1 g2)) rfl) ?_
        refine guardS rfl rfl rfl rfl (hn rfl) (fun g1 g2 => step_eql rfl (hn rfl) rfl (ev_true rfl (by exact flag2 g1 g2)) rfl) ?_
        refine guardS rfl rfl rfl rfl (hn rfl) (fun g1 g2 => step_and rfl (hn rfl) rfl (ev_true rfl (by exact flag2 g1 g2)) rfl (fun h => (by exact flag2 (by exact flag2 g1 g2) h))) ?_
        refine guardS rfl rfl rfl rfl (hn rfl) (fun g1 g2 => step_or rfl (hn rfl) rfl (ev_true rfl (by exact flag2 g1 g2)) rfl (fun h => (by exact flag2 (by exact flag2 g1 g2) h))) ?_
        refine ARun.step rfl (step_and rfl (hn rfl) rfl rfl rfl (fun h => (by exact flag1 h))) ?_
        refine ARun.step rfl (step_assignV rfl (hn rfl) rfl rfl) ?_
        refine ARun.nil ?_
        refine AWp.ret ?_
        refine RetIs.sc (.inr rfl) rfl rfl ?_
        refine congrArg T.bool ?_
        simp_all [phaseOk, argsOk, plainOk, inB]; try grind
    · try simp only [nrm] at c2
      refine AWp.seq (AWp.region ?_)
      refine ARun.step rfl (step_eql rfl (hn rfl) rfl rfl rfl) ?_
      refine ARun.step rfl (step_assignV rfl (hn rfl) rfl rfl) ?_
      refine ARun.nil ?_
      refine AWp.cond rfl (fun c4 => ?_) (fun c4 => ?_)
      · try simp only [nrm] at c4
        refine AWp.seq (AWp.region ?_)
        refine ARun.step rfl (step_assignV rfl (hn rfl) rfl rfl) ?_
        refine ARun.nil ?_
        refine AWp.seq (AWp.region ?_)
        refine ARun.step rfl (step_field_b rfl (hn rfl) rfl yrFo68_2 rfl (by exact List.cons_ne_nil _ _)) ?_
        refine ARun.step rfl (step_load_b rfl (hn rfl) rfl yrSc9 rfl rfl) ?_
        refine ARun.step rfl (step_field_b rfl (hn rfl) rfl yrFo68_3 rfl (by exact List.cons_ne_nil _ _)) ?_
        refine ARun.step rfl (step_load_b rfl (hn rfl) rfl yrSc9 rfl rfl) ?_
        refine ARun.step rfl (step_seql rfl (hn rfl) rfl rfl rfl) ?_
        refine ARun.nil ?_
        refine AWp.cond rfl (fun c5 => ?_) (fun c5 => ?_)
        · try simp only [nrm] at c5
          refine AWp.seq (AWp.region ?_)
          refine ARun.step rfl (step_assignV rfl (hn rfl) rfl rfl) ?_
          refine ARun.nil ?_
          refine AWp.ret ?_
          refine RetIs.sc (.inr rfl) rfl rfl ?_
          refine congrArg T.bool ?_
          simp_all [phaseOk, argsOk, plainOk, inB]; try grind
        · try simp only [nrm] at c5
          refine AWp.skip ?_
          refine AWp.seq ?_
          refine AWp.seq (AWp.region ?_)
          refine ARun.step rfl (step_moveV rfl (hn rfl) rfl rfl) ?_
          refine ARun.step rfl (step_moveV rfl (hn rfl) rfl rfl) ?_
          refine guardS rfl rfl rfl rfl (hn rfl) (fun g1 g2 => step_field_b rfl (hn rfl) rfl yrFo68_3 rfl (by exact List.cons_ne_nil _ _)) ?_
          refine guardS rfl rfl rfl rfl (hn rfl) (fun g1 g2 => step_load_b rfl (hn rfl) rfl yrSc9 (ev_true rfl (by exact flag2 g1 g2)) rfl) ?_
          refine guardS rfl rfl rfl rfl (hn rfl) (fun g1 g2 => call_step1 rfl (hn rfl) rfl yrCo67 (.cons (ev_true rfl (by exact flag2 g1 g2)) (.one (.v _)) (.nil)) (isNameI _) rfl) ?_
          refine guardS rfl rfl rfl rfl (hn rfl) (fun g1 g2 => step_not rfl (hn rfl) rfl (ev_true rfl (by exact flag2 g1 g2))) ?_
          refine ARun.step rfl (step_and rfl (hn rfl) rfl rfl rfl (fun h => (by exact flag1 h))) ?_
          refine ARun.step rfl (step_moveV rfl (hn rfl) rfl rfl) ?_
          refine guardS rfl rfl rfl rfl (hn rfl) (fun g1 g2 => step_moveV rfl (hn rfl) rfl rfl) ?_
          refine guardS rfl rfl rfl rfl (hn rfl) (fun g1 g2 => step_not rfl (hn rfl) rfl (ev_true rfl (by exact flag2 g1 g2))) ?_
          refine guardS rfl rfl rfl rfl (hn rfl) (fun g1 g2 => step_moveV rfl (hn rfl) rfl (ev_true rfl (by exact flag2 g1 g2))) ?_
          refine guardS rfl rfl rfl rfl (hn rfl) (fun g1 g2 => step_field_b rfl (hn rfl) rfl yrFo68_3 rfl (by exact List.cons_ne_nil _ _)) ?_
          refine guardS rfl rfl rfl rfl (hn rfl) (fun g1 g2 => step_load_b rfl (hn rfl) rfl yrSc9 (ev_true rfl (by exact flag2 g1 g2)) rfl) ?_
          refine guardS rfl rfl rfl rfl (hn rfl) (fun g1 g2 => step_sneq rfl (hn rfl) rfl (ev_true rfl (by exact flag2 g1 g2)) rfl) ?_
          refine guardS rfl rfl rfl rfl (hn rfl) (fun g1 g2 => step_and rfl (hn rfl) rfl (ev_true rfl (by exact flag2 g1 g2)) rfl (fun h => (by exact flag2 (by exact flag2 g1 g2) h))) ?_
          refine ARun.step rfl (step_or rfl (hn rfl) rfl rfl rfl (fun h => (by exact flag1 h))) ?_
          refine ARun.nil ?_
          refine AWp.cond rfl (fun c6 => ?_) (fun c6 => ?_)
          · try simp only [nrm] at c6
            refine AWp.seq (AWp.region ?_)
            refine ARun.step rfl (step_assignV rfl (hn rfl) rfl rfl) ?_
            refine ARun.nil ?_
            refine AWp.ret ?_
            refine RetIs.sc (.inr rfl) rfl rfl ?_
            refine congrArg T.bool ?_
            simp_all [phaseOk, argsOk, plainOk, inB]; try grind
          · try simp only [nrm] at c6
            refine AWp.skip ?_
            refine AWp.seq (AWp.region ?_)
            refine ARun.step rfl (step_field_b rfl (hn rfl) rfl yrFo68_4 rfl (by exact List.cons_ne_nil _ _)) ?_
            refine ARun.step rfl (step_load_b rfl (hn rfl) rfl yrSc3 rfl rfl) ?_
            refine ARun.step rfl (step_moveV rfl (hn rfl) rfl rfl) ?_
            refine ARun.step rfl (step_leq rfl (hn rfl) rfl rfl rfl) ?_
            refine ARun.step rfl (step_moveV rfl (hn rfl) rfl rfl) ?_
            refine guardS rfl rfl rfl rfl (hn rfl) (fun g1 g2 => step_field_b rfl (hn rfl) rfl yrFo68_4 rfl (by exact List.cons_ne_nil _ _)) ?_
            refine guardS rfl rfl rfl rfl (hn rfl) (fun g1 g2 => step_load_b rfl (hn rfl) rfl yrSc3 (ev_true rfl (by exact flag2 g1 g2)) rfl) ?_
            refine guardS rfl rfl rfl rfl (hn rfl) (fun g1 g2 => step_geq rfl (hn rfl) rfl (ev_true rfl (by exact flag2 g1 g2)) rfl) ?_
            refine guardS rfl rfl rfl rfl (hn rfl) (fun g1 g2 => step_moveV rfl (hn rfl) rfl (ev_true rfl (by exact flag2 g1 g2))) ?_
            refine guardS rfl rfl rfl rfl (hn rfl) (fun g1 g2 => step_moveV rfl (hn rfl) rfl rfl) ?_
            refine guardS rfl rfl rfl rfl (hn rfl) (fun g1 g2 => step_eql rfl (hn rfl) rfl (ev_true rfl (by exact flag2 g1 g2)) rfl) ?_
            refine guardS rfl rfl rfl rfl (hn rfl) (fun g1 g2 => step_moveV rfl (hn rfl) rfl (ev_true rfl (by exact flag2 g1 g2))) ?_
            refine guardS rfl rfl rfl rfl (hn rfl) (fun g1 g2 => step_field_b rfl (hn rfl) rfl yrFo68_4 rfl (by exact List.cons_ne_nil _ _)) ?_
            refine guardS rfl rfl rfl rfl (hn rfl) (fun g1 g2 => step_load_b rfl (hn rfl) rfl yrSc3 (ev_true rfl (by exact flag2 g1 g2)) rfl) ?_
            refine guardS rfl rfl rfl rfl (hn rfl) (fun g1 g2 => step_eql rfl (hn rfl) rfl (ev_true rfl (by exact flag2 g1 g2)) rfl) ?_
            refine guardS rfl rfl rfl rfl (hn rfl) (fun g1 g2 => step_and rfl (hn rfl) rfl (ev_true rfl (by exact flag2 g1 g2)) rfl (fun h => (by exact flag2 (by exact flag2 g1 g2) h))) ?_
            refine guardS rfl rfl rfl rfl (hn rfl) (fun g1 g2 => step_or rfl (hn rfl) rfl (ev_true rfl (by exact flag2 g1 g2)) rfl (fun h => (by exact flag2 (by exact flag2 g1 g2) h))) ?_
            refine ARun.step rfl (step_and rfl (hn rfl) rfl rfl rfl (fun h => (by exact flag1 h))) ?_
            refine ARun.step rfl (step_assignV rfl (hn rfl) rfl rfl) ?_
            refine ARun.nil ?_
            refine AWp.ret ?_
            refine RetIs.sc (.inr rfl) rfl rfl ?_
            refine congrArg T.bool ?_
            simp_all [phaseOk, argsOk, plainOk, inB]; try grind
      · try simp only [nrm] at c4
        refine AWp.seq (AWp.region ?_)
        refine ARun.step rfl (step_eql rfl (hn rfl) rfl rfl rfl) ?_
        refine ARun.step rfl (step_assignV rfl (hn rfl) rfl rfl) ?_
        refine ARun.nil ?_
        refine AWp.cond rfl (fun c7 => ?_) (fun c7 => ?_)
        · try simp only [nrm] at c7
          refine AWp.region ?_
          refine ARun.step rfl (step_field_b rfl (hn rfl) rfl yrFo68_5 rfl (by exact List.cons_ne_nil _ _)) ?_
          refine ARun.step rfl (step_load_b rfl (hn rfl) rfl yrSc3 rfl rfl) ?_
          refine ARun.step rfl (step_assignV rfl (hn rfl) rfl rfl) ?_
          refine ARun.nil ?_
          refine AWp.seq ?_
          refine AWp.seq (AWp.region ?_)
          refine ARun.step rfl (step_moveV rfl (hn rfl) rfl rfl) ?_
          refine ARun.step rfl (step_moveV rfl (hn rfl) rfl rfl) ?_
          refine guardS rfl rfl rfl rfl (hn rfl) (fun g1 g2 => step_field_b rfl (hn rfl) rfl yrFo68_3 rfl (by exact List.cons_ne_nil _ _)) ?_
          refine guardS rfl rfl rfl rfl (hn rfl) (fun g1 g2 => step_load_b rfl (hn rfl) rfl yrSc9 (ev_true rfl (by exact flag2 g1 g2)) rfl) ?_
          refine guardS rfl rfl rfl rfl (hn rfl) (fun g1 g2 => call_step1 rfl (hn rfl) rfl yrCo67 (.cons (ev_true rfl (by exact flag2 g1 g2)) (.one (.v _)) (.nil)) (isNameI _) rfl) ?_
          refine guardS rfl rfl rfl rfl (hn rfl) (fun g1 g2 => step_not rfl (hn rfl) rfl (ev_true rfl (by exact flag2 g1 g2))) ?_
          refine ARun.step rfl (step_and rfl (hn rfl) rfl rfl rfl (fun h => (by exact flag1 h))) ?_
          refine ARun.step rfl (step_moveV rfl (hn rfl) rfl rfl) ?_
          refine guardS rfl rfl rfl rfl (hn rfl) (fun g1 g2 => step_moveV rfl (hn rfl) rfl rfl) ?_
          refine guardS rfl rfl rfl rfl (hn rfl) (fun g1 g2 => step_not rfl (hn rfl) rfl (ev_true rfl (by exact flag2 g1 g2))) ?_
          refine guardS rfl rfl rfl rfl (hn rfl) (fun g1 g2 => step_moveV rfl (hn rfl) rfl (ev_true rfl (by exact flag2 g1 g2))) ?_
          refine guardS rfl rfl rfl rfl (hn rfl) (fun g1 g2 => step_field_b rfl (hn rfl) rfl yrFo68_3 rfl (by exact List.cons_ne_nil _ _)) ?_
          refine guardS rfl rfl rfl rfl (hn rfl) (fun g1 g2 => step_load_b rfl (hn rfl) rfl yrSc9 (ev_true rfl (by exact flag2 g1 g2)) rfl) ?_
          refine guardS rfl rfl rfl rfl (hn rfl) (fun g1 g2 => step_sneq rfl (hn rfl) rfl (ev_true rfl (by exact flag2 g1 g2)) rfl) ?_
          refine guardS rfl rfl rfl rfl (hn rfl) (fun g1 g2 => step_and rfl (hn rfl) rfl (ev_true rfl (by exact flag2 g1 g2)) rfl (fun h => (by exact flag2 (by exact flag2 g1 g2) h))) ?_
          refine ARun.step rfl (step_or rfl (hn rfl) rfl rfl rfl (fun h => (by exact flag1 h))) ?_
          refine ARun.nil ?_
          refine AWp.cond rfl (fun c8 => ?_) (fun c8 => ?_)
          · try simp only [nrm] at c8
            refine AWp.seq (AWp.region ?_)
            refine ARun.step rfl (step_assignV rfl (hn rfl) rfl rfl) ?_
            refine ARun.nil ?_
            refine AWp.ret ?_
            refine RetIs.sc (.inr rfl) rfl rfl ?_
            refine congrArg T.bool ?_
            simp_all [phaseOk, argsOk, plainOk, inB]; try grind
          · try simp only [nrm] at c8
            refine AWp.skip ?_
            refine AWp.seq (AWp.region ?_)
            refine ARun.step rfl (step_field_b rfl (hn rfl) rfl yrFo68_4 rfl (by exact List.cons_ne_nil _ _)) ?_
            refine ARun.step rfl (step_load_b rfl (hn rfl) rfl yrSc3 rfl rfl) ?_
            refine ARun.step rfl (step_moveV rfl (hn rfl) rfl rfl) ?_
            refine ARun.step rfl (step_leq rfl (hn rfl) rfl rfl rfl) ?_
            refine ARun.step rfl (step_moveV rfl (hn rfl) rfl rfl) ?_
            refine guardS rfl rfl rfl rfl (hn rfl) (fun g1 g2 => step_field_b rfl (hn rfl) rfl yrFo68_4 rfl (by exact List.cons_ne_nil _ _)) ?_
            refine guardS rfl rfl rfl rfl (hn rfl) (fun g1 g2 => step_load_b rfl (hn rfl) rfl yrSc3 (ev_true rfl (by exact flag2 g1 g2)) rfl) ?_
            refine guardS rfl rfl rfl rfl (hn rfl) (fun g1 g2 => step_geq rfl (hn rfl) rfl (ev_true rfl (by exact flag2 g1 g2)) rfl) ?_
            refine guardS rfl rfl rfl rfl (hn rfl) (fun g1 g2 => step_moveV rfl (hn rfl) rfl (ev_true rfl (by exact flag2 g1 g2))) ?_
            refine guardS rfl rfl rfl rfl (hn rfl) (fun g1 g2 => step_moveV rfl (hn rfl) rfl rfl) ?_
            refine guardS rfl rfl rfl rfl (hn rfl) (fun g1 g2 => step_eql rfl (hn rfl) rfl (ev_true rfl (by exact flag2 g1 g2)) rfl) ?_
            refine guardS rfl rfl rfl rfl (hn rfl) (fun g1 g2 => step_moveV rfl (hn rfl) rfl (ev_true rfl (by exact flag2 g1 g2))) ?_
            refine guardS rfl rfl rfl rfl (hn rfl) (fun g1 g2 => step_field_b rfl (hn rfl) rfl yrFo68_4 rfl (by exact List.cons_ne_nil _ _)) ?_
            refine guardS rfl rfl rfl rfl (hn rfl) (fun g1 g2 => step_load_b rfl (hn rfl) rfl yrSc3 (ev_true rfl (by exact flag2 g1 g2)) rfl) ?_
            refine guardS rfl rfl rfl rfl (hn rfl) (fun g1 g2 => step_eql rfl (hn rfl) rfl (ev_true rfl (by exact flag2 g1 g2)) rfl) ?_
            refine guardS rfl rfl rfl rfl (hn rfl) (fun g1 g2 => step_and rfl (hn rfl) rfl (ev_true rfl (by exact flag2 g1 g2)) rfl (fun h => (by exact flag2 (by exact flag2 g1 g2) h))) ?_
            refine guardS rfl rfl rfl rfl (hn rfl) (fun g1 g2 => step_or rfl (hn rfl) rfl (ev_true rfl (by exact flag2 g1 g2)) rfl (fun h => (by exact flag2 (by exact flag2 g1 g2) h))) ?_
            refine ARun.step rfl (step_and rfl (hn rfl) rfl rfl rfl (fun h => (by exact flag1 h))) ?_
            refine ARun.step rfl (step_assignV rfl (hn rfl) rfl rfl) ?_
            refine ARun.nil ?_
            refine AWp.ret ?_
            refine RetIs.sc (.inr rfl) rfl rfl ?_
            refine congrArg T.bool ?_
            simp_all [phaseOk, argsOk, plainOk, inB]; try grind
        · try simp only [nrm] at c7
          refine AWp.seq ?_
          refine AWp.seq (AWp.region ?_)
          refine ARun.step rfl (step_eql rfl (hn rfl) rfl rfl rfl) ?_
          refine ARun.step rfl (step_assignV rfl (hn rfl) rfl rfl) ?_
          refine ARun.nil ?_
          refine AWp.cond rfl (fun c9 => ?_) (fun c9 => ?_)
          · try simp only [nrm] at c9
            refine AWp.skip ?_
            refine AWp.cond rfl (fun c10 => ?_) (fun c10 => ?_)
            · try simp only [nrm] at c10
              refine AWp.region ?_
              refine ARun.step rfl (step_assignV rfl (hn rfl) rfl rfl) ?_
              refine ARun.nil ?_
              refine AWp.seq ?_
              refine AWp.seq (AWp.region ?_)
              refine ARun.step rfl (step_moveV rfl (hn rfl) rfl rfl) ?_
              refine ARun.step rfl (step_moveV rfl (hn rfl) rfl rfl) ?_
              refine guardS rfl rfl rfl rfl (hn rfl) (fun g1 g2 => step_field_b rfl (hn rfl) rfl yrFo68_3 rfl (by exact List.cons_ne_nil _ _)) ?_
              refine guardS rfl rfl rfl rfl (hn rfl) (fun g1 g2 => step_load_b rfl (hn rfl) rfl yrSc9 (ev_true rfl (by exact flag2 g1 g2)) rfl) ?_
              refine guardS rfl rfl rfl rfl (hn rfl) (fun g1 g2 => call_step1 rfl (hn rfl) rfl yrCo67 (.cons (ev_true rfl (by exact flag2 g1 g2)) (.one (.v _)) (.nil)) (isNameI _) rfl) ?_
              refine guardS rfl rfl rfl rfl (hn rfl) (fun g1 g2 => step_not rfl (hn rfl) rfl (ev_true rfl (by exact flag2 g1 g2))) ?_
              refine ARun.step rfl (step_and rfl (hn rfl) rfl rfl rfl (fun h => (by exact flag1 h))) ?_
              refine ARun.step rfl (step_moveV rfl (hn rfl) rfl rfl) ?_
              refine guardS rfl rfl rfl rfl (hn rfl) (fun g1 g2 => step_moveV rfl (hn rfl) rfl rfl) ?_
              refine guardS rfl rfl rfl rfl (hn rfl) (fun g1 g2 => step_not rfl (hn rfl) rfl (ev_true rfl (by exact flag2 g1 g2))) ?_
              refine guardS rfl rfl rfl rfl (hn rfl) (fun g1 g2 => step_moveV rfl (hn rfl) rfl (ev_true rfl (by exact flag2 g1 g2))) ?_
              refine guardS rfl rfl rfl rfl (hn rfl) (fun g1 g2 => step_field_b rfl (hn rfl) rfl yrFo68_3 rfl (by exact List.cons_ne_nil _ _)) ?_
              refine guardS rfl rfl rfl rfl (hn rfl) (fun g1 g2 => step_load_b rfl (hn rfl) rfl yrSc9 (ev_true rfl (by exact flag2 g1 g2)) rfl) ?_
              refine guardS rfl rfl rfl rfl (hn rfl) (fun g1 g2 => step_sneq rfl (hn rfl) rfl (ev_true rfl (by exact flag2 g1 g2)) rfl) ?_
              refine guardS rfl rfl rfl rfl (hn rfl) (fun g1 g2 => step_and rfl (hn rfl) rfl (ev_true rfl (by exact flag2 g1 g2)) rfl (fun h => (by exact flag2 (by exact flag2 g1 g2) h))) ?_
              refine ARun.step rfl (step_or rfl (hn rfl) rfl rfl rfl (fun h => (by exact flag1 h))) ?_
              refine ARun.nil ?_
              refine AWp.cond rfl (fun c11 => ?_) (fun c11 => ?_)
              · try simp only [nrm] at c11
                refine AWp.seq (AWp.region ?_)
                refine ARun.step rfl (step_assignV rfl (hn rfl) rfl rfl) ?_
                refine ARun.nil ?_
                refine AWp.ret ?_
                refine RetIs.sc (.inr rfl) rfl rfl ?_
                refine congrArg T.bool ?_
                simp_all [phaseOk, argsOk, plainOk, inB]; try grind
              · try simp only [nrm] at c11
                refine AWp.skip ?_
                refine AWp.seq (AWp.region ?_)
                refine ARun.step rfl (step_field_b rfl (hn rfl) rfl yrFo68_4 rfl (by exact List.cons_ne_nil _ _)) ?_
                refine ARun.step rfl (step_load_b rfl (hn rfl) rfl yrSc3 rfl rfl) ?_
                refine ARun.step rfl (step_moveV rfl (hn rfl) rfl rfl) ?_
                refine ARun.step rfl (step_leq rfl (hn rfl) rfl rfl rfl) ?_
                refine ARun.step rfl (step_moveV rfl (hn rfl) rfl rfl) ?_
                refine guardS rfl rfl rfl rfl (hn rfl) (fun g1 g2 => step_field_b rfl (hn rfl) rfl yrFo68_4 rfl (by exact List.cons_ne_nil _ _)) ?_
                refine guardS rfl rfl rfl rfl (hn rfl) (fun g1 g2 => step_load_b rfl (hn rfl) rfl yrSc3 (ev_true rfl (by exact flag2 g1 g2)) rfl) ?_
                refine guardS rfl rfl rfl rfl (hn rfl) (fun g1 g2 => step_geq rfl (hn rfl) rfl (ev_true rfl (by exact flag2 g1 g2)) rfl) ?_
                refine guardS rfl rfl rfl rfl (hn rfl) (fun g1 g2 => step_moveV rfl (hn rfl) rfl (ev_true rfl (by exact flag2 g1 g2))) ?_
                refine guardS rfl rfl rfl rfl (hn rfl) (fun g1 g2 => step_moveV rfl (hn rfl) rfl rfl) ?_
                refine guardS rfl rfl rfl rfl (hn rfl) (fun g1 g2 => step_eql rfl (hn rfl) rfl (ev_true rfl (by exact flag2 g1 g2)) rfl) ?_
                refine guardS rfl rfl rfl rfl (hn rfl) (fun g1 g2 => step_moveV rfl (hn rfl) rfl (ev_true rfl (by exact flag2 g1 g2))) ?_
                refine guardS rfl rfl rfl rfl (hn rfl) (fun g1 g2 => step_field_b rfl (hn rfl) rfl yrFo68_4 rfl (by exact List.cons_ne_nil _ _)) ?_
                refine guardS rfl rfl rfl rfl (hn rfl) (fun g1 g2 => step_load_b rfl (hn rfl) rfl yrSc3 (ev_true rfl (by exact flag2 g1 g2)) rfl) ?_
                refine guardS rfl rfl rfl rfl (hn rfl) (fun g1 g2 => step_eql rfl (hn rfl) rfl (ev_true rfl (by exact flag2 g1 g2)) rfl) ?_
                refine guardS rfl rfl rfl rfl (hn rfl) (fun g1 g2 => step_and rfl (hn rfl) rfl (ev_true rfl (by exact flag2 g1 g2)) rfl (fun h => (by exact flag2 (by exact flag2 g1 g2) h))) ?_
                refine guardS rfl rfl rfl rfl (hn rfl) (fun g1 g2 => step_or rfl (hn rfl) rfl (ev_true rfl (by exact flag2 g1 g2)) rfl (fun h => (by exact flag2 (by exact flag2 g1 g2) h))) ?_
                refine ARun.step rfl (step_and rfl (hn rfl) rfl rfl rfl (fun h => (by exact flag1 h))) ?_
                refine ARun.step rfl (step_assignV rfl (hn rfl) rfl rfl) ?_
                refine ARun.nil ?_
                refine AWp.ret ?_
                refine RetIs.sc (.inr rfl) rfl rfl ?_
                refine congrArg T.bool ?_
                simp_all [phaseOk, argsOk, plainOk, inB]; try grind
            · try simp only [nrm] at c10
              refine AWp.seq (AWp.region ?_)
              refine ARun.step rfl (step_assignV rfl (hn rfl) rfl rfl) ?_
              refine ARun.nil ?_
              refine AWp.ret ?_
              refine RetIs.sc (.inr rfl) rfl rfl ?_
              refine congrArg T.bool ?_
              simp_all [phaseOk, argsOk, plainOk, inB]; try grind
          · try simp only [nrm] at c9
            refine AWp.region ?_
            refine ARun.step rfl (step_eql rfl (hn rfl) rfl rfl rfl) ?_
            refine ARun.step rfl (step_assignV rfl (hn rfl) rfl rfl) ?_
            refine ARun.nil ?_
            refine AWp.cond rfl (fun c12 => ?_) (fun c12 => ?_)
            · try simp only [nrm] at c12
              refine AWp.region ?_
              refine ARun.step rfl (step_assignV rfl (hn rfl) rfl rfl) ?_
              refine ARun.nil ?_
              refine AWp.seq ?_
              refine AWp.seq (AWp.region ?_)
              refine ARun.step rfl (step_moveV rfl (hn rfl) rfl rfl) ?_
              refine ARun.step rfl (step_moveV rfl (hn rfl) rfl rfl) ?_
              refine guardS rfl rfl rfl rfl (hn rfl) (fun g1 g2 => step_field_b rfl (hn rfl) rfl yrFo68_3 rfl (by exact List.cons_ne_nil _ _)) ?_
              refine guardS rfl rfl rfl rfl (hn rfl) (fun g1 g2 => step_load_b rfl (hn rfl) rfl yrSc9 (ev_true rfl (by exact flag2 g1 g2)) rfl) ?_
              refine guardS rfl rfl rfl rfl (hn rfl) (fun g1 g2 => call_step1 rfl (hn rfl) rfl yrCo67 (.cons (ev_true rfl (by exact flag2 g1 g2)) (.one (.v _)) (.nil)) (isNameI _) rfl) ?_
              refine guardS rfl rfl rfl rfl (hn rfl) (fun g1 g2 => step_not rfl (hn rfl) rfl (ev_true rfl (by exact flag2 g1 g2))) ?_
              refine ARun.step rfl (step_and rfl (hn rfl) rfl rfl rfl (fun h => (by exact flag1 h))) ?_
              refine ARun.step rfl (step_moveV rfl (hn rfl) rfl rfl) ?_
              refine guardS rfl rfl rfl rfl (hn rfl) (fun g1 g2 => step_moveV rfl (hn rfl) rfl rfl) ?_
              refine guardS rfl rfl rfl rfl (hn rfl) (fun g1 g2 => step_not rfl (hn rfl) rfl (ev_true rfl (by exact flag2 g1 g2))) ?_
              refine guardS rfl rfl rfl rfl (hn rfl) (fun g1 g2 => step_moveV rfl (hn rfl) rfl (ev_true rfl (by exact flag2 g1 g2))) ?_
              refine guardS rfl rfl rfl rfl (hn rfl) (fun g1 g2 => step_field_b rfl (hn rfl) rfl yrFo68_3 rfl (by exact List.cons_ne_nil _ _)) ?_
              refine guardS rfl rfl rfl rfl (hn rfl) (fun g1 g2 => step_load_b rfl (hn rfl) rfl yrSc9 (ev_true rfl (by exact flag2 g1 g2)) rfl) ?_
              refine guardS rfl rfl rfl rfl (hn rfl) (fun g1 g2 => step_sneq rfl (hn rfl) rfl (ev_true rfl (by exact flag2 g1 g2)) rfl) ?_
              refine guardS rfl rfl rfl rfl (hn rfl) (fun g1 g2 => step_and rfl (hn rfl) rfl (ev_true rfl (by exact flag2 g1 g2)) rfl (fun h => (by exact flag2 (by exact flag2 g1 g2) h))) ?_
              refine ARun.step rfl (step_or rfl (hn rfl) rfl rfl rfl (fun h => (by exact flag1 h))) ?_
              refine ARun.nil ?_
              refine AWp.cond rfl (fun c13 => ?_) (fun c13 => ?_)
              · try simp only [nrm] at c13
                refine AWp.seq (AWp.region ?_)
                refine ARun.step rfl (step_assignV rfl (hn rfl) rfl rfl) ?_
                refine ARun.nil ?_
                refine AWp.ret ?_
                refine RetIs.sc (.inr rfl) rfl rfl ?_
                refine congrArg T.bool ?_
                simp_all [phaseOk, argsOk, plainOk, inB]; try grind
              · try simp only [nrm] at c13
                refine AWp.skip ?_
                refine AWp.seq (AWp.region ?_)
                refine ARun.step rfl (step_field_b rfl (hn rfl) rfl yrFo68_4 rfl (by exact List.cons_ne_nil _ _)) ?_
                refine ARun.step rfl (step_load_b rfl (hn rfl) rfl yrSc3 rfl rfl) ?_
                refine ARun.step rfl (step_moveV rfl (hn rfl) rfl rfl) ?_
                refine ARun.step rfl (step_leq rfl (hn rfl) rfl rfl rfl) ?_
                refine ARun.step rfl (step_moveV rfl (hn rfl) rfl rfl) ?_
                refine guardS rfl rfl rfl rfl (hn rfl) (fun g1 g2 => step_field_b rfl (hn rfl) rfl yrFo68_4 rfl (by exact List.cons_ne_nil _ _)) ?_
                refine guardS rfl rfl rfl rfl (hn rfl) (fun g1 g2 => step_load_b rfl (hn rfl) rfl yrSc3 (ev_true rfl (by exact flag2 g1 g2)) rfl) ?_
                refine guardS rfl rfl rfl rfl (hn rfl) (fun g1 g2 => step_geq rfl (hn rfl) rfl (ev_true rfl (by exact flag2 g1 g2)) rfl) ?_
                refine guardS rfl rfl rfl rfl (hn rfl) (fun g1 g2 => step_moveV rfl (hn rfl) rfl (ev_true rfl (by exact flag2 g1 g2))) ?_
                refine guardS rfl rfl rfl rfl (hn rfl) (fun g1 g2 => step_moveV rfl (hn rfl) rfl rfl) ?_
                refine guardS rfl rfl rfl rfl (hn rfl) (fun g1 g2 => step_eql rfl (hn rfl) rfl (ev_true rfl (by exact flag2 g1 g2)) rfl) ?_
                refine guardS rfl rfl rfl rfl (hn rfl) (fun g1 g2 => step_moveV rfl (hn rfl) rfl (ev_true rfl (by exact flag2 g1 g2))) ?_
                refine guardS rfl rfl rfl rfl (hn rfl) (fun g1 g2 => step_field_b rfl (hn rfl) rfl yrFo68_4 rfl (by exact List.cons_ne_nil _ _)) ?_
                refine guardS rfl rfl rfl rfl (hn rfl) (fun g1 g2 => step_load_b rfl (hn rfl) rfl yrSc3 (ev_true rfl (by exact flag2 g1 g2)) rfl) ?_
                refine guardS rfl rfl rfl rfl (hn rfl) (fun g1 g2 => step_eql rfl (hn rfl) rfl (ev_true rfl (by exact flag2 g1 g2)) rfl) ?_
                refine guardS rfl rfl rfl rfl (hn rfl) (fun g1 g2 => step_and rfl (hn rfl) rfl (ev_true rfl (by exact flag2 g1 g2)) rfl (fun h => (by exact flag2 (by exact flag2 g1 g2) h))) ?_
                refine guardS rfl rfl rfl rfl (hn rfl) (fun g1 g2 => step_or rfl (hn rfl) rfl (ev_true rfl (by exact flag2 g1 g2)) rfl (fun h => (by exact flag2 (by exact flag2 g1 g2) h))) ?_
                refine ARun.step rfl (step_and rfl (hn rfl) rfl rfl rfl (fun h => (by exact flag1 h))) ?_
                refine ARun.step rfl (step_assignV rfl (hn rfl) rfl rfl) ?_
                refine ARun.nil ?_
                refine AWp.ret ?_
                refine RetIs.sc (.inr rfl) rfl rfl ?_
                refine congrArg T.bool ?_
                simp_all [phaseOk, argsOk, plainOk, inB]; try grind
            · try simp only [nrm] at c12
              refine AWp.seq (AWp.region ?_)
              refine ARun.step rfl (step_assignV rfl (hn rfl) rfl rfl) ?_
              refine ARun.nil ?_
              refine AWp.ret ?_
              refine RetIs.sc (.inr rfl) rfl rfl ?_
              refine congrArg T.bool ?_
              simp_all [phaseOk, argsOk, plainOk, inB]; try grind
theorem phaseI (l : List Ph) (s : Str)  : ASpec Tryz.prog 101 [.one (phs 68 l), .one (.str s)] (.one (.int .i64 (atP l s))) := by
  refine ASpec.body Tryz.func101 rfl [4] rfl 20 rfl rfl rfl ?_
  refine AWp.lenLe 0 rfl (fun hl => ?_)
  refine AWp.seq (AWp.region ?_)
  refine ARun.step rfl (step_assignV rfl (hn rfl) rfl rfl) ?_
  refine ARun.nil ?_
  refine AWp.seq ?_
  refine AWp.seq (AWp.region ?_)
  refine ARun.step rfl (step_moveV rfl (hn rfl) rfl rfl) ?_
  refine ARun.step rfl (step_len_f rfl (hn rfl) rfl yrSl59 rfl) ?_
  refine ARun.step rfl (step_moveV rfl (hn rfl) rfl rfl) ?_
  refine ARun.nil ?_
  refine AWp.block ?_
  refine AWp.loopM (fun i : Nat => mkAS 20 [(0, ⟨true, .one (.v (phs 68 l))⟩), (1, ⟨true, .one (.v (.str s))⟩), (7, ⟨true, .one (.v (phs 68 l))⟩), (8, ⟨true, .one (.v (.int .i64 (l.length : Nat)))⟩), (9, ⟨true, .one (.v (.int .i64 (i : Nat)))⟩)] [] []) (fun i => i ≤ l.length ∧ ∀ j, j < i → strEq (nth l j).name s = false) (fun i => l.length - i) 0 ?_ (Le.forgetR rfl ⟨rfl, rfl, rfl, rfl, rfl, trivial⟩ trivial trivial) ?_
  · try dsimp only
    exact ⟨by omega, by omega⟩
  rintro i ⟨hi, hall⟩
  refine AWp.seq (AWp.region ?_)
  refine ARun.step rfl (step_lss rfl (hn rfl) rfl rfl rfl) ?_
  refine ARun.nil ?_
  refine AWp.seq ?_
  refine AWp.cond rfl (fun c1 => ?_) (fun c1 => ?_)
  · try simp only [nrm] at c1
    refine AWp.skip ?_
    refine AWp.seq ?_
    refine AWp.block ?_
    refine AWp.seq (AWp.region ?_)
    refine ARun.step rfl (step_moveV rfl (hn rfl) rfl rfl) ?_
    refine ARun.step rfl (step_index_fN rfl (hn rfl) rfl yrSl59 rfl rfl (by omega)) ?_
    refine ARun.step rfl (step_loadS_f rfl (hn rfl) rfl yrSt68 rfl (hn rfl) rfl rfl) ?_
    refine ARun.step rfl (step_alloc_p rfl (hn rfl) rfl yrZs68) ?_
    refine ARun.step rfl (step_assignV rfl (hn rfl) rfl rfl) ?_
    refine ARun.step rfl (step_store_p rfl rfl yrCs68 rfl rfl rfl rfl rfl rfl rfl) ?_
    refine ARun.nil ?_
    refine AWp.seq (AWp.region ?_)
    refine ARun.step rfl (step_field_b rfl (hn rfl) rfl yrFo68_0 rfl (by exact List.cons_ne_nil _ _)) ?_
    refine ARun.step rfl (step_load_b rfl (hn rfl) rfl yrSc9 rfl rfl) ?_
    refine ARun.step rfl (step_moveV rfl (hn rfl) rfl rfl) ?_
    refine ARun.step rfl (step_seql rfl (hn rfl) rfl rfl rfl) ?_
    refine ARun.nil ?_
    refine AWp.cond rfl (fun c2 => ?_) (fun c2 => ?_)
    · try simp only [nrm] at c2
      refine AWp.seq (AWp.region ?_)
      refine ARun.step rfl (step_moveV rfl (hn rfl) rfl rfl) ?_
      refine ARun.step rfl (step_assignV rfl (hn rfl) rfl rfl) ?_
      refine ARun.nil ?_
      refine AWp.ret ?_
      refine RetIs.sc (.inr rfl) rfl rfl ?_
      refine congrArg (T.int _) ?_
      exact atP_some hall (by omega) c2
    · try simp only [nrm] at c2
      refine AWp.skip ?_
      refine AWp.region ?_
      refine ARun.step rfl (step_addI rfl (hn rfl) rfl rfl rfl (by omega) (by omega)) ?_
      refine ARun.step rfl (step_moveV rfl (hn rfl) rfl rfl) ?_
      refine ARun.nil ?_
      refine ⟨i + 1, ?_, ?_, Le.forgetR rfl ⟨rfl, rfl, rfl, rfl, rfl, trivial⟩ trivial trivial⟩
      · try dsimp only
        exact ⟨by omega, upto hall (by assumption)⟩
      · try dsimp only
        omega
  · try simp only [nrm] at c1
    refine AWp.exit ?_
    refine AWp.seq (AWp.region ?_)
    refine ARun.step rfl (step_assignV rfl (hn rfl) rfl rfl) ?_
    refine ARun.nil ?_
    refine AWp.ret ?_
    refine RetIs.sc (.inr rfl) rfl rfl ?_
    refine congrArg (T.int _) ?_
    exact atP_none hall (by omega)
theorem l42At (l : List Ph) (s : Str)  : ASpec Tryz.prog 105 [.one (phs 68 l), .one (.str s)] (.one (.int .i64 (atP l s))) := by
  refine ASpec.body Tryz.func105 rfl [4] rfl 20 rfl rfl rfl ?_
  refine AWp.lenLe 0 rfl (fun hl => ?_)
  refine AWp.seq (AWp.region ?_)
  refine ARun.step rfl (step_assignV rfl (hn rfl) rfl rfl) ?_
  refine ARun.nil ?_
  refine AWp.seq ?_
  refine AWp.seq (AWp.region ?_)
  refine ARun.step rfl (step_assignV rfl (hn rfl) rfl rfl) ?_
  refine ARun.nil ?_
  refine AWp.block ?_
  refine AWp.loopM (fun i : Nat => mkAS 20 [(0, ⟨true, .one (.v (phs 68 l))⟩), (1, ⟨true, .one (.v (.str s))⟩), (5, ⟨true, .one (.v (.int .i64 (i : Nat)))⟩)] [] []) (fun i => i ≤ l.length ∧ ∀ j, j < i → strEq (nth l j).name s = false) (fun i => l.length - i) 0 ?_ (Le.forgetR rfl ⟨rfl, rfl, rfl, trivial⟩ trivial trivial) ?_
  · try dsimp only
    exact ⟨by omega, by omega⟩
  rintro i ⟨hi, hall⟩
  refine AWp.seq ?_
  refine AWp.seq (AWp.region ?_)
  refine ARun.step rfl (step_moveV rfl (hn rfl) rfl rfl) ?_
  refine ARun.step rfl (step_moveV rfl (hn rfl) rfl rfl) ?_
  refine ARun.step rfl (step_len_f rfl (hn rfl) rfl yrSl59 rfl) ?_
  refine ARun.step rfl (step_lss rfl (hn rfl) rfl rfl rfl) ?_
  refine ARun.nil ?_
  refine AWp.cond rfl (fun c1 => ?_) (fun c1 => ?_)
  · try simp only [nrm] at c1
    refine AWp.skip ?_
    refine AWp.seq ?_
    refine AWp.block ?_
    refine AWp.seq (AWp.region ?_)
    refine ARun.step rfl (step_moveV rfl (hn rfl) rfl rfl) ?_
    refine ARun.step rfl (step_moveV rfl (hn rfl) rfl rfl) ?_
    refine ARun.step rfl (step_index_fN rfl (hn rfl) rfl yrSl59 rfl rfl (by omega)) ?_
    refine ARun.step rfl (step_field_f rfl (hn rfl) rfl yrFo68_0 rfl) ?_
    refine ARun.step rfl (step_load_f rfl (hn rfl) rfl yrSc9 rfl (hn rfl) rfl) ?_
    refine ARun.step rfl (step_moveV rfl (hn rfl) rfl rfl) ?_
    refine ARun.step rfl (step_seql rfl (hn rfl) rfl rfl rfl) ?_
    refine ARun.nil ?_
    refine AWp.cond rfl (fun c2 => ?_) (fun c2 => ?_)
    · try simp only [nrm] at c2
      refine AWp.seq (AWp.region ?_)
      refine ARun.step rfl (step_moveV rfl (hn rfl) rfl rfl) ?_
      refine ARun.step rfl (step_assignV rfl (hn rfl) rfl rfl) ?_
      refine ARun.nil ?_
      refine AWp.ret ?_
      refine RetIs.sc (.inr rfl) rfl rfl ?_
      refine congrArg (T.int _) ?_
      exact atP_some hall (by omega) c2
    · try simp only [nrm] at c2
      refine AWp.skip ?_
      refine AWp.region ?_
      refine ARun.step rfl (step_moveV rfl (hn rfl) rfl rfl) ?_
      refine ARun.step rfl (step_addI rfl (hn rfl) rfl rfl rfl (by omega) (by omega)) ?_
      refine ARun.step rfl (step_assignV rfl (hn rfl) rfl rfl) ?_
      refine ARun.nil ?_
      refine ⟨i + 1, ?_, ?_, Le.forgetR rfl ⟨rfl, rfl, rfl, trivial⟩ trivial trivial⟩
      · try dsimp only
        exact ⟨by omega, upto hall (by assumption)⟩
      · try dsimp only
        omega
  · try simp only [nrm] at c1
    refine AWp.exit ?_
    refine AWp.seq (AWp.region ?_)
    refine ARun.step rfl (step_assignV rfl (hn rfl) rfl rfl) ?_
    refine ARun.nil ?_
    refine AWp.ret ?_
    refine RetIs.sc (.inr rfl) rfl rfl ?_
    refine congrArg (T.int _) ?_
    exact atP_none hall (by omega)
theorem szPhI (p : Ph) (m : Int) (hm : 0 ≤ m) (hm2 : m ≤ 1048576) : ASpec Tryz.prog 220 [.agg p.cells, .one (.int .i64 m)] (.one (.int .i64 (szPh p m))) := by
  refine ASpec.body Tryz.func220 rfl [4] rfl 41 rfl rfl rfl ?_
  refine AWp.aggLe 0 rfl (fun hc => ?_)
  obtain ⟨q1, q2, q3, q4, q5⟩ := Ph.le hc
  clear hc
  refine AWp.seq (AWp.region ?_)
  refine ARun.step rfl (step_box_p (m := 7) rfl (hn rfl) rfl rfl rfl rfl rfl) ?_
  refine ARun.step rfl (step_assignV rfl (hn rfl) rfl rfl) ?_
  refine ARun.nil ?_
  refine AWp.seq (AWp.region ?_)
  refine ARun.step rfl (step_moveV rfl (hn rfl) rfl rfl) ?_
  refine ARun.step rfl (step_field_b rfl (hn rfl) rfl yrFo229_0 rfl (by exact List.cons_ne_nil _ _)) ?_
  refine ARun.step rfl (step_load_b rfl (hn rfl) rfl yrSc9 rfl rfl) ?_
  refine ARun.step rfl (step_len_str rfl (hn rfl) rfl yrUs9 rfl) ?_
  refine ARun.step rfl (step_subI rfl (hn rfl) rfl rfl rfl (by omega) (by omega)) ?_
  refine ARun.step rfl (step_assignV rfl (hn rfl) rfl rfl) ?_
  refine ARun.nil ?_
  refine AWp.seq ?_
  refine AWp.seq (AWp.region ?_)
  refine ARun.step rfl (step_moveV rfl (hn rfl) rfl rfl) ?_
  refine ARun.step rfl (step_lss rfl (hn rfl) rfl rfl rfl) ?_
  refine ARun.nil ?_
  refine AWp.cond rfl (fun c1 => ?_) (fun c1 => ?_)
  · try simp only [nrm] at c1
    refine AWp.seq (AWp.region ?_)
    refine ARun.step rfl (step_assignV rfl (hn rfl) rfl rfl) ?_
    refine ARun.nil ?_
    refine AWp.ret ?_
    refine RetIs.sc (.inr rfl) rfl rfl ?_
    refine congrArg (T.int _) ?_
    simp only [szPh]
    repeat' split
    all_goals first | rfl | omega
  · try simp only [nrm] at c1
    refine AWp.skip ?_
    refine AWp.seq (AWp.region ?_)
    refine ARun.step rfl (step_moveV rfl (hn rfl) rfl rfl) ?_
    refine ARun.step rfl (step_field_b rfl (hn rfl) rfl yrFo229_2 rfl (by exact List.cons_ne_nil _ _)) ?_
    refine ARun.step rfl (step_load_b rfl (hn rfl) rfl yrSc9 rfl rfl) ?_
    refine ARun.step rfl (step_len_str rfl (hn rfl) rfl yrUs9 rfl) ?_
    refine ARun.step rfl (step_subI rfl (hn rfl) rfl rfl rfl (by omega) (by omega)) ?_
    refine ARun.step rfl (step_assignV rfl (hn rfl) rfl rfl) ?_
    refine ARun.nil ?_
    refine AWp.seq ?_
    refine AWp.seq (AWp.region ?_)
    refine ARun.step rfl (step_moveV rfl (hn rfl) rfl rfl) ?_
    refine ARun.step rfl (step_lss rfl (hn rfl) rfl rfl rfl) ?_
    refine ARun.nil ?_
    refine AWp.cond rfl (fun c2 => ?_) (fun c2 => ?_)
    · try simp only [nrm] at c2
      refine AWp.seq (AWp.region ?_)
      refine ARun.step rfl (step_assignV rfl (hn rfl) rfl rfl) ?_
      refine ARun.nil ?_
      refine AWp.ret ?_
      refine RetIs.sc (.inr rfl) rfl rfl ?_
      refine congrArg (T.int _) ?_
      simp only [szPh]
      repeat' split
      all_goals first | rfl | omega
    · try simp only [nrm] at c2
      refine AWp.skip ?_
      refine AWp.seq (AWp.region ?_)
      refine ARun.step rfl (step_moveV rfl (hn rfl) rfl rfl) ?_
      refine ARun.step rfl (step_field_b rfl (hn rfl) rfl yrFo229_3 rfl (by exact List.cons_ne_nil _ _)) ?_
      refine ARun.step rfl (step_load_b rfl (hn rfl) rfl yrSc9 rfl rfl) ?_
      refine ARun.step rfl (step_len_str rfl (hn rfl) rfl yrUs9 rfl) ?_
      refine ARun.step rfl (step_subI rfl (hn rfl) rfl rfl rfl (by omega) (by omega)) ?_
      refine ARun.step rfl (step_assignV rfl (hn rfl) rfl rfl) ?_
      refine ARun.nil ?_
      refine AWp.seq ?_
      refine AWp.seq (AWp.region ?_)
      refine ARun.step rfl (step_moveV rfl (hn rfl) rfl rfl) ?_
      refine ARun.step rfl (step_lss rfl (hn rfl) rfl rfl rfl) ?_
      refine ARun.nil ?_
      refine AWp.cond rfl (fun c3 => ?_) (fun c3 => ?_)
      · try simp only [nrm] at c3
        refine AWp.seq (AWp.region ?_)
        refine ARun.step rfl (step_assignV rfl (hn rfl) rfl rfl) ?_
        refine ARun.nil ?_
        refine AWp.ret ?_
        refine RetIs.sc (.inr rfl) rfl rfl ?_
        refine congrArg (T.int _) ?_
        simp only [szPh]
        repeat' split
        all_goals first | rfl | omega
      · try simp only [nrm] at c3
        refine AWp.skip ?_
        refine AWp.seq (AWp.region ?_)
        refine ARun.step rfl (step_moveV rfl (hn rfl) rfl rfl) ?_
        refine ARun.step rfl (step_field_b rfl (hn rfl) rfl yrFo229_6 rfl (by exact List.cons_ne_nil _ _)) ?_
        refine ARun.step rfl (step_load_b rfl (hn rfl) rfl yrSc9 rfl rfl) ?_
        refine ARun.step rfl (step_len_str rfl (hn rfl) rfl yrUs9 rfl) ?_
        refine ARun.step rfl (step_subI rfl (hn rfl) rfl rfl rfl (by omega) (by omega)) ?_
        refine ARun.step rfl (step_assignV rfl (hn rfl) rfl rfl) ?_
        refine ARun.nil ?_
        refine AWp.seq ?_
        refine AWp.seq (AWp.region ?_)
        refine ARun.step rfl (step_moveV rfl (hn rfl) rfl rfl) ?_
        refine ARun.step rfl (step_lss rfl (hn rfl) rfl rfl rfl) ?_
        refine ARun.nil ?_
        refine AWp.cond rfl (fun c4 => ?_) (fun c4 => ?_)
        · try simp only [nrm] at c4
          refine AWp.seq (AWp.region ?_)
          refine ARun.step rfl (step_assignV rfl (hn rfl) rfl rfl) ?_
          refine ARun.nil ?_
          refine AWp.ret ?_
          refine RetIs.sc (.inr rfl) rfl rfl ?_
          refine congrArg (T.int _) ?_
          simp only [szPh]
          repeat' split
          all_goals first | rfl | omega
        · try simp only [nrm] at c4
          refine AWp.skip ?_
          refine AWp.seq (AWp.region ?_)
          refine ARun.step rfl (step_moveV rfl (hn rfl) rfl rfl) ?_
          refine ARun.step rfl (step_field_b rfl (hn rfl) rfl yrFo229_7 rfl (by exact List.cons_ne_nil _ _)) ?_
          refine ARun.step rfl (step_load_b rfl (hn rfl) rfl yrSc9 rfl rfl) ?_
          refine ARun.step rfl (step_len_str rfl (hn rfl) rfl yrUs9 rfl) ?_
          refine ARun.step rfl (step_subI rfl (hn rfl) rfl rfl rfl (by omega) (by omega)) ?_
          refine ARun.step rfl (step_assignV rfl (hn rfl) rfl rfl) ?_
          refine ARun.nil ?_
          refine AWp.seq ?_
          refine AWp.seq (AWp.region ?_)
          refine ARun.step rfl (step_moveV rfl (hn rfl) rfl rfl) ?_
          refine ARun.step rfl (step_lss rfl (hn rfl) rfl rfl rfl) ?_
          refine ARun.nil ?_
          refine AWp.cond rfl (fun c5 => ?_) (fun c5 => ?_)
          · try simp only [nrm] at c5
            refine AWp.seq (AWp.region ?_)
            refine ARun.step rfl (step_assignV rfl (hn rfl) rfl rfl) ?_
            refine ARun.nil ?_
            refine AWp.ret ?_
            refine RetIs.sc (.inr rfl) rfl rfl ?_
            refine congrArg (T.int _) ?_
            simp only [szPh]
            repeat' split
            all_goals first | rfl | omega
          · try simp only [nrm] at c5
            refine AWp.skip ?_
            refine AWp.seq (AWp.region ?_)
            refine ARun.step rfl (step_moveV rfl (hn rfl) rfl rfl) ?_
            refine ARun.step rfl (step_assignV rfl (hn rfl) rfl rfl) ?_
            refine ARun.nil ?_
            refine AWp.ret ?_
            refine RetIs.sc (.inr rfl) rfl rfl ?_
            refine congrArg (T.int _) ?_
            simp only [szPh]
            repeat' split
            all_goals first | rfl | omega
theorem eqPhI (p q : Ph)  : ASpec Tryz.prog 224 [.agg p.cells, .agg q.cells] (.one (.bool (eqPh p q))) := by
  refine ASpec.body Tryz.func224 rfl [4] rfl 45 rfl rfl rfl ?_
  refine AWp.seq (AWp.region ?_)
  refine ARun.step rfl (step_box_p (m := 7) rfl (hn rfl) rfl rfl rfl rfl rfl) ?_
  refine ARun.step rfl (step_box_p (m := 7) rfl (hn rfl) rfl rfl rfl rfl rfl) ?_
  refine ARun.step rfl (step_assignV rfl (hn rfl) rfl rfl) ?_
  refine ARun.nil ?_
  refine AWp.seq ?_
  refine AWp.seq (AWp.region ?_)
  refine ARun.step rfl (step_field_b rfl (hn rfl) rfl yrFo68_0 rfl (by exact List.cons_ne_nil _ _)) ?_
  refine ARun.step rfl (step_load_b rfl (hn rfl) rfl yrSc9 rfl rfl) ?_
  refine ARun.step rfl (step_field_b rfl (hn rfl) rfl yrFo68_0 rfl (by exact List.cons_ne_nil _ _)) ?_
  refine ARun.step rfl (step_load_b rfl (hn rfl) rfl yrSc9 rfl rfl) ?_
  refine ARun.step rfl (step_sneq rfl (hn rfl) rfl rfl rfl) ?_
  refine ARun.nil ?_
  refine AWp.cond rfl (fun c1 => ?_) (fun c1 => ?_)
  · try simp only [nrm] at c1
    refine AWp.seq (AWp.region ?_)
    refine ARun.step rfl (step_assignV rfl (hn rfl) rfl rfl) ?_
    refine ARun.nil ?_
    refine AWp.ret ?_
    refine RetIs.sc (.inr rfl) rfl rfl ?_
    refine congrArg T.bool ?_
    simp_all [eqPh]
  · try simp only [nrm] at c1
    refine AWp.skip ?_
    refine AWp.seq ?_
    refine AWp.seq (AWp.region ?_)
    refine ARun.step rfl (step_field_b rfl (hn rfl) rfl yrFo68_1 rfl (by exact List.cons_ne_nil _ _)) ?_
    refine ARun.step rfl (step_load_b rfl (hn rfl) rfl yrSc3 rfl rfl) ?_
    refine ARun.step rfl (step_field_b rfl (hn rfl) rfl yrFo68_1 rfl (by exact List.cons_ne_nil _ _)) ?_
    refine ARun.step rfl (step_load_b rfl (hn rfl) rfl yrSc3 rfl rfl) ?_
    refine ARun.step rfl (step_neq rfl (hn rfl) rfl rfl rfl) ?_
    refine ARun.nil ?_
    refine AWp.cond rfl (fun c2 => ?_) (fun c2 => ?_)
    · try simp only [nrm] at c2
      refine AWp.seq (AWp.region ?_)
      refine ARun.step rfl (step_assignV rfl (hn rfl) rfl rfl) ?_
      refine ARun.nil ?_
      refine AWp.ret ?_
      refine RetIs.sc (.inr rfl) rfl rfl ?_
      refine congrArg T.bool ?_
      simp_all [eqPh]
    · try simp only [nrm] at c2
      refine AWp.skip ?_
      refine AWp.seq ?_
      refine AWp.seq (AWp.region ?_)
      refine ARun.step rfl (step_field_b rfl (hn rfl) rfl yrFo68_2 rfl (by exact List.cons_ne_nil _ _)) ?_
      refine ARun.step rfl (step_load_b rfl (hn rfl) rfl yrSc9 rfl rfl) ?_
      refine ARun.step rfl (step_field_b rfl (hn rfl) rfl yrFo68_2 rfl (by exact List.cons_ne_nil _ _)) ?_
      refine ARun.step rfl (step_load_b rfl (hn rfl) rfl yrSc9 rfl rfl) ?_
      refine ARun.step rfl (step_sneq rfl (hn rfl) rfl rfl rfl) ?_
      refine ARun.nil ?_
      refine AWp.cond rfl (fun c3 => ?_) (fun c3 => ?_)
      · try simp only [nrm] at c3
        refine AWp.seq (AWp.region ?_)
        refine ARun.step rfl (step_assignV rfl (hn rfl) rfl rfl) ?_
        refine ARun.nil ?_
        refine AWp.ret ?_
        refine RetIs.sc (.inr rfl) rfl rfl ?_
        refine congrArg T.bool ?_
        simp_all [eqPh]
      · try simp only [nrm] at c3
        refine AWp.skip ?_
        refine AWp.seq ?_
        refine AWp.seq (AWp.region ?_)
        refine ARun.step rfl (step_field_b rfl (hn rfl) rfl yrFo68_3 rfl (by exact List.cons_ne_nil _ _)) ?_
        refine ARun.step rfl (step_load_b rfl (hn rfl) rfl yrSc9 rfl rfl) ?_
        refine ARun.step rfl (step_field_b rfl (hn rfl) rfl yrFo68_3 rfl (by exact List.cons_ne_nil _ _)) ?_
        refine ARun.step rfl (step_load_b rfl (hn rfl) rfl yrSc9 rfl rfl) ?_
        refine ARun.step rfl (step_sneq rfl (hn rfl) rfl rfl rfl) ?_
        refine ARun.nil ?_
        refine AWp.cond rfl (fun c4 => ?_) (fun c4 => ?_)
        · try simp only [nrm] at c4
          refine AWp.seq (AWp.region ?_)
          refine ARun.step rfl (step_assignV rfl (hn rfl) rfl rfl) ?_
          refine ARun.nil ?_
          refine AWp.ret ?_
          refine RetIs.sc (.inr rfl) rfl rfl ?_
          refine congrArg T.bool ?_
          simp_all [eqPh]
        · try simp only [nrm] at c4
          refine AWp.skip ?_
          refine AWp.seq ?_
          refine AWp.seq (AWp.region ?_)
          refine ARun.step rfl (step_field_b rfl (hn rfl) rfl yrFo68_4 rfl (by exact List.cons_ne_nil _ _)) ?_
          refine ARun.step rfl (step_load_b rfl (hn rfl) rfl yrSc3 rfl rfl) ?_
          refine ARun.step rfl (step_field_b rfl (hn rfl) rfl yrFo68_4 rfl (by exact List.cons_ne_nil _ _)) ?_
          refine ARun.step rfl (step_load_b rfl (hn rfl) rfl yrSc3 rfl rfl) ?_
          refine ARun.step rfl (step_neq rfl (hn rfl) rfl rfl rfl) ?_
          refine ARun.nil ?_
          refine AWp.cond rfl (fun c5 => ?_) (fun c5 => ?_)
          · try simp only [nrm] at c5
            refine AWp.seq (AWp.region ?_)
            refine ARun.step rfl (step_assignV rfl (hn rfl) rfl rfl) ?_
            refine ARun.nil ?_
            refine AWp.ret ?_
            refine RetIs.sc (.inr rfl) rfl rfl ?_
            refine congrArg T.bool ?_
            simp_all [eqPh]
          · try simp only [nrm] at c5
            refine AWp.skip ?_
            refine AWp.seq ?_
            refine AWp.seq (AWp.region ?_)
            refine ARun.step rfl (step_field_b rfl (hn rfl) rfl yrFo68_5 rfl (by exact List.cons_ne_nil _ _)) ?_
            refine ARun.step rfl (step_load_b rfl (hn rfl) rfl yrSc3 rfl rfl) ?_
            refine ARun.step rfl (step_field_b rfl (hn rfl) rfl yrFo68_5 rfl (by exact List.cons_ne_nil _ _)) ?_
            refine ARun.step rfl (step_load_b rfl (hn rfl) rfl yrSc3 rfl rfl) ?_
            refine ARun.step rfl (step_neq rfl (hn rfl) rfl rfl rfl) ?_
            refine ARun.nil ?_
            refine AWp.cond rfl (fun c6 => ?_) (fun c6 => ?_)
            · try simp only [nrm] at c6
              refine AWp.seq (AWp.region ?_)
              refine ARun.step rfl (step_assignV rfl (hn rfl) rfl rfl) ?_
              refine ARun.nil ?_
              refine AWp.ret ?_
              refine RetIs.sc (.inr rfl) rfl rfl ?_
              refine congrArg T.bool ?_
              simp_all [eqPh]
            · try simp only [nrm] at c6
              refine AWp.skip ?_
              refine AWp.seq ?_
              refine AWp.seq (AWp.region ?_)
              refine ARun.step rfl (step_field_b rfl (hn rfl) rfl yrFo68_6 rfl (by exact List.cons_ne_nil _ _)) ?_
              refine ARun.step rfl (step_load_b rfl (hn rfl) rfl yrSc9 rfl rfl) ?_
              refine ARun.step rfl (step_field_b rfl (hn rfl) rfl yrFo68_6 rfl (by exact List.cons_ne_nil _ _)) ?_
              refine ARun.step rfl (step_load_b rfl (hn rfl) rfl yrSc9 rfl rfl) ?_
              refine ARun.step rfl (step_sneq rfl (hn rfl) rfl rfl rfl) ?_
              refine ARun.nil ?_
              refine AWp.cond rfl (fun c7 => ?_) (fun c7 => ?_)
              · try simp only [nrm] at c7
                refine AWp.seq (AWp.region ?_)
                refine ARun.step rfl (step_assignV rfl (hn rfl) rfl rfl) ?_
                refine ARun.nil ?_
                refine AWp.ret ?_
                refine RetIs.sc (.inr rfl) rfl rfl ?_
                refine congrArg T.bool ?_
                simp_all [eqPh]
              · try simp only [nrm] at c7
                refine AWp.skip ?_
                refine AWp.seq ?_
                refine AWp.seq (AWp.region ?_)
                refine ARun.step rfl (step_field_b rfl (hn rfl) rfl yrFo68_7 rfl (by exact List.cons_ne_nil _ _)) ?_
                refine ARun.step rfl (step_load_b rfl (hn rfl) rfl yrSc9 rfl rfl) ?_
                refine ARun.step rfl (step_field_b rfl (hn rfl) rfl yrFo68_7 rfl (by exact List.cons_ne_nil _ _)) ?_
                refine ARun.step rfl (step_load_b rfl (hn rfl) rfl yrSc9 rfl rfl) ?_
                refine ARun.step rfl (step_sneq rfl (hn rfl) rfl rfl rfl) ?_
                refine ARun.nil ?_
                refine AWp.cond rfl (fun c8 => ?_) (fun c8 => ?_)
                · try simp only [nrm] at c8
                  refine AWp.seq (AWp.region ?_)
                  refine ARun.step rfl (step_assignV rfl (hn rfl) rfl rfl) ?_
                  refine ARun.nil ?_
                  refine AWp.ret ?_
                  refine RetIs.sc (.inr rfl) rfl rfl ?_
                  refine congrArg T.bool ?_
                  simp_all [eqPh]
                · try simp only [nrm] at c8
                  refine AWp.skip ?_
                  refine AWp.seq (AWp.region ?_)
                  refine ARun.step rfl (step_assignV rfl (hn rfl) rfl rfl) ?_
                  refine ARun.nil ?_
                  refine AWp.ret ?_
                  refine RetIs.sc (.inr rfl) rfl rfl ?_
                  refine congrArg T.bool ?_
                  simp_all [eqPh]
theorem szPhSI (l : List Ph) (m : Int) (hm : 0 ≤ m) (hm2 : m ≤ 1048576) : ASpec Tryz.prog 174 [.one (phs 229 l), .one (.int .i64 m)] (.one (.int .i64 (szL szPh l m))) := by
  refine ASpec.body Tryz.func174 rfl [4] rfl 27 rfl rfl rfl ?_
  refine AWp.lenLe 0 rfl (fun hl => ?_)
  refine AWp.seq (AWp.region ?_)
  refine ARun.step rfl (step_assignV rfl (hn rfl) rfl rfl) ?_
  refine ARun.nil ?_
  refine AWp.seq (AWp.region ?_)
  refine ARun.step rfl (step_moveV rfl (hn rfl) rfl rfl) ?_
  refine ARun.step rfl (step_moveV rfl (hn rfl) rfl rfl) ?_
  refine ARun.step rfl (step_len_f rfl (hn rfl) rfl yrSl138 rfl) ?_
  refine ARun.step rfl (step_subI rfl (hn rfl) rfl rfl rfl (by omega) (by omega)) ?_
  refine ARun.step rfl (step_assignV rfl (hn rfl) rfl rfl) ?_
  refine ARun.nil ?_
  refine AWp.seq ?_
  refine AWp.seq (AWp.region ?_)
  refine ARun.step rfl (step_moveV rfl (hn rfl) rfl rfl) ?_
  refine ARun.step rfl (step_lss rfl (hn rfl) rfl rfl rfl) ?_
  refine ARun.nil ?_
  refine AWp.cond rfl (fun c1 => ?_) (fun c1 => ?_)
  · try simp only [nrm] at c1
    refine AWp.seq (AWp.region ?_)
    refine ARun.step rfl (step_assignV rfl (hn rfl) rfl rfl) ?_
    refine ARun.nil ?_
    refine AWp.ret ?_
    refine RetIs.sc (.inr rfl) rfl rfl ?_
    refine congrArg (T.int _) ?_
    rw [szL, if_pos (by omega)]
  · try simp only [nrm] at c1
    refine AWp.skip ?_
    refine AWp.seq ?_
    refine AWp.seq (AWp.region ?_)
    refine ARun.step rfl (step_assignV rfl (hn rfl) rfl rfl) ?_
    refine ARun.nil ?_
    refine AWp.block ?_
    refine AWp.loopM (fun x : Nat × Int => mkAS 27 [(0, ⟨true, .one (.v (phs 229 l))⟩), (1, ⟨true, .one (.v (.int .i64 x.2))⟩), (5, ⟨true, .one (.v (.int .i64 (x.1 : Nat)))⟩)] [] []) (fun x => x.1 ≤ l.length ∧ 0 ≤ x.2 ∧ x.2 ≤ 1048576 ∧ szGo szPh (l.drop x.1) x.2 = szL szPh l m) (fun x => l.length - x.1) (0, m - l.length) ?_ (Le.forgetR rfl ⟨rfl, rfl, rfl, trivial⟩ trivial trivial) ?_
    · try dsimp only
      exact ⟨by omega, by omega, by omega, by rw [szL, if_neg (by omega), List.drop_zero]⟩
    rintro x ⟨hi, hm3, hm4, hg⟩
    refine AWp.seq ?_
    refine AWp.seq (AWp.region ?_)
    refine ARun.step rfl (step_moveV rfl (hn rfl) rfl rfl) ?_
    refine ARun.step rfl (step_moveV rfl (hn rfl) rfl rfl) ?_
    refine ARun.step rfl (step_len_f rfl (hn rfl) rfl yrSl138 rfl) ?_
    refine ARun.step rfl (step_lss rfl (hn rfl) rfl rfl rfl) ?_
    refine ARun.nil ?_
    refine AWp.cond rfl (fun c2 => ?_) (fun c2 => ?_)
    · try simp only [nrm] at c2
      refine AWp.skip ?_
      refine AWp.seq ?_
      refine AWp.block ?_
      refine AWp.seq (AWp.region ?_)
      refine ARun.step rfl (step_moveV rfl (hn rfl) rfl rfl) ?_
      refine ARun.step rfl (step_moveV rfl (hn rfl) rfl rfl) ?_
      refine ARun.step rfl (step_index_fN rfl (hn rfl) rfl yrSl138 rfl rfl (by omega)) ?_
      refine ARun.step rfl (step_loadS_f rfl (hn rfl) rfl yrSt229 rfl (hn rfl) rfl rfl) ?_
      refine ARun.step rfl (step_moveV rfl (hn rfl) rfl rfl) ?_
      refine ARun.step rfl (call_step1 rfl (hn rfl) rfl yrCo220 (.cons rfl (.agg (.cons (.v _) (.cons (.v _) (.cons (.v _) (.cons (.v _) (.cons (.v _) (.cons (.v _) (.cons (.v _) (.cons (.v _) .nil))))))))) (.cons rfl (.one (.v _)) (.nil))) (szPhI _ _ (by assumption) (by assumption)) rfl) ?_
      refine ARun.step rfl (step_assignV rfl (hn rfl) rfl rfl) ?_
      refine ARun.nil ?_
      refine AWp.seq (AWp.region ?_)
      refine ARun.step rfl (step_moveV rfl (hn rfl) rfl rfl) ?_
      refine ARun.step rfl (step_lss rfl (hn rfl) rfl rfl rfl) ?_
      refine ARun.nil ?_
      refine AWp.cond rfl (fun c3 => ?_) (fun c3 => ?_)
      · try simp only [nrm] at c3
        refine AWp.seq (AWp.region ?_)
        refine ARun.step rfl (step_assignV rfl (hn rfl) rfl rfl) ?_
        refine ARun.nil ?_
        refine AWp.ret ?_
        refine RetIs.sc (.inr rfl) rfl rfl ?_
        refine congrArg (T.int _) ?_
        rw [← hg, drop_nth (i := x.1) (by omega), szGo, if_pos (by omega)]
      · try simp only [nrm] at c3
        refine AWp.skip ?_
        refine AWp.region ?_
        refine ARun.step rfl (step_moveV rfl (hn rfl) rfl rfl) ?_
        refine ARun.step rfl (step_addI rfl (hn rfl) rfl rfl rfl (by omega) (by omega)) ?_
        refine ARun.step rfl (step_assignV rfl (hn rfl) rfl rfl) ?_
        refine ARun.nil ?_
        refine ⟨(x.1 + 1, szPh (nth l x.1) x.2), ?_, ?_, Le.forgetR rfl ⟨rfl, rfl, rfl, trivial⟩ trivial trivial⟩
        · try dsimp only
          exact ⟨by omega, by omega, by have := szPh_le (nth l x.1) x.2; omega, by rw [← hg, drop_nth (i := x.1) (by omega), szGo, if_neg (by omega)]⟩
        · try dsimp only
          omega
    · try simp only [nrm] at c2
      refine AWp.exit ?_
      refine AWp.seq (AWp.region ?_)
      refine ARun.step rfl (step_moveV rfl (hn rfl) rfl rfl) ?_
      refine ARun.step rfl (step_assignV rfl (hn rfl) rfl rfl) ?_
      refine ARun.nil ?_
      refine AWp.ret ?_
      refine RetIs.sc (.inr rfl) rfl rfl ?_
      refine congrArg (T.int _) ?_
      rw [← hg, List.drop_of_length_le (by omega), szGo]
theorem recOkS (l : List Ph)  : ASpec Tryz.prog 103 [.one (phs 68 l)] (.one (.bool (recOk l))) := by
  refine ASpec.body Tryz.func103 rfl [2] rfl 69 rfl rfl rfl ?_
  refine AWp.lenLe 0 rfl (fun hl => ?_)
  refine AWp.seq (AWp.region ?_)
  refine ARun.step rfl (step_assignV rfl (hn rfl) rfl rfl) ?_
  refine ARun.nil ?_
  refine AWp.seq ?_
  refine AWp.seq (AWp.region ?_)
  refine ARun.step rfl (step_moveV rfl (hn rfl) rfl rfl) ?_
  refine ARun.step rfl (step_len_f rfl (hn rfl) rfl yrSl59 rfl) ?_
  refine ARun.step rfl (call_step1 rfl (hn rfl) rfl yrCo106 (.cons rfl (.one (.v _)) (.cons rfl (.one (.v _)) (.cons rfl (.one (.v _)) (.nil)))) (l41In _ _ _) rfl) ?_
  refine ARun.step rfl (step_not rfl (hn rfl) rfl rfl) ?_
  refine ARun.nil ?_
  refine AWp.cond rfl (fun c1 => ?_) (fun c1 => ?_)
  · try simp only [nrm] at c1
    refine AWp.seq (AWp.region ?_)
    refine ARun.step rfl (step_assignV rfl (hn rfl) rfl rfl) ?_
    refine ARun.nil ?_
    refine AWp.ret ?_
    refine RetIs.sc (.inr rfl) rfl rfl ?_
    refine congrArg T.bool ?_
    simp [recOk_eq, c1]
  · try simp only [nrm] at c1
    refine AWp.skip ?_
    refine AWp.seq ?_
    refine AWp.seq (AWp.region ?_)
    refine ARun.step rfl (step_assignV rfl (hn rfl) rfl rfl) ?_
    refine ARun.nil ?_
    refine AWp.block ?_
    refine AWp.loopM (fun i : Nat => mkAS 69 [(0, ⟨true, .one (.v (phs 68 l))⟩), (3, ⟨true, .one (.v (.int .i64 (i : Nat)))⟩)] [] []) (fun i => i ≤ l.length ∧ ∀ j, j < i → okAt l j = true) (fun i => l.length - i) 0 ?_ (Le.forgetR rfl ⟨rfl, rfl, trivial⟩ trivial trivial) ?_
    · try dsimp only
      exact ⟨by omega, by omega⟩
    rintro i ⟨hi, hall⟩
    refine AWp.seq ?_
    refine AWp.seq (AWp.region ?_)
    refine ARun.step rfl (step_moveV rfl (hn rfl) rfl rfl) ?_
    refine ARun.step rfl (step_moveV rfl (hn rfl) rfl rfl) ?_
    refine ARun.step rfl (step_len_f rfl (hn rfl) rfl yrSl59 rfl) ?_
    refine ARun.step rfl (step_lss rfl (hn rfl) rfl rfl rfl) ?_
    refine ARun.nil ?_
    refine AWp.cond rfl (fun c2 => ?_) (fun c2 => ?_)
    · try simp only [nrm] at c2
      refine AWp.skip ?_
      refine AWp.seq ?_
      refine AWp.block ?_
      refine AWp.seq ?_
      refine AWp.seq (AWp.region ?_)
      refine ARun.step rfl (step_moveV rfl (hn rfl) rfl rfl) ?_
      refine ARun.step rfl (step_moveV rfl (hn rfl) rfl rfl) ?_
      refine ARun.step rfl (step_index_fN rfl (hn rfl) rfl yrSl59 rfl rfl (by omega)) ?_
      refine ARun.step rfl (step_loadS_f rfl (hn rfl) rfl yrSt68 rfl (hn rfl) rfl rfl) ?_
      refine ARun.step rfl (call_step1 rfl (hn rfl) rfl yrCo160 (.cons rfl (.agg (.cons (.v _) (.cons (.v _) (.cons (.v _) (.cons (.v _) (.cons (.v _) (.cons (.v _) (.cons (.v _) (.cons (.v _) .nil))))))))) (.nil)) (phaseOkS _) rfl) ?_
      refine ARun.step rfl (step_not rfl (hn rfl) rfl rfl) ?_
      refine ARun.step rfl (step_moveV rfl (hn rfl) rfl rfl) ?_
      refine guardS rfl rfl rfl rfl (hn rfl) (fun g1 g2 => step_moveV rfl (hn rfl) rfl rfl) ?_
      refine guardS rfl rfl rfl rfl (hn rfl) (fun g1 g2 => step_moveV rfl (hn rfl) rfl rfl) ?_
      refine guardS rfl rfl rfl rfl (hn rfl) (fun g1 g2 => step_moveV rfl (hn rfl) rfl rfl) ?_
      refine guardS rfl rfl rfl rfl (hn rfl) (fun g1 g2 => step_index_fN rfl (hn rfl) rfl yrSl59 (ev_true rfl (by exact flag2 g1 g2)) (ev_true rfl (by exact flag2 g1 g2)) (by first | omega | (have := of_decide_eq_true g2; omega) | (have := of_decide_eq_false g2; omega) | (simp only [nrm] at g2; omega) | (simp only [nrm, Bool.true_and] at g1 g2; omega))) ?_
      refine guardS rfl rfl rfl rfl (hn rfl) (fun g1 g2 => step_field_f rfl (hn rfl) rfl yrFo68_0 (ev_true rfl (by exact flag2 g1 g2))) ?_
      refine guardS rfl rfl rfl rfl (hn rfl) (fun g1 g2 => step_load_f rfl (hn rfl) rfl yrSc9 (ev_true rfl (by exact flag2 g1 g2)) (hn rfl) rfl) ?_
      refine guardS rfl rfl rfl rfl (hn rfl) (fun g1 g2 => call_step1 rfl (hn rfl) rfl yrCo105 (.cons (ev_true rfl (by exact flag2 g1 g2)) (.one (.v _)) (.cons (ev_true rfl (by exact flag2 g1 g2)) (.one (.v _)) (.nil))) (l42At _ _) rfl) ?_
      refine guardS rfl rfl rfl rfl (hn rfl) (fun g1 g2 => step_moveV rfl (hn rfl) rfl rfl) ?_
      refine guardS rfl rfl rfl rfl (hn rfl) (fun g1 g2 => step_neq rfl (hn rfl) rfl (ev_true rfl (by exact flag2 g1 g2)) (ev_true rfl (by exact flag2 g1 g2))) ?_
      refine ARun.step rfl (step_or rfl (hn rfl) rfl rfl rfl (fun h => (by exact flag1 h))) ?_
      refine ARun.nil ?_
      refine AWp.cond rfl (fun c3 => ?_) (fun c3 => ?_)
      · try simp only [nrm] at c3
        refine AWp.seq (AWp.region ?_)
        refine ARun.step rfl (step_assignV rfl (hn rfl) rfl rfl) ?_
        refine ARun.nil ?_
        refine AWp.ret ?_
        refine RetIs.sc (.inr rfl) rfl rfl ?_
        refine congrArg T.bool ?_
        rw [recOk_eq, all_not (i := i) (by omega) (by simp only [okAt, refOk]; grind), Bool.and_false]
      · try simp only [nrm] at c3
        refine AWp.skip ?_
        refine AWp.seq (AWp.region ?_)
        refine ARun.step rfl (step_moveV rfl (hn rfl) rfl rfl) ?_
        refine ARun.step rfl (step_moveV rfl (hn rfl) rfl rfl) ?_
        refine ARun.step rfl (step_index_fN rfl (hn rfl) rfl yrSl59 rfl rfl (by omega)) ?_
        refine ARun.step rfl (step_field_f rfl (hn rfl) rfl yrFo68_6 rfl) ?_
        refine ARun.step rfl (step_load_f rfl (hn rfl) rfl yrSc9 rfl (hn rfl) rfl) ?_
        refine ARun.step rfl (call_step1 rfl (hn rfl) rfl yrCo161 (.cons rfl (.one (.v _)) (.nil)) (RecEndS _) rfl) ?_
        refine ARun.step rfl (step_eql rfl (hn rfl) rfl rfl rfl) ?_
        refine ARun.step rfl (step_moveV rfl (hn rfl) rfl rfl) ?_
        refine guardS rfl rfl rfl rfl (hn rfl) (fun g1 g2 => step_moveV rfl (hn rfl) rfl rfl) ?_
        refine guardS rfl rfl rfl rfl (hn rfl) (fun g1 g2 => step_moveV rfl (hn rfl) rfl rfl) ?_
        refine guardS rfl rfl rfl rfl (hn rfl) (fun g1 g2 => step_moveV rfl (hn rfl) rfl rfl) ?_
        refine guardS rfl rfl rfl rfl (hn rfl) (fun g1 g2 => step_index_fN rfl (hn rfl) rfl yrSl59 (ev_true rfl (by exact flag2 g1 g2)) (ev_true rfl (by exact flag2 g1 g2)) (by first | omega | (have := of_decide_eq_true g2; omega) | (have := of_decide_eq_false g2; omega) | (simp only [nrm] at g2; omega) | (simp only [nrm, Bool.true_and] at g1 g2; omega))) ?_
        refine guardS rfl rfl rfl rfl (hn rfl) (fun g1 g2 => step_field_f rfl (hn rfl) rfl yrFo68_6 (ev_true rfl (by exact flag2 g1 g2))) ?_
        refine guardS rfl rfl rfl rfl (hn rfl) (fun g1 g2 => step_load_f rfl (hn rfl) rfl yrSc9 (ev_true rfl (by exact flag2 g1 g2)) (hn rfl) rfl) ?_
        refine guardS rfl rfl rfl rfl (hn rfl) (fun g1 g2 => call_step1 rfl (hn rfl) rfl yrCo105 (.cons (ev_true rfl (by exact flag2 g1 g2)) (.one (.v _)) (.cons (ev_true rfl (by exact flag2 g1 g2)) (.one (.v _)) (.nil))) (l42At _ _) rfl) ?_
        refine guardS rfl rfl rfl rfl (hn rfl) (fun g1 g2 => step_moveV rfl (hn rfl) rfl rfl) ?_
        refine guardS rfl rfl rfl rfl (hn rfl) (fun g1 g2 => step_leq rfl (hn rfl) rfl (ev_true rfl (by exact flag2 g1 g2)) (ev_true rfl (by exact flag2 g1 g2))) ?_
        refine ARun.step rfl (step_and rfl (hn rfl) rfl rfl rfl (fun h => (by exact flag1 h))) ?_
        refine ARun.step rfl (step_moveV rfl (hn rfl) rfl rfl) ?_
        refine guardS rfl rfl rfl rfl (hn rfl) (fun g1 g2 => step_moveV rfl (hn rfl) rfl rfl) ?_
        refine guardS rfl rfl rfl rfl (hn rfl) (fun g1 g2 => step_moveV rfl (hn rfl) rfl rfl) ?_
        refine guardS rfl rfl rfl rfl (hn rfl) (fun g1 g2 => step_index_fN rfl (hn rfl) rfl yrSl59 (ev_true rfl (by exact flag2 g1 g2)) (ev_true rfl (by exact flag2 g1 g2)) (by first | omega | (have := of_decide_eq_true g2; omega) | (have := of_decide_eq_false g2; omega) | (simp only [nrm] at g2; omega) | (simp only [nrm, Bool.true_and] at g1 g2; omega))) ?_
        refine guardS rfl rfl rfl rfl (hn rfl) (fun g1 g2 => step_field_f rfl (hn rfl) rfl yrFo68_7 (ev_true rfl (by exact flag2 g1 g2))) ?_
        refine guardS rfl rfl rfl rfl (hn rfl) (fun g1 g2 => step_load_f rfl (hn rfl) rfl yrSc9 (ev_true rfl (by exact flag2 g1 g2)) (hn rfl) rfl) ?_
        refine guardS rfl rfl rfl rfl (hn rfl) (fun g1 g2 => call_step1 rfl (hn rfl) rfl yrCo161 (.cons (ev_true rfl (by exact flag2 g1 g2)) (.one (.v _)) (.nil)) (RecEndS _) rfl) ?_
        refine guardS rfl rfl rfl rfl (hn rfl) (fun g1 g2 => step_eql rfl (hn rfl) rfl (ev_true rfl (by exact flag2 g1 g2)) rfl) ?_
        refine guardS rfl rfl rfl rfl (hn rfl) (fun g1 g2 => step_moveV rfl (hn rfl) rfl (ev_true rfl (by exact flag2 g1 g2))) ?_
        refine guardS rfl rfl rfl rfl (hn rfl) (fun g1 g2 => step_moveV rfl (hn rfl) rfl rfl) ?_
        refine guardS rfl rfl rfl rfl (hn rfl) (fun g1 g2 => step_moveV rfl (hn rfl) rfl rfl) ?_
        refine guardS rfl rfl rfl rfl (hn rfl) (fun g1 g2 => step_moveV rfl (hn rfl) rfl rfl) ?_
        refine guardS rfl rfl rfl rfl (hn rfl) (fun g1 g2 => step_index_fN rfl (hn rfl) rfl yrSl59 (ev_true rfl (by exact flag2 g1 g2)) (ev_true rfl (by exact flag2 g1 g2)) (by first | omega | (have := of_decide_eq_true g2; omega) | (have := of_decide_eq_false g2; omega) | (simp only [nrm] at g2; omega) | (simp only [nrm, Bool.true_and] at g1 g2; omega))) ?_
        refine guardS rfl rfl rfl rfl (hn rfl) (fun g1 g2 => step_field_f rfl (hn rfl) rfl yrFo68_7 (ev_true rfl (by exact flag2 g1 g2))) ?_
        refine guardS rfl rfl rfl rfl (hn rfl) (fun g1 g2 => step_load_f rfl (hn rfl) rfl yrSc9 (ev_true rfl (by exact flag2 g1 g2)) (hn rfl) rfl) ?_
        refine guardS rfl rfl rfl rfl (hn rfl) (fun g1 g2 => call_step1 rfl (hn rfl) rfl yrCo105 (.cons (ev_true rfl (by exact flag2 g1 g2)) (.one (.v _)) (.cons (ev_true rfl (by exact flag2 g1 g2)) (.one (.v _)) (.nil))) (l42At _ _) rfl) ?_
        refine guardS rfl rfl rfl rfl (hn rfl) (fun g1 g2 => step_moveV rfl (hn rfl) rfl rfl) ?_
        refine guardS rfl rfl rfl rfl (hn rfl) (fun g1 g2 => step_leq rfl (hn rfl) rfl (ev_true rfl (by exact flag2 g1 g2)) (ev_true rfl (by exact flag2 g1 g2))) ?_
        refine guardS rfl rfl rfl rfl (hn rfl) (fun g1 g2 => step_and rfl (hn rfl) rfl (ev_true rfl (by exact flag2 g1 g2)) rfl (fun h => (by exact flag2 (by exact flag2 g1 g2) h))) ?_
        refine ARun.step rfl (step_or rfl (hn rfl) rfl rfl rfl (fun h => (by exact flag1 h))) ?_
        refine ARun.nil ?_
        refine AWp.cond rfl (fun c4 => ?_) (fun c4 => ?_)
        · try simp only [nrm] at c4
          refine AWp.seq (AWp.region ?_)
          refine ARun.step rfl (step_assignV rfl (hn rfl) rfl rfl) ?_
          refine ARun.nil ?_
          refine AWp.ret ?_
          refine RetIs.sc (.inr rfl) rfl rfl ?_
          refine congrArg T.bool ?_
          rw [recOk_eq, all_not (i := i) (by omega) (by simp only [okAt, refOk]; grind), Bool.and_false]
        · try simp only [nrm] at c4
          refine AWp.skip ?_
          refine AWp.region ?_
          refine ARun.step rfl (step_moveV rfl (hn rfl) rfl rfl) ?_
          refine ARun.step rfl (step_addI rfl (hn rfl) rfl rfl rfl (by omega) (by omega)) ?_
          refine ARun.step rfl (step_assignV rfl (hn rfl) rfl rfl) ?_
          refine ARun.nil ?_
          refine ⟨i + 1, ?_, ?_, Le.forgetR rfl ⟨rfl, rfl, trivial⟩ trivial trivial⟩
          · try dsimp only
            exact ⟨by omega, upto hall (by simp only [okAt, refOk]; grind)⟩
          · try dsimp only
            omega
    · try simp only [nrm] at c2
      refine AWp.exit ?_
      refine AWp.seq (AWp.region ?_)
      refine ARun.step rfl (step_assignV rfl (hn rfl) rfl rfl) ?_
      refine ARun.nil ?_
      refine AWp.ret ?_
      refine RetIs.sc (.inr rfl) rfl rfl ?_
      refine congrArg T.bool ?_
      rw [recOk_eq, all_of (fun j hj => hall j (by omega)), Bool.and_true, c1]
theorem recOkI (l : List Ph)  : ASpec Tryz.prog 99 [.one (phs 68 l)] (.one (.bool (recOk l))) := by
  refine ASpec.body Tryz.func99 rfl [2] rfl 65 rfl rfl rfl ?_
  refine AWp.lenLe 0 rfl (fun hl => ?_)
  refine AWp.seq (AWp.region ?_)
  refine ARun.step rfl (step_assignV rfl (hn rfl) rfl rfl) ?_
  refine ARun.nil ?_
  refine AWp.seq ?_
  refine AWp.seq (AWp.region ?_)
  refine ARun.step rfl (step_moveV rfl (hn rfl) rfl rfl) ?_
  refine ARun.step rfl (step_len_f rfl (hn rfl) rfl yrSl59 rfl) ?_
  refine ARun.step rfl (step_lss rfl (hn rfl) rfl rfl rfl) ?_
  refine ARun.step rfl (step_moveV rfl (hn rfl) rfl rfl) ?_
  refine guardS rfl rfl rfl rfl (hn rfl) (fun g1 g2 => step_moveV rfl (hn rfl) rfl rfl) ?_
  refine guardS rfl rfl rfl rfl (hn rfl) (fun g1 g2 => step_len_f rfl (hn rfl) rfl yrSl59 (ev_true rfl (by exact flag2 g1 g2))) ?_
  refine guardS rfl rfl rfl rfl (hn rfl) (fun g1 g2 => step_gtr rfl (hn rfl) rfl (ev_true rfl (by exact flag2 g1 g2)) rfl) ?_
  refine ARun.step rfl (step_or rfl (hn rfl) rfl rfl rfl (fun h => (by exact flag1 h))) ?_
  refine ARun.nil ?_
  refine AWp.cond rfl (fun c1 => ?_) (fun c1 => ?_)
  · try simp only [nrm] at c1
    refine AWp.seq (AWp.region ?_)
    refine ARun.step rfl (step_assignV rfl (hn rfl) rfl rfl) ?_
    refine ARun.nil ?_
    refine AWp.ret ?_
    refine RetIs.sc (.inr rfl) rfl rfl ?_
    refine congrArg T.bool ?_
    rw [recOk_eq, show inB l.length 1 12 = false by simp only [inB]; grind, Bool.false_and]
  · try simp only [nrm] at c1
    refine AWp.skip ?_
    refine AWp.seq ?_
    refine AWp.seq (AWp.region ?_)
    refine ARun.step rfl (step_moveV rfl (hn rfl) rfl rfl) ?_
    refine ARun.step rfl (step_len_f rfl (hn rfl) rfl yrSl59 rfl) ?_
    refine ARun.step rfl (step_moveV rfl (hn rfl) rfl rfl) ?_
    refine ARun.nil ?_
    refine AWp.block ?_
    refine AWp.loopM (fun i : Nat => mkAS 65 [(0, ⟨true, .one (.v (phs 68 l))⟩), (17, ⟨true, .one (.v (phs 68 l))⟩), (18, ⟨true, .one (.v (.int .i64 (l.length : Nat)))⟩), (19, ⟨true, .one (.v (.int .i64 (i : Nat)))⟩)] [] []) (fun i => i ≤ l.length ∧ ∀ j, j < i → (phaseOk (nth l j) && atP l (nth l j).name == j) = true) (fun i => l.length - i) 0 ?_ (Le.forgetR rfl ⟨rfl, rfl, rfl, rfl, trivial⟩ trivial trivial) ?_
    · try dsimp only
      exact ⟨by omega, by omega⟩
    rintro i ⟨hi, hall⟩
    refine AWp.seq (AWp.region ?_)
    refine ARun.step rfl (step_lss rfl (hn rfl) rfl rfl rfl) ?_
    refine ARun.nil ?_
    refine AWp.seq ?_
    refine AWp.cond rfl (fun c2 => ?_) (fun c2 => ?_)
    · try simp only [nrm] at c2
      refine AWp.skip ?_
      refine AWp.seq ?_
      refine AWp.block ?_
      refine AWp.seq (AWp.region ?_)
      refine ARun.step rfl (step_moveV rfl (hn rfl) rfl rfl) ?_
      refine ARun.step rfl (step_index_fN rfl (hn rfl) rfl yrSl59 rfl rfl (by omega)) ?_
      refine ARun.step rfl (step_loadS_f rfl (hn rfl) rfl yrSt68 rfl (hn rfl) rfl rfl) ?_
      refine ARun.step rfl (step_alloc_p rfl (hn rfl) rfl yrZs68) ?_
      refine ARun.step rfl (step_assignV rfl (hn rfl) rfl rfl) ?_
      refine ARun.step rfl (step_store_p rfl rfl yrCs68 rfl rfl rfl rfl rfl rfl rfl) ?_
      refine ARun.nil ?_
      refine AWp.seq (AWp.region ?_)
      refine ARun.step rfl (step_loadS_b rfl (hn rfl) rfl yrSt68 rfl rfl rfl (by decide)) ?_
      refine ARun.step rfl (call_step1 rfl (hn rfl) rfl yrCo158 (.cons rfl (.agg (.cons (.v _) (.cons (.v _) (.cons (.v _) (.cons (.v _) (.cons (.v _) (.cons (.v _) (.cons (.v _) (.cons (.v _) .nil))))))))) (.nil)) (phaseOkI _) rfl) ?_
      refine ARun.step rfl (step_not rfl (hn rfl) rfl rfl) ?_
      refine ARun.step rfl (step_moveV rfl (hn rfl) rfl rfl) ?_
      refine guardS rfl rfl rfl rfl (hn rfl) (fun g1 g2 => step_moveV rfl (hn rfl) rfl rfl) ?_
      refine guardS rfl rfl rfl rfl (hn rfl) (fun g1 g2 => step_field_b rfl (hn rfl) rfl yrFo68_0 rfl (by exact List.cons_ne_nil _ _)) ?_
      refine guardS rfl rfl rfl rfl (hn rfl) (fun g1 g2 => step_load_b rfl (hn rfl) rfl yrSc9 (ev_true rfl (by exact flag2 g1 g2)) rfl) ?_
      refine guardS rfl rfl rfl rfl (hn rfl) (fun g1 g2 => call_step1 rfl (hn rfl) rfl yrCo101 (.cons (ev_true rfl (by exact flag2 g1 g2)) (.one (.v _)) (.cons (ev_true rfl (by exact flag2 g1 g2)) (.one (.v _)) (.nil))) (phaseI _ _) rfl) ?_
      refine guardS rfl rfl rfl rfl (hn rfl) (fun g1 g2 => step_moveV rfl (hn rfl) rfl rfl) ?_
      refine guardS rfl rfl rfl rfl (hn rfl) (fun g1 g2 => step_neq rfl (hn rfl) rfl (ev_true rfl (by exact flag2 g1 g2)) (ev_true rfl (by exact flag2 g1 g2))) ?_
      refine ARun.step rfl (step_or rfl (hn rfl) rfl rfl rfl (fun h => (by exact flag1 h))) ?_
      refine ARun.nil ?_
      refine AWp.cond rfl (fun c3 => ?_) (fun c3 => ?_)
      · try simp only [nrm] at c3
        refine AWp.seq (AWp.region ?_)
        refine ARun.step rfl (step_assignV rfl (hn rfl) rfl rfl) ?_
        refine ARun.nil ?_
        refine AWp.ret ?_
        refine RetIs.sc (.inr rfl) rfl rfl ?_
        refine congrArg T.bool ?_
        rw [recOk_eq, all_not (i := i) (by omega) (by simp only [okAt]; grind), Bool.and_false]
      · try simp only [nrm] at c3
        refine AWp.skip ?_
        refine AWp.region ?_
        refine ARun.step rfl (step_addI rfl (hn rfl) rfl rfl rfl (by omega) (by omega)) ?_
        refine ARun.step rfl (step_moveV rfl (hn rfl) rfl rfl) ?_
        refine ARun.nil ?_
        refine ⟨i + 1, ?_, ?_, Le.forgetR rfl ⟨rfl, rfl, rfl, rfl, trivial⟩ trivial trivial⟩
        · try dsimp only
          exact ⟨by omega, upto hall (by grind)⟩
        · try dsimp only
          omega
    · try simp only [nrm] at c2
      refine AWp.exit ?_
      refine AWp.seq ?_
      refine AWp.seq (AWp.region ?_)
      refine ARun.step rfl (step_moveV rfl (hn rfl) rfl rfl) ?_
      refine ARun.step rfl (step_len_f rfl (hn rfl) rfl yrSl59 rfl) ?_
      refine ARun.step rfl (step_moveV rfl (hn rfl) rfl rfl) ?_
      refine ARun.nil ?_
      refine AWp.block ?_
      refine AWp.loopM (fun i : Nat => mkAS 65 [(0, ⟨true, .one (.v (phs 68 l))⟩), (36, ⟨true, .one (.v (phs 68 l))⟩), (37, ⟨true, .one (.v (.int .i64 (l.length : Nat)))⟩), (38, ⟨true, .one (.v (.int .i64 (i : Nat)))⟩)] [] []) (fun i => i ≤ l.length ∧ ∀ j, j < i → (refOk l j (nth l j).thn && refOk l j (nth l j).els) = true) (fun i => l.length - i) 0 ?_ (Le.forgetR rfl ⟨rfl, rfl, rfl, rfl, trivial⟩ trivial trivial) ?_
      · try dsimp only
        exact ⟨by omega, by omega⟩
      rintro i ⟨hi2, hall2⟩
      refine AWp.seq (AWp.region ?_)
      refine ARun.step rfl (step_lss rfl (hn rfl) rfl rfl rfl) ?_
      refine ARun.nil ?_
      refine AWp.seq ?_
      refine AWp.cond rfl (fun c4 => ?_) (fun c4 => ?_)
      · try simp only [nrm] at c4
        refine AWp.skip ?_
        refine AWp.seq ?_
        refine AWp.block ?_
        refine AWp.seq (AWp.region ?_)
        refine ARun.step rfl (step_moveV rfl (hn rfl) rfl rfl) ?_
        refine ARun.step rfl (step_index_fN rfl (hn rfl) rfl yrSl59 rfl rfl (by omega)) ?_
        refine ARun.step rfl (step_loadS_f rfl (hn rfl) rfl yrSt68 rfl (hn rfl) rfl rfl) ?_
        refine ARun.step rfl (step_alloc_p rfl (hn rfl) rfl yrZs68) ?_
        refine ARun.step rfl (step_assignV rfl (hn rfl) rfl rfl) ?_
        refine ARun.step rfl (step_store_p rfl rfl yrCs68 rfl rfl rfl rfl rfl rfl rfl) ?_
        refine ARun.nil ?_
        refine AWp.seq (AWp.region ?_)
        refine ARun.step rfl (step_field_b rfl (hn rfl) rfl yrFo68_6 rfl (by exact List.cons_ne_nil _ _)) ?_
        refine ARun.step rfl (step_load_b rfl (hn rfl) rfl yrSc9 rfl rfl) ?_
        refine ARun.step rfl (step_field_b rfl (hn rfl) rfl yrFo68_7 rfl (by exact List.cons_ne_nil _ _)) ?_
        refine ARun.step rfl (step_load_b rfl (hn rfl) rfl yrSc9 rfl rfl) ?_
        refine ARun.step rfl (step_buildSlice rfl (hn rfl) (ps := [(0, .tmp 44), (1, .tmp 46)]) rfl yrSl22 rfl rfl (by simp) (by intro q hq; simp only [List.mem_cons, List.not_mem_nil, or_false] at hq; rcases hq with rfl | rfl <;> exact ⟨rfl, rfl, by intro c hc; cases hc; rfl⟩) rfl) ?_
        refine ARun.step rfl (step_len_r rfl (hn rfl) rfl yrSl22 rfl rfl) ?_
        refine ARun.step rfl (step_moveV rfl (hn rfl) rfl rfl) ?_
        refine ARun.nil ?_
        refine AWp.block ?_
        refine AWp.loopM (fun q : Nat => mkAS 65 [(0, ⟨true, .one (.v (phs 68 l))⟩), (5, ⟨true, .one (.v (.int .i64 (i : Nat)))⟩), (36, ⟨true, .one (.v (phs 68 l))⟩), (37, ⟨true, .one (.v (.int .i64 (l.length : Nat)))⟩), (38, ⟨true, .one (.v (.int .i64 (i : Nat)))⟩), (47, ⟨true, .one (.ref ⟨.arr 47 0, []⟩)⟩), (48, ⟨true, .one (.v (.int .i64 2))⟩), (49, ⟨true, .one (.v (.int .i64 (q : Nat)))⟩)] [] [(47, 0, .sl 9 1 2 (fun q => [.str (nth [(nth l i).thn, (nth l i).els] q)]))]) (fun q => q ≤ 2 ∧ ∀ r, r < q → refOk l i (nth [(nth l i).thn, (nth l i).els] r) = true) (fun q => 2 - q) 0 ?_ (Le.forgetR rfl ⟨rfl, rfl, rfl, rfl, rfl, rfl, rfl, rfl, trivial⟩ trivial ⟨.rows (fun q hq => match q, hq with | 0, _ => rfl | 1, _ => rfl), trivial⟩) ?_
        · try dsimp only
          exact ⟨by omega, by omega⟩
        rintro q ⟨hi3, hall3⟩
        refine AWp.seq (AWp.region ?_)
        refine ARun.step rfl (step_lss rfl (hn rfl) rfl rfl rfl) ?_
        refine ARun.nil ?_
        refine AWp.seq ?_
        refine AWp.cond rfl (fun c5 => ?_) (fun c5 => ?_)
        · try simp only [nrm] at c5
          refine AWp.skip ?_
          refine AWp.seq ?_
          refine AWp.block ?_
          refine AWp.seq (AWp.region ?_)
          refine ARun.step rfl (step_index_rN rfl (hn rfl) rfl yrSl22 rfl rfl rfl (by omega)) ?_
          refine ARun.step rfl (step_load_e rfl (hn rfl) rfl yrSc9 rfl rfl (by omega) (hn rfl) rfl) ?_
          refine ARun.step rfl (step_assignV rfl (hn rfl) rfl rfl) ?_
          refine ARun.nil ?_
          refine AWp.seq (AWp.region ?_)
          refine ARun.step rfl (step_moveV rfl (hn rfl) rfl rfl) ?_
          refine ARun.step rfl (call_step1 rfl (hn rfl) rfl yrCo159 (.cons rfl (.one (.v _)) (.nil)) (RecEndI _) rfl) ?_
          refine ARun.step rfl (step_eql rfl (hn rfl) rfl rfl rfl) ?_
          refine ARun.step rfl (step_moveV rfl (hn rfl) rfl rfl) ?_
          refine guardS rfl rfl rfl rfl (hn rfl) (fun g1 g2 => step_moveV rfl (hn rfl) rfl rfl) ?_
          refine guardS rfl rfl rfl rfl (hn rfl) (fun g1 g2 => step_moveV rfl (hn rfl) rfl rfl) ?_
          refine guardS rfl rfl rfl rfl (hn rfl) (fun g1 g2 => call_step1 rfl (hn rfl) rfl yrCo101 (.cons (ev_true rfl (by exact flag2 g1 g2)) (.one (.v _)) (.cons (ev_true rfl (by exact flag2 g1 g2)) (.one (.v _)) (.nil))) (phaseI _ _) rfl) ?_
          refine guardS rfl rfl rfl rfl (hn rfl) (fun g1 g2 => step_moveV rfl (hn rfl) rfl rfl) ?_
          refine guardS rfl rfl rfl rfl (hn rfl) (fun g1 g2 => step_leq rfl (hn rfl) rfl (ev_true rfl (by exact flag2 g1 g2)) (ev_true rfl (by exact flag2 g1 g2))) ?_
          refine ARun.step rfl (step_and rfl (hn rfl) rfl rfl rfl (fun h => (by exact flag1 h))) ?_
          refine ARun.nil ?_
          refine AWp.cond rfl (fun c6 => ?_) (fun c6 => ?_)
          · try simp only [nrm] at c6
            refine AWp.seq (AWp.region ?_)
            refine ARun.step rfl (step_assignV rfl (hn rfl) rfl rfl) ?_
            refine ARun.nil ?_
            refine AWp.ret ?_
            refine RetIs.sc (.inr rfl) rfl rfl ?_
            refine congrArg T.bool ?_
            rw [recOk_eq, all_not (i := i) (by omega) (okAt_two hi3 (q := q) (by omega) (by simp only [refOk]; grind)), Bool.and_false]
          · try simp only [nrm] at c6
            refine AWp.skip ?_
            refine AWp.region ?_
            refine ARun.step rfl (step_addI rfl (hn rfl) rfl rfl rfl (by omega) (by omega)) ?_
            refine ARun.step rfl (step_moveV rfl (hn rfl) rfl rfl) ?_
            refine ARun.nil ?_
            refine ⟨q + 1, ?_, ?_, Le.forgetR rfl ⟨rfl, rfl, rfl, rfl, rfl, rfl, rfl, rfl, trivial⟩ trivial ⟨.refl _, trivial⟩⟩
            · try dsimp only
              exact ⟨by omega, upto hall3 (by simp only [refOk]; grind)⟩
            · try dsimp only
              omega
        · try simp only [nrm] at c5
          refine AWp.exit ?_
          refine AWp.region ?_
          refine ARun.step rfl (step_addI rfl (hn rfl) rfl rfl rfl (by omega) (by omega)) ?_
          refine ARun.step rfl (step_moveV rfl (hn rfl) rfl rfl) ?_
          refine ARun.nil ?_
          refine ⟨i + 1, ?_, ?_, Le.forgetR rfl ⟨rfl, rfl, rfl, rfl, trivial⟩ trivial trivial⟩
          · try dsimp only
            exact ⟨by omega, upto hall2 (by have e0 := hall3 0 (by omega); have e1 := hall3 1 (by omega); exact Bool.and_eq_true_iff.2 ⟨e0, e1⟩)⟩
          · try dsimp only
            omega
      · try simp only [nrm] at c4
        refine AWp.exit ?_
        refine AWp.seq (AWp.region ?_)
        refine ARun.step rfl (step_assignV rfl (hn rfl) rfl rfl) ?_
        refine ARun.nil ?_
        refine AWp.ret ?_
        refine RetIs.sc (.inr rfl) rfl rfl ?_
        refine congrArg T.bool ?_
        rw [recOk_eq, all_of (fun j hj => by have e0 := hall j (by omega); have e1 := hall2 j (by omega); simp only [okAt]; grind), Bool.and_true, show inB l.length 1 12 = true by simp only [inB]; grind]

end Go.Proofs.YtkmacjdigkaabaaGreat
