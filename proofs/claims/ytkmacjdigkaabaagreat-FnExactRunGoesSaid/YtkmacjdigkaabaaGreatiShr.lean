/- Contracts of functions of the program, each met by its body; conditions stand in each statement. No condition. -/
import Derived.Test.YtkmacjdigkaabaaGreatiBase
import Derived.Test.YtkmacjdigkaabaaGreatGh
import Derived.Test.YtkmacjdigkaabaaGreatProg
import Derived.KernelRfl
set_option linter.unusedVariables false
set_option linter.unusedSimpArgs false
set_option linter.unnecessarySimpa false
set_option linter.unusedSimpArgs false
set_option maxRecDepth 100000
namespace Go.Proofs.YtkmacjdigkaabaaGreat
open Go Go.Mh

theorem yhUs9 : Tryz.prog.underlying 9 = some .string := by kernel_rfl
theorem yhCo145 : callOk Tryz.prog 145 = true := by kernel_rfl
theorem yhSl22 : sliceT Tryz.prog 22 = some ⟨9, 1, 16⟩ := by kernel_rfl
theorem yhSc9 : scalarB Tryz.prog 9 = true := by kernel_rfl
theorem yhCo87 : callOk Tryz.prog 87 = true := by kernel_rfl
theorem yhCo76 : callOk Tryz.prog 76 = true := by kernel_rfl
theorem yhMo : Tryz.prog.follows .mixedOrders = true := by kernel_rfl
theorem yhFo34_0 : fieldOff Tryz.prog 34 0 = some 0 := by kernel_rfl
theorem yhSc22 : scalarB Tryz.prog 22 = true := by kernel_rfl
theorem yhCo143 : callOk Tryz.prog 143 = true := by kernel_rfl
theorem yhFo34_1 : fieldOff Tryz.prog 34 1 = some 1 := by kernel_rfl
theorem yhSc32 : scalarB Tryz.prog 32 = true := by kernel_rfl
theorem yhSl32 : sliceT Tryz.prog 32 = some ⟨105, 3, 64⟩ := by kernel_rfl
theorem yhSt105 : structSz Tryz.prog 105 = some 3 := by kernel_rfl
theorem yhZs105 : zeroSz Tryz.prog 105 = some 3 := by kernel_rfl
theorem yhCs105 : cellsSz Tryz.prog 105 = some (2 + 1) := by kernel_rfl
theorem yhFo105_0 : fieldOff Tryz.prog 105 0 = some 0 := by kernel_rfl
theorem yhFo105_2 : fieldOff Tryz.prog 105 2 = some 2 := by kernel_rfl
theorem yhCo77 : callOk Tryz.prog 77 = true := by kernel_rfl
theorem yhFo105_1 : fieldOff Tryz.prog 105 1 = some 1 := by kernel_rfl
theorem yhCo144 : callOk Tryz.prog 144 = true := by kernel_rfl
theorem yhCo89 : callOk Tryz.prog 89 = true := by kernel_rfl
theorem yhCo67 : callOk Tryz.prog 67 = true := by kernel_rfl
theorem yhCo68 : callOk Tryz.prog 68 = true := by kernel_rfl
theorem yhCo69 : callOk Tryz.prog 69 = true := by kernel_rfl
theorem yhCo80 : callOk Tryz.prog 80 = true := by kernel_rfl
theorem yhCo86 : callOk Tryz.prog 86 = true := by kernel_rfl
theorem yhSt34 : structSz Tryz.prog 34 = some 2 := by kernel_rfl
theorem yhCo232 : callOk Tryz.prog 232 = true := by kernel_rfl
theorem yhCo91 : callOk Tryz.prog 91 = true := by kernel_rfl
theorem yhCo26 : callOk Tryz.prog 26 = true := by kernel_rfl
theorem yhCo81 : callOk Tryz.prog 81 = true := by kernel_rfl
theorem yhCo74 : callOk Tryz.prog 74 = true := by kernel_rfl
theorem yhCo204 : callOk Tryz.prog 204 = true := by kernel_rfl
theorem yhCo147 : callOk Tryz.prog 147 = true := by kernel_rfl
theorem yhCo90 : callOk Tryz.prog 90 = true := by kernel_rfl
theorem yhFo191_0 : fieldOff Tryz.prog 191 0 = some 0 := by kernel_rfl
theorem yhFo191_1 : fieldOff Tryz.prog 191 1 = some 1 := by kernel_rfl
theorem yhCo116 : callOk Tryz.prog 116 = true := by kernel_rfl
theorem yhFo191_2 : fieldOff Tryz.prog 191 2 = some 2 := by kernel_rfl
theorem yhSl23 : sliceT Tryz.prog 23 = some ⟨191, 3, 64⟩ := by kernel_rfl
theorem yhSt191 : structSz Tryz.prog 191 = some 3 := by kernel_rfl
theorem yhCo173 : callOk Tryz.prog 173 = true := by kernel_rfl
theorem yhFo25_0 : fieldOff Tryz.prog 25 0 = some 0 := by kernel_rfl
theorem yhFo25_1 : fieldOff Tryz.prog 25 1 = some 1 := by kernel_rfl
theorem yhSc23 : scalarB Tryz.prog 23 = true := by kernel_rfl
theorem yhCo117 : callOk Tryz.prog 117 = true := by kernel_rfl
theorem yhCs9 : cellsSz Tryz.prog 9 = some (0 + 1) := by kernel_rfl
theorem yhCo123 : callOk Tryz.prog 123 = true := by kernel_rfl
theorem yhCs22 : cellsSz Tryz.prog 22 = some (0 + 1) := by kernel_rfl
theorem yhCo178 : callOk Tryz.prog 178 = true := by kernel_rfl
theorem yhZs34 : zeroSz Tryz.prog 34 = some 2 := by kernel_rfl
theorem yhCo124 : callOk Tryz.prog 124 = true := by kernel_rfl
theorem yhCs32 : cellsSz Tryz.prog 32 = some (0 + 1) := by kernel_rfl
theorem yhCs34 : cellsSz Tryz.prog 34 = some (1 + 1) := by kernel_rfl
theorem yhCo11 : callOk Tryz.prog 11 = true := by kernel_rfl
theorem yhCo181 : callOk Tryz.prog 181 = true := by kernel_rfl
theorem yhCo129 : callOk Tryz.prog 129 = true := by kernel_rfl
theorem yhCo60 : callOk Tryz.prog 60 = true := by kernel_rfl
theorem yhCo14 : callOk Tryz.prog 14 = true := by kernel_rfl
theorem yhCo132 : callOk Tryz.prog 132 = true := by kernel_rfl
theorem l51In (x a b : Int)  : ASpec Tryz.prog 145 [.one (.int .i64 x), .one (.int .i64 a), .one (.int .i64 b)] (.one (.bool (inB x a b))) := by
  refine ASpec.body Tryz.func145 rfl [6] rfl 15 rfl rfl rfl ?_
  refine AWp.seq (AWp.region ?_)
  refine ARun.step rfl (step_assignV rfl (hn rfl) rfl rfl) ?_
  refine ARun.nil ?_
  refine AWp.seq (AWp.region ?_)
  refine ARun.step rfl (step_moveV rfl (hn rfl) rfl rfl) ?_
  refine ARun.step rfl (step_moveV rfl (hn rfl) rfl rfl) ?_
  refine ARun.step rfl (step_geq rfl (hn rfl) rfl rfl rfl) ?_
  refine ARun.step rfl (step_moveV rfl (hn rfl) rfl rfl) ?_
  refine guardS rfl rfl rfl rfl (hn rfl) (fun g1 g2 => step_moveV rfl (hn rfl) rfl rfl) ?_
  refine guardS rfl rfl rfl rfl (hn rfl) (fun g1 g2 => step_moveV rfl (hn rfl) rfl rfl) ?_
  refine guardS rfl rfl rfl rfl (hn rfl) (fun g1 g2 => step_leq rfl (hn rfl) rfl (ev_true rfl (by exact flag2 g1 g2)) (ev_true rfl (by exact flag2 g1 g2))) ?_
  refine ARun.step rfl (step_and rfl (hn rfl) rfl rfl rfl (fun h => (by exact flag1 h))) ?_
  refine ARun.step rfl (step_assignV rfl (hn rfl) rfl rfl) ?_
  refine ARun.nil ?_
  refine AWp.ret ?_
  refine RetIs.sc (.inr rfl) rfl rfl ?_
  refine congrArg T.bool ?_
  rfl
theorem l51NameOk (s : Str)  : ASpec Tryz.prog 76 [.one (.str s)] (.one (.bool (nameOk s))) := by
  refine ASpec.body Tryz.func76 rfl [2] rfl 37 rfl rfl rfl ?_
  refine AWp.strLe 0 rfl (fun hs => ?_)
  refine AWp.seq (AWp.region ?_)
  refine ARun.step rfl (step_assignV rfl (hn rfl) rfl rfl) ?_
  refine ARun.nil ?_
  refine AWp.seq ?_
  refine AWp.seq (AWp.region ?_)
  refine ARun.step rfl (step_moveV rfl (hn rfl) rfl rfl) ?_
  refine ARun.step rfl (step_len_str rfl (hn rfl) rfl yhUs9 rfl) ?_
  refine ARun.step rfl (call_step1 rfl (hn rfl) rfl yhCo145 (.cons rfl (.one (.v _)) (.cons rfl (.one (.v _)) (.cons rfl (.one (.v _)) (.nil)))) (l51In _ _ _) rfl) ?_
  refine ARun.step rfl (step_not rfl (hn rfl) rfl rfl) ?_
  refine ARun.nil ?_
  refine AWp.cond rfl (fun c1 => ?_) (fun c1 => ?_)
  · try simp only [nrm] at c1
    refine AWp.seq (AWp.region ?_)
    refine ARun.step rfl (step_assignV rfl (hn rfl) rfl rfl) ?_
    refine ARun.nil ?_
    refine AWp.ret ?_
    refine RetIs.sc (.inr rfl) rfl rfl ?_
    refine congrArg T.bool ?_
    simp [nameOk, c1]
  · try simp only [nrm] at c1
    refine AWp.skip ?_
    refine AWp.seq ?_
    refine AWp.seq (AWp.region ?_)
    refine ARun.step rfl (step_assignV rfl (hn rfl) rfl rfl) ?_
    refine ARun.nil ?_
    refine AWp.block ?_
    refine AWp.loopM (fun i : Nat => mkAS 37 [(0, ⟨true, .one (.v (.str s))⟩), (3, ⟨true, .one (.v (.int .i64 (i : Nat)))⟩)] [] []) (fun i => i ≤ s.size ∧ ∀ j, j < i → nmC (bAt s j) = true) (fun i => s.size - i) 0 ?_ (Le.forgetR rfl ⟨rfl, rfl, trivial⟩ trivial trivial) ?_
    · try dsimp only
      exact ⟨by omega, by omega⟩
    rintro i ⟨hi, hall⟩
    refine AWp.seq ?_
    refine AWp.seq (AWp.region ?_)
    refine ARun.step rfl (step_moveV rfl (hn rfl) rfl rfl) ?_
    refine ARun.step rfl (step_moveV rfl (hn rfl) rfl rfl) ?_
    refine ARun.step rfl (step_len_str rfl (hn rfl) rfl yhUs9 rfl) ?_
    refine ARun.step rfl (step_lss rfl (hn rfl) rfl rfl rfl) ?_
    refine ARun.nil ?_
    refine AWp.cond rfl (fun c2 => ?_) (fun c2 => ?_)
    · try simp only [nrm] at c2
      refine AWp.skip ?_
      refine AWp.seq ?_
      refine AWp.block ?_
      refine AWp.seq (AWp.region ?_)
      refine ARun.step rfl (step_moveV rfl (hn rfl) rfl rfl) ?_
      refine ARun.step rfl (step_moveV rfl (hn rfl) rfl rfl) ?_
      refine ARun.step rfl (step_index_str rfl (hn rfl) rfl yhUs9 rfl rfl (by omega) (by omega)) ?_
      refine ARun.step rfl (step_assignV rfl (hn rfl) rfl rfl) ?_
      refine ARun.nil ?_
      refine AWp.seq (AWp.region ?_)
      refine ARun.step rfl (step_moveV rfl (hn rfl) rfl rfl) ?_
      refine ARun.step rfl (step_geq rfl (hn rfl) rfl rfl rfl) ?_
      refine ARun.step rfl (step_moveV rfl (hn rfl) rfl rfl) ?_
      refine guardS rfl rfl rfl rfl (hn rfl) (fun g1 g2 => step_moveV rfl (hn rfl) rfl rfl) ?_
      refine guardS rfl rfl rfl rfl (hn rfl) (fun g1 g2 => step_leq rfl (hn rfl) rfl (ev_true rfl (by exact flag2 g1 g2)) rfl) ?_
      refine ARun.step rfl (step_and rfl (hn rfl) rfl rfl rfl (fun h => (by exact flag1 h))) ?_
      refine ARun.step rfl (step_moveV rfl (hn rfl) rfl rfl) ?_
      refine guardS rfl rfl rfl rfl (hn rfl) (fun g1 g2 => step_moveV rfl (hn rfl) rfl rfl) ?_
      refine guardS rfl rfl rfl rfl (hn rfl) (fun g1 g2 => step_geq rfl (hn rfl) rfl (ev_true rfl (by exact flag2 g1 g2)) rfl) ?_
      refine guardS rfl rfl rfl rfl (hn rfl) (fun g1 g2 => step_moveV rfl (hn rfl) rfl (ev_true rfl (by exact flag2 g1 g2))) ?_
      refine guardS rfl rfl rfl rfl (hn rfl) (fun g1 g2 => step_moveV rfl (hn rfl) rfl rfl) ?_
      refine guardS rfl rfl rfl rfl (hn rfl) (fun g1 g2 => step_leq rfl (hn rfl) rfl (ev_true rfl (by exact flag2 g1 g2)) rfl) ?_
      refine guardS rfl rfl rfl rfl (hn rfl) (fun g1 g2 => step_and rfl (hn rfl) rfl (ev_true rfl (by exact flag2 g1 g2)) rfl (fun h => (by exact flag2 (by exact flag2 g1 g2) h))) ?_
      refine ARun.step rfl (step_or rfl (hn rfl) rfl rfl rfl (fun h => (by exact flag1 h))) ?_
      refine ARun.step rfl (step_moveV rfl (hn rfl) rfl rfl) ?_
      refine guardS rfl rfl rfl rfl (hn rfl) (fun g1 g2 => step_moveV rfl (hn rfl) rfl rfl) ?_
      refine guardS rfl rfl rfl rfl (hn rfl) (fun g1 g2 => step_eql rfl (hn rfl) rfl (ev_true rfl (by exact flag2 g1 g2)) rfl) ?_
      refine ARun.step rfl (step_or rfl (hn rfl) rfl rfl rfl (fun h => (by exact flag1 h))) ?_
      refine ARun.step rfl (step_not rfl (hn rfl) rfl rfl) ?_
      refine ARun.nil ?_
      refine AWp.cond rfl (fun c3 => ?_) (fun c3 => ?_)
      · try simp only [nrm] at c3
        refine AWp.seq (AWp.region ?_)
        refine ARun.step rfl (step_assignV rfl (hn rfl) rfl rfl) ?_
        refine ARun.nil ?_
        refine AWp.ret ?_
        refine RetIs.sc (.inr rfl) rfl rfl ?_
        refine congrArg T.bool ?_
        rw [nameOk, nameB, all_not (i := i) (by omega) (by simp only [nmC, bAt] at *; grind), Bool.and_false]
      · try simp only [nrm] at c3
        refine AWp.skip ?_
        refine AWp.region ?_
        refine ARun.step rfl (step_moveV rfl (hn rfl) rfl rfl) ?_
        refine ARun.step rfl (step_addI rfl (hn rfl) rfl rfl rfl (by omega) (by omega)) ?_
        refine ARun.step rfl (step_assignV rfl (hn rfl) rfl rfl) ?_
        refine ARun.nil ?_
        refine ⟨i + 1, ?_, ?_, Le.forgetR rfl ⟨rfl, rfl, trivial⟩ trivial trivial⟩
        · try dsimp only
          exact ⟨by omega, upto hall (by simp only [nmC, bAt] at *; grind)⟩
        · try dsimp only
          omega
    · try simp only [nrm] at c2
      refine AWp.exit ?_
      refine AWp.seq (AWp.region ?_)
      refine ARun.step rfl (step_assignV rfl (hn rfl) rfl rfl) ?_
      refine ARun.nil ?_
      refine AWp.ret ?_
      refine RetIs.sc (.inr rfl) rfl rfl ?_
      refine congrArg T.bool ?_
      rw [nameOk, nameB, all_of (fun j hj => hall j (by omega)), Bool.and_true]; simpa using c1.symm
theorem l51Has (l : List Str) (s : Str)  : ASpec Tryz.prog 87 [.one (strs l), .one (.str s)] (.one (.bool (hasB l s))) := by
  refine ASpec.body Tryz.func87 rfl [4] rfl 18 rfl rfl rfl ?_
  refine AWp.lenLe 0 rfl (fun hl => ?_)
  refine AWp.seq (AWp.region ?_)
  refine ARun.step rfl (step_assignV rfl (hn rfl) rfl rfl) ?_
  refine ARun.nil ?_
  refine AWp.seq ?_
  refine AWp.seq (AWp.region ?_)
  refine ARun.step rfl (step_assignV rfl (hn rfl) rfl rfl) ?_
  refine ARun.nil ?_
  refine AWp.block ?_
  refine AWp.loopM (fun i : Nat => mkAS 18 [(0, ⟨true, .one (.v (strs l))⟩), (1, ⟨true, .one (.v (.str s))⟩), (5, ⟨true, .one (.v (.int .i64 (i : Nat)))⟩)] [] []) (fun i => i ≤ l.length ∧ ∀ j, j < i → strEq (nth l j) s = false) (fun i => l.length - i) 0 ?_ (Le.forgetR rfl ⟨rfl, rfl, rfl, trivial⟩ trivial trivial) ?_
  · try dsimp only
    exact ⟨by omega, by omega⟩
  rintro i ⟨hi, hall⟩
  refine AWp.seq ?_
  refine AWp.seq (AWp.region ?_)
  refine ARun.step rfl (step_moveV rfl (hn rfl) rfl rfl) ?_
  refine ARun.step rfl (step_moveV rfl (hn rfl) rfl rfl) ?_
  refine ARun.step rfl (step_len_f rfl (hn rfl) rfl yhSl22 rfl) ?_
  refine ARun.step rfl (step_lss rfl (hn rfl) rfl rfl rfl) ?_
  refine ARun.nil ?_
  refine AWp.cond rfl (fun c1 => ?_) (fun c1 => ?_)
  · try simp only [nrm] at c1
    refine AWp.skip ?_
    refine AWp.seq ?_
    refine AWp.block ?_
    refine AWp.seq (AWp.region ?_)
    refine ARun.step rfl (step_moveV rfl (hn rfl) rfl rfl) ?_
    refine ARun.step rfl (step_moveV rfl (hn rfl) rfl rfl) ?_
    refine ARun.step rfl (step_index_fN rfl (hn rfl) rfl yhSl22 rfl rfl (by omega)) ?_
    refine ARun.step rfl (step_load_f rfl (hn rfl) rfl yhSc9 rfl (hn rfl) rfl) ?_
    refine ARun.step rfl (step_moveV rfl (hn rfl) rfl rfl) ?_
    refine ARun.step rfl (step_seql rfl (hn rfl) rfl rfl rfl) ?_
    refine ARun.nil ?_
    refine AWp.cond rfl (fun c2 => ?_) (fun c2 => ?_)
    · try simp only [nrm] at c2
      refine AWp.seq (AWp.region ?_)
      refine ARun.step rfl (step_assignV rfl (hn rfl) rfl rfl) ?_
      refine ARun.nil ?_
      refine AWp.ret ?_
      refine RetIs.sc (.inr rfl) rfl rfl ?_
      refine congrArg T.bool ?_
      rw [hasB, any_of (i := i) (by omega) c2]
    · try simp only [nrm] at c2
      refine AWp.skip ?_
      refine AWp.region ?_
      refine ARun.step rfl (step_moveV rfl (hn rfl) rfl rfl) ?_
      refine ARun.step rfl (step_addI rfl (hn rfl) rfl rfl rfl (by omega) (by omega)) ?_
      refine ARun.step rfl (step_assignV rfl (hn rfl) rfl rfl) ?_
      refine ARun.nil ?_
      refine ⟨i + 1, ?_, ?_, Le.forgetR rfl ⟨rfl, rfl, rfl, trivial⟩ trivial trivial⟩
      · try dsimp only
        exact ⟨by omega, upto hall (by assumption)⟩
      · try dsimp only
        omega
  · try simp only [nrm] at c1
    refine AWp.exit ?_
    refine AWp.seq (AWp.region ?_)
    refine ARun.step rfl (step_assignV rfl (hn rfl) rfl rfl) ?_
    refine ARun.nil ?_
    refine AWp.ret ?_
    refine RetIs.sc (.inr rfl) rfl rfl ?_
    refine congrArg T.bool ?_
    rw [hasB, any_not (fun j hj => hall j (by omega))]
theorem l51Share (a b : List Str)  : ASpec Tryz.prog 144 [.one (strs a), .one (strs b)] (.one (.bool (meetsB a b))) := by
  refine ASpec.body Tryz.func144 rfl [4] rfl 18 rfl rfl rfl ?_
  refine AWp.lenLe 0 rfl (fun hl => ?_)
  refine AWp.seq (AWp.region ?_)
  refine ARun.step rfl (step_assignV rfl (hn rfl) rfl rfl) ?_
  refine ARun.nil ?_
  refine AWp.seq ?_
  refine AWp.seq (AWp.region ?_)
  refine ARun.step rfl (step_assignV rfl (hn rfl) rfl rfl) ?_
  refine ARun.nil ?_
  refine AWp.block ?_
  refine AWp.loopM (fun i : Nat => mkAS 18 [(0, ⟨true, .one (.v (strs a))⟩), (1, ⟨true, .one (.v (strs b))⟩), (5, ⟨true, .one (.v (.int .i64 (i : Nat)))⟩)] [] []) (fun i => i ≤ a.length ∧ ∀ j, j < i → hasB b (nth a j) = false) (fun i => a.length - i) 0 ?_ (Le.forgetR rfl ⟨rfl, rfl, rfl, trivial⟩ trivial trivial) ?_
  · try dsimp only
    exact ⟨by omega, by omega⟩
  rintro i ⟨hi, hall⟩
  refine AWp.seq ?_
  refine AWp.seq (AWp.region ?_)
  refine ARun.step rfl (step_moveV rfl (hn rfl) rfl rfl) ?_
  refine ARun.step rfl (step_moveV rfl (hn rfl) rfl rfl) ?_
  refine ARun.step rfl (step_len_f rfl (hn rfl) rfl yhSl22 rfl) ?_
  refine ARun.step rfl (step_lss rfl (hn rfl) rfl rfl rfl) ?_
  refine ARun.nil ?_
  refine AWp.cond rfl (fun c1 => ?_) (fun c1 => ?_)
  · try simp only [nrm] at c1
    refine AWp.skip ?_
    refine AWp.seq ?_
    refine AWp.block ?_
    refine AWp.seq (AWp.region ?_)
    refine ARun.step rfl (step_moveV rfl (hn rfl) rfl rfl) ?_
    refine ARun.step rfl (step_moveV rfl (hn rfl) rfl rfl) ?_
    refine ARun.step rfl (step_moveV rfl (hn rfl) rfl rfl) ?_
    refine ARun.step rfl (step_index_fN rfl (hn rfl) rfl yhSl22 rfl rfl (by omega)) ?_
    refine ARun.step rfl (step_load_f rfl (hn rfl) rfl yhSc9 rfl (hn rfl) rfl) ?_
    refine ARun.step rfl (call_step1 rfl (hn rfl) rfl yhCo87 (.cons rfl (.one (.v _)) (.cons rfl (.one (.v _)) (.nil))) (l51Has _ _) rfl) ?_
    refine ARun.nil ?_
    refine AWp.cond rfl (fun c2 => ?_) (fun c2 => ?_)
    · try simp only [nrm] at c2
      refine AWp.seq (AWp.region ?_)
      refine ARun.step rfl (step_assignV rfl (hn rfl) rfl rfl) ?_
      refine ARun.nil ?_
      refine AWp.ret ?_
      refine RetIs.sc (.inr rfl) rfl rfl ?_
      refine congrArg T.bool ?_
      rw [meetsB, any_of (i := i) (by omega) c2]
    · try simp only [nrm] at c2
      refine AWp.skip ?_
      refine AWp.region ?_
      refine ARun.step rfl (step_moveV rfl (hn rfl) rfl rfl) ?_
      refine ARun.step rfl (step_addI rfl (hn rfl) rfl rfl rfl (by omega) (by omega)) ?_
      refine ARun.step rfl (step_assignV rfl (hn rfl) rfl rfl) ?_
      refine ARun.nil ?_
      refine ⟨i + 1, ?_, ?_, Le.forgetR rfl ⟨rfl, rfl, rfl, trivial⟩ trivial trivial⟩
      · try dsimp only
        exact ⟨by omega, upto hall (by assumption)⟩
      · try dsimp only
        omega
  · try simp only [nrm] at c1
    refine AWp.exit ?_
    refine AWp.seq (AWp.region ?_)
    refine ARun.step rfl (step_assignV rfl (hn rfl) rfl rfl) ?_
    refine ARun.nil ?_
    refine AWp.ret ?_
    refine RetIs.sc (.inr rfl) rfl rfl ?_
    refine congrArg T.bool ?_
    rw [meetsB, any_not (fun j hj => hall j (by omega))]
theorem l51ThingsOk (l : List Str)  : ASpec Tryz.prog 143 [.one (strs l)] (.one (.bool (decide (l.length ≤ 8) && namesB l))) := by
  refine ASpec.body Tryz.func143 rfl [2] rfl 35 rfl rfl rfl ?_
  refine AWp.lenLe 0 rfl (fun hl => ?_)
  refine AWp.seq (AWp.region ?_)
  refine ARun.step rfl (step_assignV rfl (hn rfl) rfl rfl) ?_
  refine ARun.nil ?_
  refine AWp.seq ?_
  refine AWp.seq (AWp.region ?_)
  refine ARun.step rfl (step_moveV rfl (hn rfl) rfl rfl) ?_
  refine ARun.step rfl (step_len_f rfl (hn rfl) rfl yhSl22 rfl) ?_
  refine ARun.step rfl (step_gtr rfl (hn rfl) rfl rfl rfl) ?_
  refine ARun.nil ?_
  refine AWp.cond rfl (fun c1 => ?_) (fun c1 => ?_)
  · try simp only [nrm] at c1
    refine AWp.seq (AWp.region ?_)
    refine ARun.step rfl (step_assignV rfl (hn rfl) rfl rfl) ?_
    refine ARun.nil ?_
    refine AWp.ret ?_
    refine RetIs.sc (.inr rfl) rfl rfl ?_
    refine congrArg T.bool ?_
    rw [show decide (l.length ≤ 8) = false by simp; omega, Bool.false_and]
  · try simp only [nrm] at c1
    refine AWp.skip ?_
    refine AWp.seq ?_
    refine AWp.seq (AWp.region ?_)
    refine ARun.step rfl (step_assignV rfl (hn rfl) rfl rfl) ?_
    refine ARun.nil ?_
    refine AWp.block ?_
    refine AWp.loopM (fun i : Nat => mkAS 35 [(0, ⟨true, .one (.v (strs l))⟩), (3, ⟨true, .one (.v (.int .i64 (i : Nat)))⟩)] [] []) (fun i => i ≤ l.length ∧ ∀ j, j < i → (nameOk (nth l j) && risAt l j) = true) (fun i => l.length - i) 0 ?_ (Le.forgetR rfl ⟨rfl, rfl, trivial⟩ trivial trivial) ?_
    · try dsimp only
      exact ⟨by omega, by omega⟩
    rintro i ⟨hi, hall⟩
    refine AWp.seq ?_
    refine AWp.seq (AWp.region ?_)
    refine ARun.step rfl (step_moveV rfl (hn rfl) rfl rfl) ?_
    refine ARun.step rfl (step_moveV rfl (hn rfl) rfl rfl) ?_
    refine ARun.step rfl (step_len_f rfl (hn rfl) rfl yhSl22 rfl) ?_
    refine ARun.step rfl (step_lss rfl (hn rfl) rfl rfl rfl) ?_
    refine ARun.nil ?_
    refine AWp.cond rfl (fun c2 => ?_) (fun c2 => ?_)
    · try simp only [nrm] at c2
      refine AWp.skip ?_
      refine AWp.seq ?_
      refine AWp.block ?_
      refine AWp.seq (AWp.draw [⟨[.s 0], [.s 13], false⟩, ⟨[.s 3], [.s 14], false⟩, ⟨[.s 13, .s 14], [.s 15], false⟩, ⟨[.s 15], [.s 16], false⟩, ⟨[.s 16], [.s 17], false⟩, ⟨[.s 17], [.s 18], false⟩, ⟨[.s 18], [.s 19], false⟩, ⟨[.s 3, .s 19], [.s 20], false⟩, ⟨[.s 20, .s 19], [.s 21], false⟩, ⟨[.s 21, .s 19], [.s 22], false⟩, ⟨[.s 0, .s 22], [.s 23], false⟩, ⟨[.s 3, .s 22], [.s 24], false⟩, ⟨[.s 24, .s 22], [.s 25], false⟩, ⟨[.s 23, .s 25, .s 22], [.s 26], false⟩, ⟨[.s 26, .s 22], [.s 27], false⟩, ⟨[.s 0, .s 22], [.s 28], false⟩, ⟨[.s 3, .s 22], [.s 29], false⟩, ⟨[.s 28, .s 29, .s 22], [.s 30], false⟩, ⟨[.s 30, .s 22], [.s 31], false⟩, ⟨[.s 27, .s 31, .s 22], [.s 32], false⟩, ⟨[.s 22, .s 32, .s 19], [.s 33], false⟩, ⟨[.s 19, .s 33], [.s 34], false⟩] yhMo rfl ?_)
      refine DRun.step rfl (fun τ hN hr => step_moveV rfl (rdN hN (hn rfl)) rfl (by exact rdS hr rfl rfl)) ?_
      refine DRun.step rfl (fun τ hN hr => step_moveV rfl (rdN hN (hn rfl)) rfl (by exact rdS hr rfl rfl)) ?_
      refine DRun.step rfl (fun τ hN hr => step_index_fN rfl (rdN hN (hn rfl)) rfl yhSl22 (by exact rdS hr rfl rfl) (by exact rdS hr rfl rfl) (by omega)) ?_
      refine DRun.step rfl (fun τ hN hr => step_load_f rfl (rdN hN (hn rfl)) rfl yhSc9 (by exact rdS hr rfl rfl) (hn rfl) rfl) ?_
      refine DRun.step rfl (fun τ hN hr => call_step1 rfl (rdN hN (hn rfl)) rfl yhCo76 (.cons (by exact rdS hr rfl rfl) (.one (.v _)) (.nil)) (l51NameOk _) rfl) ?_
      refine DRun.step rfl (fun τ hN hr => step_not rfl (rdN hN (hn rfl)) rfl (by exact rdS hr rfl rfl)) ?_
      refine DRun.step rfl (fun τ hN hr => step_moveV rfl (rdN hN (hn rfl)) rfl (by exact rdS hr rfl rfl)) ?_
      refine guardD rfl rfl rfl rfl rfl (hn rfl) (fun τ hN hr g1 g2 => step_moveV rfl (rdN hN (hn rfl)) rfl (by exact rdS hr rfl rfl)) ?_
      refine guardD rfl rfl rfl rfl rfl (hn rfl) (fun τ hN hr g1 g2 => step_gtr rfl (rdN hN (hn rfl)) rfl (ev_true (by exact rdS hr rfl rfl) (by exact flag2 g1 g2)) rfl) ?_
      refine guardD rfl rfl rfl rfl rfl (hn rfl) (fun τ hN hr g1 g2 => step_moveV rfl (rdN hN (hn rfl)) rfl (ev_true (by exact rdS hr rfl rfl) (by exact flag2 g1 g2))) ?_
      refine guardD rfl rfl rfl rfl rfl (hn rfl) (fun τ hN hr g1 g2 => step_moveV rfl (rdN hN (hn rfl)) rfl (by exact rdS hr rfl rfl)) ?_
      refine guardD rfl rfl rfl rfl rfl (hn rfl) (fun τ hN hr g1 g2 => step_moveV rfl (rdN hN (hn rfl)) rfl (by exact rdS hr rfl rfl)) ?_
      refine guardD rfl rfl rfl rfl rfl (hn rfl) (fun τ hN hr g1 g2 => step_decN rfl (rdN hN (hn rfl)) rfl (ev_true (by exact rdS hr rfl rfl) (by exact flag2 g1 g2)) rfl (by have := of_decide_eq_true g2; omega) (by omega)) ?_
      refine guardD rfl rfl rfl rfl rfl (hn rfl) (fun τ hN hr g1 g2 => step_index_fN rfl (rdN hN (hn rfl)) rfl yhSl22 (ev_true (by exact rdS hr rfl rfl) (by exact flag2 g1 g2)) (ev_true (by exact rdS hr rfl rfl) (by exact flag2 g1 g2)) (by first | omega | (have := of_decide_eq_true g2; omega) | (have := of_decide_eq_false g2; omega) | (simp only [nrm] at g2; omega) | (simp only [nrm, Bool.true_and] at g1 g2; omega))) ?_
      refine guardD rfl rfl rfl rfl rfl (hn rfl) (fun τ hN hr g1 g2 => step_load_f rfl (rdN hN (hn rfl)) rfl yhSc9 (ev_true (by exact rdS hr rfl rfl) (by exact flag2 g1 g2)) (hn rfl) rfl) ?_
      refine guardD rfl rfl rfl rfl rfl (hn rfl) (fun τ hN hr g1 g2 => step_moveV rfl (rdN hN (hn rfl)) rfl (by exact rdS hr rfl rfl)) ?_
      refine guardD rfl rfl rfl rfl rfl (hn rfl) (fun τ hN hr g1 g2 => step_moveV rfl (rdN hN (hn rfl)) rfl (by exact rdS hr rfl rfl)) ?_
      refine guardD rfl rfl rfl rfl rfl (hn rfl) (fun τ hN hr g1 g2 => step_index_fN rfl (rdN hN (hn rfl)) rfl yhSl22 (ev_true (by exact rdS hr rfl rfl) (by exact flag2 g1 g2)) (ev_true (by exact rdS hr rfl rfl) (by exact flag2 g1 g2)) (by first | omega | (have := of_decide_eq_true g2; omega) | (have := of_decide_eq_false g2; omega) | (simp only [nrm] at g2; omega) | (simp only [nrm, Bool.true_and] at g1 g2; omega))) ?_
      refine guardD rfl rfl rfl rfl rfl (hn rfl) (fun τ hN hr g1 g2 => step_load_f rfl (rdN hN (hn rfl)) rfl yhSc9 (ev_true (by exact rdS hr rfl rfl) (by exact flag2 g1 g2)) (hn rfl) rfl) ?_
      refine guardD rfl rfl rfl rfl rfl (hn rfl) (fun τ hN hr g1 g2 => step_sgeq rfl (rdN hN (hn rfl)) rfl (ev_true (by exact rdS hr rfl rfl) (by exact flag2 g1 g2)) (ev_true (by exact rdS hr rfl rfl) (by exact flag2 g1 g2))) ?_
      refine guardD rfl rfl rfl rfl rfl (hn rfl) (fun τ hN hr g1 g2 => step_and rfl (rdN hN (hn rfl)) rfl (ev_true (by exact rdS hr rfl rfl) (by exact flag2 g1 g2)) (by exact rdS hr rfl rfl) (fun h => (by exact flag2 (by exact flag2 g1 g2) h))) ?_
      refine DRun.step rfl (fun τ hN hr => step_or rfl (rdN hN (hn rfl)) rfl (by exact rdS hr rfl rfl) (by exact rdS hr rfl rfl) (fun h => (by exact flag1 h))) ?_
      refine DRun.nil ?_
      refine AWp.cond rfl (fun c3 => ?_) (fun c3 => ?_)
      · try simp only [nrm] at c3
        refine AWp.seq (AWp.region ?_)
        refine ARun.step rfl (step_assignV rfl (hn rfl) rfl rfl) ?_
        refine ARun.nil ?_
        refine AWp.ret ?_
        refine RetIs.sc (.inr rfl) rfl rfl ?_
        refine congrArg T.bool ?_
        rw [namesB_eq, all_not (i := i) (by omega) (by simp only [risAt]; grind), Bool.and_false]
      · try simp only [nrm] at c3
        refine AWp.skip ?_
        refine AWp.region ?_
        refine ARun.step rfl (step_moveV rfl (hn rfl) rfl rfl) ?_
        refine ARun.step rfl (step_addI rfl (hn rfl) rfl rfl rfl (by omega) (by omega)) ?_
        refine ARun.step rfl (step_assignV rfl (hn rfl) rfl rfl) ?_
        refine ARun.nil ?_
        refine ⟨i + 1, ?_, ?_, Le.forgetR rfl ⟨rfl, rfl, trivial⟩ trivial trivial⟩
        · try dsimp only
          exact ⟨by omega, upto hall (by simp only [risAt]; grind)⟩
        · try dsimp only
          omega
    · try simp only [nrm] at c2
      refine AWp.exit ?_
      refine AWp.seq (AWp.region ?_)
      refine ARun.step rfl (step_assignV rfl (hn rfl) rfl rfl) ?_
      refine ARun.nil ?_
      refine AWp.ret ?_
      refine RetIs.sc (.inr rfl) rfl rfl ?_
      refine congrArg T.bool ?_
      rw [namesB_eq, all_of (fun j hj => hall j (by omega)), show decide (l.length ≤ 8) = true by simp; omega, Bool.and_true]
theorem l51NamesOk (a b : List Str)  : ASpec Tryz.prog 77 [.one (strs a), .one (strs b)] (.one (.bool (withinB a b && risingB a))) := by
  refine ASpec.body Tryz.func77 rfl [4] rfl 35 rfl rfl rfl ?_
  refine AWp.lenLe 0 rfl (fun hl => ?_)
  refine AWp.seq (AWp.region ?_)
  refine ARun.step rfl (step_assignV rfl (hn rfl) rfl rfl) ?_
  refine ARun.nil ?_
  refine AWp.seq ?_
  refine AWp.seq (AWp.region ?_)
  refine ARun.step rfl (step_assignV rfl (hn rfl) rfl rfl) ?_
  refine ARun.nil ?_
  refine AWp.block ?_
  refine AWp.loopM (fun i : Nat => mkAS 35 [(0, ⟨true, .one (.v (strs a))⟩), (1, ⟨true, .one (.v (strs b))⟩), (5, ⟨true, .one (.v (.int .i64 (i : Nat)))⟩)] [] []) (fun i => i ≤ a.length ∧ ∀ j, j < i → (hasB b (nth a j) && risAt a j) = true) (fun i => a.length - i) 0 ?_ (Le.forgetR rfl ⟨rfl, rfl, rfl, trivial⟩ trivial trivial) ?_
  · try dsimp only
    exact ⟨by omega, by omega⟩
  rintro i ⟨hi, hall⟩
  refine AWp.seq ?_
  refine AWp.seq (AWp.region ?_)
  refine ARun.step rfl (step_moveV rfl (hn rfl) rfl rfl) ?_
  refine ARun.step rfl (step_moveV rfl (hn rfl) rfl rfl) ?_
  refine ARun.step rfl (step_len_f rfl (hn rfl) rfl yhSl22 rfl) ?_
  refine ARun.step rfl (step_lss rfl (hn rfl) rfl rfl rfl) ?_
  refine ARun.nil ?_
  refine AWp.cond rfl (fun c1 => ?_) (fun c1 => ?_)
  · try simp only [nrm] at c1
    refine AWp.skip ?_
    refine AWp.seq ?_
    refine AWp.block ?_
    refine AWp.seq (AWp.draw [⟨[.s 1], [.s 12], false⟩, ⟨[.s 0], [.s 13], false⟩, ⟨[.s 5], [.s 14], false⟩, ⟨[.s 13, .s 14], [.s 15], false⟩, ⟨[.s 15], [.s 16], false⟩, ⟨[.s 16, .s 12], [.s 17], false⟩, ⟨[.s 17], [.s 18], false⟩, ⟨[.s 18], [.s 19], false⟩, ⟨[.s 5, .s 19], [.s 20], false⟩, ⟨[.s 20, .s 19], [.s 21], false⟩, ⟨[.s 21, .s 19], [.s 22], false⟩, ⟨[.s 0, .s 22], [.s 23], false⟩, ⟨[.s 5, .s 22], [.s 24], false⟩, ⟨[.s 24, .s 22], [.s 25], false⟩, ⟨[.s 23, .s 25, .s 22], [.s 26], false⟩, ⟨[.s 26, .s 22], [.s 27], false⟩, ⟨[.s 0, .s 22], [.s 28], false⟩, ⟨[.s 5, .s 22], [.s 29], false⟩, ⟨[.s 28, .s 29, .s 22], [.s 30], false⟩, ⟨[.s 30, .s 22], [.s 31], false⟩, ⟨[.s 27, .s 31, .s 22], [.s 32], false⟩, ⟨[.s 22, .s 32, .s 19], [.s 33], false⟩, ⟨[.s 19, .s 33], [.s 34], false⟩] yhMo rfl ?_)
    refine DRun.step rfl (fun τ hN hr => step_moveV rfl (rdN hN (hn rfl)) rfl (by exact rdS hr rfl rfl)) ?_
    refine DRun.step rfl (fun τ hN hr => step_moveV rfl (rdN hN (hn rfl)) rfl (by exact rdS hr rfl rfl)) ?_
    refine DRun.step rfl (fun τ hN hr => step_moveV rfl (rdN hN (hn rfl)) rfl (by exact rdS hr rfl rfl)) ?_
    refine DRun.step rfl (fun τ hN hr => step_index_fN rfl (rdN hN (hn rfl)) rfl yhSl22 (by exact rdS hr rfl rfl) (by exact rdS hr rfl rfl) (by omega)) ?_
    refine DRun.step rfl (fun τ hN hr => step_load_f rfl (rdN hN (hn rfl)) rfl yhSc9 (by exact rdS hr rfl rfl) (hn rfl) rfl) ?_
    refine DRun.step rfl (fun τ hN hr => call_step1 rfl (rdN hN (hn rfl)) rfl yhCo87 (.cons (by exact rdS hr rfl rfl) (.one (.v _)) (.cons (by exact rdS hr rfl rfl) (.one (.v _)) (.nil))) (l51Has _ _) rfl) ?_
    refine DRun.step rfl (fun τ hN hr => step_not rfl (rdN hN (hn rfl)) rfl (by exact rdS hr rfl rfl)) ?_
    refine DRun.step rfl (fun τ hN hr => step_moveV rfl (rdN hN (hn rfl)) rfl (by exact rdS hr rfl rfl)) ?_
    refine guardD rfl rfl rfl rfl rfl (hn rfl) (fun τ hN hr g1 g2 => step_moveV rfl (rdN hN (hn rfl)) rfl (by exact rdS hr rfl rfl)) ?_
    refine guardD rfl rfl rfl rfl rfl (hn rfl) (fun τ hN hr g1 g2 => step_gtr rfl (rdN hN (hn rfl)) rfl (ev_true (by exact rdS hr rfl rfl) (by exact flag2 g1 g2)) rfl) ?_
    refine guardD rfl rfl rfl rfl rfl (hn rfl) (fun τ hN hr g1 g2 => step_moveV rfl (rdN hN (hn rfl)) rfl (ev_true (by exact rdS hr rfl rfl) (by exact flag2 g1 g2))) ?_
    refine guardD rfl rfl rfl rfl rfl (hn rfl) (fun τ hN hr g1 g2 => step_moveV rfl (rdN hN (hn rfl)) rfl (by exact rdS hr rfl rfl)) ?_
    refine guardD rfl rfl rfl rfl rfl (hn rfl) (fun τ hN hr g1 g2 => step_moveV rfl (rdN hN (hn rfl)) rfl (by exact rdS hr rfl rfl)) ?_
    refine guardD rfl rfl rfl rfl rfl (hn rfl) (fun τ hN hr g1 g2 => step_decN rfl (rdN hN (hn rfl)) rfl (ev_true (by exact rdS hr rfl rfl) (by exact flag2 g1 g2)) rfl (by have := of_decide_eq_true g2; omega) (by omega)) ?_
    refine guardD rfl rfl rfl rfl rfl (hn rfl) (fun τ hN hr g1 g2 => step_index_fN rfl (rdN hN (hn rfl)) rfl yhSl22 (ev_true (by exact rdS hr rfl rfl) (by exact flag2 g1 g2)) (ev_true (by exact rdS hr rfl rfl) (by exact flag2 g1 g2)) (by first | omega | (have := of_decide_eq_true g2; omega) | (have := of_decide_eq_false g2; omega) | (simp only [nrm] at g2; omega) | (simp only [nrm, Bool.true_and] at g1 g2; omega))) ?_
    refine guardD rfl rfl rfl rfl rfl (hn rfl) (fun τ hN hr g1 g2 => step_load_f rfl (rdN hN (hn rfl)) rfl yhSc9 (ev_true (by exact rdS hr rfl rfl) (by exact flag2 g1 g2)) (hn rfl) rfl) ?_
    refine guardD rfl rfl rfl rfl rfl (hn rfl) (fun τ hN hr g1 g2 => step_moveV rfl (rdN hN (hn rfl)) rfl (by exact rdS hr rfl rfl)) ?_
    refine guardD rfl rfl rfl rfl rfl (hn rfl) (fun τ hN hr g1 g2 => step_moveV rfl (rdN hN (hn rfl)) rfl (by exact rdS hr rfl rfl)) ?_
    refine guardD rfl rfl rfl rfl rfl (hn rfl) (fun τ hN hr g1 g2 => step_index_fN rfl (rdN hN (hn rfl)) rfl yhSl22 (ev_true (by exact rdS hr rfl rfl) (by exact flag2 g1 g2)) (ev_true (by exact rdS hr rfl rfl) (by exact flag2 g1 g2)) (by first | omega | (have := of_decide_eq_true g2; omega) | (have := of_decide_eq_false g2; omega) | (simp only [nrm] at g2; omega) | (simp only [nrm, Bool.true_and] at g1 g2; omega))) ?_
    refine guardD rfl rfl rfl rfl rfl (hn rfl) (fun τ hN hr g1 g2 => step_load_f rfl (rdN hN (hn rfl)) rfl yhSc9 (ev_true (by exact rdS hr rfl rfl) (by exact flag2 g1 g2)) (hn rfl) rfl) ?_
    refine guardD rfl rfl rfl rfl rfl (hn rfl) (fun τ hN hr g1 g2 => step_sgeq rfl (rdN hN (hn rfl)) rfl (ev_true (by exact rdS hr rfl rfl) (by exact flag2 g1 g2)) (ev_true (by exact rdS hr rfl rfl) (by exact flag2 g1 g2))) ?_
    refine guardD rfl rfl rfl rfl rfl (hn rfl) (fun τ hN hr g1 g2 => step_and rfl (rdN hN (hn rfl)) rfl (ev_true (by exact rdS hr rfl rfl) (by exact flag2 g1 g2)) (by exact rdS hr rfl rfl) (fun h => (by exact flag2 (by exact flag2 g1 g2) h))) ?_
    refine DRun.step rfl (fun τ hN hr => step_or rfl (rdN hN (hn rfl)) rfl (by exact rdS hr rfl rfl) (by exact rdS hr rfl rfl) (fun h => (by exact flag1 h))) ?_
    refine DRun.nil ?_
    refine AWp.cond rfl (fun c2 => ?_) (fun c2 => ?_)
    · try simp only [nrm] at c2
      refine AWp.seq (AWp.region ?_)
      refine ARun.step rfl (step_assignV rfl (hn rfl) rfl rfl) ?_
      refine ARun.nil ?_
      refine AWp.ret ?_
      refine RetIs.sc (.inr rfl) rfl rfl ?_
      refine congrArg T.bool ?_
      rw [within_eq, all_not (i := i) (by omega) (by simp only [risAt]; grind)]
    · try simp only [nrm] at c2
      refine AWp.skip ?_
      refine AWp.region ?_
      refine ARun.step rfl (step_moveV rfl (hn rfl) rfl rfl) ?_
      refine ARun.step rfl (step_addI rfl (hn rfl) rfl rfl rfl (by omega) (by omega)) ?_
      refine ARun.step rfl (step_assignV rfl (hn rfl) rfl rfl) ?_
      refine ARun.nil ?_
      refine ⟨i + 1, ?_, ?_, Le.forgetR rfl ⟨rfl, rfl, rfl, trivial⟩ trivial trivial⟩
      · try dsimp only
        exact ⟨by omega, upto hall (by simp only [risAt]; grind)⟩
      · try dsimp only
        omega
  · try simp only [nrm] at c1
    refine AWp.exit ?_
    refine AWp.seq (AWp.region ?_)
    refine ARun.step rfl (step_assignV rfl (hn rfl) rfl rfl) ?_
    refine ARun.nil ?_
    refine AWp.ret ?_
    refine RetIs.sc (.inr rfl) rfl rfl ?_
    refine congrArg T.bool ?_
    rw [within_eq, all_of (fun j hj => hall j (by omega))]
theorem bookOkS (p : Bk)  : ASpec Tryz.prog 74 [.agg (p.cells 105)] (.one (.bool (bookOk p))) := by
  refine ASpec.body Tryz.func74 rfl [2] rfl 78 rfl rfl rfl ?_
  refine AWp.aggLe 0 rfl (fun hc => ?_)
  have hl : p.bs.length ≤ 9223372036854775807 := hc (.v (bts 105 p.bs)) (by exact List.mem_cons_of_mem _ List.mem_cons_self)
  have hl2 : p.things.length ≤ 9223372036854775807 := hc (.v (strs p.things)) (by exact List.mem_cons_self)
  clear hc
  refine AWp.seq (AWp.region ?_)
  refine ARun.step rfl (step_box_p (m := 1) rfl (hn rfl) rfl rfl rfl rfl rfl) ?_
  refine ARun.step rfl (step_assignV rfl (hn rfl) rfl rfl) ?_
  refine ARun.nil ?_
  refine AWp.seq ?_
  refine AWp.seq (AWp.region ?_)
  refine ARun.step rfl (step_field_b rfl (hn rfl) rfl yhFo34_0 rfl (by exact List.cons_ne_nil _ _)) ?_
  refine ARun.step rfl (step_load_b rfl (hn rfl) rfl yhSc22 rfl rfl) ?_
  refine ARun.step rfl (call_step1 rfl (hn rfl) rfl yhCo143 (.cons rfl (.one (.v _)) (.nil)) (l51ThingsOk _) rfl) ?_
  refine ARun.step rfl (step_not rfl (hn rfl) rfl rfl) ?_
  refine ARun.step rfl (step_moveV rfl (hn rfl) rfl rfl) ?_
  refine guardS rfl rfl rfl rfl (hn rfl) (fun g1 g2 => step_field_b rfl (hn rfl) rfl yhFo34_1 rfl (by exact List.cons_ne_nil _ _)) ?_
  refine guardS rfl rfl rfl rfl (hn rfl) (fun g1 g2 => step_load_b rfl (hn rfl) rfl yhSc32 (ev_true rfl (by exact flag2 g1 g2)) rfl) ?_
  refine guardS rfl rfl rfl rfl (hn rfl) (fun g1 g2 => step_len_f rfl (hn rfl) rfl yhSl32 (ev_true rfl (by exact flag2 g1 g2))) ?_
  refine guardS rfl rfl rfl rfl (hn rfl) (fun g1 g2 => step_gtr rfl (hn rfl) rfl (ev_true rfl (by exact flag2 g1 g2)) rfl) ?_
  refine ARun.step rfl (step_or rfl (hn rfl) rfl rfl rfl (fun h => (by exact flag1 h))) ?_
  refine ARun.nil ?_
  refine AWp.cond rfl (fun c1 => ?_) (fun c1 => ?_)
  · try simp only [nrm] at c1
    refine AWp.seq (AWp.region ?_)
    refine ARun.step rfl (step_assignV rfl (hn rfl) rfl rfl) ?_
    refine ARun.nil ?_
    refine AWp.ret ?_
    refine RetIs.sc (.inr rfl) rfl rfl ?_
    refine congrArg T.bool ?_
    simp only [bookOk]; grind
  · try simp only [nrm] at c1
    refine AWp.skip ?_
    refine AWp.seq ?_
    refine AWp.seq (AWp.region ?_)
    refine ARun.step rfl (step_assignV rfl (hn rfl) rfl rfl) ?_
    refine ARun.nil ?_
    refine AWp.block ?_
    refine AWp.loopM (fun i : Nat => mkAS 78 [(1, ⟨true, .one (.bptr 1 0)⟩), (3, ⟨true, .one (.v (.int .i64 (i : Nat)))⟩)] [(1, (p.cells 105).map C.v)] []) (fun i => i ≤ p.bs.length ∧ ∀ j, j < i → (btAt p j && btFree p j) = true) (fun i => p.bs.length - i) 0 ?_ (Le.forgetR rfl ⟨rfl, rfl, trivial⟩ ⟨rfl, trivial⟩ trivial) ?_
    · try dsimp only
      exact ⟨by omega, by omega⟩
    rintro i ⟨hi, hall⟩
    refine AWp.seq ?_
    refine AWp.seq (AWp.region ?_)
    refine ARun.step rfl (step_moveV rfl (hn rfl) rfl rfl) ?_
    refine ARun.step rfl (step_field_b rfl (hn rfl) rfl yhFo34_1 rfl (by exact List.cons_ne_nil _ _)) ?_
    refine ARun.step rfl (step_load_b rfl (hn rfl) rfl yhSc32 rfl rfl) ?_
    refine ARun.step rfl (step_len_f rfl (hn rfl) rfl yhSl32 rfl) ?_
    refine ARun.step rfl (step_lss rfl (hn rfl) rfl rfl rfl) ?_
    refine ARun.nil ?_
    refine AWp.cond rfl (fun c2 => ?_) (fun c2 => ?_)
    · try simp only [nrm] at c2
      refine AWp.skip ?_
      refine AWp.seq ?_
      refine AWp.block ?_
      refine AWp.seq (AWp.region ?_)
      refine ARun.step rfl (step_field_b rfl (hn rfl) rfl yhFo34_1 rfl (by exact List.cons_ne_nil _ _)) ?_
      refine ARun.step rfl (step_load_b rfl (hn rfl) rfl yhSc32 rfl rfl) ?_
      refine ARun.step rfl (step_moveV rfl (hn rfl) rfl rfl) ?_
      refine ARun.step rfl (step_index_fN rfl (hn rfl) rfl yhSl32 rfl rfl (by omega)) ?_
      refine ARun.step rfl (step_loadS_f rfl (hn rfl) rfl yhSt105 rfl (hn rfl) rfl rfl) ?_
      refine ARun.step rfl (step_alloc_p rfl (hn rfl) rfl yhZs105) ?_
      refine ARun.step rfl (step_store_p rfl rfl yhCs105 rfl rfl rfl rfl rfl rfl rfl) ?_
      refine ARun.nil ?_
      refine AWp.seq ?_
      refine AWp.seq (AWp.draw [⟨[.s 4, .b 4], [.s 28], false⟩, ⟨[.s 28, .b 4], [.s 29], false⟩, ⟨[.s 29], [.s 30], false⟩, ⟨[.s 30], [.s 31], false⟩, ⟨[.s 31], [.s 32], false⟩, ⟨[.s 3, .s 32], [.s 33], false⟩, ⟨[.s 33, .s 32], [.s 34], false⟩, ⟨[.s 34, .s 32], [.s 35], false⟩, ⟨[.s 1, .b 1, .s 35], [.s 36], false⟩, ⟨[.s 36, .b 1, .s 35], [.s 37], false⟩, ⟨[.s 3, .s 35], [.s 38], false⟩, ⟨[.s 38, .s 35], [.s 39], false⟩, ⟨[.s 37, .s 39, .s 35], [.s 40], false⟩, ⟨[.s 40, .s 35], [.s 41], false⟩, ⟨[.s 41, .s 35], [.s 42], false⟩, ⟨[.s 4, .b 4, .s 35], [.s 43], false⟩, ⟨[.s 43, .b 4, .s 35], [.s 44], false⟩, ⟨[.s 42, .s 44, .s 35], [.s 45], false⟩, ⟨[.s 35, .s 45, .s 32], [.s 46], false⟩, ⟨[.s 32, .s 46], [.s 47], false⟩, ⟨[.s 47], [.s 48], false⟩, ⟨[.s 4, .b 4, .s 48], [.s 49], false⟩, ⟨[.s 49, .b 4, .s 48], [.s 50], false⟩, ⟨[.s 1, .b 1, .s 48], [.s 51], false⟩, ⟨[.s 51, .b 1, .s 48], [.s 52], false⟩, ⟨[.s 52, .s 50, .s 48], [.s 53], false⟩, ⟨[.s 53, .s 48], [.s 54], false⟩, ⟨[.s 48, .s 54], [.s 55], false⟩, ⟨[.s 55], [.s 56], false⟩, ⟨[.s 4, .b 4, .s 56], [.s 57], false⟩, ⟨[.s 57, .b 4, .s 56], [.s 58], false⟩, ⟨[.s 4, .b 4, .s 56], [.s 59], false⟩, ⟨[.s 59, .b 4, .s 56], [.s 60], false⟩, ⟨[.s 60, .s 58, .s 56], [.s 61], false⟩, ⟨[.s 61, .s 56], [.s 62], false⟩, ⟨[.s 56, .s 62], [.s 63], false⟩] yhMo (by kernel_rfl) ?_)
      refine DRun.step rfl (fun τ hN hr => step_field_b rfl (rdN hN (hn rfl)) rfl yhFo105_0 (by exact rdS hr rfl rfl) (by exact rdBne hr rfl (by exact List.cons_ne_nil _ _))) ?_
      refine DRun.step rfl (fun τ hN hr => step_load_b rfl (rdN hN (hn rfl)) rfl yhSc9 (by exact rdS hr rfl rfl) (by exact rdBget hr rfl rfl)) ?_
      refine DRun.step rfl (fun τ hN hr => call_step1 rfl (rdN hN (hn rfl)) rfl yhCo76 (.cons (by exact rdS hr rfl rfl) (.one (.v _)) (.nil)) (l51NameOk _) rfl) ?_
      refine DRun.step rfl (fun τ hN hr => step_not rfl (rdN hN (hn rfl)) rfl (by exact rdS hr rfl rfl)) ?_
      refine DRun.step rfl (fun τ hN hr => step_moveV rfl (rdN hN (hn rfl)) rfl (by exact rdS hr rfl rfl)) ?_
      refine guardD rfl rfl rfl rfl rfl (hn rfl) (fun τ hN hr g1 g2 => step_moveV rfl (rdN hN (hn rfl)) rfl (by exact rdS hr rfl rfl)) ?_
      refine guardD rfl rfl rfl rfl rfl (hn rfl) (fun τ hN hr g1 g2 => step_gtr rfl (rdN hN (hn rfl)) rfl (ev_true (by exact rdS hr rfl rfl) (by exact flag2 g1 g2)) rfl) ?_
      refine guardD rfl rfl rfl rfl rfl (hn rfl) (fun τ hN hr g1 g2 => step_moveV rfl (rdN hN (hn rfl)) rfl (ev_true (by exact rdS hr rfl rfl) (by exact flag2 g1 g2))) ?_
      refine guardD rfl rfl rfl rfl rfl (hn rfl) (fun τ hN hr g1 g2 => step_field_b rfl (rdN hN (hn rfl)) rfl yhFo34_1 (by exact rdS hr rfl rfl) (by exact rdBne hr rfl (by exact List.cons_ne_nil _ _))) ?_
      refine guardD rfl rfl rfl rfl rfl (hn rfl) (fun τ hN hr g1 g2 => step_load_b rfl (rdN hN (hn rfl)) rfl yhSc32 (ev_true (by exact rdS hr rfl rfl) (by exact flag2 g1 g2)) (by exact rdBget hr rfl rfl)) ?_
      refine guardD rfl rfl rfl rfl rfl (hn rfl) (fun τ hN hr g1 g2 => step_moveV rfl (rdN hN (hn rfl)) rfl (by exact rdS hr rfl rfl)) ?_
      refine guardD rfl rfl rfl rfl rfl (hn rfl) (fun τ hN hr g1 g2 => step_decN rfl (rdN hN (hn rfl)) rfl (ev_true (by exact rdS hr rfl rfl) (by exact flag2 g1 g2)) rfl (by have := of_decide_eq_true g2; omega) (by omega)) ?_
      refine guardD rfl rfl rfl rfl rfl (hn rfl) (fun τ hN hr g1 g2 => step_index_fN rfl (rdN hN (hn rfl)) rfl yhSl32 (ev_true (by exact rdS hr rfl rfl) (by exact flag2 g1 g2)) (ev_true (by exact rdS hr rfl rfl) (by exact flag2 g1 g2)) (by first | omega | (have := of_decide_eq_true g2; omega) | (have := of_decide_eq_false g2; omega) | (simp only [nrm] at g2; omega) | (simp only [nrm, Bool.true_and] at g1 g2; omega))) ?_
      refine guardD rfl rfl rfl rfl rfl (hn rfl) (fun τ hN hr g1 g2 => step_field_f rfl (rdN hN (hn rfl)) rfl yhFo105_0 (ev_true (by exact rdS hr rfl rfl) (by exact flag2 g1 g2))) ?_
      refine guardD rfl rfl rfl rfl rfl (hn rfl) (fun τ hN hr g1 g2 => step_load_f rfl (rdN hN (hn rfl)) rfl yhSc9 (ev_true (by exact rdS hr rfl rfl) (by exact flag2 g1 g2)) (hn rfl) rfl) ?_
      refine guardD rfl rfl rfl rfl rfl (hn rfl) (fun τ hN hr g1 g2 => step_field_b rfl (rdN hN (hn rfl)) rfl yhFo105_0 (by exact rdS hr rfl rfl) (by exact rdBne hr rfl (by exact List.cons_ne_nil _ _))) ?_
      refine guardD rfl rfl rfl rfl rfl (hn rfl) (fun τ hN hr g1 g2 => step_load_b rfl (rdN hN (hn rfl)) rfl yhSc9 (ev_true (by exact rdS hr rfl rfl) (by exact flag2 g1 g2)) (by exact rdBget hr rfl rfl)) ?_
      refine guardD rfl rfl rfl rfl rfl (hn rfl) (fun τ hN hr g1 g2 => step_sgeq rfl (rdN hN (hn rfl)) rfl (ev_true (by exact rdS hr rfl rfl) (by exact flag2 g1 g2)) (ev_true (by exact rdS hr rfl rfl) (by exact flag2 g1 g2))) ?_
      refine guardD rfl rfl rfl rfl rfl (hn rfl) (fun τ hN hr g1 g2 => step_and rfl (rdN hN (hn rfl)) rfl (ev_true (by exact rdS hr rfl rfl) (by exact flag2 g1 g2)) (by exact rdS hr rfl rfl) (fun h => (by exact flag2 (by exact flag2 g1 g2) h))) ?_
      refine DRun.step rfl (fun τ hN hr => step_or rfl (rdN hN (hn rfl)) rfl (by exact rdS hr rfl rfl) (by exact rdS hr rfl rfl) (fun h => (by exact flag1 h))) ?_
      refine DRun.step rfl (fun τ hN hr => step_moveV rfl (rdN hN (hn rfl)) rfl (by exact rdS hr rfl rfl)) ?_
      refine guardD rfl rfl rfl rfl rfl (hn rfl) (fun τ hN hr g1 g2 => step_field_b rfl (rdN hN (hn rfl)) rfl yhFo105_2 (by exact rdS hr rfl rfl) (by exact rdBne hr rfl (by exact List.cons_ne_nil _ _))) ?_
      refine guardD rfl rfl rfl rfl rfl (hn rfl) (fun τ hN hr g1 g2 => step_load_b rfl (rdN hN (hn rfl)) rfl yhSc22 (ev_true (by exact rdS hr rfl rfl) (by exact flag2 g1 g2)) (by exact rdBget hr rfl rfl)) ?_
      refine guardD rfl rfl rfl rfl rfl (hn rfl) (fun τ hN hr g1 g2 => step_field_b rfl (rdN hN (hn rfl)) rfl yhFo34_0 (by exact rdS hr rfl rfl) (by exact rdBne hr rfl (by exact List.cons_ne_nil _ _))) ?_
      refine guardD rfl rfl rfl rfl rfl (hn rfl) (fun τ hN hr g1 g2 => step_load_b rfl (rdN hN (hn rfl)) rfl yhSc22 (ev_true (by exact rdS hr rfl rfl) (by exact flag2 g1 g2)) (by exact rdBget hr rfl rfl)) ?_
      refine guardD rfl rfl rfl rfl rfl (hn rfl) (fun τ hN hr g1 g2 => call_step1 rfl (rdN hN (hn rfl)) rfl yhCo77 (.cons (ev_true (by exact rdS hr rfl rfl) (by exact flag2 g1 g2)) (.one (.v _)) (.cons (ev_true (by exact rdS hr rfl rfl) (by exact flag2 g1 g2)) (.one (.v _)) (.nil))) (l51NamesOk _ _) rfl) ?_
      refine guardD rfl rfl rfl rfl rfl (hn rfl) (fun τ hN hr g1 g2 => step_not rfl (rdN hN (hn rfl)) rfl (ev_true (by exact rdS hr rfl rfl) (by exact flag2 g1 g2))) ?_
      refine DRun.step rfl (fun τ hN hr => step_or rfl (rdN hN (hn rfl)) rfl (by exact rdS hr rfl rfl) (by exact rdS hr rfl rfl) (fun h => (by exact flag1 h))) ?_
      refine DRun.step rfl (fun τ hN hr => step_moveV rfl (rdN hN (hn rfl)) rfl (by exact rdS hr rfl rfl)) ?_
      refine guardD rfl rfl rfl rfl rfl (hn rfl) (fun τ hN hr g1 g2 => step_field_b rfl (rdN hN (hn rfl)) rfl yhFo105_1 (by exact rdS hr rfl rfl) (by exact rdBne hr rfl (by exact List.cons_ne_nil _ _))) ?_
      refine guardD rfl rfl rfl rfl rfl (hn rfl) (fun τ hN hr g1 g2 => step_load_b rfl (rdN hN (hn rfl)) rfl yhSc22 (ev_true (by exact rdS hr rfl rfl) (by exact flag2 g1 g2)) (by exact rdBget hr rfl rfl)) ?_
      refine guardD rfl rfl rfl rfl rfl (hn rfl) (fun τ hN hr g1 g2 => step_field_b rfl (rdN hN (hn rfl)) rfl yhFo105_2 (by exact rdS hr rfl rfl) (by exact rdBne hr rfl (by exact List.cons_ne_nil _ _))) ?_
      refine guardD rfl rfl rfl rfl rfl (hn rfl) (fun τ hN hr g1 g2 => step_load_b rfl (rdN hN (hn rfl)) rfl yhSc22 (ev_true (by exact rdS hr rfl rfl) (by exact flag2 g1 g2)) (by exact rdBget hr rfl rfl)) ?_
      refine guardD rfl rfl rfl rfl rfl (hn rfl) (fun τ hN hr g1 g2 => call_step1 rfl (rdN hN (hn rfl)) rfl yhCo77 (.cons (ev_true (by exact rdS hr rfl rfl) (by exact flag2 g1 g2)) (.one (.v _)) (.cons (ev_true (by exact rdS hr rfl rfl) (by exact flag2 g1 g2)) (.one (.v _)) (.nil))) (l51NamesOk _ _) rfl) ?_
      refine guardD rfl rfl rfl rfl rfl (hn rfl) (fun τ hN hr g1 g2 => step_not rfl (rdN hN (hn rfl)) rfl (ev_true (by exact rdS hr rfl rfl) (by exact flag2 g1 g2))) ?_
      refine DRun.step rfl (fun τ hN hr => step_or rfl (rdN hN (hn rfl)) rfl (by exact rdS hr rfl rfl) (by exact rdS hr rfl rfl) (fun h => (by exact flag1 h))) ?_
      refine DRun.nil ?_
      refine AWp.cond rfl (fun c3 => ?_) (fun c3 => ?_)
      · try simp only [nrm] at c3
        refine AWp.seq (AWp.region ?_)
        refine ARun.step rfl (step_assignV rfl (hn rfl) rfl rfl) ?_
        refine ARun.nil ?_
        refine AWp.ret ?_
        refine RetIs.sc (.inr rfl) rfl rfl ?_
        refine congrArg T.bool ?_
        exact (bookOk_not (i := i) (by omega) (by simp only [btAt]; grind)).symm
      · try simp only [nrm] at c3
        refine AWp.skip ?_
        refine AWp.seq (AWp.region ?_)
        refine ARun.step rfl (step_assignV rfl (hn rfl) rfl rfl) ?_
        refine ARun.nil ?_
        refine AWp.block ?_
        refine AWp.loopM (fun j : Nat => mkAS 78 [(1, ⟨true, .one (.bptr 1 0)⟩), (3, ⟨true, .one (.v (.int .i64 (i : Nat)))⟩), (4, ⟨true, .one (.bptr 4 0)⟩), (5, ⟨true, .one (.v (.int .i64 (j : Nat)))⟩)] [(1, (p.cells 105).map C.v), (4, (nth p.bs i).cells.map C.v)] []) (fun j => j ≤ i ∧ ∀ q, q < j → (!meetsB (nth p.bs i).has (nth p.bs q).has) = true) (fun j => i - j) 0 ?_ (Le.forgetR rfl ⟨rfl, rfl, rfl, rfl, trivial⟩ ⟨rfl, rfl, trivial⟩ trivial) ?_
        · try dsimp only
          exact ⟨by omega, by omega⟩
        rintro j ⟨hj, hfree⟩
        refine AWp.seq ?_
        refine AWp.seq (AWp.region ?_)
        refine ARun.step rfl (step_moveV rfl (hn rfl) rfl rfl) ?_
        refine ARun.step rfl (step_moveV rfl (hn rfl) rfl rfl) ?_
        refine ARun.step rfl (step_lss rfl (hn rfl) rfl rfl rfl) ?_
        refine ARun.nil ?_
        refine AWp.cond rfl (fun c4 => ?_) (fun c4 => ?_)
        · try simp only [nrm] at c4
          refine AWp.skip ?_
          refine AWp.seq ?_
          refine AWp.block ?_
          refine AWp.seq (AWp.draw [⟨[.s 4, .b 4], [.s 69], false⟩, ⟨[.s 69, .b 4], [.s 70], false⟩, ⟨[.s 1, .b 1], [.s 71], false⟩, ⟨[.s 71, .b 1], [.s 72], false⟩, ⟨[.s 5], [.s 73], false⟩, ⟨[.s 72, .s 73], [.s 74], false⟩, ⟨[.s 74], [.s 75], false⟩, ⟨[.s 75], [.s 76], false⟩, ⟨[.s 76, .s 70], [.s 77], false⟩] yhMo rfl ?_)
          refine DRun.step rfl (fun τ hN hr => step_field_b rfl (rdN hN (hn rfl)) rfl yhFo105_1 (by exact rdS hr rfl rfl) (by exact rdBne hr rfl (by exact List.cons_ne_nil _ _))) ?_
          refine DRun.step rfl (fun τ hN hr => step_load_b rfl (rdN hN (hn rfl)) rfl yhSc22 (by exact rdS hr rfl rfl) (by exact rdBget hr rfl rfl)) ?_
          refine DRun.step rfl (fun τ hN hr => step_field_b rfl (rdN hN (hn rfl)) rfl yhFo34_1 (by exact rdS hr rfl rfl) (by exact rdBne hr rfl (by exact List.cons_ne_nil _ _))) ?_
          refine DRun.step rfl (fun τ hN hr => step_load_b rfl (rdN hN (hn rfl)) rfl yhSc32 (by exact rdS hr rfl rfl) (by exact rdBget hr rfl rfl)) ?_
          refine DRun.step rfl (fun τ hN hr => step_moveV rfl (rdN hN (hn rfl)) rfl (by exact rdS hr rfl rfl)) ?_
          refine DRun.step rfl (fun τ hN hr => step_index_fN rfl (rdN hN (hn rfl)) rfl yhSl32 (by exact rdS hr rfl rfl) (by exact rdS hr rfl rfl) (by omega)) ?_
          refine DRun.step rfl (fun τ hN hr => step_field_f rfl (rdN hN (hn rfl)) rfl yhFo105_1 (by exact rdS hr rfl rfl)) ?_
          refine DRun.step rfl (fun τ hN hr => step_load_f rfl (rdN hN (hn rfl)) rfl yhSc22 (by exact rdS hr rfl rfl) (hn rfl) rfl) ?_
          refine DRun.step rfl (fun τ hN hr => call_step1 rfl (rdN hN (hn rfl)) rfl yhCo144 (.cons (by exact rdS hr rfl rfl) (.one (.v _)) (.cons (by exact rdS hr rfl rfl) (.one (.v _)) (.nil))) (l51Share _ _) rfl) ?_
          refine DRun.nil ?_
          refine AWp.cond rfl (fun c5 => ?_) (fun c5 => ?_)
          · try simp only [nrm] at c5
            refine AWp.seq (AWp.region ?_)
            refine ARun.step rfl (step_assignV rfl (hn rfl) rfl rfl) ?_
            refine ARun.nil ?_
            refine AWp.ret ?_
            refine RetIs.sc (.inr rfl) rfl rfl ?_
            refine congrArg T.bool ?_
            exact (bookOk_not (i := i) (by omega) (by rw [btFree, all_not (i := j) (by omega) (by grind), Bool.and_false])).symm
          · try simp only [nrm] at c5
            refine AWp.skip ?_
            refine AWp.region ?_
            refine ARun.step rfl (step_moveV rfl (hn rfl) rfl rfl) ?_
            refine ARun.step rfl (step_addI rfl (hn rfl) rfl rfl rfl (by omega) (by omega)) ?_
            refine ARun.step rfl (step_assignV rfl (hn rfl) rfl rfl) ?_
            refine ARun.nil ?_
            refine ⟨j + 1, ?_, ?_, Le.forgetR rfl ⟨rfl, rfl, rfl, rfl, trivial⟩ ⟨rfl, rfl, trivial⟩ trivial⟩
            · try dsimp only
              exact ⟨by omega, upto hfree (by grind)⟩
            · try dsimp only
              omega
        · try simp only [nrm] at c4
          refine AWp.exit ?_
          refine AWp.region ?_
          refine ARun.step rfl (step_moveV rfl (hn rfl) rfl rfl) ?_
          refine ARun.step rfl (step_addI rfl (hn rfl) rfl rfl rfl (by omega) (by omega)) ?_
          refine ARun.step rfl (step_assignV rfl (hn rfl) rfl rfl) ?_
          refine ARun.nil ?_
          refine ⟨i + 1, ?_, ?_, Le.forgetR rfl ⟨rfl, rfl, trivial⟩ ⟨rfl, trivial⟩ trivial⟩
          · try dsimp only
            exact ⟨by omega, upto hall (by have hf : btFree p i = true := all_of (fun q hq => hfree q (by omega)); simp only [btAt]; grind)⟩
          · try dsimp only
            omega
    · try simp only [nrm] at c2
      refine AWp.exit ?_
      refine AWp.seq (AWp.region ?_)
      refine ARun.step rfl (step_assignV rfl (hn rfl) rfl rfl) ?_
      refine ARun.nil ?_
      refine AWp.ret ?_
      refine RetIs.sc (.inr rfl) rfl rfl ?_
      refine congrArg T.bool ?_
      rw [bookOk, all_of (fun j hj => hall j (by omega))]; grind
theorem bookOkI (p : Bk)  : ASpec Tryz.prog 26 [.agg (p.cells 105)] (.one (.bool (bookOk p))) := by
  refine ASpec.body Tryz.func26 rfl [2] rfl 95 rfl rfl rfl ?_
  refine AWp.aggLe 0 rfl (fun hc => ?_)
  have hl : p.bs.length ≤ 9223372036854775807 := hc (.v (bts 105 p.bs)) (by exact List.mem_cons_of_mem _ List.mem_cons_self)
  have hl2 : p.things.length ≤ 9223372036854775807 := hc (.v (strs p.things)) (by exact List.mem_cons_self)
  clear hc
  refine AWp.seq (AWp.region ?_)
  refine ARun.step rfl (step_box_p (m := 1) rfl (hn rfl) rfl rfl rfl rfl rfl) ?_
  refine ARun.step rfl (step_assignV rfl (hn rfl) rfl rfl) ?_
  refine ARun.nil ?_
  refine AWp.seq ?_
  refine AWp.seq (AWp.region ?_)
  refine ARun.step rfl (step_field_b rfl (hn rfl) rfl yhFo34_0 rfl (by exact List.cons_ne_nil _ _)) ?_
  refine ARun.step rfl (step_load_b rfl (hn rfl) rfl yhSc22 rfl rfl) ?_
  refine ARun.step rfl (step_len_f rfl (hn rfl) rfl yhSl22 rfl) ?_
  refine ARun.step rfl (step_gtr rfl (hn rfl) rfl rfl rfl) ?_
  refine ARun.step rfl (step_moveV rfl (hn rfl) rfl rfl) ?_
  refine guardS rfl rfl rfl rfl (hn rfl) (fun g1 g2 => step_field_b rfl (hn rfl) rfl yhFo34_0 rfl (by exact List.cons_ne_nil _ _)) ?_
  refine guardS rfl rfl rfl rfl (hn rfl) (fun g1 g2 => step_load_b rfl (hn rfl) rfl yhSc22 (ev_true rfl (by exact flag2 g1 g2)) rfl) ?_
  refine guardS rfl rfl rfl rfl (hn rfl) (fun g1 g2 => call_step1 rfl (hn rfl) rfl yhCo89 (.cons (ev_true rfl (by exact flag2 g1 g2)) (.one (.v _)) (.nil)) (namesI _) rfl) ?_
  refine guardS rfl rfl rfl rfl (hn rfl) (fun g1 g2 => step_not rfl (hn rfl) rfl (ev_true rfl (by exact flag2 g1 g2))) ?_
  refine ARun.step rfl (step_or rfl (hn rfl) rfl rfl rfl (fun h => (by exact flag1 h))) ?_
  refine ARun.step rfl (step_moveV rfl (hn rfl) rfl rfl) ?_
  refine guardS rfl rfl rfl rfl (hn rfl) (fun g1 g2 => step_field_b rfl (hn rfl) rfl yhFo34_1 rfl (by exact List.cons_ne_nil _ _)) ?_
  refine guardS rfl rfl rfl rfl (hn rfl) (fun g1 g2 => step_load_b rfl (hn rfl) rfl yhSc32 (ev_true rfl (by exact flag2 g1 g2)) rfl) ?_
  refine guardS rfl rfl rfl rfl (hn rfl) (fun g1 g2 => step_len_f rfl (hn rfl) rfl yhSl32 (ev_true rfl (by exact flag2 g1 g2))) ?_
  refine guardS rfl rfl rfl rfl (hn rfl) (fun g1 g2 => step_gtr rfl (hn rfl) rfl (ev_true rfl (by exact flag2 g1 g2)) rfl) ?_
  refine ARun.step rfl (step_or rfl (hn rfl) rfl rfl rfl (fun h => (by exact flag1 h))) ?_
  refine ARun.nil ?_
  refine AWp.cond rfl (fun c1 => ?_) (fun c1 => ?_)
  · try simp only [nrm] at c1
    refine AWp.seq (AWp.region ?_)
    refine ARun.step rfl (step_assignV rfl (hn rfl) rfl rfl) ?_
    refine ARun.nil ?_
    refine AWp.ret ?_
    refine RetIs.sc (.inr rfl) rfl rfl ?_
    refine congrArg T.bool ?_
    simp only [bookOk]; grind
  · try simp only [nrm] at c1
    refine AWp.skip ?_
    refine AWp.seq ?_
    refine AWp.seq (AWp.region ?_)
    refine ARun.step rfl (step_field_b rfl (hn rfl) rfl yhFo34_1 rfl (by exact List.cons_ne_nil _ _)) ?_
    refine ARun.step rfl (step_load_b rfl (hn rfl) rfl yhSc32 rfl rfl) ?_
    refine ARun.step rfl (step_len_f rfl (hn rfl) rfl yhSl32 rfl) ?_
    refine ARun.step rfl (step_moveV rfl (hn rfl) rfl rfl) ?_
    refine ARun.nil ?_
    refine AWp.block ?_
    refine AWp.loopM (fun i : Nat => mkAS 95 [(1, ⟨true, .one (.bptr 1 0)⟩), (24, ⟨true, .one (.v (bts 105 p.bs))⟩), (25, ⟨true, .one (.v (.int .i64 (p.bs.length : Nat)))⟩), (26, ⟨true, .one (.v (.int .i64 (i : Nat)))⟩)] [(1, (p.cells 105).map C.v)] []) (fun i => i ≤ p.bs.length ∧ ∀ j, j < i → (btAt p j && btFree p j) = true) (fun i => p.bs.length - i) 0 ?_ (Le.forgetR rfl ⟨rfl, rfl, rfl, rfl, trivial⟩ ⟨rfl, trivial⟩ trivial) ?_
    · try dsimp only
      exact ⟨by omega, by omega⟩
    rintro i ⟨hi, hall⟩
    refine AWp.seq (AWp.region ?_)
    refine ARun.step rfl (step_lss rfl (hn rfl) rfl rfl rfl) ?_
    refine ARun.nil ?_
    refine AWp.seq ?_
    refine AWp.cond rfl (fun c2 => ?_) (fun c2 => ?_)
    · try simp only [nrm] at c2
      refine AWp.skip ?_
      refine AWp.seq ?_
      refine AWp.block ?_
      refine AWp.seq (AWp.region ?_)
      refine ARun.step rfl (step_moveV rfl (hn rfl) rfl rfl) ?_
      refine ARun.step rfl (step_index_fN rfl (hn rfl) rfl yhSl32 rfl rfl (by omega)) ?_
      refine ARun.step rfl (step_loadS_f rfl (hn rfl) rfl yhSt105 rfl (hn rfl) rfl rfl) ?_
      refine ARun.step rfl (step_alloc_p rfl (hn rfl) rfl yhZs105) ?_
      refine ARun.step rfl (step_assignV rfl (hn rfl) rfl rfl) ?_
      refine ARun.step rfl (step_store_p rfl rfl yhCs105 rfl rfl rfl rfl rfl rfl rfl) ?_
      refine ARun.nil ?_
      refine AWp.seq ?_
      refine AWp.seq (AWp.draw [⟨[.s 4, .b 4], [.s 31], false⟩, ⟨[.s 31, .b 4], [.s 32], false⟩, ⟨[.s 32], [.s 33], false⟩, ⟨[.s 33], [.s 34], false⟩, ⟨[.s 34], [.s 35], false⟩, ⟨[.s 3, .s 35], [.s 36], false⟩, ⟨[.s 36, .s 35], [.s 37], false⟩, ⟨[.s 37, .s 35], [.s 38], false⟩, ⟨[.s 1, .b 1, .s 38], [.s 39], false⟩, ⟨[.s 39, .b 1, .s 38], [.s 40], false⟩, ⟨[.s 3, .s 38], [.s 41], false⟩, ⟨[.s 41, .s 38], [.s 42], false⟩, ⟨[.s 40, .s 42, .s 38], [.s 43], false⟩, ⟨[.s 43, .s 38], [.s 44], false⟩, ⟨[.s 44, .s 38], [.s 45], false⟩, ⟨[.s 4, .b 4, .s 38], [.s 46], false⟩, ⟨[.s 46, .b 4, .s 38], [.s 47], false⟩, ⟨[.s 45, .s 47, .s 38], [.s 48], false⟩, ⟨[.s 38, .s 48, .s 35], [.s 49], false⟩, ⟨[.s 35, .s 49], [.s 50], false⟩, ⟨[.s 50], [.s 51], false⟩, ⟨[.s 4, .b 4, .s 51], [.s 52], false⟩, ⟨[.s 52, .b 4, .s 51], [.s 53], false⟩, ⟨[.s 53, .s 51], [.s 54], false⟩, ⟨[.s 54, .s 51], [.s 55], false⟩, ⟨[.s 51, .s 55], [.s 56], false⟩, ⟨[.s 56], [.s 57], false⟩, ⟨[.s 4, .b 4, .s 57], [.s 58], false⟩, ⟨[.s 58, .b 4, .s 57], [.s 59], false⟩, ⟨[.s 1, .b 1, .s 57], [.s 60], false⟩, ⟨[.s 60, .b 1, .s 57], [.s 61], false⟩, ⟨[.s 61, .s 59, .s 57], [.s 62], false⟩, ⟨[.s 62, .s 57], [.s 63], false⟩, ⟨[.s 57, .s 63], [.s 64], false⟩, ⟨[.s 64], [.s 65], false⟩, ⟨[.s 4, .b 4, .s 65], [.s 66], false⟩, ⟨[.s 66, .b 4, .s 65], [.s 67], false⟩, ⟨[.s 67, .s 65], [.s 68], false⟩, ⟨[.s 68, .s 65], [.s 69], false⟩, ⟨[.s 65, .s 69], [.s 70], false⟩, ⟨[.s 70], [.s 71], false⟩, ⟨[.s 4, .b 4, .s 71], [.s 72], false⟩, ⟨[.s 72, .b 4, .s 71], [.s 73], false⟩, ⟨[.s 4, .b 4, .s 71], [.s 74], false⟩, ⟨[.s 74, .b 4, .s 71], [.s 75], false⟩, ⟨[.s 75, .s 73, .s 71], [.s 76], false⟩, ⟨[.s 76, .s 71], [.s 77], false⟩, ⟨[.s 71, .s 77], [.s 78], false⟩] yhMo (by kernel_rfl) ?_)
      refine DRun.step rfl (fun τ hN hr => step_field_b rfl (rdN hN (hn rfl)) rfl yhFo105_0 (by exact rdS hr rfl rfl) (by exact rdBne hr rfl (by exact List.cons_ne_nil _ _))) ?_
      refine DRun.step rfl (fun τ hN hr => step_load_b rfl (rdN hN (hn rfl)) rfl yhSc9 (by exact rdS hr rfl rfl) (by exact rdBget hr rfl rfl)) ?_
      refine DRun.step rfl (fun τ hN hr => call_step1 rfl (rdN hN (hn rfl)) rfl yhCo67 (.cons (by exact rdS hr rfl rfl) (.one (.v _)) (.nil)) (isNameI _) rfl) ?_
      refine DRun.step rfl (fun τ hN hr => step_not rfl (rdN hN (hn rfl)) rfl (by exact rdS hr rfl rfl)) ?_
      refine DRun.step rfl (fun τ hN hr => step_moveV rfl (rdN hN (hn rfl)) rfl (by exact rdS hr rfl rfl)) ?_
      refine guardD rfl rfl rfl rfl rfl (hn rfl) (fun τ hN hr g1 g2 => step_moveV rfl (rdN hN (hn rfl)) rfl (by exact rdS hr rfl rfl)) ?_
      refine guardD rfl rfl rfl rfl rfl (hn rfl) (fun τ hN hr g1 g2 => step_gtr rfl (rdN hN (hn rfl)) rfl (ev_true (by exact rdS hr rfl rfl) (by exact flag2 g1 g2)) rfl) ?_
      refine guardD rfl rfl rfl rfl rfl (hn rfl) (fun τ hN hr g1 g2 => step_moveV rfl (rdN hN (hn rfl)) rfl (ev_true (by exact rdS hr rfl rfl) (by exact flag2 g1 g2))) ?_
      refine guardD rfl rfl rfl rfl rfl (hn rfl) (fun τ hN hr g1 g2 => step_field_b rfl (rdN hN (hn rfl)) rfl yhFo34_1 (by exact rdS hr rfl rfl) (by exact rdBne hr rfl (by exact List.cons_ne_nil _ _))) ?_
      refine guardD rfl rfl rfl rfl rfl (hn rfl) (fun τ hN hr g1 g2 => step_load_b rfl (rdN hN (hn rfl)) rfl yhSc32 (ev_true (by exact rdS hr rfl rfl) (by exact flag2 g1 g2)) (by exact rdBget hr rfl rfl)) ?_
      refine guardD rfl rfl rfl rfl rfl (hn rfl) (fun τ hN hr g1 g2 => step_moveV rfl (rdN hN (hn rfl)) rfl (by exact rdS hr rfl rfl)) ?_
      refine guardD rfl rfl rfl rfl rfl (hn rfl) (fun τ hN hr g1 g2 => step_decN rfl (rdN hN (hn rfl)) rfl (ev_true (by exact rdS hr rfl rfl) (by exact flag2 g1 g2)) rfl (by have := of_decide_eq_true g2; omega) (by omega)) ?_
      refine guardD rfl rfl rfl rfl rfl (hn rfl) (fun τ hN hr g1 g2 => step_index_fN rfl (rdN hN (hn rfl)) rfl yhSl32 (ev_true (by exact rdS hr rfl rfl) (by exact flag2 g1 g2)) (ev_true (by exact rdS hr rfl rfl) (by exact flag2 g1 g2)) (by first | omega | (have := of_decide_eq_true g2; omega) | (have := of_decide_eq_false g2; omega) | (simp only [nrm] at g2; omega) | (simp only [nrm, Bool.true_and] at g1 g2; omega))) ?_
      refine guardD rfl rfl rfl rfl rfl (hn rfl) (fun τ hN hr g1 g2 => step_field_f rfl (rdN hN (hn rfl)) rfl yhFo105_0 (ev_true (by exact rdS hr rfl rfl) (by exact flag2 g1 g2))) ?_
      refine guardD rfl rfl rfl rfl rfl (hn rfl) (fun τ hN hr g1 g2 => step_load_f rfl (rdN hN (hn rfl)) rfl yhSc9 (ev_true (by exact rdS hr rfl rfl) (by exact flag2 g1 g2)) (hn rfl) rfl) ?_
      refine guardD rfl rfl rfl rfl rfl (hn rfl) (fun τ hN hr g1 g2 => step_field_b rfl (rdN hN (hn rfl)) rfl yhFo105_0 (by exact rdS hr rfl rfl) (by exact rdBne hr rfl (by exact List.cons_ne_nil _ _))) ?_
      refine guardD rfl rfl rfl rfl rfl (hn rfl) (fun τ hN hr g1 g2 => step_load_b rfl (rdN hN (hn rfl)) rfl yhSc9 (ev_true (by exact rdS hr rfl rfl) (by exact flag2 g1 g2)) (by exact rdBget hr rfl rfl)) ?_
      refine guardD rfl rfl rfl rfl rfl (hn rfl) (fun τ hN hr g1 g2 => step_sgeq rfl (rdN hN (hn rfl)) rfl (ev_true (by exact rdS hr rfl rfl) (by exact flag2 g1 g2)) (ev_true (by exact rdS hr rfl rfl) (by exact flag2 g1 g2))) ?_
      refine guardD rfl rfl rfl rfl rfl (hn rfl) (fun τ hN hr g1 g2 => step_and rfl (rdN hN (hn rfl)) rfl (ev_true (by exact rdS hr rfl rfl) (by exact flag2 g1 g2)) (by exact rdS hr rfl rfl) (fun h => (by exact flag2 (by exact flag2 g1 g2) h))) ?_
      refine DRun.step rfl (fun τ hN hr => step_or rfl (rdN hN (hn rfl)) rfl (by exact rdS hr rfl rfl) (by exact rdS hr rfl rfl) (fun h => (by exact flag1 h))) ?_
      refine DRun.step rfl (fun τ hN hr => step_moveV rfl (rdN hN (hn rfl)) rfl (by exact rdS hr rfl rfl)) ?_
      refine guardD rfl rfl rfl rfl rfl (hn rfl) (fun τ hN hr g1 g2 => step_field_b rfl (rdN hN (hn rfl)) rfl yhFo105_2 (by exact rdS hr rfl rfl) (by exact rdBne hr rfl (by exact List.cons_ne_nil _ _))) ?_
      refine guardD rfl rfl rfl rfl rfl (hn rfl) (fun τ hN hr g1 g2 => step_load_b rfl (rdN hN (hn rfl)) rfl yhSc22 (ev_true (by exact rdS hr rfl rfl) (by exact flag2 g1 g2)) (by exact rdBget hr rfl rfl)) ?_
      refine guardD rfl rfl rfl rfl rfl (hn rfl) (fun τ hN hr g1 g2 => call_step1 rfl (rdN hN (hn rfl)) rfl yhCo68 (.cons (ev_true (by exact rdS hr rfl rfl) (by exact flag2 g1 g2)) (.one (.v _)) (.nil)) (risingI _) rfl) ?_
      refine guardD rfl rfl rfl rfl rfl (hn rfl) (fun τ hN hr g1 g2 => step_not rfl (rdN hN (hn rfl)) rfl (ev_true (by exact rdS hr rfl rfl) (by exact flag2 g1 g2))) ?_
      refine DRun.step rfl (fun τ hN hr => step_or rfl (rdN hN (hn rfl)) rfl (by exact rdS hr rfl rfl) (by exact rdS hr rfl rfl) (fun h => (by exact flag1 h))) ?_
      refine DRun.step rfl (fun τ hN hr => step_moveV rfl (rdN hN (hn rfl)) rfl (by exact rdS hr rfl rfl)) ?_
      refine guardD rfl rfl rfl rfl rfl (hn rfl) (fun τ hN hr g1 g2 => step_field_b rfl (rdN hN (hn rfl)) rfl yhFo105_2 (by exact rdS hr rfl rfl) (by exact rdBne hr rfl (by exact List.cons_ne_nil _ _))) ?_
      refine guardD rfl rfl rfl rfl rfl (hn rfl) (fun τ hN hr g1 g2 => step_load_b rfl (rdN hN (hn rfl)) rfl yhSc22 (ev_true (by exact rdS hr rfl rfl) (by exact flag2 g1 g2)) (by exact rdBget hr rfl rfl)) ?_
      refine guardD rfl rfl rfl rfl rfl (hn rfl) (fun τ hN hr g1 g2 => step_field_b rfl (rdN hN (hn rfl)) rfl yhFo34_0 (by exact rdS hr rfl rfl) (by exact rdBne hr rfl (by exact List.cons_ne_nil _ _))) ?_
      refine guardD rfl rfl rfl rfl rfl (hn rfl) (fun τ hN hr g1 g2 => step_load_b rfl (rdN hN (hn rfl)) rfl yhSc22 (ev_true (by exact rdS hr rfl rfl) (by exact flag2 g1 g2)) (by exact rdBget hr rfl rfl)) ?_
      refine guardD rfl rfl rfl rfl rfl (hn rfl) (fun τ hN hr g1 g2 => call_step1 rfl (rdN hN (hn rfl)) rfl yhCo69 (.cons (ev_true (by exact rdS hr rfl rfl) (by exact flag2 g1 g2)) (.one (.v _)) (.cons (ev_true (by exact rdS hr rfl rfl) (by exact flag2 g1 g2)) (.one (.v _)) (.nil))) (withinI _ _) rfl) ?_
      refine guardD rfl rfl rfl rfl rfl (hn rfl) (fun τ hN hr g1 g2 => step_not rfl (rdN hN (hn rfl)) rfl (ev_true (by exact rdS hr rfl rfl) (by exact flag2 g1 g2))) ?_
      refine DRun.step rfl (fun τ hN hr => step_or rfl (rdN hN (hn rfl)) rfl (by exact rdS hr rfl rfl) (by exact rdS hr rfl rfl) (fun h => (by exact flag1 h))) ?_
      refine DRun.step rfl (fun τ hN hr => step_moveV rfl (rdN hN (hn rfl)) rfl (by exact rdS hr rfl rfl)) ?_
      refine guardD rfl rfl rfl rfl rfl (hn rfl) (fun τ hN hr g1 g2 => step_field_b rfl (rdN hN (hn rfl)) rfl yhFo105_1 (by exact rdS hr rfl rfl) (by exact rdBne hr rfl (by exact List.cons_ne_nil _ _))) ?_
      refine guardD rfl rfl rfl rfl rfl (hn rfl) (fun τ hN hr g1 g2 => step_load_b rfl (rdN hN (hn rfl)) rfl yhSc22 (ev_true (by exact rdS hr rfl rfl) (by exact flag2 g1 g2)) (by exact rdBget hr rfl rfl)) ?_
      refine guardD rfl rfl rfl rfl rfl (hn rfl) (fun τ hN hr g1 g2 => call_step1 rfl (rdN hN (hn rfl)) rfl yhCo68 (.cons (ev_true (by exact rdS hr rfl rfl) (by exact flag2 g1 g2)) (.one (.v _)) (.nil)) (risingI _) rfl) ?_
      refine guardD rfl rfl rfl rfl rfl (hn rfl) (fun τ hN hr g1 g2 => step_not rfl (rdN hN (hn rfl)) rfl (ev_true (by exact rdS hr rfl rfl) (by exact flag2 g1 g2))) ?_
      refine DRun.step rfl (fun τ hN hr => step_or rfl (rdN hN (hn rfl)) rfl (by exact rdS hr rfl rfl) (by exact rdS hr rfl rfl) (fun h => (by exact flag1 h))) ?_
      refine DRun.step rfl (fun τ hN hr => step_moveV rfl (rdN hN (hn rfl)) rfl (by exact rdS hr rfl rfl)) ?_
      refine guardD rfl rfl rfl rfl rfl (hn rfl) (fun τ hN hr g1 g2 => step_field_b rfl (rdN hN (hn rfl)) rfl yhFo105_1 (by exact rdS hr rfl rfl) (by exact rdBne hr rfl (by exact List.cons_ne_nil _ _))) ?_
      refine guardD rfl rfl rfl rfl rfl (hn rfl) (fun τ hN hr g1 g2 => step_load_b rfl (rdN hN (hn rfl)) rfl yhSc22 (ev_true (by exact rdS hr rfl rfl) (by exact flag2 g1 g2)) (by exact rdBget hr rfl rfl)) ?_
      refine guardD rfl rfl rfl rfl rfl (hn rfl) (fun τ hN hr g1 g2 => step_field_b rfl (rdN hN (hn rfl)) rfl yhFo105_2 (by exact rdS hr rfl rfl) (by exact rdBne hr rfl (by exact List.cons_ne_nil _ _))) ?_
      refine guardD rfl rfl rfl rfl rfl (hn rfl) (fun τ hN hr g1 g2 => step_load_b rfl (rdN hN (hn rfl)) rfl yhSc22 (ev_true (by exact rdS hr rfl rfl) (by exact flag2 g1 g2)) (by exact rdBget hr rfl rfl)) ?_
      refine guardD rfl rfl rfl rfl rfl (hn rfl) (fun τ hN hr g1 g2 => call_step1 rfl (rdN hN (hn rfl)) rfl yhCo69 (.cons (ev_true (by exact rdS hr rfl rfl) (by exact flag2 g1 g2)) (.one (.v _)) (.cons (ev_true (by exact rdS hr rfl rfl) (by exact flag2 g1 g2)) (.one (.v _)) (.nil))) (withinI _ _) rfl) ?_
      refine guardD rfl rfl rfl rfl rfl (hn rfl) (fun τ hN hr g1 g2 => step_not rfl (rdN hN (hn rfl)) rfl (ev_true (by exact rdS hr rfl rfl) (by exact flag2 g1 g2))) ?_
      refine DRun.step rfl (fun τ hN hr => step_or rfl (rdN hN (hn rfl)) rfl (by exact rdS hr rfl rfl) (by exact rdS hr rfl rfl) (fun h => (by exact flag1 h))) ?_
      refine DRun.nil ?_
      refine AWp.cond rfl (fun c3 => ?_) (fun c3 => ?_)
      · try simp only [nrm] at c3
        refine AWp.seq (AWp.region ?_)
        refine ARun.step rfl (step_assignV rfl (hn rfl) rfl rfl) ?_
        refine ARun.nil ?_
        refine AWp.ret ?_
        refine RetIs.sc (.inr rfl) rfl rfl ?_
        refine congrArg T.bool ?_
        exact (bookOk_not (i := i) (by omega) (by simp only [btAt]; grind)).symm
      · try simp only [nrm] at c3
        refine AWp.skip ?_
        refine AWp.seq (AWp.region ?_)
        refine ARun.step rfl (step_field_b rfl (hn rfl) rfl yhFo34_1 rfl (by exact List.cons_ne_nil _ _)) ?_
        refine ARun.step rfl (step_load_b rfl (hn rfl) rfl yhSc32 rfl rfl) ?_
        refine ARun.step rfl (step_moveV rfl (hn rfl) rfl rfl) ?_
        refine ARun.step rfl (step_slice_hf rfl (hn rfl) rfl yhSl32 rfl rfl (by omega)) ?_
        refine ARun.step rfl (step_len_f rfl (hn rfl) rfl yhSl32 rfl) ?_
        refine ARun.step rfl (step_moveV rfl (hn rfl) rfl rfl) ?_
        refine ARun.nil ?_
        refine AWp.block ?_
        refine AWp.loopM (fun j : Nat => mkAS 95 [(1, ⟨true, .one (.bptr 1 0)⟩), (3, ⟨true, .one (.v (.int .i64 (i : Nat)))⟩), (4, ⟨true, .one (.bptr 4 0)⟩), (24, ⟨true, .one (.v (bts 105 p.bs))⟩), (25, ⟨true, .one (.v (.int .i64 (p.bs.length : Nat)))⟩), (26, ⟨true, .one (.v (.int .i64 (i : Nat)))⟩), (82, ⟨true, .one (.v (.sl 105 3 i (fun q => (nth p.bs q).zcells)))⟩), (83, ⟨true, .one (.v (.int .i64 (i : Nat)))⟩), (84, ⟨true, .one (.v (.int .i64 (j : Nat)))⟩)] [(1, (p.cells 105).map C.v), (4, (nth p.bs i).cells.map C.v)] []) (fun j => j ≤ i ∧ ∀ q, q < j → (!meetsB (nth p.bs i).has (nth p.bs q).has) = true) (fun j => i - j) 0 ?_ (Le.forgetR rfl ⟨rfl, rfl, rfl, rfl, rfl, rfl, rfl, rfl, rfl, trivial⟩ ⟨rfl, rfl, trivial⟩ trivial) ?_
        · try dsimp only
          exact ⟨by omega, by omega⟩
        rintro j ⟨hj, hfree⟩
        refine AWp.seq (AWp.region ?_)
        refine ARun.step rfl (step_lss rfl (hn rfl) rfl rfl rfl) ?_
        refine ARun.nil ?_
        refine AWp.seq ?_
        refine AWp.cond rfl (fun c4 => ?_) (fun c4 => ?_)
        · try simp only [nrm] at c4
          refine AWp.skip ?_
          refine AWp.seq ?_
          refine AWp.block ?_
          refine AWp.seq (AWp.region ?_)
          refine ARun.step rfl (step_index_fN rfl (hn rfl) rfl yhSl32 rfl rfl (by omega)) ?_
          refine ARun.step rfl (step_loadS_f rfl (hn rfl) rfl yhSt105 rfl (hn rfl) rfl rfl) ?_
          refine ARun.step rfl (step_alloc_p rfl (hn rfl) rfl yhZs105) ?_
          refine ARun.step rfl (step_store_p rfl rfl yhCs105 rfl rfl rfl rfl rfl rfl rfl) ?_
          refine ARun.nil ?_
          refine AWp.seq (AWp.region ?_)
          refine ARun.step rfl (step_field_b rfl (hn rfl) rfl yhFo105_1 rfl (by exact List.cons_ne_nil _ _)) ?_
          refine ARun.step rfl (step_load_b rfl (hn rfl) rfl yhSc22 rfl rfl) ?_
          refine ARun.step rfl (step_field_b rfl (hn rfl) rfl yhFo105_1 rfl (by exact List.cons_ne_nil _ _)) ?_
          refine ARun.step rfl (step_load_b rfl (hn rfl) rfl yhSc22 rfl rfl) ?_
          refine ARun.step rfl (call_step1 rfl (hn rfl) rfl yhCo80 (.cons rfl (.one (.v _)) (.cons rfl (.one (.v _)) (.nil))) (meetsI _ _) rfl) ?_
          refine ARun.nil ?_
          refine AWp.cond rfl (fun c5 => ?_) (fun c5 => ?_)
          · try simp only [nrm] at c5
            refine AWp.seq (AWp.region ?_)
            refine ARun.step rfl (step_assignV rfl (hn rfl) rfl rfl) ?_
            refine ARun.nil ?_
            refine AWp.ret ?_
            refine RetIs.sc (.inr rfl) rfl rfl ?_
            refine congrArg T.bool ?_
            exact (bookOk_not (i := i) (by omega) (by rw [btFree, all_not (i := j) (by omega) (by grind), Bool.and_false])).symm
          · try simp only [nrm] at c5
            refine AWp.skip ?_
            refine AWp.region ?_
            refine ARun.step rfl (step_addI rfl (hn rfl) rfl rfl rfl (by omega) (by omega)) ?_
            refine ARun.step rfl (step_moveV rfl (hn rfl) rfl rfl) ?_
            refine ARun.nil ?_
            refine ⟨j + 1, ?_, ?_, Le.forgetR rfl ⟨rfl, rfl, rfl, rfl, rfl, rfl, rfl, rfl, rfl, trivial⟩ ⟨rfl, rfl, trivial⟩ trivial⟩
            · try dsimp only
              exact ⟨by omega, upto hfree (by grind)⟩
            · try dsimp only
              omega
        · try simp only [nrm] at c4
          refine AWp.exit ?_
          refine AWp.region ?_
          refine ARun.step rfl (step_addI rfl (hn rfl) rfl rfl rfl (by omega) (by omega)) ?_
          refine ARun.step rfl (step_moveV rfl (hn rfl) rfl rfl) ?_
          refine ARun.nil ?_
          refine ⟨i + 1, ?_, ?_, Le.forgetR rfl ⟨rfl, rfl, rfl, rfl, trivial⟩ ⟨rfl, trivial⟩ trivial⟩
          · try dsimp only
            exact ⟨by omega, upto hall (by have hf : btFree p i = true := all_of (fun q hq => hfree q (by omega)); simp only [btAt]; grind)⟩
          · try dsimp only
            omega
    · try simp only [nrm] at c2
      refine AWp.exit ?_
      refine AWp.seq (AWp.region ?_)
      refine ARun.step rfl (step_assignV rfl (hn rfl) rfl rfl) ?_
      refine ARun.nil ?_
      refine AWp.ret ?_
      refine RetIs.sc (.inr rfl) rfl rfl ?_
      refine congrArg T.bool ?_
      rw [bookOk, all_of (fun j hj => hall j (by omega))]; grind
theorem l51At (p : Bk) (s : Str)  : ASpec Tryz.prog 78 [.agg (p.cells 105), .one (.str s)] (.one (.int .i64 (idxB p s))) := by
  refine ASpec.body Tryz.func78 rfl [4] rfl 22 rfl rfl rfl ?_
  refine AWp.aggLe 0 rfl (fun hc => ?_)
  have hl : p.bs.length ≤ 9223372036854775807 := hc (.v (bts 105 p.bs)) (by exact List.mem_cons_of_mem _ List.mem_cons_self)
  clear hc
  refine AWp.seq (AWp.region ?_)
  refine ARun.step rfl (step_box_p (m := 1) rfl (hn rfl) rfl rfl rfl rfl rfl) ?_
  refine ARun.step rfl (step_assignV rfl (hn rfl) rfl rfl) ?_
  refine ARun.nil ?_
  refine AWp.seq ?_
  refine AWp.seq (AWp.region ?_)
  refine ARun.step rfl (step_assignV rfl (hn rfl) rfl rfl) ?_
  refine ARun.nil ?_
  refine AWp.block ?_
  refine AWp.loopM (fun i : Nat => mkAS 22 [(1, ⟨true, .one (.v (.str s))⟩), (2, ⟨true, .one (.bptr 2 0)⟩), (5, ⟨true, .one (.v (.int .i64 (i : Nat)))⟩)] [(2, ((p.cells 105)).map C.v)] []) (fun i => i ≤ p.bs.length ∧ ∀ j, j < i → nameAt p s j = false) (fun i => p.bs.length - i) 0 ?_ (Le.forgetR rfl ⟨rfl, rfl, rfl, trivial⟩ ⟨rfl, trivial⟩ trivial) ?_
  · try dsimp only
    exact ⟨by omega, by omega⟩
  rintro i ⟨hi, hall⟩
  refine AWp.seq ?_
  refine AWp.seq (AWp.region ?_)
  refine ARun.step rfl (step_moveV rfl (hn rfl) rfl rfl) ?_
  refine ARun.step rfl (step_field_b rfl (hn rfl) rfl yhFo34_1 rfl (by exact List.cons_ne_nil _ _)) ?_
  refine ARun.step rfl (step_load_b rfl (hn rfl) rfl yhSc32 rfl rfl) ?_
  refine ARun.step rfl (step_len_f rfl (hn rfl) rfl yhSl32 rfl) ?_
  refine ARun.step rfl (step_lss rfl (hn rfl) rfl rfl rfl) ?_
  refine ARun.nil ?_
  refine AWp.cond rfl (fun c1 => ?_) (fun c1 => ?_)
  · try simp only [nrm] at c1
    refine AWp.skip ?_
    refine AWp.seq ?_
    refine AWp.block ?_
    refine AWp.seq (AWp.region ?_)
    refine ARun.step rfl (step_field_b rfl (hn rfl) rfl yhFo34_1 rfl (by exact List.cons_ne_nil _ _)) ?_
    refine ARun.step rfl (step_load_b rfl (hn rfl) rfl yhSc32 rfl rfl) ?_
    refine ARun.step rfl (step_moveV rfl (hn rfl) rfl rfl) ?_
    refine ARun.step rfl (step_index_fN rfl (hn rfl) rfl yhSl32 rfl rfl (by omega)) ?_
    refine ARun.step rfl (step_field_f rfl (hn rfl) rfl yhFo105_0 rfl) ?_
    refine ARun.step rfl (step_load_f rfl (hn rfl) rfl yhSc9 rfl (hn rfl) rfl) ?_
    refine ARun.step rfl (step_moveV rfl (hn rfl) rfl rfl) ?_
    refine ARun.step rfl (step_seql rfl (hn rfl) rfl rfl rfl) ?_
    refine ARun.nil ?_
    refine AWp.cond rfl (fun c2 => ?_) (fun c2 => ?_)
    · try simp only [nrm] at c2
      refine AWp.seq (AWp.region ?_)
      refine ARun.step rfl (step_moveV rfl (hn rfl) rfl rfl) ?_
      refine ARun.step rfl (step_assignV rfl (hn rfl) rfl rfl) ?_
      refine ARun.nil ?_
      refine AWp.ret ?_
      refine RetIs.sc (.inr rfl) rfl rfl ?_
      refine congrArg (T.int _) ?_
      exact idxB_some hall (by omega) (by assumption)
    · try simp only [nrm] at c2
      refine AWp.skip ?_
      refine AWp.region ?_
      refine ARun.step rfl (step_moveV rfl (hn rfl) rfl rfl) ?_
      refine ARun.step rfl (step_addI rfl (hn rfl) rfl rfl rfl (by omega) (by omega)) ?_
      refine ARun.step rfl (step_assignV rfl (hn rfl) rfl rfl) ?_
      refine ARun.nil ?_
      refine ⟨i + 1, ?_, ?_, Le.forgetR rfl ⟨rfl, rfl, rfl, trivial⟩ ⟨rfl, trivial⟩ trivial⟩
      · try dsimp only
        exact ⟨by omega, upto hall (by assumption)⟩
      · try dsimp only
        omega
  · try simp only [nrm] at c1
    refine AWp.exit ?_
    refine AWp.seq (AWp.region ?_)
    refine ARun.step rfl (step_assignV rfl (hn rfl) rfl rfl) ?_
    refine ARun.nil ?_
    refine AWp.ret ?_
    refine RetIs.sc (.inr rfl) rfl rfl ?_
    refine congrArg (T.int _) ?_
    exact idxB_none hall (by omega)
theorem batchI (p : Bk) (s : Str)  : ASpec Tryz.prog 70 [.agg (p.cells 105), .one (.str s)] (.one (.int .i64 (idxB p s))) := by
  refine ASpec.body Tryz.func70 rfl [4] rfl 21 rfl rfl rfl ?_
  refine AWp.aggLe 0 rfl (fun hc => ?_)
  have hl : p.bs.length ≤ 9223372036854775807 := hc (.v (bts 105 p.bs)) (by exact List.mem_cons_of_mem _ List.mem_cons_self)
  clear hc
  refine AWp.seq (AWp.region ?_)
  refine ARun.step rfl (step_box_p (m := 1) rfl (hn rfl) rfl rfl rfl rfl rfl) ?_
  refine ARun.step rfl (step_assignV rfl (hn rfl) rfl rfl) ?_
  refine ARun.nil ?_
  refine AWp.seq ?_
  refine AWp.seq (AWp.region ?_)
  refine ARun.step rfl (step_field_b rfl (hn rfl) rfl yhFo34_1 rfl (by exact List.cons_ne_nil _ _)) ?_
  refine ARun.step rfl (step_load_b rfl (hn rfl) rfl yhSc32 rfl rfl) ?_
  refine ARun.step rfl (step_len_f rfl (hn rfl) rfl yhSl32 rfl) ?_
  refine ARun.step rfl (step_moveV rfl (hn rfl) rfl rfl) ?_
  refine ARun.nil ?_
  refine AWp.block ?_
  refine AWp.loopM (fun i : Nat => mkAS 21 [(1, ⟨true, .one (.v (.str s))⟩), (8, ⟨true, .one (.v (bts 105 p.bs))⟩), (9, ⟨true, .one (.v (.int .i64 ((p.bs).length : Nat)))⟩), (10, ⟨true, .one (.v (.int .i64 (i : Nat)))⟩)] [] []) (fun i => i ≤ p.bs.length ∧ ∀ j, j < i → nameAt p s j = false) (fun i => p.bs.length - i) 0 ?_ (Le.forgetR rfl ⟨rfl, rfl, rfl, rfl, trivial⟩ trivial trivial) ?_
  · try dsimp only
    exact ⟨by omega, by omega⟩
  rintro i ⟨hi, hall⟩
  refine AWp.seq (AWp.region ?_)
  refine ARun.step rfl (step_lss rfl (hn rfl) rfl rfl rfl) ?_
  refine ARun.nil ?_
  refine AWp.seq ?_
  refine AWp.cond rfl (fun c1 => ?_) (fun c1 => ?_)
  · try simp only [nrm] at c1
    refine AWp.skip ?_
    refine AWp.seq ?_
    refine AWp.block ?_
    refine AWp.seq (AWp.region ?_)
    refine ARun.step rfl (step_moveV rfl (hn rfl) rfl rfl) ?_
    refine ARun.step rfl (step_index_fN rfl (hn rfl) rfl yhSl32 rfl rfl (by omega)) ?_
    refine ARun.step rfl (step_loadS_f rfl (hn rfl) rfl yhSt105 rfl (hn rfl) rfl rfl) ?_
    refine ARun.step rfl (step_alloc_p rfl (hn rfl) rfl yhZs105) ?_
    refine ARun.step rfl (step_assignV rfl (hn rfl) rfl rfl) ?_
    refine ARun.step rfl (step_store_p rfl rfl yhCs105 rfl rfl rfl rfl rfl rfl rfl) ?_
    refine ARun.nil ?_
    refine AWp.seq (AWp.region ?_)
    refine ARun.step rfl (step_field_b rfl (hn rfl) rfl yhFo105_0 rfl (by exact List.cons_ne_nil _ _)) ?_
    refine ARun.step rfl (step_load_b rfl (hn rfl) rfl yhSc9 rfl rfl) ?_
    refine ARun.step rfl (step_moveV rfl (hn rfl) rfl rfl) ?_
    refine ARun.step rfl (step_seql rfl (hn rfl) rfl rfl rfl) ?_
    refine ARun.nil ?_
    refine AWp.cond rfl (fun c2 => ?_) (fun c2 => ?_)
    · try simp only [nrm] at c2
      refine AWp.seq (AWp.region ?_)
      refine ARun.step rfl (step_moveV rfl (hn rfl) rfl rfl) ?_
      refine ARun.step rfl (step_assignV rfl (hn rfl) rfl rfl) ?_
      refine ARun.nil ?_
      refine AWp.ret ?_
      refine RetIs.sc (.inr rfl) rfl rfl ?_
      refine congrArg (T.int _) ?_
      exact idxB_some hall (by omega) (by assumption)
    · try simp only [nrm] at c2
      refine AWp.skip ?_
      refine AWp.region ?_
      refine ARun.step rfl (step_addI rfl (hn rfl) rfl rfl rfl (by omega) (by omega)) ?_
      refine ARun.step rfl (step_moveV rfl (hn rfl) rfl rfl) ?_
      refine ARun.nil ?_
      refine ⟨i + 1, ?_, ?_, Le.forgetR rfl ⟨rfl, rfl, rfl, rfl, trivial⟩ trivial trivial⟩
      · try dsimp only
        exact ⟨by omega, upto hall (by assumption)⟩
      · try dsimp only
        omega
  · try simp only [nrm] at c1
    refine AWp.exit ?_
    refine AWp.seq (AWp.region ?_)
    refine ARun.step rfl (step_assignV rfl (hn rfl) rfl rfl) ?_
    refine ARun.nil ?_
    refine AWp.ret ?_
    refine RetIs.sc (.inr rfl) rfl rfl ?_
    refine congrArg (T.int _) ?_
    exact idxB_none hall (by omega)
theorem l52Can (p : Bk) (z : Int) (l : List Str) (h0 : 0 ≤ z) (h1 : z < p.bs.length) : ASpec Tryz.prog 232 [.agg (p.cells 105), .one (.int .i64 z), .one (strs l)] (.one (.bool (canB p z.toNat l))) := by
  refine ASpec.body Tryz.func232 rfl [6] rfl 44 rfl rfl rfl ?_
  refine AWp.aggLe 0 rfl (fun hc => ?_)
  have hl : p.bs.length ≤ 9223372036854775807 := hc (.v (bts 105 p.bs)) (by exact List.mem_cons_of_mem _ List.mem_cons_self)
  clear hc
  refine AWp.seq (AWp.region ?_)
  refine ARun.step rfl (step_box_p (m := 1) rfl (hn rfl) rfl rfl rfl rfl rfl) ?_
  refine ARun.step rfl (step_assignV rfl (hn rfl) rfl rfl) ?_
  refine ARun.nil ?_
  refine AWp.seq ?_
  refine AWp.seq (AWp.region ?_)
  refine ARun.step rfl (step_assignV rfl (hn rfl) rfl rfl) ?_
  refine ARun.nil ?_
  refine AWp.block ?_
  refine AWp.loopM (fun i : Nat => mkAS 44 [(1, ⟨true, .one (.v (.int .i64 z))⟩), (2, ⟨true, .one (.v (strs l))⟩), (3, ⟨true, .one (.bptr 3 0)⟩), (7, ⟨true, .one (.v (.int .i64 (i : Nat)))⟩)] [(3, ((p.cells 105)).map C.v)] []) (fun i => i ≤ p.bs.length ∧ ∀ j, j < i → blk p z.toNat l j = false) (fun i => p.bs.length - i) 0 ?_ (Le.forgetR rfl ⟨rfl, rfl, rfl, rfl, trivial⟩ ⟨rfl, trivial⟩ trivial) ?_
  · try dsimp only
    exact ⟨by omega, by omega⟩
  rintro i ⟨hi, hall⟩
  refine AWp.seq ?_
  refine AWp.seq (AWp.region ?_)
  refine ARun.step rfl (step_moveV rfl (hn rfl) rfl rfl) ?_
  refine ARun.step rfl (step_field_b rfl (hn rfl) rfl yhFo34_1 rfl (by exact List.cons_ne_nil _ _)) ?_
  refine ARun.step rfl (step_load_b rfl (hn rfl) rfl yhSc32 rfl rfl) ?_
  refine ARun.step rfl (step_len_f rfl (hn rfl) rfl yhSl32 rfl) ?_
  refine ARun.step rfl (step_lss rfl (hn rfl) rfl rfl rfl) ?_
  refine ARun.nil ?_
  refine AWp.cond rfl (fun c1 => ?_) (fun c1 => ?_)
  · try simp only [nrm] at c1
    refine AWp.skip ?_
    refine AWp.seq ?_
    refine AWp.block ?_
    refine AWp.seq (AWp.draw [⟨[.s 7], [.s 15], false⟩, ⟨[.s 1], [.s 16], false⟩, ⟨[.s 15, .s 16], [.s 17], false⟩, ⟨[.s 17], [.s 18], false⟩, ⟨[.s 2, .s 18], [.s 19], false⟩, ⟨[.s 3, .b 3, .s 18], [.s 20], false⟩, ⟨[.s 20, .b 3, .s 18], [.s 21], false⟩, ⟨[.s 7, .s 18], [.s 22], false⟩, ⟨[.s 21, .s 22, .s 18], [.s 23], false⟩, ⟨[.s 23, .s 18], [.s 24], false⟩, ⟨[.s 24, .s 18], [.s 25], false⟩, ⟨[.s 25, .s 19, .s 18], [.s 26], false⟩, ⟨[.s 26, .s 18], [.s 27], false⟩, ⟨[.s 18, .s 27], [.s 28], false⟩, ⟨[.s 28], [.s 29], false⟩, ⟨[.s 3, .b 3, .s 29], [.s 30], false⟩, ⟨[.s 30, .b 3, .s 29], [.s 31], false⟩, ⟨[.s 7, .s 29], [.s 32], false⟩, ⟨[.s 31, .s 32, .s 29], [.s 33], false⟩, ⟨[.s 33, .s 29], [.s 34], false⟩, ⟨[.s 34, .s 29], [.s 35], false⟩, ⟨[.s 3, .b 3, .s 29], [.s 36], false⟩, ⟨[.s 36, .b 3, .s 29], [.s 37], false⟩, ⟨[.s 1, .s 29], [.s 38], false⟩, ⟨[.s 37, .s 38, .s 29], [.s 39], false⟩, ⟨[.s 39, .s 29], [.s 40], false⟩, ⟨[.s 40, .s 29], [.s 41], false⟩, ⟨[.s 41, .s 35, .s 29], [.s 42], false⟩, ⟨[.s 29, .s 42], [.s 43], false⟩] yhMo (by kernel_rfl) ?_)
    refine DRun.step rfl (fun τ hN hr => step_moveV rfl (rdN hN (hn rfl)) rfl (by exact rdS hr rfl rfl)) ?_
    refine DRun.step rfl (fun τ hN hr => step_moveV rfl (rdN hN (hn rfl)) rfl (by exact rdS hr rfl rfl)) ?_
    refine DRun.step rfl (fun τ hN hr => step_neq rfl (rdN hN (hn rfl)) rfl (by exact rdS hr rfl rfl) (by exact rdS hr rfl rfl)) ?_
    refine DRun.step rfl (fun τ hN hr => step_moveV rfl (rdN hN (hn rfl)) rfl (by exact rdS hr rfl rfl)) ?_
    refine guardD rfl rfl rfl rfl rfl (hn rfl) (fun τ hN hr g1 g2 => step_moveV rfl (rdN hN (hn rfl)) rfl (by exact rdS hr rfl rfl)) ?_
    refine guardD rfl rfl rfl rfl rfl (hn rfl) (fun τ hN hr g1 g2 => step_field_b rfl (rdN hN (hn rfl)) rfl yhFo34_1 (by exact rdS hr rfl rfl) (by exact rdBne hr rfl (by exact List.cons_ne_nil _ _))) ?_
    refine guardD rfl rfl rfl rfl rfl (hn rfl) (fun τ hN hr g1 g2 => step_load_b rfl (rdN hN (hn rfl)) rfl yhSc32 (ev_true (by exact rdS hr rfl rfl) (by exact flag2 g1 g2)) (by exact rdBget hr rfl rfl)) ?_
    refine guardD rfl rfl rfl rfl rfl (hn rfl) (fun τ hN hr g1 g2 => step_moveV rfl (rdN hN (hn rfl)) rfl (by exact rdS hr rfl rfl)) ?_
    refine guardD rfl rfl rfl rfl rfl (hn rfl) (fun τ hN hr g1 g2 => step_index_fN rfl (rdN hN (hn rfl)) rfl yhSl32 (ev_true (by exact rdS hr rfl rfl) (by exact flag2 g1 g2)) (ev_true (by exact rdS hr rfl rfl) (by exact flag2 g1 g2)) (by first | omega | (have := of_decide_eq_true g2; omega) | (have := of_decide_eq_false g2; omega) | (simp only [nrm] at g2; omega) | (simp only [nrm, Bool.true_and] at g1 g2; omega))) ?_
    refine guardD rfl rfl rfl rfl rfl (hn rfl) (fun τ hN hr g1 g2 => step_field_f rfl (rdN hN (hn rfl)) rfl yhFo105_0 (ev_true (by exact rdS hr rfl rfl) (by exact flag2 g1 g2))) ?_
    refine guardD rfl rfl rfl rfl rfl (hn rfl) (fun τ hN hr g1 g2 => step_load_f rfl (rdN hN (hn rfl)) rfl yhSc9 (ev_true (by exact rdS hr rfl rfl) (by exact flag2 g1 g2)) (hn rfl) rfl) ?_
    refine guardD rfl rfl rfl rfl rfl (hn rfl) (fun τ hN hr g1 g2 => call_step1 rfl (rdN hN (hn rfl)) rfl yhCo87 (.cons (ev_true (by exact rdS hr rfl rfl) (by exact flag2 g1 g2)) (.one (.v _)) (.cons (ev_true (by exact rdS hr rfl rfl) (by exact flag2 g1 g2)) (.one (.v _)) (.nil))) (l51Has _ _) rfl) ?_
    refine guardD rfl rfl rfl rfl rfl (hn rfl) (fun τ hN hr g1 g2 => step_not rfl (rdN hN (hn rfl)) rfl (ev_true (by exact rdS hr rfl rfl) (by exact flag2 g1 g2))) ?_
    refine DRun.step rfl (fun τ hN hr => step_and rfl (rdN hN (hn rfl)) rfl (by exact rdS hr rfl rfl) (by exact rdS hr rfl rfl) (fun h => (by exact flag1 h))) ?_
    refine DRun.step rfl (fun τ hN hr => step_moveV rfl (rdN hN (hn rfl)) rfl (by exact rdS hr rfl rfl)) ?_
    refine guardD rfl rfl rfl rfl rfl (hn rfl) (fun τ hN hr g1 g2 => step_field_b rfl (rdN hN (hn rfl)) rfl yhFo34_1 (by exact rdS hr rfl rfl) (by exact rdBne hr rfl (by exact List.cons_ne_nil _ _))) ?_
    refine guardD rfl rfl rfl rfl rfl (hn rfl) (fun τ hN hr g1 g2 => step_load_b rfl (rdN hN (hn rfl)) rfl yhSc32 (ev_true (by exact rdS hr rfl rfl) (by exact flag2 g1 g2)) (by exact rdBget hr rfl rfl)) ?_
    refine guardD rfl rfl rfl rfl rfl (hn rfl) (fun τ hN hr g1 g2 => step_moveV rfl (rdN hN (hn rfl)) rfl (by exact rdS hr rfl rfl)) ?_
    refine guardD rfl rfl rfl rfl rfl (hn rfl) (fun τ hN hr g1 g2 => step_index_fN rfl (rdN hN (hn rfl)) rfl yhSl32 (ev_true (by exact rdS hr rfl rfl) (by exact flag2 g1 g2)) (ev_true (by exact rdS hr rfl rfl) (by exact flag2 g1 g2)) (by first | omega | (have := of_decide_eq_true g2; omega) | (have := of_decide_eq_false g2; omega) | (simp only [nrm] at g2; omega) | (simp only [nrm, Bool.true_and] at g1 g2; omega))) ?_
    refine guardD rfl rfl rfl rfl rfl (hn rfl) (fun τ hN hr g1 g2 => step_field_f rfl (rdN hN (hn rfl)) rfl yhFo105_1 (ev_true (by exact rdS hr rfl rfl) (by exact flag2 g1 g2))) ?_
    refine guardD rfl rfl rfl rfl rfl (hn rfl) (fun τ hN hr g1 g2 => step_load_f rfl (rdN hN (hn rfl)) rfl yhSc22 (ev_true (by exact rdS hr rfl rfl) (by exact flag2 g1 g2)) (hn rfl) rfl) ?_
    refine guardD rfl rfl rfl rfl rfl (hn rfl) (fun τ hN hr g1 g2 => step_field_b rfl (rdN hN (hn rfl)) rfl yhFo34_1 (by exact rdS hr rfl rfl) (by exact rdBne hr rfl (by exact List.cons_ne_nil _ _))) ?_
    refine guardD rfl rfl rfl rfl rfl (hn rfl) (fun τ hN hr g1 g2 => step_load_b rfl (rdN hN (hn rfl)) rfl yhSc32 (ev_true (by exact rdS hr rfl rfl) (by exact flag2 g1 g2)) (by exact rdBget hr rfl rfl)) ?_
    refine guardD rfl rfl rfl rfl rfl (hn rfl) (fun τ hN hr g1 g2 => step_moveV rfl (rdN hN (hn rfl)) rfl (by exact rdS hr rfl rfl)) ?_
    refine guardD rfl rfl rfl rfl rfl (hn rfl) (fun τ hN hr g1 g2 => step_index_f rfl (rdN hN (hn rfl)) rfl yhSl32 (ev_true (by exact rdS hr rfl rfl) (by exact flag2 g1 g2)) (ev_true (by exact rdS hr rfl rfl) (by exact flag2 g1 g2)) (by first | omega | (have := of_decide_eq_true g2; omega) | (have := of_decide_eq_false g2; omega) | (simp only [nrm] at g2; omega) | (simp only [nrm, Bool.true_and] at g1 g2; omega)) (by first | omega | (have := of_decide_eq_true g2; omega) | (have := of_decide_eq_false g2; omega) | (simp only [nrm] at g2; omega) | (simp only [nrm, Bool.true_and] at g1 g2; omega))) ?_
    refine guardD rfl rfl rfl rfl rfl (hn rfl) (fun τ hN hr g1 g2 => step_field_f rfl (rdN hN (hn rfl)) rfl yhFo105_2 (ev_true (by exact rdS hr rfl rfl) (by exact flag2 g1 g2))) ?_
    refine guardD rfl rfl rfl rfl rfl (hn rfl) (fun τ hN hr g1 g2 => step_load_f rfl (rdN hN (hn rfl)) rfl yhSc22 (ev_true (by exact rdS hr rfl rfl) (by exact flag2 g1 g2)) (hn rfl) rfl) ?_
    refine guardD rfl rfl rfl rfl rfl (hn rfl) (fun τ hN hr g1 g2 => call_step1 rfl (rdN hN (hn rfl)) rfl yhCo144 (.cons (ev_true (by exact rdS hr rfl rfl) (by exact flag2 g1 g2)) (.one (.v _)) (.cons (ev_true (by exact rdS hr rfl rfl) (by exact flag2 g1 g2)) (.one (.v _)) (.nil))) (l51Share _ _) rfl) ?_
    refine DRun.step rfl (fun τ hN hr => step_and rfl (rdN hN (hn rfl)) rfl (by exact rdS hr rfl rfl) (by exact rdS hr rfl rfl) (fun h => (by exact flag1 h))) ?_
    refine DRun.nil ?_
    refine AWp.cond rfl (fun c2 => ?_) (fun c2 => ?_)
    · try simp only [nrm] at c2
      refine AWp.seq (AWp.region ?_)
      refine ARun.step rfl (step_assignV rfl (hn rfl) rfl rfl) ?_
      refine ARun.nil ?_
      refine AWp.ret ?_
      refine RetIs.sc (.inr rfl) rfl rfl ?_
      refine congrArg T.bool ?_
      rw [canB, all_not (i := i) (by omega) (by rw [blk, beq_toNat h0]; grind)]
    · try simp only [nrm] at c2
      refine AWp.skip ?_
      refine AWp.region ?_
      refine ARun.step rfl (step_moveV rfl (hn rfl) rfl rfl) ?_
      refine ARun.step rfl (step_addI rfl (hn rfl) rfl rfl rfl (by omega) (by omega)) ?_
      refine ARun.step rfl (step_assignV rfl (hn rfl) rfl rfl) ?_
      refine ARun.nil ?_
      refine ⟨i + 1, ?_, ?_, Le.forgetR rfl ⟨rfl, rfl, rfl, rfl, trivial⟩ ⟨rfl, trivial⟩ trivial⟩
      · try dsimp only
        exact ⟨by omega, upto hall (by rw [blk, beq_toNat h0]; grind)⟩
      · try dsimp only
        omega
  · try simp only [nrm] at c1
    refine AWp.exit ?_
    refine AWp.seq (AWp.region ?_)
    refine ARun.step rfl (step_assignV rfl (hn rfl) rfl rfl) ?_
    refine ARun.nil ?_
    refine AWp.ret ?_
    refine RetIs.sc (.inr rfl) rfl rfl ?_
    refine congrArg T.bool ?_
    rw [canB, all_of (fun j hj => by rw [hall j (by omega)]; rfl)]
theorem canI (p : Bk) (z : Int) (l : List Str) (h0 : 0 ≤ z) (h1 : z < p.bs.length) : ASpec Tryz.prog 91 [.agg (p.cells 105), .one (.int .i64 z), .one (strs l)] (.one (.bool (canB p z.toNat l))) := by
  refine ASpec.body Tryz.func91 rfl [6] rfl 39 rfl rfl rfl ?_
  refine AWp.aggLe 0 rfl (fun hc => ?_)
  have hl : p.bs.length ≤ 9223372036854775807 := hc (.v (bts 105 p.bs)) (by exact List.mem_cons_of_mem _ List.mem_cons_self)
  clear hc
  refine AWp.seq (AWp.region ?_)
  refine ARun.step rfl (step_box_p (m := 1) rfl (hn rfl) rfl rfl rfl rfl rfl) ?_
  refine ARun.step rfl (step_assignV rfl (hn rfl) rfl rfl) ?_
  refine ARun.nil ?_
  refine AWp.seq ?_
  refine AWp.seq (AWp.region ?_)
  refine ARun.step rfl (step_field_b rfl (hn rfl) rfl yhFo34_1 rfl (by exact List.cons_ne_nil _ _)) ?_
  refine ARun.step rfl (step_load_b rfl (hn rfl) rfl yhSc32 rfl rfl) ?_
  refine ARun.step rfl (step_len_f rfl (hn rfl) rfl yhSl32 rfl) ?_
  refine ARun.step rfl (step_moveV rfl (hn rfl) rfl rfl) ?_
  refine ARun.nil ?_
  refine AWp.block ?_
  refine AWp.loopM (fun i : Nat => mkAS 39 [(1, ⟨true, .one (.v (.int .i64 z))⟩), (2, ⟨true, .one (.v (strs l))⟩), (3, ⟨true, .one (.bptr 3 0)⟩), (10, ⟨true, .one (.v (bts 105 p.bs))⟩), (11, ⟨true, .one (.v (.int .i64 ((p.bs).length : Nat)))⟩), (12, ⟨true, .one (.v (.int .i64 (i : Nat)))⟩)] [(3, ((p.cells 105)).map C.v)] []) (fun i => i ≤ p.bs.length ∧ ∀ j, j < i → blk p z.toNat l j = false) (fun i => p.bs.length - i) 0 ?_ (Le.forgetR rfl ⟨rfl, rfl, rfl, rfl, rfl, rfl, trivial⟩ ⟨rfl, trivial⟩ trivial) ?_
  · try dsimp only
    exact ⟨by omega, by omega⟩
  rintro i ⟨hi, hall⟩
  refine AWp.seq (AWp.region ?_)
  refine ARun.step rfl (step_lss rfl (hn rfl) rfl rfl rfl) ?_
  refine ARun.nil ?_
  refine AWp.seq ?_
  refine AWp.cond rfl (fun c1 => ?_) (fun c1 => ?_)
  · try simp only [nrm] at c1
    refine AWp.skip ?_
    refine AWp.seq ?_
    refine AWp.block ?_
    refine AWp.seq (AWp.region ?_)
    refine ARun.step rfl (step_moveV rfl (hn rfl) rfl rfl) ?_
    refine ARun.step rfl (step_index_fN rfl (hn rfl) rfl yhSl32 rfl rfl (by omega)) ?_
    refine ARun.step rfl (step_loadS_f rfl (hn rfl) rfl yhSt105 rfl (hn rfl) rfl rfl) ?_
    refine ARun.step rfl (step_alloc_p rfl (hn rfl) rfl yhZs105) ?_
    refine ARun.step rfl (step_assignV rfl (hn rfl) rfl rfl) ?_
    refine ARun.step rfl (step_store_p rfl rfl yhCs105 rfl rfl rfl rfl rfl rfl rfl) ?_
    refine ARun.nil ?_
    refine AWp.seq (AWp.draw [⟨[.s 7], [.s 17], false⟩, ⟨[.s 1], [.s 18], false⟩, ⟨[.s 17, .s 18], [.s 19], false⟩, ⟨[.s 19], [.s 20], false⟩, ⟨[.s 2, .s 20], [.s 21], false⟩, ⟨[.s 8, .b 8, .s 20], [.s 22], false⟩, ⟨[.s 22, .b 8, .s 20], [.s 23], false⟩, ⟨[.s 23, .s 21, .s 20], [.s 24], false⟩, ⟨[.s 24, .s 20], [.s 25], false⟩, ⟨[.s 20, .s 25], [.s 26], false⟩, ⟨[.s 26], [.s 27], false⟩, ⟨[.s 8, .b 8, .s 27], [.s 28], false⟩, ⟨[.s 28, .b 8, .s 27], [.s 29], false⟩, ⟨[.s 3, .b 3, .s 27], [.s 30], false⟩, ⟨[.s 30, .b 3, .s 27], [.s 31], false⟩, ⟨[.s 1, .s 27], [.s 32], false⟩, ⟨[.s 31, .s 32, .s 27], [.s 33], false⟩, ⟨[.s 33, .s 27], [.s 34], false⟩, ⟨[.s 34, .s 27], [.s 35], false⟩, ⟨[.s 35, .s 29, .s 27], [.s 36], false⟩, ⟨[.s 27, .s 36], [.s 37], false⟩] yhMo rfl ?_)
    refine DRun.step rfl (fun τ hN hr => step_moveV rfl (rdN hN (hn rfl)) rfl (by exact rdS hr rfl rfl)) ?_
    refine DRun.step rfl (fun τ hN hr => step_moveV rfl (rdN hN (hn rfl)) rfl (by exact rdS hr rfl rfl)) ?_
    refine DRun.step rfl (fun τ hN hr => step_neq rfl (rdN hN (hn rfl)) rfl (by exact rdS hr rfl rfl) (by exact rdS hr rfl rfl)) ?_
    refine DRun.step rfl (fun τ hN hr => step_moveV rfl (rdN hN (hn rfl)) rfl (by exact rdS hr rfl rfl)) ?_
    refine guardD rfl rfl rfl rfl rfl (hn rfl) (fun τ hN hr g1 g2 => step_moveV rfl (rdN hN (hn rfl)) rfl (by exact rdS hr rfl rfl)) ?_
    refine guardD rfl rfl rfl rfl rfl (hn rfl) (fun τ hN hr g1 g2 => step_field_b rfl (rdN hN (hn rfl)) rfl yhFo105_0 (by exact rdS hr rfl rfl) (by exact rdBne hr rfl (by exact List.cons_ne_nil _ _))) ?_
    refine guardD rfl rfl rfl rfl rfl (hn rfl) (fun τ hN hr g1 g2 => step_load_b rfl (rdN hN (hn rfl)) rfl yhSc9 (ev_true (by exact rdS hr rfl rfl) (by exact flag2 g1 g2)) (by exact rdBget hr rfl rfl)) ?_
    refine guardD rfl rfl rfl rfl rfl (hn rfl) (fun τ hN hr g1 g2 => call_step1 rfl (rdN hN (hn rfl)) rfl yhCo86 (.cons (ev_true (by exact rdS hr rfl rfl) (by exact flag2 g1 g2)) (.one (.v _)) (.cons (ev_true (by exact rdS hr rfl rfl) (by exact flag2 g1 g2)) (.one (.v _)) (.nil))) (hasI _ _) rfl) ?_
    refine guardD rfl rfl rfl rfl rfl (hn rfl) (fun τ hN hr g1 g2 => step_not rfl (rdN hN (hn rfl)) rfl (ev_true (by exact rdS hr rfl rfl) (by exact flag2 g1 g2))) ?_
    refine DRun.step rfl (fun τ hN hr => step_and rfl (rdN hN (hn rfl)) rfl (by exact rdS hr rfl rfl) (by exact rdS hr rfl rfl) (fun h => (by exact flag1 h))) ?_
    refine DRun.step rfl (fun τ hN hr => step_moveV rfl (rdN hN (hn rfl)) rfl (by exact rdS hr rfl rfl)) ?_
    refine guardD rfl rfl rfl rfl rfl (hn rfl) (fun τ hN hr g1 g2 => step_field_b rfl (rdN hN (hn rfl)) rfl yhFo105_1 (by exact rdS hr rfl rfl) (by exact rdBne hr rfl (by exact List.cons_ne_nil _ _))) ?_
    refine guardD rfl rfl rfl rfl rfl (hn rfl) (fun τ hN hr g1 g2 => step_load_b rfl (rdN hN (hn rfl)) rfl yhSc22 (ev_true (by exact rdS hr rfl rfl) (by exact flag2 g1 g2)) (by exact rdBget hr rfl rfl)) ?_
    refine guardD rfl rfl rfl rfl rfl (hn rfl) (fun τ hN hr g1 g2 => step_field_b rfl (rdN hN (hn rfl)) rfl yhFo34_1 (by exact rdS hr rfl rfl) (by exact rdBne hr rfl (by exact List.cons_ne_nil _ _))) ?_
    refine guardD rfl rfl rfl rfl rfl (hn rfl) (fun τ hN hr g1 g2 => step_load_b rfl (rdN hN (hn rfl)) rfl yhSc32 (ev_true (by exact rdS hr rfl rfl) (by exact flag2 g1 g2)) (by exact rdBget hr rfl rfl)) ?_
    refine guardD rfl rfl rfl rfl rfl (hn rfl) (fun τ hN hr g1 g2 => step_moveV rfl (rdN hN (hn rfl)) rfl (by exact rdS hr rfl rfl)) ?_
    refine guardD rfl rfl rfl rfl rfl (hn rfl) (fun τ hN hr g1 g2 => step_index_f rfl (rdN hN (hn rfl)) rfl yhSl32 (ev_true (by exact rdS hr rfl rfl) (by exact flag2 g1 g2)) (ev_true (by exact rdS hr rfl rfl) (by exact flag2 g1 g2)) (by first | omega | (have := of_decide_eq_true g2; omega) | (have := of_decide_eq_false g2; omega) | (simp only [nrm] at g2; omega) | (simp only [nrm, Bool.true_and] at g1 g2; omega)) (by first | omega | (have := of_decide_eq_true g2; omega) | (have := of_decide_eq_false g2; omega) | (simp only [nrm] at g2; omega) | (simp only [nrm, Bool.true_and] at g1 g2; omega))) ?_
    refine guardD rfl rfl rfl rfl rfl (hn rfl) (fun τ hN hr g1 g2 => step_field_f rfl (rdN hN (hn rfl)) rfl yhFo105_2 (ev_true (by exact rdS hr rfl rfl) (by exact flag2 g1 g2))) ?_
    refine guardD rfl rfl rfl rfl rfl (hn rfl) (fun τ hN hr g1 g2 => step_load_f rfl (rdN hN (hn rfl)) rfl yhSc22 (ev_true (by exact rdS hr rfl rfl) (by exact flag2 g1 g2)) (hn rfl) rfl) ?_
    refine guardD rfl rfl rfl rfl rfl (hn rfl) (fun τ hN hr g1 g2 => call_step1 rfl (rdN hN (hn rfl)) rfl yhCo80 (.cons (ev_true (by exact rdS hr rfl rfl) (by exact flag2 g1 g2)) (.one (.v _)) (.cons (ev_true (by exact rdS hr rfl rfl) (by exact flag2 g1 g2)) (.one (.v _)) (.nil))) (meetsI _ _) rfl) ?_
    refine DRun.step rfl (fun τ hN hr => step_and rfl (rdN hN (hn rfl)) rfl (by exact rdS hr rfl rfl) (by exact rdS hr rfl rfl) (fun h => (by exact flag1 h))) ?_
    refine DRun.nil ?_
    refine AWp.cond rfl (fun c2 => ?_) (fun c2 => ?_)
    · try simp only [nrm] at c2
      refine AWp.seq (AWp.region ?_)
      refine ARun.step rfl (step_assignV rfl (hn rfl) rfl rfl) ?_
      refine ARun.nil ?_
      refine AWp.ret ?_
      refine RetIs.sc (.inr rfl) rfl rfl ?_
      refine congrArg T.bool ?_
      rw [canB, all_not (i := i) (by omega) (by rw [blk, beq_toNat h0]; grind)]
    · try simp only [nrm] at c2
      refine AWp.skip ?_
      refine AWp.region ?_
      refine ARun.step rfl (step_addI rfl (hn rfl) rfl rfl rfl (by omega) (by omega)) ?_
      refine ARun.step rfl (step_moveV rfl (hn rfl) rfl rfl) ?_
      refine ARun.nil ?_
      refine ⟨i + 1, ?_, ?_, Le.forgetR rfl ⟨rfl, rfl, rfl, rfl, rfl, rfl, trivial⟩ ⟨rfl, trivial⟩ trivial⟩
      · try dsimp only
        exact ⟨by omega, upto hall (by rw [blk, beq_toNat h0]; grind)⟩
      · try dsimp only
        omega
  · try simp only [nrm] at c1
    refine AWp.exit ?_
    refine AWp.seq (AWp.region ?_)
    refine ARun.step rfl (step_assignV rfl (hn rfl) rfl rfl) ?_
    refine ARun.nil ?_
    refine AWp.ret ?_
    refine RetIs.sc (.inr rfl) rfl rfl ?_
    refine congrArg T.bool ?_
    rw [canB, all_of (fun j hj => by rw [hall j (by omega)]; rfl)]
theorem l52Next (p : Bk) (l : List Str)  : ASpec Tryz.prog 204 [.agg (p.cells 105), .one (strs l)] (.one (.int .i64 (nextI p l))) := by
  refine ASpec.body Tryz.func204 rfl [4] rfl 29 rfl rfl rfl ?_
  refine AWp.aggLe 0 rfl (fun hc => ?_)
  have hl : p.bs.length ≤ 9223372036854775807 := hc (.v (bts 105 p.bs)) (by exact List.mem_cons_of_mem _ List.mem_cons_self)
  clear hc
  refine AWp.seq (AWp.region ?_)
  refine ARun.step rfl (step_box_p (m := 1) rfl (hn rfl) rfl rfl rfl rfl rfl) ?_
  refine ARun.step rfl (step_assignV rfl (hn rfl) rfl rfl) ?_
  refine ARun.nil ?_
  refine AWp.seq ?_
  refine AWp.seq (AWp.region ?_)
  refine ARun.step rfl (step_assignV rfl (hn rfl) rfl rfl) ?_
  refine ARun.nil ?_
  refine AWp.block ?_
  refine AWp.loopM (fun i : Nat => mkAS 29 [(1, ⟨true, .one (.v (strs l))⟩), (2, ⟨true, .one (.bptr 2 0)⟩), (5, ⟨true, .one (.v (.int .i64 (i : Nat)))⟩)] [(2, ((p.cells 105)).map C.v)] []) (fun i => i ≤ p.bs.length ∧ ∀ j, j < i → nextOk p l j = false) (fun i => p.bs.length - i) 0 ?_ (Le.forgetR rfl ⟨rfl, rfl, rfl, trivial⟩ ⟨rfl, trivial⟩ trivial) ?_
  · try dsimp only
    exact ⟨by omega, by omega⟩
  rintro i ⟨hi, hall⟩
  refine AWp.seq ?_
  refine AWp.seq (AWp.region ?_)
  refine ARun.step rfl (step_moveV rfl (hn rfl) rfl rfl) ?_
  refine ARun.step rfl (step_field_b rfl (hn rfl) rfl yhFo34_1 rfl (by exact List.cons_ne_nil _ _)) ?_
  refine ARun.step rfl (step_load_b rfl (hn rfl) rfl yhSc32 rfl rfl) ?_
  refine ARun.step rfl (step_len_f rfl (hn rfl) rfl yhSl32 rfl) ?_
  refine ARun.step rfl (step_lss rfl (hn rfl) rfl rfl rfl) ?_
  refine ARun.nil ?_
  refine AWp.cond rfl (fun c1 => ?_) (fun c1 => ?_)
  · try simp only [nrm] at c1
    refine AWp.skip ?_
    refine AWp.seq ?_
    refine AWp.block ?_
    refine AWp.seq (AWp.region ?_)
    refine ARun.step rfl (step_moveV rfl (hn rfl) rfl rfl) ?_
    refine ARun.step rfl (step_field_b rfl (hn rfl) rfl yhFo34_1 rfl (by exact List.cons_ne_nil _ _)) ?_
    refine ARun.step rfl (step_load_b rfl (hn rfl) rfl yhSc32 rfl rfl) ?_
    refine ARun.step rfl (step_moveV rfl (hn rfl) rfl rfl) ?_
    refine ARun.step rfl (step_index_fN rfl (hn rfl) rfl yhSl32 rfl rfl (by omega)) ?_
    refine ARun.step rfl (step_field_f rfl (hn rfl) rfl yhFo105_0 rfl) ?_
    refine ARun.step rfl (step_load_f rfl (hn rfl) rfl yhSc9 rfl (hn rfl) rfl) ?_
    refine ARun.step rfl (call_step1 rfl (hn rfl) rfl yhCo87 (.cons rfl (.one (.v _)) (.cons rfl (.one (.v _)) (.nil))) (l51Has _ _) rfl) ?_
    refine ARun.step rfl (step_not rfl (hn rfl) rfl rfl) ?_
    refine ARun.step rfl (step_moveV rfl (hn rfl) rfl rfl) ?_
    refine guardS rfl rfl rfl rfl (hn rfl) (fun g1 g2 => step_loadS_b rfl (hn rfl) rfl yhSt34 rfl rfl rfl (by decide)) ?_
    refine guardS rfl rfl rfl rfl (hn rfl) (fun g1 g2 => step_moveV rfl (hn rfl) rfl rfl) ?_
    refine guardS rfl rfl rfl rfl (hn rfl) (fun g1 g2 => step_moveV rfl (hn rfl) rfl rfl) ?_
    refine guardS rfl rfl rfl rfl (hn rfl) (fun g1 g2 => call_step1 rfl (hn rfl) rfl yhCo232 (.cons (ev_true rfl (by exact flag2 g1 g2)) (.agg (.cons (.v _) (.cons (.v _) .nil))) (.cons (ev_true rfl (by exact flag2 g1 g2)) (.one (.v _)) (.cons (ev_true rfl (by exact flag2 g1 g2)) (.one (.v _)) (.nil)))) (l52Can _ _ _ (by omega) (by omega)) rfl) ?_
    refine ARun.step rfl (step_and rfl (hn rfl) rfl rfl rfl (fun h => (by exact flag1 h))) ?_
    refine ARun.nil ?_
    refine AWp.cond rfl (fun c2 => ?_) (fun c2 => ?_)
    · try simp only [nrm] at c2
      refine AWp.seq (AWp.region ?_)
      refine ARun.step rfl (step_moveV rfl (hn rfl) rfl rfl) ?_
      refine ARun.step rfl (step_assignV rfl (hn rfl) rfl rfl) ?_
      refine ARun.nil ?_
      refine AWp.ret ?_
      refine RetIs.sc (.inr rfl) rfl rfl ?_
      refine congrArg (T.int _) ?_
      rw [nextI, nextB_some hall (by omega) (by rw [nextOk]; grind)]
    · try simp only [nrm] at c2
      refine AWp.skip ?_
      refine AWp.region ?_
      refine ARun.step rfl (step_moveV rfl (hn rfl) rfl rfl) ?_
      refine ARun.step rfl (step_addI rfl (hn rfl) rfl rfl rfl (by omega) (by omega)) ?_
      refine ARun.step rfl (step_assignV rfl (hn rfl) rfl rfl) ?_
      refine ARun.nil ?_
      refine ⟨i + 1, ?_, ?_, Le.forgetR rfl ⟨rfl, rfl, rfl, trivial⟩ ⟨rfl, trivial⟩ trivial⟩
      · try dsimp only
        exact ⟨by omega, upto hall (by rw [nextOk]; grind)⟩
      · try dsimp only
        omega
  · try simp only [nrm] at c1
    refine AWp.exit ?_
    refine AWp.seq (AWp.region ?_)
    refine ARun.step rfl (step_assignV rfl (hn rfl) rfl rfl) ?_
    refine ARun.nil ?_
    refine AWp.ret ?_
    refine RetIs.sc (.inr rfl) rfl rfl ?_
    refine congrArg (T.int _) ?_
    rw [nextI, nextB_none hall (by omega)]
theorem orderI (p : Bk) (hok : bookOk p = true) : ASpec Tryz.prog 81 [.agg (p.cells 105)] (.tup [.one (strs ((orderB p).getD [])), .one (.bool (orderB p).isSome)]) := by
  refine ASpec.body Tryz.func81 rfl [2, 3] rfl 42 rfl rfl rfl ?_
  refine AWp.aggLe 0 rfl (fun hc => ?_)
  have hl : p.bs.length ≤ 9223372036854775807 := hc (.v (bts 105 p.bs)) (by exact List.mem_cons_of_mem _ List.mem_cons_self)
  clear hc
  have hb5 := bookOk_bs hok
  have hgo0 : orderGo p p.bs.length [] = orderB p := by rw [orderB, if_pos hok]
  refine AWp.seq (AWp.region ?_)
  refine ARun.step rfl (step_box_p (m := 1) rfl (hn rfl) rfl rfl rfl rfl rfl) ?_
  refine ARun.step rfl (step_assignV rfl (hn rfl) rfl rfl) ?_
  refine ARun.step rfl (step_assignV rfl (hn rfl) rfl rfl) ?_
  refine ARun.nil ?_
  refine AWp.seq (AWp.region ?_)
  refine ARun.step rfl (step_assignV rfl (hn rfl) rfl rfl) ?_
  refine ARun.nil ?_
  refine AWp.seq ?_
  refine AWp.block ?_
  refine AWp.le (Le.nilRef 4 4 9 1 (fun i => [.str (nth [] i)]) rfl rfl) ?_
  refine AWp.loopM (fun x : List Str => mkAS 42 [(1, ⟨true, .one (.bptr 1 0)⟩), (4, ⟨true, .one (.ref ⟨.arr 4 0, []⟩)⟩)] [(1, ((p.cells 105)).map C.v)] [(4, 0, strs x)]) (fun x => x.length ≤ p.bs.length ∧ orderGo p (p.bs.length - x.length) x = orderB p) (fun x => p.bs.length - x.length) [] ?_ (Le.forgetR rfl ⟨rfl, rfl, trivial⟩ ⟨rfl, trivial⟩ ⟨.refl _, trivial⟩) ?_
  · try dsimp only
    exact ⟨by simp, hgo0⟩
  rintro x ⟨hx5, hgo⟩
  refine AWp.seq ?_
  refine AWp.seq (AWp.region ?_)
  refine ARun.step rfl (step_moveV rfl (hn rfl) rfl rfl) ?_
  refine ARun.step rfl (step_len_r rfl (hn rfl) rfl yhSl22 rfl rfl) ?_
  refine ARun.step rfl (step_field_b rfl (hn rfl) rfl yhFo34_1 rfl (by exact List.cons_ne_nil _ _)) ?_
  refine ARun.step rfl (step_load_b rfl (hn rfl) rfl yhSc32 rfl rfl) ?_
  refine ARun.step rfl (step_len_f rfl (hn rfl) rfl yhSl32 rfl) ?_
  refine ARun.step rfl (step_lss rfl (hn rfl) rfl rfl rfl) ?_
  refine ARun.nil ?_
  refine AWp.cond rfl (fun c1 => ?_) (fun c1 => ?_)
  · try simp only [nrm] at c1
    refine AWp.skip ?_
    refine AWp.block ?_
    refine AWp.seq (AWp.region ?_)
    refine ARun.step rfl (step_assignV rfl (hn rfl) rfl rfl) ?_
    refine ARun.nil ?_
    refine AWp.seq ?_
    refine AWp.seq (AWp.region ?_)
    refine ARun.step rfl (step_field_b rfl (hn rfl) rfl yhFo34_1 rfl (by exact List.cons_ne_nil _ _)) ?_
    refine ARun.step rfl (step_load_b rfl (hn rfl) rfl yhSc32 rfl rfl) ?_
    refine ARun.step rfl (step_len_f rfl (hn rfl) rfl yhSl32 rfl) ?_
    refine ARun.step rfl (step_moveV rfl (hn rfl) rfl rfl) ?_
    refine ARun.nil ?_
    refine AWp.block ?_
    refine AWp.loopM (fun i : Nat => mkAS 42 [(1, ⟨true, .one (.bptr 1 0)⟩), (4, ⟨true, .one (.ref ⟨.arr 4 0, []⟩)⟩), (5, ⟨true, .one (.v (.bool false))⟩), (15, ⟨true, .one (.v (bts 105 p.bs))⟩), (16, ⟨true, .one (.v (.int .i64 ((p.bs).length : Nat)))⟩), (17, ⟨true, .one (.v (.int .i64 (i : Nat)))⟩)] [(1, ((p.cells 105)).map C.v)] [(4, 0, strs x)]) (fun i => i ≤ p.bs.length ∧ ∀ j, j < i → nextOk p x j = false) (fun i => p.bs.length - i) 0 ?_ (Le.forgetR rfl ⟨rfl, rfl, rfl, rfl, rfl, rfl, trivial⟩ ⟨rfl, trivial⟩ ⟨.refl _, trivial⟩) ?_
    · try dsimp only
      exact ⟨by omega, by omega⟩
    rintro i ⟨hi, hall⟩
    refine AWp.seq (AWp.region ?_)
    refine ARun.step rfl (step_lss rfl (hn rfl) rfl rfl rfl) ?_
    refine ARun.nil ?_
    refine AWp.seq ?_
    refine AWp.cond rfl (fun c2 => ?_) (fun c2 => ?_)
    · try simp only [nrm] at c2
      refine AWp.skip ?_
      refine AWp.seq ?_
      refine AWp.block ?_
      refine AWp.seq (AWp.region ?_)
      refine ARun.step rfl (step_moveV rfl (hn rfl) rfl rfl) ?_
      refine ARun.step rfl (step_index_fN rfl (hn rfl) rfl yhSl32 rfl rfl (by omega)) ?_
      refine ARun.step rfl (step_loadS_f rfl (hn rfl) rfl yhSt105 rfl (hn rfl) rfl rfl) ?_
      refine ARun.step rfl (step_alloc_p rfl (hn rfl) rfl yhZs105) ?_
      refine ARun.step rfl (step_assignV rfl (hn rfl) rfl rfl) ?_
      refine ARun.step rfl (step_store_p rfl rfl yhCs105 rfl rfl rfl rfl rfl rfl rfl) ?_
      refine ARun.nil ?_
      refine AWp.seq (AWp.region ?_)
      refine ARun.step rfl (step_moveV rfl (hn rfl) rfl rfl) ?_
      refine ARun.step rfl (step_field_b rfl (hn rfl) rfl yhFo105_0 rfl (by exact List.cons_ne_nil _ _)) ?_
      refine ARun.step rfl (step_load_b rfl (hn rfl) rfl yhSc9 rfl rfl) ?_
      refine ARun.step rfl (call_step1 rfl (hn rfl) rfl yhCo86 (.cons rfl (.one (.ref _ rfl)) (.cons rfl (.one (.v _)) (.nil))) (hasI _ _) rfl) ?_
      refine ARun.step rfl (step_not rfl (hn rfl) rfl rfl) ?_
      refine ARun.step rfl (step_moveV rfl (hn rfl) rfl rfl) ?_
      refine guardS rfl rfl rfl rfl (hn rfl) (fun g1 g2 => step_loadS_b rfl (hn rfl) rfl yhSt34 rfl rfl rfl (by decide)) ?_
      refine guardS rfl rfl rfl rfl (hn rfl) (fun g1 g2 => step_moveV rfl (hn rfl) rfl rfl) ?_
      refine guardS rfl rfl rfl rfl (hn rfl) (fun g1 g2 => step_moveV rfl (hn rfl) rfl rfl) ?_
      refine guardS rfl rfl rfl rfl (hn rfl) (fun g1 g2 => call_step1 rfl (hn rfl) rfl yhCo91 (.cons (ev_true rfl (by exact flag2 g1 g2)) (.agg (.cons (.v _) (.cons (.v _) .nil))) (.cons (ev_true rfl (by exact flag2 g1 g2)) (.one (.v _)) (.cons (ev_true rfl (by exact flag2 g1 g2)) (.one (.ref _ rfl)) (.nil)))) (canI _ _ _ (by omega) (by omega)) rfl) ?_
      refine ARun.step rfl (step_and rfl (hn rfl) rfl rfl rfl (fun h => (by exact flag1 h))) ?_
      refine ARun.nil ?_
      refine AWp.cond rfl (fun c3 => ?_) (fun c3 => ?_)
      · try simp only [nrm] at c3
        refine AWp.seq (AWp.region ?_)
        refine ARun.step rfl (step_moveV rfl (hn rfl) rfl rfl) ?_
        refine ARun.step rfl (step_field_b rfl (hn rfl) rfl yhFo105_0 rfl (by exact List.cons_ne_nil _ _)) ?_
        refine ARun.step rfl (step_load_b rfl (hn rfl) rfl yhSc9 rfl rfl) ?_
        refine ARun.step rfl (step_buildVT rfl (hn rfl) rfl yhSl22 (strs [_]) (.cons rfl rfl rfl rfl (.nil _)) rfl rfl rfl (rows1 rfl)) ?_
        refine ARun.step rfl (step_append_strs rfl (hn rfl) rfl yhSl22 rfl rfl rfl (.v _) (by first | omega | (simp only [List.length_cons, List.length_nil, List.length_append, List.length_take, List.length_drop]; omega)) (by first | omega | (simp only [List.length_cons, List.length_nil, List.length_append, List.length_take, List.length_drop]; omega))) ?_
        refine ARun.step rfl (step_assignV rfl (hn rfl) rfl rfl) ?_
        refine ARun.nil ?_
        refine AWp.seq (AWp.region ?_)
        refine ARun.step rfl (step_assignV rfl (hn rfl) rfl rfl) ?_
        refine ARun.nil ?_
        refine AWp.exit ?_
        refine AWp.seq (AWp.region ?_)
        refine ARun.step rfl (step_moveV rfl (hn rfl) rfl rfl) ?_
        refine ARun.step rfl (step_not rfl (hn rfl) rfl rfl) ?_
        refine ARun.nil ?_
        refine AWp.cond rfl (fun c4 => ?_) (fun c4 => ?_)
        · exact absurd c4 (by decide)
        · try simp only [nrm] at c4
          refine AWp.skip ?_
          refine ⟨x ++ [(nth p.bs i).name], ?_, ?_, Le.forgetR rfl ⟨rfl, rfl, trivial⟩ ⟨rfl, trivial⟩ ⟨.refl _, trivial⟩⟩
          · try dsimp only
            first
              | (exact ⟨by simp; omega, by rw [← orderGo_step (nextB_some hall (by omega) (by rw [nextOk]; grind)) (by omega)]; exact hgo⟩)
              | (exfalso; simp at c5; done)
              | (exfalso; simp at c4; done)
          · try dsimp only
            first
              | (simp; omega)
              | (exfalso; simp at c5; done)
              | (exfalso; simp at c4; done)
      · try simp only [nrm] at c3
        refine AWp.skip ?_
        refine AWp.region ?_
        refine ARun.step rfl (step_addI rfl (hn rfl) rfl rfl rfl (by omega) (by omega)) ?_
        refine ARun.step rfl (step_moveV rfl (hn rfl) rfl rfl) ?_
        refine ARun.nil ?_
        refine ⟨i + 1, ?_, ?_, Le.forgetR rfl ⟨rfl, rfl, rfl, rfl, rfl, rfl, trivial⟩ ⟨rfl, trivial⟩ ⟨.refl _, trivial⟩⟩
        · try dsimp only
          exact ⟨by omega, upto hall (by rw [nextOk]; grind)⟩
        · try dsimp only
          omega
    · try simp only [nrm] at c2
      refine AWp.exit ?_
      refine AWp.seq (AWp.region ?_)
      refine ARun.step rfl (step_moveV rfl (hn rfl) rfl rfl) ?_
      refine ARun.step rfl (step_not rfl (hn rfl) rfl rfl) ?_
      refine ARun.nil ?_
      refine AWp.cond rfl (fun c5 => ?_) (fun c5 => ?_)
      · try simp only [nrm] at c5
        refine AWp.seq (AWp.region ?_)
        refine ARun.step rfl (step_assignV rfl (hn rfl) rfl rfl) ?_
        refine ARun.step rfl (step_assignV rfl (hn rfl) rfl rfl) ?_
        refine ARun.nil ?_
        refine AWp.ret ?_
        refine ⟨.inr rfl, _, _, (.cons rfl (.one (.nil 9 1 (fun i => [.str (nth [] i)]) _)) (.cons rfl (.one (.sc _ _ rfl)) (.nil _))), rfl, ?_⟩
        first
          | (exfalso; simp at c4; done)
          | (rw [show orderB p = none by rw [← hgo]; exact orderGo_stuck (nextB_none hall (by omega)) (by omega)]; rfl)
          | (rw [show orderB p = some x by rw [← hgo]; exact orderGo_end (by omega)]; rfl)
      · exact absurd c5 (by decide)
  · try simp only [nrm] at c1
    refine AWp.exit ?_
    refine AWp.seq (AWp.region ?_)
    refine ARun.step rfl (step_moveV rfl (hn rfl) rfl rfl) ?_
    refine ARun.step rfl (step_assignV rfl (hn rfl) rfl rfl) ?_
    refine ARun.step rfl (step_assignV rfl (hn rfl) rfl rfl) ?_
    refine ARun.nil ?_
    refine AWp.ret ?_
    refine ⟨.inr rfl, _, _, (.cons rfl (.one (.ref _ _ rfl)) (.cons rfl (.one (.sc _ _ rfl)) (.nil _))), rfl, ?_⟩
    first
      | (exfalso; simp at c4; done)
      | (rw [show orderB p = none by rw [← hgo]; exact orderGo_stuck (nextB_none hall (by omega)) (by omega)]; rfl)
      | (rw [show orderB p = some x by rw [← hgo]; exact orderGo_end (by omega)]; rfl)
theorem shareOrderI (p : Bk)  : ASpec Tryz.prog 90 [.agg (p.cells 105)] (.tup [.one (strs ((orderB p).getD [])), .one (.bool (orderB p).isSome)]) := by
  refine ASpec.body Tryz.func90 rfl [2, 3] rfl 11 rfl rfl rfl ?_
  refine AWp.seq (AWp.region ?_)
  refine ARun.step rfl (step_box_p (m := 1) rfl (hn rfl) rfl rfl rfl rfl rfl) ?_
  refine ARun.step rfl (step_assignV rfl (hn rfl) rfl rfl) ?_
  refine ARun.step rfl (step_assignV rfl (hn rfl) rfl rfl) ?_
  refine ARun.nil ?_
  refine AWp.seq ?_
  refine AWp.seq (AWp.region ?_)
  refine ARun.step rfl (step_loadS_b rfl (hn rfl) rfl yhSt34 rfl rfl rfl (by decide)) ?_
  refine ARun.step rfl (call_step1 rfl (hn rfl) rfl yhCo26 (.cons rfl (.agg (.cons (.v _) (.cons (.v _) .nil))) (.nil)) (bookOkI _) rfl) ?_
  refine ARun.step rfl (step_not rfl (hn rfl) rfl rfl) ?_
  refine ARun.nil ?_
  refine AWp.cond rfl (fun c1 => ?_) (fun c1 => ?_)
  · try simp only [nrm] at c1
    refine AWp.seq (AWp.region ?_)
    refine ARun.step rfl (step_assignV rfl (hn rfl) rfl rfl) ?_
    refine ARun.step rfl (step_assignV rfl (hn rfl) rfl rfl) ?_
    refine ARun.nil ?_
    refine AWp.ret ?_
    refine ⟨.inr rfl, _, _, (.cons rfl (.one (.nil 9 1 (fun i => [.str (nth [] i)]) _)) (.cons rfl (.one (.sc _ _ rfl)) (.nil _))), rfl, ?_⟩
    rw [show orderB p = none by rw [orderB, if_neg (by simp [c1])]]
    rfl
  · try simp only [nrm] at c1
    refine AWp.skip ?_
    refine AWp.seq (AWp.region ?_)
    refine ARun.step rfl (step_loadS_b rfl (hn rfl) rfl yhSt34 rfl rfl rfl (by decide)) ?_
    refine ARun.step rfl (call_stepN rfl (hn rfl) rfl yhCo81 (.cons rfl (.agg (.cons (.v _) (.cons (.v _) .nil))) (.nil)) (orderI _ (by assumption)) rfl rfl) ?_
    refine ARun.step rfl (step_extract rfl (hn rfl) rfl rfl rfl (by intro l h; cases h)) ?_
    refine ARun.step rfl (step_extract rfl (hn rfl) rfl rfl rfl (by intro l h; cases h)) ?_
    refine ARun.step rfl (step_assignV rfl (hn rfl) rfl rfl) ?_
    refine ARun.step rfl (step_assignV rfl (hn rfl) rfl rfl) ?_
    refine ARun.nil ?_
    refine AWp.ret ?_
    refine ⟨.inr rfl, _, _, (.cons rfl (.one (.ref _ _ rfl)) (.cons rfl (.one (.sc _ _ rfl)) (.nil _))), rfl, ?_⟩
    rfl
theorem shareOrderS (p : Bk)  : ASpec Tryz.prog 147 [.agg (p.cells 105)] (.tup [.one (strs ((orderB p).getD [])), .one (.bool (orderB p).isSome)]) := by
  refine ASpec.body Tryz.func147 rfl [2, 3] rfl 33 rfl rfl rfl ?_
  refine AWp.aggLe 0 rfl (fun hc => ?_)
  have hl : p.bs.length ≤ 9223372036854775807 := hc (.v (bts 105 p.bs)) (by exact List.mem_cons_of_mem _ List.mem_cons_self)
  clear hc
  refine AWp.seq (AWp.region ?_)
  refine ARun.step rfl (step_box_p (m := 1) rfl (hn rfl) rfl rfl rfl rfl rfl) ?_
  refine ARun.step rfl (step_assignV rfl (hn rfl) rfl rfl) ?_
  refine ARun.step rfl (step_assignV rfl (hn rfl) rfl rfl) ?_
  refine ARun.nil ?_
  refine AWp.seq (AWp.region ?_)
  refine ARun.step rfl (step_build0 rfl (hn rfl) rfl yhSl22) ?_
  refine ARun.step rfl (step_assignV rfl (hn rfl) rfl rfl) ?_
  refine ARun.nil ?_
  refine AWp.seq ?_
  refine AWp.seq (AWp.region ?_)
  refine ARun.step rfl (step_loadS_b rfl (hn rfl) rfl yhSt34 rfl rfl rfl (by decide)) ?_
  refine ARun.step rfl (call_step1 rfl (hn rfl) rfl yhCo74 (.cons rfl (.agg (.cons (.v _) (.cons (.v _) .nil))) (.nil)) (bookOkS _) rfl) ?_
  refine ARun.step rfl (step_not rfl (hn rfl) rfl rfl) ?_
  refine ARun.nil ?_
  refine AWp.cond rfl (fun c1 => ?_) (fun c1 => ?_)
  · try simp only [nrm] at c1
    try have hb5 := bookOk_bs c1
    refine AWp.seq (AWp.region ?_)
    refine ARun.step rfl (step_moveV rfl (hn rfl) rfl rfl) ?_
    refine ARun.step rfl (step_assignV rfl (hn rfl) rfl rfl) ?_
    refine ARun.step rfl (step_assignV rfl (hn rfl) rfl rfl) ?_
    refine ARun.nil ?_
    refine AWp.ret ?_
    refine ⟨.inr rfl, _, _, (.cons rfl (.one (.ref _ _ rfl)) (.cons rfl (.one (.sc _ _ rfl)) (.nil _))), rfl, ?_⟩
    rw [show orderB p = none by rw [orderB, if_neg (by simp [c1])]]
    rfl
  · try simp only [nrm] at c1
    try have hb5 := bookOk_bs c1
    refine AWp.skip ?_
    refine AWp.seq ?_
    refine AWp.block ?_
    refine AWp.loopM (fun x : List Str => mkAS 33 [(1, ⟨true, .one (.bptr 1 0)⟩), (4, ⟨true, .one (.ref ⟨.arr 6 0, []⟩)⟩)] [(1, ((p.cells 105)).map C.v)] [(6, 0, strs x)]) (fun x => x.length ≤ p.bs.length ∧ orderGo p (p.bs.length - x.length) x = orderB p) (fun x => p.bs.length - x.length) [] ?_ (Le.forgetR rfl ⟨rfl, rfl, trivial⟩ ⟨rfl, trivial⟩ ⟨.refl _, trivial⟩) ?_
    · try dsimp only
      exact ⟨by simp, by rw [orderB, if_pos c1]; rfl⟩
    rintro x ⟨hx5, hgo⟩
    refine AWp.seq ?_
    refine AWp.seq (AWp.region ?_)
    refine ARun.step rfl (step_moveV rfl (hn rfl) rfl rfl) ?_
    refine ARun.step rfl (step_len_r rfl (hn rfl) rfl yhSl22 rfl rfl) ?_
    refine ARun.step rfl (step_field_b rfl (hn rfl) rfl yhFo34_1 rfl (by exact List.cons_ne_nil _ _)) ?_
    refine ARun.step rfl (step_load_b rfl (hn rfl) rfl yhSc32 rfl rfl) ?_
    refine ARun.step rfl (step_len_f rfl (hn rfl) rfl yhSl32 rfl) ?_
    refine ARun.step rfl (step_lss rfl (hn rfl) rfl rfl rfl) ?_
    refine ARun.nil ?_
    refine AWp.cond rfl (fun c2 => ?_) (fun c2 => ?_)
    · try simp only [nrm] at c2
      refine AWp.skip ?_
      refine AWp.block ?_
      refine AWp.seq (AWp.region ?_)
      refine ARun.step rfl (step_loadS_b rfl (hn rfl) rfl yhSt34 rfl rfl rfl (by decide)) ?_
      refine ARun.step rfl (step_moveV rfl (hn rfl) rfl rfl) ?_
      refine ARun.step rfl (call_step1 rfl (hn rfl) rfl yhCo204 (.cons rfl (.agg (.cons (.v _) (.cons (.v _) .nil))) (.cons rfl (.one (.ref _ rfl)) (.nil))) (l52Next _ _) rfl) ?_
      refine ARun.step rfl (step_assignV rfl (hn rfl) rfl rfl) ?_
      refine ARun.nil ?_
      refine AWp.seq ?_
      refine AWp.seq (AWp.region ?_)
      refine ARun.step rfl (step_moveV rfl (hn rfl) rfl rfl) ?_
      refine ARun.step rfl (step_lss rfl (hn rfl) rfl rfl rfl) ?_
      refine ARun.nil ?_
      refine AWp.cond rfl (fun c3 => ?_) (fun c3 => ?_)
      · try simp only [nrm] at c3
        have hnx := nextI_neg c3
        refine AWp.seq (AWp.region ?_)
        refine ARun.step rfl (step_build0 rfl (hn rfl) rfl yhSl22) ?_
        refine ARun.step rfl (step_assignV rfl (hn rfl) rfl rfl) ?_
        refine ARun.step rfl (step_assignV rfl (hn rfl) rfl rfl) ?_
        refine ARun.nil ?_
        refine AWp.ret ?_
        refine ⟨.inr rfl, _, _, (.cons rfl (.one (.ref _ _ rfl)) (.cons rfl (.one (.sc _ _ rfl)) (.nil _))), rfl, ?_⟩
        rw [show orderB p = none by rw [← hgo]; exact orderGo_stuck hnx (by omega)]
        rfl
      · try simp only [nrm] at c3
        obtain ⟨i, hnx, hni⟩ := nextI_nn c3
        have hil := nextB_lt hnx
        refine AWp.skip ?_
        refine AWp.region ?_
        refine ARun.step rfl (step_moveV rfl (hn rfl) rfl rfl) ?_
        refine ARun.step rfl (step_field_b rfl (hn rfl) rfl yhFo34_1 rfl (by exact List.cons_ne_nil _ _)) ?_
        refine ARun.step rfl (step_load_b rfl (hn rfl) rfl yhSc32 rfl rfl) ?_
        refine ARun.step rfl (step_moveV rfl (hn rfl) rfl rfl) ?_
        refine ARun.step rfl (step_index_f rfl (hn rfl) rfl yhSl32 rfl rfl (by omega) (by omega)) ?_
        refine ARun.step rfl (step_field_f rfl (hn rfl) rfl yhFo105_0 rfl) ?_
        refine ARun.step rfl (step_load_f rfl (hn rfl) rfl yhSc9 rfl (hn rfl) rfl) ?_
        refine ARun.step rfl (step_buildVT rfl (hn rfl) rfl yhSl22 (strs [_]) (.cons rfl rfl rfl rfl (.nil _)) rfl rfl rfl (rows1 rfl)) ?_
        refine ARun.step rfl (step_append_strs rfl (hn rfl) rfl yhSl22 rfl rfl rfl (.v _) (by first | omega | (simp only [List.length_cons, List.length_nil, List.length_append, List.length_take, List.length_drop]; omega)) (by first | omega | (simp only [List.length_cons, List.length_nil, List.length_append, List.length_take, List.length_drop]; omega))) ?_
        refine ARun.step rfl (step_assignV rfl (hn rfl) rfl rfl) ?_
        refine ARun.nil ?_
        refine ⟨x ++ [(nth p.bs i).name], ?_, ?_, Le.forgetR rfl ⟨rfl, rfl, trivial⟩ ⟨rfl, trivial⟩ ⟨(by rw [hni, Int.toNat_natCast]; exact .refl _), trivial⟩⟩
        · try dsimp only
          exact ⟨by simp; omega, by rw [← orderGo_step hnx (by omega)]; exact hgo⟩
        · try dsimp only
          simp; omega
    · try simp only [nrm] at c2
      refine AWp.exit ?_
      refine AWp.seq (AWp.region ?_)
      refine ARun.step rfl (step_moveV rfl (hn rfl) rfl rfl) ?_
      refine ARun.step rfl (step_assignV rfl (hn rfl) rfl rfl) ?_
      refine ARun.step rfl (step_assignV rfl (hn rfl) rfl rfl) ?_
      refine ARun.nil ?_
      refine AWp.ret ?_
      refine ⟨.inr rfl, _, _, (.cons rfl (.one (.ref _ _ rfl)) (.cons rfl (.one (.sc _ _ rfl)) (.nil _))), rfl, ?_⟩
      rw [show orderB p = some x by rw [← hgo]; exact orderGo_end (by omega)]
      rfl
theorem safeS (p : Bk)  : ASpec Tryz.prog 85 [.agg (p.cells 105)] (.one (.bool (orderB p).isSome)) := by
  refine ASpec.body Tryz.func85 rfl [2] rfl 11 rfl rfl rfl ?_
  refine AWp.seq (AWp.region ?_)
  refine ARun.step rfl (step_box_p (m := 1) rfl (hn rfl) rfl rfl rfl rfl rfl) ?_
  refine ARun.step rfl (step_assignV rfl (hn rfl) rfl rfl) ?_
  refine ARun.nil ?_
  refine AWp.seq (AWp.region ?_)
  refine ARun.step rfl (step_loadS_b rfl (hn rfl) rfl yhSt34 rfl rfl rfl (by decide)) ?_
  refine ARun.step rfl (call_stepN rfl (hn rfl) rfl yhCo147 (.cons rfl (.agg (.cons (.v _) (.cons (.v _) .nil))) (.nil)) (shareOrderS _) rfl rfl) ?_
  refine ARun.step rfl (step_moveV rfl (hn rfl) rfl rfl) ?_
  refine ARun.step rfl (step_extract rfl (hn rfl) rfl rfl rfl (by intro l h; cases h)) ?_
  refine ARun.step rfl (step_extract rfl (hn rfl) rfl rfl rfl (by intro l h; cases h)) ?_
  refine ARun.step rfl (step_assignV rfl (hn rfl) rfl rfl) ?_
  refine ARun.step rfl (step_assignV rfl (hn rfl) rfl rfl) ?_
  refine ARun.nil ?_
  refine AWp.seq (AWp.region ?_)
  refine ARun.step rfl (step_moveV rfl (hn rfl) rfl rfl) ?_
  refine ARun.step rfl (step_assignV rfl (hn rfl) rfl rfl) ?_
  refine ARun.nil ?_
  refine AWp.ret ?_
  refine RetIs.sc (.inr rfl) rfl rfl ?_
  refine congrArg T.bool ?_
  rfl
theorem safeI (p : Bk)  : ASpec Tryz.prog 27 [.agg (p.cells 105)] (.one (.bool (orderB p).isSome)) := by
  refine ASpec.body Tryz.func27 rfl [2] rfl 11 rfl rfl rfl ?_
  refine AWp.seq (AWp.region ?_)
  refine ARun.step rfl (step_box_p (m := 1) rfl (hn rfl) rfl rfl rfl rfl rfl) ?_
  refine ARun.step rfl (step_assignV rfl (hn rfl) rfl rfl) ?_
  refine ARun.nil ?_
  refine AWp.seq (AWp.region ?_)
  refine ARun.step rfl (step_loadS_b rfl (hn rfl) rfl yhSt34 rfl rfl rfl (by decide)) ?_
  refine ARun.step rfl (call_stepN rfl (hn rfl) rfl yhCo90 (.cons rfl (.agg (.cons (.v _) (.cons (.v _) .nil))) (.nil)) (shareOrderI _) rfl rfl) ?_
  refine ARun.step rfl (step_moveV rfl (hn rfl) rfl rfl) ?_
  refine ARun.step rfl (step_extract rfl (hn rfl) rfl rfl rfl (by intro l h; cases h)) ?_
  refine ARun.step rfl (step_extract rfl (hn rfl) rfl rfl rfl (by intro l h; cases h)) ?_
  refine ARun.step rfl (step_assignV rfl (hn rfl) rfl rfl) ?_
  refine ARun.step rfl (step_assignV rfl (hn rfl) rfl rfl) ?_
  refine ARun.nil ?_
  refine AWp.seq (AWp.region ?_)
  refine ARun.step rfl (step_moveV rfl (hn rfl) rfl rfl) ?_
  refine ARun.step rfl (step_assignV rfl (hn rfl) rfl rfl) ?_
  refine ARun.nil ?_
  refine AWp.ret ?_
  refine RetIs.sc (.inr rfl) rfl rfl ?_
  refine congrArg T.bool ?_
  rfl
theorem szBtI (p : Bt) (m : Int) (hm : 0 ≤ m) (hm2 : m ≤ 1048576) : ASpec Tryz.prog 173 [.agg p.cells, .one (.int .i64 m)] (.one (.int .i64 (szBt p m))) := by
  refine ASpec.body Tryz.func173 rfl [4] rfl 25 rfl rfl rfl ?_
  refine AWp.aggLe 0 rfl (fun hc => ?_)
  have q1 : p.name.size ≤ 9223372036854775807 := hc (.v (.str p.name)) (by exact List.mem_cons_self)
  clear hc
  have e1 := szL_le szStr_le p.has (m - p.name.size)
  have e2 := szL_le szStr_le p.needs (szL szStr p.has (m - p.name.size))
  refine AWp.seq (AWp.region ?_)
  refine ARun.step rfl (step_box_p (m := 2) rfl (hn rfl) rfl rfl rfl rfl rfl) ?_
  refine ARun.step rfl (step_assignV rfl (hn rfl) rfl rfl) ?_
  refine ARun.nil ?_
  refine AWp.seq (AWp.region ?_)
  refine ARun.step rfl (step_moveV rfl (hn rfl) rfl rfl) ?_
  refine ARun.step rfl (step_field_b rfl (hn rfl) rfl yhFo191_0 rfl (by exact List.cons_ne_nil _ _)) ?_
  refine ARun.step rfl (step_load_b rfl (hn rfl) rfl yhSc9 rfl rfl) ?_
  refine ARun.step rfl (step_len_str rfl (hn rfl) rfl yhUs9 rfl) ?_
  refine ARun.step rfl (step_subI rfl (hn rfl) rfl rfl rfl (by omega) (by omega)) ?_
  refine ARun.step rfl (step_assignV rfl (hn rfl) rfl rfl) ?_
  refine ARun.nil ?_
  refine AWp.seq ?_
  refine AWp.seq (AWp.region ?_)
  refine ARun.step rfl (step_moveV rfl (hn rfl) rfl rfl) ?_
  refine ARun.step rfl (step_lss rfl (hn rfl) rfl rfl rfl) ?_
  refine ARun.nil ?_
  refine AWp.cond rfl (fun c1 => ?_) (fun c1 => ?_)
  · try simp only [nrm] at c1
    refine AWp.seq (AWp.region ?_)
    refine ARun.step rfl (step_assignV rfl (hn rfl) rfl rfl) ?_
    refine ARun.nil ?_
    refine AWp.ret ?_
    refine RetIs.sc (.inr rfl) rfl rfl ?_
    refine congrArg (T.int _) ?_
    simp only [szBt]
    repeat' split
    all_goals first | rfl | omega
  · try simp only [nrm] at c1
    refine AWp.skip ?_
    refine AWp.seq (AWp.region ?_)
    refine ARun.step rfl (step_field_b rfl (hn rfl) rfl yhFo191_1 rfl (by exact List.cons_ne_nil _ _)) ?_
    refine ARun.step rfl (step_load_b rfl (hn rfl) rfl yhSc22 rfl rfl) ?_
    refine ARun.step rfl (step_moveV rfl (hn rfl) rfl rfl) ?_
    refine ARun.step rfl (call_step1 rfl (hn rfl) rfl yhCo116 (.cons rfl (.one (.v _)) (.cons rfl (.one (.v _)) (.nil))) (szStrS _ _ (by omega) (by omega)) rfl) ?_
    refine ARun.step rfl (step_assignV rfl (hn rfl) rfl rfl) ?_
    refine ARun.nil ?_
    refine AWp.seq ?_
    refine AWp.seq (AWp.region ?_)
    refine ARun.step rfl (step_moveV rfl (hn rfl) rfl rfl) ?_
    refine ARun.step rfl (step_lss rfl (hn rfl) rfl rfl rfl) ?_
    refine ARun.nil ?_
    refine AWp.cond rfl (fun c2 => ?_) (fun c2 => ?_)
    · try simp only [nrm] at c2
      refine AWp.seq (AWp.region ?_)
      refine ARun.step rfl (step_assignV rfl (hn rfl) rfl rfl) ?_
      refine ARun.nil ?_
      refine AWp.ret ?_
      refine RetIs.sc (.inr rfl) rfl rfl ?_
      refine congrArg (T.int _) ?_
      simp only [szBt]
      repeat' split
      all_goals first | rfl | omega
    · try simp only [nrm] at c2
      refine AWp.skip ?_
      refine AWp.seq (AWp.region ?_)
      refine ARun.step rfl (step_field_b rfl (hn rfl) rfl yhFo191_2 rfl (by exact List.cons_ne_nil _ _)) ?_
      refine ARun.step rfl (step_load_b rfl (hn rfl) rfl yhSc22 rfl rfl) ?_
      refine ARun.step rfl (step_moveV rfl (hn rfl) rfl rfl) ?_
      refine ARun.step rfl (call_step1 rfl (hn rfl) rfl yhCo116 (.cons rfl (.one (.v _)) (.cons rfl (.one (.v _)) (.nil))) (szStrS _ _ (by omega) (by omega)) rfl) ?_
      refine ARun.step rfl (step_assignV rfl (hn rfl) rfl rfl) ?_
      refine ARun.nil ?_
      refine AWp.seq ?_
      refine AWp.seq (AWp.region ?_)
      refine ARun.step rfl (step_moveV rfl (hn rfl) rfl rfl) ?_
      refine ARun.step rfl (step_lss rfl (hn rfl) rfl rfl rfl) ?_
      refine ARun.nil ?_
      refine AWp.cond rfl (fun c3 => ?_) (fun c3 => ?_)
      · try simp only [nrm] at c3
        refine AWp.seq (AWp.region ?_)
        refine ARun.step rfl (step_assignV rfl (hn rfl) rfl rfl) ?_
        refine ARun.nil ?_
        refine AWp.ret ?_
        refine RetIs.sc (.inr rfl) rfl rfl ?_
        refine congrArg (T.int _) ?_
        simp only [szBt]
        repeat' split
        all_goals first | rfl | omega
      · try simp only [nrm] at c3
        refine AWp.skip ?_
        refine AWp.seq (AWp.region ?_)
        refine ARun.step rfl (step_moveV rfl (hn rfl) rfl rfl) ?_
        refine ARun.step rfl (step_assignV rfl (hn rfl) rfl rfl) ?_
        refine ARun.nil ?_
        refine AWp.ret ?_
        refine RetIs.sc (.inr rfl) rfl rfl ?_
        refine congrArg (T.int _) ?_
        simp only [szBt]
        repeat' split
        all_goals first | rfl | omega
theorem szBtS (l : List Bt) (m : Int) (hm : 0 ≤ m) (hm2 : m ≤ 1048576) : ASpec Tryz.prog 117 [.one (bts 191 l), .one (.int .i64 m)] (.one (.int .i64 (szL szBt l m))) := by
  refine ASpec.body Tryz.func117 rfl [4] rfl 27 rfl rfl rfl ?_
  refine AWp.lenLe 0 rfl (fun hl => ?_)
  refine AWp.seq (AWp.region ?_)
  refine ARun.step rfl (step_assignV rfl (hn rfl) rfl rfl) ?_
  refine ARun.nil ?_
  refine AWp.seq (AWp.region ?_)
  refine ARun.step rfl (step_moveV rfl (hn rfl) rfl rfl) ?_
  refine ARun.step rfl (step_moveV rfl (hn rfl) rfl rfl) ?_
  refine ARun.step rfl (step_len_f rfl (hn rfl) rfl yhSl23 rfl) ?_
  refine ARun.step rfl (step_subI rfl (hn rfl) rfl rfl rfl (by omega) (by omega)) ?_
  refine ARun.step rfl (step_assignV rfl (hn rfl) rfl rfl) ?_
  refine ARun.nil ?_
  refine AWp.seq ?_
  refine AWp.seq (AWp.region ?_)
  refine ARun.step rfl (step_moveV rfl (hn rfl) rfl rfl) ?_
  refine ARun.step rfl (step_lss rfl (hn rfl) rfl rfl rfl) ?_
  refine ARun.nil ?_
  refine AWp.cond rfl (fun c1 => ?_) (fun c1 => ?_)
  · try simp only [nrm] at c1
    refine AWp.seq (AWp.region ?_)
    refine ARun.step rfl (step_assignV rfl (hn rfl) rfl rfl) ?_
    refine ARun.nil ?_
    refine AWp.ret ?_
    refine RetIs.sc (.inr rfl) rfl rfl ?_
    refine congrArg (T.int _) ?_
    rw [szL, if_pos (by omega)]
  · try simp only [nrm] at c1
    refine AWp.skip ?_
    refine AWp.seq ?_
    refine AWp.seq (AWp.region ?_)
    refine ARun.step rfl (step_assignV rfl (hn rfl) rfl rfl) ?_
    refine ARun.nil ?_
    refine AWp.block ?_
    refine AWp.loopM (fun x : Nat × Int => mkAS 27 [(0, ⟨true, .one (.v (bts 191 l))⟩), (1, ⟨true, .one (.v (.int .i64 x.2))⟩), (5, ⟨true, .one (.v (.int .i64 (x.1 : Nat)))⟩)] [] []) (fun x => x.1 ≤ l.length ∧ 0 ≤ x.2 ∧ x.2 ≤ 1048576 ∧ szGo szBt (l.drop x.1) x.2 = szL szBt l m) (fun x => l.length - x.1) (0, m - l.length) ?_ (Le.forgetR rfl ⟨rfl, rfl, rfl, trivial⟩ trivial trivial) ?_
    · try dsimp only
      exact ⟨by omega, by omega, by omega, by rw [szL, if_neg (by omega), List.drop_zero]⟩
    rintro x ⟨hi, hm3, hm4, hg⟩
    refine AWp.seq ?_
    refine AWp.seq (AWp.region ?_)
    refine ARun.step rfl (step_moveV rfl (hn rfl) rfl rfl) ?_
    refine ARun.step rfl (step_moveV rfl (hn rfl) rfl rfl) ?_
    refine ARun.step rfl (step_len_f rfl (hn rfl) rfl yhSl23 rfl) ?_
    refine ARun.step rfl (step_lss rfl (hn rfl) rfl rfl rfl) ?_
    refine ARun.nil ?_
    refine AWp.cond rfl (fun c2 => ?_) (fun c2 => ?_)
    · try simp only [nrm] at c2
      refine AWp.skip ?_
      refine AWp.seq ?_
      refine AWp.block ?_
      refine AWp.seq (AWp.region ?_)
      refine ARun.step rfl (step_moveV rfl (hn rfl) rfl rfl) ?_
      refine ARun.step rfl (step_moveV rfl (hn rfl) rfl rfl) ?_
      refine ARun.step rfl (step_index_fN rfl (hn rfl) rfl yhSl23 rfl rfl (by omega)) ?_
      refine ARun.step rfl (step_loadS_f rfl (hn rfl) rfl yhSt191 rfl (hn rfl) rfl rfl) ?_
      refine ARun.step rfl (step_moveV rfl (hn rfl) rfl rfl) ?_
      refine ARun.step rfl (call_step1 rfl (hn rfl) rfl yhCo173 (.cons rfl (.agg (.cons (.v _) (.cons (.v _) (.cons (.v _) .nil)))) (.cons rfl (.one (.v _)) (.nil))) (szBtI _ _ (by assumption) (by assumption)) rfl) ?_
      refine ARun.step rfl (step_assignV rfl (hn rfl) rfl rfl) ?_
      refine ARun.nil ?_
      refine AWp.seq (AWp.region ?_)
      refine ARun.step rfl (step_moveV rfl (hn rfl) rfl rfl) ?_
      refine ARun.step rfl (step_lss rfl (hn rfl) rfl rfl rfl) ?_
      refine ARun.nil ?_
      refine AWp.cond rfl (fun c3 => ?_) (fun c3 => ?_)
      · try simp only [nrm] at c3
        refine AWp.seq (AWp.region ?_)
        refine ARun.step rfl (step_assignV rfl (hn rfl) rfl rfl) ?_
        refine ARun.nil ?_
        refine AWp.ret ?_
        refine RetIs.sc (.inr rfl) rfl rfl ?_
        refine congrArg (T.int _) ?_
        rw [← hg, drop_nth (i := x.1) (by omega), szGo, if_pos (by omega)]
      · try simp only [nrm] at c3
        refine AWp.skip ?_
        refine AWp.region ?_
        refine ARun.step rfl (step_moveV rfl (hn rfl) rfl rfl) ?_
        refine ARun.step rfl (step_addI rfl (hn rfl) rfl rfl rfl (by omega) (by omega)) ?_
        refine ARun.step rfl (step_assignV rfl (hn rfl) rfl rfl) ?_
        refine ARun.nil ?_
        refine ⟨(x.1 + 1, szBt (nth l x.1) x.2), ?_, ?_, Le.forgetR rfl ⟨rfl, rfl, rfl, trivial⟩ trivial trivial⟩
        · try dsimp only
          exact ⟨by omega, by first | assumption | omega, by have := szBt_le (nth l x.1) x.2; omega, by rw [← hg, drop_nth (i := x.1) (by omega), szGo, if_neg (by first | omega | (unfold szBt; split <;> omega))]; try (unfold szStr; rw [if_neg (by omega)])⟩
        · try dsimp only
          omega
    · try simp only [nrm] at c2
      refine AWp.exit ?_
      refine AWp.seq (AWp.region ?_)
      refine ARun.step rfl (step_moveV rfl (hn rfl) rfl rfl) ?_
      refine ARun.step rfl (step_assignV rfl (hn rfl) rfl rfl) ?_
      refine ARun.nil ?_
      refine AWp.ret ?_
      refine RetIs.sc (.inr rfl) rfl rfl ?_
      refine congrArg (T.int _) ?_
      rw [← hg, List.drop_of_length_le (by omega), szGo]
theorem szBkI (p : Bk) (m : Int) (hm : 0 ≤ m) (hm2 : m ≤ 1048576) : ASpec Tryz.prog 46 [.agg (p.cells 191), .one (.int .i64 m)] (.one (.int .i64 (szBk p m))) := by
  refine ASpec.body Tryz.func46 rfl [4] rfl 18 rfl rfl rfl ?_
  have e1 := szL_le szStr_le p.things m
  refine AWp.seq (AWp.region ?_)
  refine ARun.step rfl (step_box_p (m := 1) rfl (hn rfl) rfl rfl rfl rfl rfl) ?_
  refine ARun.step rfl (step_assignV rfl (hn rfl) rfl rfl) ?_
  refine ARun.nil ?_
  refine AWp.seq (AWp.region ?_)
  refine ARun.step rfl (step_field_b rfl (hn rfl) rfl yhFo25_0 rfl (by exact List.cons_ne_nil _ _)) ?_
  refine ARun.step rfl (step_load_b rfl (hn rfl) rfl yhSc22 rfl rfl) ?_
  refine ARun.step rfl (step_moveV rfl (hn rfl) rfl rfl) ?_
  refine ARun.step rfl (call_step1 rfl (hn rfl) rfl yhCo116 (.cons rfl (.one (.v _)) (.cons rfl (.one (.v _)) (.nil))) (szStrS _ _ (by assumption) (by assumption)) rfl) ?_
  refine ARun.step rfl (step_assignV rfl (hn rfl) rfl rfl) ?_
  refine ARun.nil ?_
  refine AWp.seq ?_
  refine AWp.seq (AWp.region ?_)
  refine ARun.step rfl (step_moveV rfl (hn rfl) rfl rfl) ?_
  refine ARun.step rfl (step_lss rfl (hn rfl) rfl rfl rfl) ?_
  refine ARun.nil ?_
  refine AWp.cond rfl (fun c1 => ?_) (fun c1 => ?_)
  · try simp only [nrm] at c1
    refine AWp.seq (AWp.region ?_)
    refine ARun.step rfl (step_assignV rfl (hn rfl) rfl rfl) ?_
    refine ARun.nil ?_
    refine AWp.ret ?_
    refine RetIs.sc (.inr rfl) rfl rfl ?_
    refine congrArg (T.int _) ?_
    simp only [szBk]
    repeat' split
    all_goals first | rfl | omega
  · try simp only [nrm] at c1
    refine AWp.skip ?_
    refine AWp.seq (AWp.region ?_)
    refine ARun.step rfl (step_field_b rfl (hn rfl) rfl yhFo25_1 rfl (by exact List.cons_ne_nil _ _)) ?_
    refine ARun.step rfl (step_load_b rfl (hn rfl) rfl yhSc23 rfl rfl) ?_
    refine ARun.step rfl (step_moveV rfl (hn rfl) rfl rfl) ?_
    refine ARun.step rfl (call_step1 rfl (hn rfl) rfl yhCo117 (.cons rfl (.one (.v _)) (.cons rfl (.one (.v _)) (.nil))) (szBtS _ _ (by omega) (by omega)) rfl) ?_
    refine ARun.step rfl (step_assignV rfl (hn rfl) rfl rfl) ?_
    refine ARun.nil ?_
    refine AWp.seq ?_
    refine AWp.seq (AWp.region ?_)
    refine ARun.step rfl (step_moveV rfl (hn rfl) rfl rfl) ?_
    refine ARun.step rfl (step_lss rfl (hn rfl) rfl rfl rfl) ?_
    refine ARun.nil ?_
    refine AWp.cond rfl (fun c2 => ?_) (fun c2 => ?_)
    · try simp only [nrm] at c2
      refine AWp.seq (AWp.region ?_)
      refine ARun.step rfl (step_assignV rfl (hn rfl) rfl rfl) ?_
      refine ARun.nil ?_
      refine AWp.ret ?_
      refine RetIs.sc (.inr rfl) rfl rfl ?_
      refine congrArg (T.int _) ?_
      simp only [szBk]
      repeat' split
      all_goals first | rfl | omega
    · try simp only [nrm] at c2
      refine AWp.skip ?_
      refine AWp.seq (AWp.region ?_)
      refine ARun.step rfl (step_moveV rfl (hn rfl) rfl rfl) ?_
      refine ARun.step rfl (step_assignV rfl (hn rfl) rfl rfl) ?_
      refine ARun.nil ?_
      refine AWp.ret ?_
      refine RetIs.sc (.inr rfl) rfl rfl ?_
      refine congrArg (T.int _) ?_
      simp only [szBk]
      repeat' split
      all_goals first | rfl | omega
theorem toBt (p : Bt) (hs : smallBt p) : ASpec Tryz.prog 178 [.agg p.cells] (.agg p.cells) := by
  refine ASpec.bodyC Tryz.func178 rfl 2 105 [] rfl rfl 16 rfl rfl rfl ?_
  refine AWp.seq (AWp.region ?_)
  refine ARun.step rfl (step_box_p (m := 2) rfl (hn rfl) rfl rfl rfl rfl rfl) ?_
  refine ARun.step rfl (step_alloc_p rfl (hn rfl) rfl yhZs105) ?_
  refine ARun.nil ?_
  refine AWp.seq (AWp.region ?_)
  refine ARun.step rfl (step_alloc_p rfl (hn rfl) rfl yhZs105) ?_
  refine ARun.nil ?_
  refine AWp.seq (AWp.region ?_)
  refine ARun.step rfl (step_field_b rfl (hn rfl) rfl yhFo191_0 rfl (by exact List.cons_ne_nil _ _)) ?_
  refine ARun.step rfl (step_load_b rfl (hn rfl) rfl yhSc9 rfl rfl) ?_
  refine ARun.step rfl (step_field_b rfl (hn rfl) rfl yhFo105_0 rfl (by exact List.cons_ne_nil _ _)) ?_
  refine ARun.step rfl (step_store_p rfl rfl yhCs9 rfl rfl rfl rfl rfl rfl rfl) ?_
  refine ARun.nil ?_
  refine AWp.seq (AWp.region ?_)
  refine ARun.step rfl (step_field_b rfl (hn rfl) rfl yhFo191_1 rfl (by exact List.cons_ne_nil _ _)) ?_
  refine ARun.step rfl (step_load_b rfl (hn rfl) rfl yhSc22 rfl rfl) ?_
  refine ARun.step rfl (call_stepN rfl (hn rfl) rfl yhCo123 (.cons rfl (.one (.v _)) (.nil)) (toStrS _ hs.1) rfl rfl) ?_
  refine ARun.step rfl (step_field_b rfl (hn rfl) rfl yhFo105_1 rfl (by exact List.cons_ne_nil _ _)) ?_
  refine ARun.step rfl (step_store_r rfl rfl yhCs22 rfl rfl rfl rfl rfl rfl rfl) ?_
  refine ARun.nil ?_
  refine AWp.seq (AWp.region ?_)
  refine ARun.step rfl (step_field_b rfl (hn rfl) rfl yhFo191_2 rfl (by exact List.cons_ne_nil _ _)) ?_
  refine ARun.step rfl (step_load_b rfl (hn rfl) rfl yhSc22 rfl rfl) ?_
  refine ARun.step rfl (call_stepN rfl (hn rfl) rfl yhCo123 (.cons rfl (.one (.v _)) (.nil)) (toStrS _ hs.2) rfl rfl) ?_
  refine ARun.step rfl (step_field_b rfl (hn rfl) rfl yhFo105_2 rfl (by exact List.cons_ne_nil _ _)) ?_
  refine ARun.step rfl (step_store_r rfl rfl yhCs22 rfl rfl rfl rfl rfl rfl rfl) ?_
  refine ARun.nil ?_
  refine AWp.seq (AWp.region ?_)
  refine ARun.step rfl (step_loadS_b rfl (hn rfl) rfl yhSt105 rfl rfl rfl (by decide)) ?_
  refine ARun.step rfl (step_store_r rfl rfl yhCs105 rfl rfl rfl rfl rfl rfl rfl) ?_
  refine ARun.nil ?_
  refine AWp.ret ?_
  refine ⟨.inr rfl, 2, 3, _, _, _, yhSt105, by decide, rfl, rfl, rfl, rfl, (.cons rfl (.agg (.cons (.sc _ _ rfl) (.cons (.ref _ _ rfl) (.cons (.ref _ _ rfl) (.nil _))))) (.nil _)), rfl, ?_⟩
  refine congrArg PV.agg ?_
  rfl
theorem toBtS (l : List Bt) (hl : l.length ≤ 1048576) (hs : ∀ i, i < l.length → smallBt (nth l i)) : ASpec Tryz.prog 124 [.one (bts 191 l)] (.one (btsO 105 l)) := by
  refine ASpec.body Tryz.func124 rfl [2] rfl 23 rfl rfl rfl ?_
  refine AWp.seq (AWp.region ?_)
  refine ARun.step rfl (step_assignV rfl (hn rfl) rfl rfl) ?_
  refine ARun.nil ?_
  refine AWp.seq (AWp.region ?_)
  refine ARun.step rfl (step_moveV rfl (hn rfl) rfl rfl) ?_
  refine ARun.step rfl (step_len_f rfl (hn rfl) rfl yhSl23 rfl) ?_
  refine ARun.step rfl (step_makeSliceZ rfl (hn rfl) rfl yhSl32 (zeroOk_dead yhZs105) rfl (by omega) (by omega)) ?_
  refine ARun.step rfl (step_assignV rfl (hn rfl) rfl rfl) ?_
  refine ARun.nil ?_
  refine AWp.seq ?_
  refine AWp.seq (AWp.region ?_)
  refine ARun.step rfl (step_assignV rfl (hn rfl) rfl rfl) ?_
  refine ARun.nil ?_
  refine AWp.block ?_
  refine AWp.loopM (fun i : Nat => mkAS 23 [(0, ⟨true, .one (.v (bts 191 l))⟩), (3, ⟨true, .one (.ref ⟨.arr 7 0, []⟩)⟩), (4, ⟨true, .one (.v (.int .i64 (i : Nat)))⟩)] [] [(7, 0, .sl 105 3 l.length (rowsTo l Bt.cells (List.replicate 3 .dead) i))]) (fun i => i ≤ l.length) (fun i => l.length - i) 0 ?_ (Le.forgetR rfl ⟨rfl, rfl, rfl, trivial⟩ trivial ⟨.rows (fun _ _ => rfl), trivial⟩) ?_
  · try dsimp only
    omega
  rintro i hi
  refine AWp.seq ?_
  refine AWp.seq (AWp.region ?_)
  refine ARun.step rfl (step_moveV rfl (hn rfl) rfl rfl) ?_
  refine ARun.step rfl (step_moveV rfl (hn rfl) rfl rfl) ?_
  refine ARun.step rfl (step_len_f rfl (hn rfl) rfl yhSl23 rfl) ?_
  refine ARun.step rfl (step_lss rfl (hn rfl) rfl rfl rfl) ?_
  refine ARun.nil ?_
  refine AWp.cond rfl (fun c1 => ?_) (fun c1 => ?_)
  · try simp only [nrm] at c1
    refine AWp.skip ?_
    refine AWp.seq ?_
    refine AWp.block ?_
    refine AWp.region ?_
    refine ARun.step rfl (step_moveV rfl (hn rfl) rfl rfl) ?_
    refine ARun.step rfl (step_moveV rfl (hn rfl) rfl rfl) ?_
    refine ARun.step rfl (step_moveV rfl (hn rfl) rfl rfl) ?_
    refine ARun.step rfl (step_moveV rfl (hn rfl) rfl rfl) ?_
    refine ARun.step rfl (step_index_fN rfl (hn rfl) rfl yhSl23 rfl rfl (by omega)) ?_
    refine ARun.step rfl (step_loadS_f rfl (hn rfl) rfl yhSt191 rfl (hn rfl) rfl rfl) ?_
    refine ARun.step rfl (call_stepN rfl (hn rfl) rfl yhCo178 (.cons rfl (.agg (.cons (.v _) (.cons (.v _) (.cons (.v _) .nil)))) (.nil)) (toBt _ (hs i (by omega))) rfl rfl) ?_
    refine ARun.step rfl (step_index_rN rfl (hn rfl) rfl yhSl32 rfl rfl rfl (by omega)) ?_
    refine ARun.step rfl (step_store_e rfl rfl yhCs105 rfl rfl (by omega) (hn rfl) rfl rfl rfl) ?_
    refine ARun.nil ?_
    refine AWp.region ?_
    refine ARun.step rfl (step_moveV rfl (hn rfl) rfl rfl) ?_
    refine ARun.step rfl (step_addI rfl (hn rfl) rfl rfl rfl (by omega) (by omega)) ?_
    refine ARun.step rfl (step_assignV rfl (hn rfl) rfl rfl) ?_
    refine ARun.nil ?_
    refine ⟨i + 1, ?_, ?_, Le.forgetR rfl ⟨rfl, rfl, rfl, trivial⟩ trivial ⟨.rows (fun j _ => by rw [setRow3 (by rw [rowsTo_at]; rfl)]; exact rowsTo_next l Bt.cells _ i j), trivial⟩⟩
    · try dsimp only
      omega
    · try dsimp only
      omega
  · try simp only [nrm] at c1
    refine AWp.exit ?_
    refine AWp.seq (AWp.region ?_)
    refine ARun.step rfl (step_moveV rfl (hn rfl) rfl rfl) ?_
    refine ARun.step rfl (step_assignV rfl (hn rfl) rfl rfl) ?_
    refine ARun.nil ?_
    refine AWp.le (Le.forgetR (n := 23) (sl := [(2, ⟨true, .one (.ref ⟨.arr 7 0, []⟩)⟩)]) (bl := []) (al := [(7, 0, btsO 105 l)]) rfl ⟨rfl, trivial⟩ trivial ⟨.rows (fun j hj => rowsTo_all l Bt.cells _ _ j (by omega)), trivial⟩) ?_
    refine AWp.ret ?_
    refine RetIs.ref (.inr rfl) rfl rfl ?_
    rfl
theorem toBk (p : Bk) (hs : smallBk p) : ASpec Tryz.prog 50 [.agg (p.cells 191)] (.agg (p.ocells 105)) := by
  refine ASpec.bodyC Tryz.func50 rfl 2 34 [] rfl rfl 13 rfl rfl rfl ?_
  refine AWp.seq (AWp.region ?_)
  refine ARun.step rfl (step_box_p (m := 1) rfl (hn rfl) rfl rfl rfl rfl rfl) ?_
  refine ARun.step rfl (step_alloc_p rfl (hn rfl) rfl yhZs34) ?_
  refine ARun.nil ?_
  refine AWp.seq (AWp.region ?_)
  refine ARun.step rfl (step_alloc_p rfl (hn rfl) rfl yhZs34) ?_
  refine ARun.nil ?_
  refine AWp.seq (AWp.region ?_)
  refine ARun.step rfl (step_field_b rfl (hn rfl) rfl yhFo25_0 rfl (by exact List.cons_ne_nil _ _)) ?_
  refine ARun.step rfl (step_load_b rfl (hn rfl) rfl yhSc22 rfl rfl) ?_
  refine ARun.step rfl (call_stepN rfl (hn rfl) rfl yhCo123 (.cons rfl (.one (.v _)) (.nil)) (toStrS _ hs.1) rfl rfl) ?_
  refine ARun.step rfl (step_field_b rfl (hn rfl) rfl yhFo34_0 rfl (by exact List.cons_ne_nil _ _)) ?_
  refine ARun.step rfl (step_store_r rfl rfl yhCs22 rfl rfl rfl rfl rfl rfl rfl) ?_
  refine ARun.nil ?_
  refine AWp.seq (AWp.region ?_)
  refine ARun.step rfl (step_field_b rfl (hn rfl) rfl yhFo25_1 rfl (by exact List.cons_ne_nil _ _)) ?_
  refine ARun.step rfl (step_load_b rfl (hn rfl) rfl yhSc23 rfl rfl) ?_
  refine ARun.step rfl (call_stepN rfl (hn rfl) rfl yhCo124 (.cons rfl (.one (.v _)) (.nil)) (toBtS _ hs.2.1 hs.2.2) rfl rfl) ?_
  refine ARun.step rfl (step_field_b rfl (hn rfl) rfl yhFo34_1 rfl (by exact List.cons_ne_nil _ _)) ?_
  refine ARun.step rfl (step_store_r rfl rfl yhCs32 rfl rfl rfl rfl rfl rfl rfl) ?_
  refine ARun.nil ?_
  refine AWp.seq (AWp.region ?_)
  refine ARun.step rfl (step_loadS_b rfl (hn rfl) rfl yhSt34 rfl rfl rfl (by decide)) ?_
  refine ARun.step rfl (step_store_r rfl rfl yhCs34 rfl rfl rfl rfl rfl rfl rfl) ?_
  refine ARun.nil ?_
  refine AWp.ret ?_
  refine ⟨.inr rfl, 2, 2, _, _, _, yhSt34, by decide, rfl, rfl, rfl, rfl, (.cons rfl (.agg (.cons (.ref _ _ rfl) (.cons (.ref _ _ rfl) (.nil _)))) (.nil _)), rfl, ?_⟩
  refine congrArg PV.agg ?_
  rfl
theorem eqBtI (p q : Bt)  : ASpec Tryz.prog 181 [.agg p.cells, .agg q.cells] (.one (.bool (eqBt p q))) := by
  refine ASpec.body Tryz.func181 rfl [4] rfl 22 rfl rfl rfl ?_
  refine AWp.seq (AWp.region ?_)
  refine ARun.step rfl (step_box_p (m := 2) rfl (hn rfl) rfl rfl rfl rfl rfl) ?_
  refine ARun.step rfl (step_box_p (m := 2) rfl (hn rfl) rfl rfl rfl rfl rfl) ?_
  refine ARun.step rfl (step_assignV rfl (hn rfl) rfl rfl) ?_
  refine ARun.nil ?_
  refine AWp.seq ?_
  refine AWp.seq (AWp.region ?_)
  refine ARun.step rfl (step_field_b rfl (hn rfl) rfl yhFo105_0 rfl (by exact List.cons_ne_nil _ _)) ?_
  refine ARun.step rfl (step_load_b rfl (hn rfl) rfl yhSc9 rfl rfl) ?_
  refine ARun.step rfl (step_field_b rfl (hn rfl) rfl yhFo105_0 rfl (by exact List.cons_ne_nil _ _)) ?_
  refine ARun.step rfl (step_load_b rfl (hn rfl) rfl yhSc9 rfl rfl) ?_
  refine ARun.step rfl (step_sneq rfl (hn rfl) rfl rfl rfl) ?_
  refine ARun.nil ?_
  refine AWp.cond rfl (fun c1 => ?_) (fun c1 => ?_)
  · try simp only [nrm] at c1
    refine AWp.seq (AWp.region ?_)
    refine ARun.step rfl (step_assignV rfl (hn rfl) rfl rfl) ?_
    refine ARun.nil ?_
    refine AWp.ret ?_
    refine RetIs.sc (.inr rfl) rfl rfl ?_
    refine congrArg T.bool ?_
    simp_all [eqBt]
  · try simp only [nrm] at c1
    refine AWp.skip ?_
    refine AWp.seq ?_
    refine AWp.seq (AWp.region ?_)
    refine ARun.step rfl (step_field_b rfl (hn rfl) rfl yhFo105_1 rfl (by exact List.cons_ne_nil _ _)) ?_
    refine ARun.step rfl (step_load_b rfl (hn rfl) rfl yhSc22 rfl rfl) ?_
    refine ARun.step rfl (step_field_b rfl (hn rfl) rfl yhFo105_1 rfl (by exact List.cons_ne_nil _ _)) ?_
    refine ARun.step rfl (step_load_b rfl (hn rfl) rfl yhSc22 rfl rfl) ?_
    refine ARun.step rfl (call_step1 rfl (hn rfl) rfl yhCo11 (.cons rfl (.one (.v _)) (.cons rfl (.one (.v _)) (.nil))) (eqStrS _ _) rfl) ?_
    refine ARun.step rfl (step_not rfl (hn rfl) rfl rfl) ?_
    refine ARun.nil ?_
    refine AWp.cond rfl (fun c2 => ?_) (fun c2 => ?_)
    · try simp only [nrm] at c2
      refine AWp.seq (AWp.region ?_)
      refine ARun.step rfl (step_assignV rfl (hn rfl) rfl rfl) ?_
      refine ARun.nil ?_
      refine AWp.ret ?_
      refine RetIs.sc (.inr rfl) rfl rfl ?_
      refine congrArg T.bool ?_
      simp_all [eqBt]
    · try simp only [nrm] at c2
      refine AWp.skip ?_
      refine AWp.seq ?_
      refine AWp.seq (AWp.region ?_)
      refine ARun.step rfl (step_field_b rfl (hn rfl) rfl yhFo105_2 rfl (by exact List.cons_ne_nil _ _)) ?_
      refine ARun.step rfl (step_load_b rfl (hn rfl) rfl yhSc22 rfl rfl) ?_
      refine ARun.step rfl (step_field_b rfl (hn rfl) rfl yhFo105_2 rfl (by exact List.cons_ne_nil _ _)) ?_
      refine ARun.step rfl (step_load_b rfl (hn rfl) rfl yhSc22 rfl rfl) ?_
      refine ARun.step rfl (call_step1 rfl (hn rfl) rfl yhCo11 (.cons rfl (.one (.v _)) (.cons rfl (.one (.v _)) (.nil))) (eqStrS _ _) rfl) ?_
      refine ARun.step rfl (step_not rfl (hn rfl) rfl rfl) ?_
      refine ARun.nil ?_
      refine AWp.cond rfl (fun c3 => ?_) (fun c3 => ?_)
      · try simp only [nrm] at c3
        refine AWp.seq (AWp.region ?_)
        refine ARun.step rfl (step_assignV rfl (hn rfl) rfl rfl) ?_
        refine ARun.nil ?_
        refine AWp.ret ?_
        refine RetIs.sc (.inr rfl) rfl rfl ?_
        refine congrArg T.bool ?_
        simp_all [eqBt]
      · try simp only [nrm] at c3
        refine AWp.skip ?_
        refine AWp.seq (AWp.region ?_)
        refine ARun.step rfl (step_assignV rfl (hn rfl) rfl rfl) ?_
        refine ARun.nil ?_
        refine AWp.ret ?_
        refine RetIs.sc (.inr rfl) rfl rfl ?_
        refine congrArg T.bool ?_
        simp_all [eqBt]
theorem eqBtS (a b : List Bt)  : ASpec Tryz.prog 129 [.one (bts 105 a), .one (bts 105 b)] (.one (.bool (eqL eqBt a b))) := by
  refine ASpec.body Tryz.func129 rfl [4] rfl 27 rfl rfl rfl ?_
  refine AWp.lenLe 0 rfl (fun hl => ?_)
  refine AWp.seq (AWp.region ?_)
  refine ARun.step rfl (step_assignV rfl (hn rfl) rfl rfl) ?_
  refine ARun.nil ?_
  refine AWp.seq ?_
  refine AWp.seq (AWp.region ?_)
  refine ARun.step rfl (step_moveV rfl (hn rfl) rfl rfl) ?_
  refine ARun.step rfl (step_len_f rfl (hn rfl) rfl yhSl32 rfl) ?_
  refine ARun.step rfl (step_moveV rfl (hn rfl) rfl rfl) ?_
  refine ARun.step rfl (step_len_f rfl (hn rfl) rfl yhSl32 rfl) ?_
  refine ARun.step rfl (step_neq rfl (hn rfl) rfl rfl rfl) ?_
  refine ARun.nil ?_
  refine AWp.cond rfl (fun c1 => ?_) (fun c1 => ?_)
  · try simp only [nrm] at c1
    refine AWp.seq (AWp.region ?_)
    refine ARun.step rfl (step_assignV rfl (hn rfl) rfl rfl) ?_
    refine ARun.nil ?_
    refine AWp.ret ?_
    refine RetIs.sc (.inr rfl) rfl rfl ?_
    refine congrArg T.bool ?_
    rw [eqL, show (a.length == b.length) = false by simp; omega, Bool.false_and]
  · try simp only [nrm] at c1
    refine AWp.skip ?_
    refine AWp.seq ?_
    refine AWp.seq (AWp.region ?_)
    refine ARun.step rfl (step_assignV rfl (hn rfl) rfl rfl) ?_
    refine ARun.nil ?_
    refine AWp.block ?_
    refine AWp.loopM (fun i : Nat => mkAS 27 [(0, ⟨true, .one (.v (bts 105 a))⟩), (1, ⟨true, .one (.v (bts 105 b))⟩), (5, ⟨true, .one (.v (.int .i64 (i : Nat)))⟩)] [] []) (fun i => i ≤ a.length ∧ ∀ j, j < i → eqBt (nth a j) (nth b j) = true) (fun i => a.length - i) 0 ?_ (Le.forgetR rfl ⟨rfl, rfl, rfl, trivial⟩ trivial trivial) ?_
    · try dsimp only
      exact ⟨by omega, by omega⟩
    rintro i ⟨hi, hall⟩
    refine AWp.seq ?_
    refine AWp.seq (AWp.region ?_)
    refine ARun.step rfl (step_moveV rfl (hn rfl) rfl rfl) ?_
    refine ARun.step rfl (step_moveV rfl (hn rfl) rfl rfl) ?_
    refine ARun.step rfl (step_len_f rfl (hn rfl) rfl yhSl32 rfl) ?_
    refine ARun.step rfl (step_lss rfl (hn rfl) rfl rfl rfl) ?_
    refine ARun.nil ?_
    refine AWp.cond rfl (fun c2 => ?_) (fun c2 => ?_)
    · try simp only [nrm] at c2
      refine AWp.skip ?_
      refine AWp.seq ?_
      refine AWp.block ?_
      refine AWp.seq (AWp.draw [⟨[.s 0], [.s 17], false⟩, ⟨[.s 5], [.s 18], false⟩, ⟨[.s 17, .s 18], [.s 19], false⟩, ⟨[.s 19], [.s 20], false⟩, ⟨[.s 1], [.s 21], false⟩, ⟨[.s 5], [.s 22], false⟩, ⟨[.s 21, .s 22], [.s 23], false⟩, ⟨[.s 23], [.s 24], false⟩, ⟨[.s 24, .s 20], [.s 25], false⟩, ⟨[.s 25], [.s 26], false⟩] yhMo rfl ?_)
      refine DRun.step rfl (fun τ hN hr => step_moveV rfl (rdN hN (hn rfl)) rfl (by exact rdS hr rfl rfl)) ?_
      refine DRun.step rfl (fun τ hN hr => step_moveV rfl (rdN hN (hn rfl)) rfl (by exact rdS hr rfl rfl)) ?_
      refine DRun.step rfl (fun τ hN hr => step_index_fN rfl (rdN hN (hn rfl)) rfl yhSl32 (by exact rdS hr rfl rfl) (by exact rdS hr rfl rfl) (by omega)) ?_
      refine DRun.step rfl (fun τ hN hr => step_loadS_f rfl (rdN hN (hn rfl)) rfl yhSt105 (by exact rdS hr rfl rfl) (hn rfl) rfl rfl) ?_
      refine DRun.step rfl (fun τ hN hr => step_moveV rfl (rdN hN (hn rfl)) rfl (by exact rdS hr rfl rfl)) ?_
      refine DRun.step rfl (fun τ hN hr => step_moveV rfl (rdN hN (hn rfl)) rfl (by exact rdS hr rfl rfl)) ?_
      refine DRun.step rfl (fun τ hN hr => step_index_fN rfl (rdN hN (hn rfl)) rfl yhSl32 (by exact rdS hr rfl rfl) (by exact rdS hr rfl rfl) (by omega)) ?_
      refine DRun.step rfl (fun τ hN hr => step_loadS_f rfl (rdN hN (hn rfl)) rfl yhSt105 (by exact rdS hr rfl rfl) (hn rfl) rfl rfl) ?_
      refine DRun.step rfl (fun τ hN hr => call_step1 rfl (rdN hN (hn rfl)) rfl yhCo181 (.cons (by exact rdS hr rfl rfl) (.agg (.cons (.v _) (.cons (.v _) (.cons (.v _) .nil)))) (.cons (by exact rdS hr rfl rfl) (.agg (.cons (.v _) (.cons (.v _) (.cons (.v _) .nil)))) (.nil))) (eqBtI _ _) rfl) ?_
      refine DRun.step rfl (fun τ hN hr => step_not rfl (rdN hN (hn rfl)) rfl (by exact rdS hr rfl rfl)) ?_
      refine DRun.nil ?_
      refine AWp.cond rfl (fun c3 => ?_) (fun c3 => ?_)
      · try simp only [nrm] at c3
        refine AWp.seq (AWp.region ?_)
        refine ARun.step rfl (step_assignV rfl (hn rfl) rfl rfl) ?_
        refine ARun.nil ?_
        refine AWp.ret ?_
        refine RetIs.sc (.inr rfl) rfl rfl ?_
        refine congrArg T.bool ?_
        rw [eqL, all_not (i := i) (by omega) (by assumption), Bool.and_false]
      · try simp only [nrm] at c3
        refine AWp.skip ?_
        refine AWp.region ?_
        refine ARun.step rfl (step_moveV rfl (hn rfl) rfl rfl) ?_
        refine ARun.step rfl (step_addI rfl (hn rfl) rfl rfl rfl (by omega) (by omega)) ?_
        refine ARun.step rfl (step_assignV rfl (hn rfl) rfl rfl) ?_
        refine ARun.nil ?_
        refine ⟨i + 1, ?_, ?_, Le.forgetR rfl ⟨rfl, rfl, rfl, trivial⟩ trivial trivial⟩
        · try dsimp only
          exact ⟨by omega, upto hall (by assumption)⟩
        · try dsimp only
          omega
    · try simp only [nrm] at c2
      refine AWp.exit ?_
      refine AWp.seq (AWp.region ?_)
      refine ARun.step rfl (step_assignV rfl (hn rfl) rfl rfl) ?_
      refine ARun.nil ?_
      refine AWp.ret ?_
      refine RetIs.sc (.inr rfl) rfl rfl ?_
      refine congrArg T.bool ?_
      rw [eqL, all_of (fun j hj => hall j (by omega)), show (a.length == b.length) = true by simp; omega, Bool.and_true]
theorem eqBkI (p q : Bk)  : ASpec Tryz.prog 54 [.agg (p.cells 105), .agg (q.cells 105)] (.one (.bool (eqBk p q))) := by
  refine ASpec.body Tryz.func54 rfl [4] rfl 17 rfl rfl rfl ?_
  refine AWp.seq (AWp.region ?_)
  refine ARun.step rfl (step_box_p (m := 1) rfl (hn rfl) rfl rfl rfl rfl rfl) ?_
  refine ARun.step rfl (step_box_p (m := 1) rfl (hn rfl) rfl rfl rfl rfl rfl) ?_
  refine ARun.step rfl (step_assignV rfl (hn rfl) rfl rfl) ?_
  refine ARun.nil ?_
  refine AWp.seq ?_
  refine AWp.seq (AWp.region ?_)
  refine ARun.step rfl (step_field_b rfl (hn rfl) rfl yhFo34_0 rfl (by exact List.cons_ne_nil _ _)) ?_
  refine ARun.step rfl (step_load_b rfl (hn rfl) rfl yhSc22 rfl rfl) ?_
  refine ARun.step rfl (step_field_b rfl (hn rfl) rfl yhFo34_0 rfl (by exact List.cons_ne_nil _ _)) ?_
  refine ARun.step rfl (step_load_b rfl (hn rfl) rfl yhSc22 rfl rfl) ?_
  refine ARun.step rfl (call_step1 rfl (hn rfl) rfl yhCo11 (.cons rfl (.one (.v _)) (.cons rfl (.one (.v _)) (.nil))) (eqStrS _ _) rfl) ?_
  refine ARun.step rfl (step_not rfl (hn rfl) rfl rfl) ?_
  refine ARun.nil ?_
  refine AWp.cond rfl (fun c1 => ?_) (fun c1 => ?_)
  · try simp only [nrm] at c1
    refine AWp.seq (AWp.region ?_)
    refine ARun.step rfl (step_assignV rfl (hn rfl) rfl rfl) ?_
    refine ARun.nil ?_
    refine AWp.ret ?_
    refine RetIs.sc (.inr rfl) rfl rfl ?_
    refine congrArg T.bool ?_
    simp_all [eqBk]
  · try simp only [nrm] at c1
    refine AWp.skip ?_
    refine AWp.seq ?_
    refine AWp.seq (AWp.region ?_)
    refine ARun.step rfl (step_field_b rfl (hn rfl) rfl yhFo34_1 rfl (by exact List.cons_ne_nil _ _)) ?_
    refine ARun.step rfl (step_load_b rfl (hn rfl) rfl yhSc32 rfl rfl) ?_
    refine ARun.step rfl (step_field_b rfl (hn rfl) rfl yhFo34_1 rfl (by exact List.cons_ne_nil _ _)) ?_
    refine ARun.step rfl (step_load_b rfl (hn rfl) rfl yhSc32 rfl rfl) ?_
    refine ARun.step rfl (call_step1 rfl (hn rfl) rfl yhCo129 (.cons rfl (.one (.v _)) (.cons rfl (.one (.v _)) (.nil))) (eqBtS _ _) rfl) ?_
    refine ARun.step rfl (step_not rfl (hn rfl) rfl rfl) ?_
    refine ARun.nil ?_
    refine AWp.cond rfl (fun c2 => ?_) (fun c2 => ?_)
    · try simp only [nrm] at c2
      refine AWp.seq (AWp.region ?_)
      refine ARun.step rfl (step_assignV rfl (hn rfl) rfl rfl) ?_
      refine ARun.nil ?_
      refine AWp.ret ?_
      refine RetIs.sc (.inr rfl) rfl rfl ?_
      refine congrArg T.bool ?_
      simp_all [eqBk]
    · try simp only [nrm] at c2
      refine AWp.skip ?_
      refine AWp.seq (AWp.region ?_)
      refine ARun.step rfl (step_assignV rfl (hn rfl) rfl rfl) ?_
      refine ARun.nil ?_
      refine AWp.ret ?_
      refine RetIs.sc (.inr rfl) rfl rfl ?_
      refine congrArg T.bool ?_
      simp_all [eqBk]
theorem markBtS (l : List Bt) (k : Int) (h0 : 0 ≤ k) (h1 : k + cntTo l l.length ≤ 1152921504606846976) : MSpec Tryz.prog 132 [.one (.rw (btsO 105 l) (mkBts l k)), .one (.ro (.int .i64 k))] (.int .i64 (k + cntTo l l.length)) := by
  refine MSpec.body Tryz.func132 rfl 4 rfl 35 rfl rfl rfl rfl ?_
  refine AWp.seq (AWp.region ?_)
  refine ARun.step rfl (step_assignV rfl (hn rfl) rfl rfl) ?_
  refine ARun.nil ?_
  refine AWp.seq ?_
  refine AWp.seq (AWp.region ?_)
  refine ARun.step rfl (step_assignV rfl (hn rfl) rfl rfl) ?_
  refine ARun.nil ?_
  refine AWp.block ?_
  refine AWp.loopM (fun x : Nat × Int => mkAS 35 [(0, ⟨true, .one (.ref ⟨.arr 1000000 0, []⟩)⟩), (1, ⟨true, .one (.v (.int .i64 x.2))⟩), (5, ⟨true, .one (.v (.int .i64 (x.1 : Nat)))⟩)] [] [(1000000, 0, .sl 105 3 l.length (mkBtTo l k x.1))]) (fun x => x.1 ≤ l.length ∧ x.2 = k + cntTo l x.1) (fun x => l.length - x.1) (0, k) ?_ (Le.forgetR rfl ⟨rfl, rfl, rfl, trivial⟩ trivial ⟨.rows (fun _ _ => rfl), trivial⟩) ?_
  · try dsimp only
    exact ⟨by omega, by simp [cntTo]⟩
  rintro x ⟨hi, hk⟩
  refine AWp.seq ?_
  refine AWp.seq (AWp.region ?_)
  refine ARun.step rfl (step_moveV rfl (hn rfl) rfl rfl) ?_
  refine ARun.step rfl (step_moveV rfl (hn rfl) rfl rfl) ?_
  refine ARun.step rfl (step_len_r rfl (hn rfl) rfl yhSl32 rfl rfl) ?_
  refine ARun.step rfl (step_lss rfl (hn rfl) rfl rfl rfl) ?_
  refine ARun.nil ?_
  refine AWp.cond rfl (fun c1 => ?_) (fun c1 => ?_)
  · try simp only [nrm] at c1
    have m0 := cntTo_nn l x.1
    have m3 := cntTo_ge l l.length
    have m1 : cntTo l (x.1 + 1) = cntTo l x.1 + cntBt (nth l x.1) := rfl
    have m2 := cntTo_mono l (i := x.1 + 1) (j := l.length) (by omega)
    unfold cntBt at m1
    refine AWp.skip ?_
    refine AWp.seq ?_
    refine AWp.block ?_
    refine AWp.seq (AWp.region ?_)
    refine ARun.step rfl (step_moveV rfl (hn rfl) rfl rfl) ?_
    refine ARun.step rfl (step_moveV rfl (hn rfl) rfl rfl) ?_
    refine ARun.step rfl (step_moveV rfl (hn rfl) rfl rfl) ?_
    refine ARun.step rfl (call_step1 rfl (hn rfl) rfl yhCo60 (.cons rfl (.one (.v _)) (.nil)) (markText _ (by omega) (by omega)) rfl) ?_
    refine ARun.step rfl (step_index_rN rfl (hn rfl) rfl yhSl32 rfl rfl rfl (by omega)) ?_
    refine ARun.step rfl (step_field_e rfl (hn rfl) rfl yhFo105_0 rfl rfl) ?_
    refine ARun.step rfl (step_store_e rfl rfl yhCs9 rfl rfl (by omega) (hn rfl) rfl rfl rfl) ?_
    refine ARun.nil ?_
    refine AWp.seq (AWp.region ?_)
    refine ARun.step rfl (step_moveV rfl (hn rfl) rfl rfl) ?_
    refine ARun.step rfl (step_addI rfl (hn rfl) rfl rfl rfl (by omega) (by omega)) ?_
    refine ARun.step rfl (step_assignV rfl (hn rfl) rfl rfl) ?_
    refine ARun.nil ?_
    refine AWp.seq (AWp.region ?_)
    refine ARun.step rfl (step_moveV rfl (hn rfl) rfl rfl) ?_
    refine ARun.step rfl (step_moveV rfl (hn rfl) rfl rfl) ?_
    refine ARun.step rfl (step_index_rN rfl (hn rfl) rfl yhSl32 rfl rfl rfl (by omega)) ?_
    refine ARun.step rfl (step_field_e rfl (hn rfl) rfl yhFo105_1 rfl rfl) ?_
    refine ARun.step rfl (step_load_e rfl (hn rfl) rfl yhSc22 rfl rfl (by omega) (hn rfl) btRow1) ?_
    refine ARun.step rfl (step_moveV rfl (hn rfl) rfl rfl) ?_
    refine ARun.step rfl (mcall_one (K := 0) (i := 0) (j := 0) rfl (hn rfl) rfl yhCo14 (.cons rfl (.one (.rw _ rfl ((node_push _ _ _ _ rfl (by omega)).trans btRow1) rfl)) (.cons rfl (.one (.v (.refl _))) (.nil _))) (markStrS (nth l x.1).has _ (by omega) (by omega)) rfl rfl rfl rfl ((node_push _ _ _ _ rfl (by omega)).trans btRow1) rfl rfl) ?_
    refine ARun.step rfl (step_assignV rfl (hn rfl) rfl rfl) ?_
    refine ARun.nil ?_
    refine AWp.region ?_
    refine ARun.step rfl (step_moveV rfl (hn rfl) rfl rfl) ?_
    refine ARun.step rfl (step_moveV rfl (hn rfl) rfl rfl) ?_
    refine ARun.step rfl (step_index_rN rfl (hn rfl) rfl yhSl32 rfl rfl rfl (by omega)) ?_
    refine ARun.step rfl (step_field_e rfl (hn rfl) rfl yhFo105_2 rfl rfl) ?_
    refine ARun.step rfl (step_load_e rfl (hn rfl) rfl yhSc22 rfl rfl (by omega) (hn rfl) btRow2) ?_
    refine ARun.step rfl (step_moveV rfl (hn rfl) rfl rfl) ?_
    refine ARun.step rfl (mcall_one (K := 0) (i := 0) (j := 0) rfl (hn rfl) rfl yhCo14 (.cons rfl (.one (.rw _ rfl ((node_push _ _ _ _ rfl (by omega)).trans btRow2) rfl)) (.cons rfl (.one (.v (.refl _))) (.nil _))) (markStrS (nth l x.1).needs _ (by omega) (by omega)) rfl rfl rfl rfl ((node_push _ _ _ _ rfl (by omega)).trans btRow2) rfl rfl) ?_
    refine ARun.step rfl (step_assignV rfl (hn rfl) rfl rfl) ?_
    refine ARun.nil ?_
    refine AWp.region ?_
    refine ARun.step rfl (step_moveV rfl (hn rfl) rfl rfl) ?_
    refine ARun.step rfl (step_addI rfl (hn rfl) rfl rfl rfl (by omega) (by omega)) ?_
    refine ARun.step rfl (step_assignV rfl (hn rfl) rfl rfl) ?_
    refine ARun.nil ?_
    refine ⟨(x.1 + 1, x.2 + 1 + (nth l x.1).has.length + (nth l x.1).needs.length), ?_, ?_, Le.forgetR rfl ⟨rfl, rfl, rfl, trivial⟩ trivial ⟨.rows (fun j _ => by rw [setRow3 (by rw [mkBtTo_at]; rfl)]; exact mkBtTo_next l k x.1 j _ (by rw [hk]; rfl)), trivial⟩⟩
    · try dsimp only
      exact ⟨by omega, by omega⟩
    · try dsimp only
      omega
  · try simp only [nrm] at c1
    refine AWp.exit ?_
    refine AWp.seq (AWp.region ?_)
    refine ARun.step rfl (step_moveV rfl (hn rfl) rfl rfl) ?_
    refine ARun.step rfl (step_assignV rfl (hn rfl) rfl rfl) ?_
    refine ARun.nil ?_
    refine AWp.ret ?_
    refine RetIs.mk (.inr rfl) rfl rfl ?_ ⟨⟨⟨_, _, _, _, _, rfl, rfl, .rows (fun j hj => mkBtTo_all l k _ j (by omega))⟩, trivial⟩, ⟨trivial, trivial⟩⟩
    refine congrArg (T.int _) ?_
    rw [hk, show x.1 = l.length by omega]
theorem markBk (p : Bk) (k : Int) (h0 : 0 ≤ k) (h1 : k + p.things.length + cntTo p.bs p.bs.length ≤ 1152921504606846976) : MSpec Tryz.prog 57 [.agg [.rw (strs p.things) (mkS p.things.length k), .rw (btsO 105 p.bs) (mkBts p.bs (k + p.things.length))], .one (.ro (.int .i64 k))] (.int .i64 (k + p.things.length + cntTo p.bs p.bs.length)) := by
  refine MSpec.body Tryz.func57 rfl 4 rfl 14 rfl rfl rfl rfl ?_
  have m0 := cntTo_nn p.bs p.bs.length
  refine AWp.seq (AWp.region ?_)
  refine ARun.step rfl (step_box_r (m := 1) rfl (hn rfl) rfl rfl rfl rfl rfl) ?_
  refine ARun.step rfl (step_assignV rfl (hn rfl) rfl rfl) ?_
  refine ARun.nil ?_
  refine AWp.seq (AWp.region ?_)
  refine ARun.step rfl (step_field_b rfl (hn rfl) rfl yhFo34_0 rfl (by exact List.cons_ne_nil _ _)) ?_
  refine ARun.step rfl (step_load_b rfl (hn rfl) rfl yhSc22 rfl rfl) ?_
  refine ARun.step rfl (step_moveV rfl (hn rfl) rfl rfl) ?_
  refine ARun.step rfl (mcall_roots (L := [(⟨.arr 1000000 0, []⟩, 0)]) (TL := [(1000000, 0, _)]) rfl (hn rfl) rfl yhCo14 rfl (.cons rfl (.one (.rw _ rfl rfl rfl)) (.cons rfl (.one (.v (.refl _))) (.nil _))) (markStrS p.things k (by omega) (by omega)) rfl (.cons (i := 0) (j := 0) rfl rfl rfl rfl rfl rfl .nil)) ?_
  refine ARun.step rfl (step_assignV rfl (hn rfl) rfl rfl) ?_
  refine ARun.nil ?_
  refine AWp.seq (AWp.region ?_)
  refine ARun.step rfl (step_field_b rfl (hn rfl) rfl yhFo34_1 rfl (by exact List.cons_ne_nil _ _)) ?_
  refine ARun.step rfl (step_load_b rfl (hn rfl) rfl yhSc32 rfl rfl) ?_
  refine ARun.step rfl (step_moveV rfl (hn rfl) rfl rfl) ?_
  refine ARun.step rfl (mcall_roots (L := [(⟨.arr 1000000 1, []⟩, 0)]) (TL := [(1000000, 1, _)]) rfl (hn rfl) rfl yhCo132 rfl (.cons rfl (.one (.rw _ rfl rfl rfl)) (.cons rfl (.one (.v (.refl _))) (.nil _))) (markBtS p.bs (k + p.things.length) (by omega) (by omega)) rfl (.cons (i := 0) (j := 0) rfl rfl rfl rfl rfl rfl .nil)) ?_
  refine ARun.step rfl (step_assignV rfl (hn rfl) rfl rfl) ?_
  refine ARun.nil ?_
  refine AWp.seq (AWp.region ?_)
  refine ARun.step rfl (step_moveV rfl (hn rfl) rfl rfl) ?_
  refine ARun.step rfl (step_assignV rfl (hn rfl) rfl rfl) ?_
  refine ARun.nil ?_
  refine AWp.ret ?_
  refine RetIs.mk (.inr rfl) rfl rfl ?_ ⟨⟨⟨_, _, _, _, _, rfl, rfl, .refl _⟩, ⟨⟨_, _, _, _, _, rfl, rfl, .refl _⟩, trivial⟩⟩, ⟨trivial, trivial⟩⟩
  refine congrArg (T.int _) ?_
  rfl

end Go.Proofs.YtkmacjdigkaabaaGreat
