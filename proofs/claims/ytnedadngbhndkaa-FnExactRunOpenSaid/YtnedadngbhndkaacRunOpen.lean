/- Contracts of functions of the program, each met by its body; conditions stand in each statement. No condition. -/
import Derived.Test.YtnedadngbhndkaacShr
import Derived.Test.YtnedadngbhndkaaProg
import Derived.KernelRfl
set_option linter.unusedVariables false
set_option linter.unusedSimpArgs false
set_option linter.unnecessarySimpa false
set_option linter.unusedSimpArgs false
set_option maxRecDepth 100000
namespace Go.Proofs.Ytnedadngbhndkaa
open Go Go.Mh

def noB (e n : Nat) : T := .sl e n 0 (fun _ => [])
def hz (l : List Str) : List T := [.int .i64 0, .int .i64 0, strs l, bts 94 [], noB 114 6, noB 117 3]
def ho (l : List Str) : List T := [.int .i64 0, .int .i64 0, strs l, btsO 94 [], noB 114 6, noB 117 3]
def openR (l : List Str) : List Str := if bookOk ⟨l, []⟩ = true then l else []

theorem clean_noB (e n : Nat) : Mh.Clean (noB e n) := .sl (fun i j hi hj => absurd hi (Nat.not_lt_zero i))

theorem openR_len (l : List Str) : (openR l).length ≤ l.length := by
  unfold openR; split
  · exact Nat.le_refl _
  · exact Nat.zero_le _

theorem yoSl46 : sliceT Try.prog 46 = some ⟨114, 6, 96⟩ := by kernel_rfl
theorem yoSl47 : sliceT Try.prog 47 = some ⟨117, 3, 32⟩ := by kernel_rfl
theorem yoFo49_0 : fieldOff Try.prog 49 0 = some 0 := by kernel_rfl
theorem yoSc3 : scalarB Try.prog 3 = true := by kernel_rfl
theorem yoFo49_1 : fieldOff Try.prog 49 1 = some 1 := by kernel_rfl
theorem yoFo49_2 : fieldOff Try.prog 49 2 = some 2 := by kernel_rfl
theorem yoSt45 : structSz Try.prog 45 = some 2 := by kernel_rfl
theorem yoCo32 : callOk Try.prog 32 = true := by kernel_rfl
theorem yoFo49_3 : fieldOff Try.prog 49 3 = some 4 := by kernel_rfl
theorem yoSc46 : scalarB Try.prog 46 = true := by kernel_rfl
theorem yoCo55 : callOk Try.prog 55 = true := by kernel_rfl
theorem yoFo49_4 : fieldOff Try.prog 49 4 = some 5 := by kernel_rfl
theorem yoSc47 : scalarB Try.prog 47 = true := by kernel_rfl
theorem yoCo56 : callOk Try.prog 56 = true := by kernel_rfl
theorem yoCo33 : callOk Try.prog 33 = true := by kernel_rfl
theorem yoCo57 : callOk Try.prog 57 = true := by kernel_rfl
theorem yoCo58 : callOk Try.prog 58 = true := by kernel_rfl
theorem yoCo34 : callOk Try.prog 34 = true := by kernel_rfl
theorem yoCo59 : callOk Try.prog 59 = true := by kernel_rfl
theorem yoCo60 : callOk Try.prog 60 = true := by kernel_rfl
theorem yoZs49 : zeroSz Try.prog 49 = some 6 := by kernel_rfl
theorem yoCo53 : callOk Try.prog 53 = true := by kernel_rfl
theorem yoPl45 : structPl Try.prog 45 = some [(0, 1), (1, 1)] := by kernel_rfl
theorem yoZc45 : zeroCs Try.prog 45 = some [.nil, .nil] := by kernel_rfl
theorem yoZs45 : zeroSz Try.prog 45 = some 2 := by kernel_rfl
theorem yoCs45 : cellsSz Try.prog 45 = some (1 + 1) := by kernel_rfl
theorem yoCo54 : callOk Try.prog 54 = true := by kernel_rfl
theorem yoPl49 : structPl Try.prog 49 = some [(0, 1), (1, 1), (2, 2), (4, 1), (5, 1)] := by kernel_rfl
theorem yoZc49 : zeroCs Try.prog 49 = some [.v (.int .i64 0), .v (.int .i64 0), .nil, .nil, .nil, .nil] := by kernel_rfl
theorem yoCs49 : cellsSz Try.prog 49 = some (5 + 1) := by kernel_rfl
theorem yoSt49 : structSz Try.prog 49 = some 6 := by kernel_rfl
theorem yoCo51 : callOk Try.prog 51 = true := by kernel_rfl
theorem yoCo52 : callOk Try.prog 52 = true := by kernel_rfl
theorem yoCo21 : callOk Try.prog 21 = true := by kernel_rfl
theorem yoCo23 : callOk Try.prog 23 = true := by kernel_rfl
theorem yoCo22 : callOk Try.prog 22 = true := by kernel_rfl
theorem yoCo24 : callOk Try.prog 24 = true := by kernel_rfl
theorem yoCo25 : callOk Try.prog 25 = true := by kernel_rfl
theorem yoUb4 : Try.prog.underlying 4 = some .bool := by kernel_rfl
theorem yoCo14 : callOk Try.prog 14 = true := by kernel_rfl
theorem yoCo19 : callOk Try.prog 19 = true := by kernel_rfl
theorem yoCo26 : callOk Try.prog 26 = true := by kernel_rfl
theorem yoCo27 : callOk Try.prog 27 = true := by kernel_rfl
theorem eqBatch0   : ASpec Try.prog 55 [.one (noB 114 6), .one (noB 114 6)] (.one (.bool true)) := by
  refine ASpec.body Try.func55 rfl [4] rfl 27 rfl rfl rfl ?_
  refine AWp.seq (AWp.region ?_)
  refine ARun.step rfl (step_assignV rfl (hn rfl) rfl rfl) ?_
  refine ARun.nil ?_
  refine AWp.seq ?_
  refine AWp.seq (AWp.region ?_)
  refine ARun.step rfl (step_moveV rfl (hn rfl) rfl rfl) ?_
  refine ARun.step rfl (step_len_f rfl (hn rfl) rfl yoSl46 rfl) ?_
  refine ARun.step rfl (step_moveV rfl (hn rfl) rfl rfl) ?_
  refine ARun.step rfl (step_len_f rfl (hn rfl) rfl yoSl46 rfl) ?_
  refine ARun.step rfl (step_neq rfl (hn rfl) rfl rfl rfl) ?_
  refine ARun.nil ?_
  refine AWp.cond rfl (fun c1 => ?_) (fun c1 => ?_)
  · try simp only [decide_eq_true_eq, decide_eq_false_iff_not, beq_iff_eq, bne_iff_ne, Bool.not_eq_true', Bool.not_eq_false', Bool.and_eq_true, Bool.or_eq_true, Bool.and_eq_false_iff, Bool.or_eq_false_iff, Int.not_lt, Int.not_le, gt_iff_lt, ge_iff_le, bne_eq_false_iff_eq, beq_eq_false_iff_ne, ne_eq, Int.toNat_natCast] at c1
    refine AWp.seq (AWp.region ?_)
    refine ARun.step rfl (step_assignV rfl (hn rfl) rfl rfl) ?_
    refine ARun.nil ?_
    refine AWp.ret ?_
    refine RetIs.sc (.inr rfl) rfl rfl ?_
    refine congrArg T.bool ?_
    exact absurd trivial c1
  · try simp only [decide_eq_true_eq, decide_eq_false_iff_not, beq_iff_eq, bne_iff_ne, Bool.not_eq_true', Bool.not_eq_false', Bool.and_eq_true, Bool.or_eq_true, Bool.and_eq_false_iff, Bool.or_eq_false_iff, Int.not_lt, Int.not_le, gt_iff_lt, ge_iff_le, bne_eq_false_iff_eq, beq_eq_false_iff_ne, ne_eq, Int.toNat_natCast] at c1
    refine AWp.skip ?_
    refine AWp.seq ?_
    refine AWp.seq (AWp.region ?_)
    refine ARun.step rfl (step_assignV rfl (hn rfl) rfl rfl) ?_
    refine ARun.nil ?_
    refine AWp.block ?_
    refine AWp.loopM (fun i : Nat => mkAS 27 [(0, ⟨true, .one (.v (noB 114 6))⟩), (1, ⟨true, .one (.v (noB 114 6))⟩), (5, ⟨true, .one (.v (.int .i64 (i : Nat)))⟩)] [] []) (fun i => i ≤ 0) (fun i => 0) 0 ?_ (Le.forgetR rfl ⟨rfl, rfl, rfl, trivial⟩ trivial trivial) ?_
    · try dsimp only
      omega
    rintro i hi
    refine AWp.seq ?_
    refine AWp.seq (AWp.region ?_)
    refine ARun.step rfl (step_moveV rfl (hn rfl) rfl rfl) ?_
    refine ARun.step rfl (step_moveV rfl (hn rfl) rfl rfl) ?_
    refine ARun.step rfl (step_len_f rfl (hn rfl) rfl yoSl46 rfl) ?_
    refine ARun.step rfl (step_lss rfl (hn rfl) rfl rfl rfl) ?_
    refine ARun.nil ?_
    refine AWp.cond rfl (fun c2 => ?_) (fun c2 => ?_)
    · try simp only [decide_eq_true_eq, decide_eq_false_iff_not, beq_iff_eq, bne_iff_ne, Bool.not_eq_true', Bool.not_eq_false', Bool.and_eq_true, Bool.or_eq_true, Bool.and_eq_false_iff, Bool.or_eq_false_iff, Int.not_lt, Int.not_le, gt_iff_lt, ge_iff_le, bne_eq_false_iff_eq, beq_eq_false_iff_ne, ne_eq, Int.toNat_natCast] at c2
      omega
    · try simp only [decide_eq_true_eq, decide_eq_false_iff_not, beq_iff_eq, bne_iff_ne, Bool.not_eq_true', Bool.not_eq_false', Bool.and_eq_true, Bool.or_eq_true, Bool.and_eq_false_iff, Bool.or_eq_false_iff, Int.not_lt, Int.not_le, gt_iff_lt, ge_iff_le, bne_eq_false_iff_eq, beq_eq_false_iff_ne, ne_eq, Int.toNat_natCast] at c2
      refine AWp.exit ?_
      refine AWp.seq (AWp.region ?_)
      refine ARun.step rfl (step_assignV rfl (hn rfl) rfl rfl) ?_
      refine ARun.nil ?_
      refine AWp.ret ?_
      refine RetIs.sc (.inr rfl) rfl rfl ?_
      refine congrArg T.bool ?_
      rfl
theorem markBatch0 (k : Int)  : MSpec Try.prog 57 [.one (.rw (noB 114 6) (noB 114 6)), .one (.ro (.int .i64 k))] (.int .i64 k) := by
  refine MSpec.body Try.func57 rfl 4 rfl 57 rfl rfl rfl rfl ?_
  refine AWp.seq (AWp.region ?_)
  refine ARun.step rfl (step_assignV rfl (hn rfl) rfl rfl) ?_
  refine ARun.nil ?_
  refine AWp.seq ?_
  refine AWp.seq (AWp.region ?_)
  refine ARun.step rfl (step_assignV rfl (hn rfl) rfl rfl) ?_
  refine ARun.nil ?_
  refine AWp.block ?_
  refine AWp.loopM (fun i : Nat => mkAS 57 [(0, ⟨true, .one (.ref ⟨.arr 1000000 0, []⟩)⟩), (1, ⟨true, .one (.v (.int .i64 k))⟩), (5, ⟨true, .one (.v (.int .i64 (i : Nat)))⟩)] [] [(1000000, 0, noB 114 6)]) (fun i => i ≤ 0) (fun i => 0) 0 ?_ (Le.forgetR rfl ⟨rfl, rfl, rfl, trivial⟩ trivial ⟨.refl _, trivial⟩) ?_
  · try dsimp only
    omega
  rintro i hi
  refine AWp.seq ?_
  refine AWp.seq (AWp.region ?_)
  refine ARun.step rfl (step_moveV rfl (hn rfl) rfl rfl) ?_
  refine ARun.step rfl (step_moveV rfl (hn rfl) rfl rfl) ?_
  refine ARun.step rfl (step_len_r rfl (hn rfl) rfl yoSl46 rfl rfl) ?_
  refine ARun.step rfl (step_lss rfl (hn rfl) rfl rfl rfl) ?_
  refine ARun.nil ?_
  refine AWp.cond rfl (fun c1 => ?_) (fun c1 => ?_)
  · try simp only [decide_eq_true_eq, decide_eq_false_iff_not, beq_iff_eq, bne_iff_ne, Bool.not_eq_true', Bool.not_eq_false', Bool.and_eq_true, Bool.or_eq_true, Bool.and_eq_false_iff, Bool.or_eq_false_iff, Int.not_lt, Int.not_le, gt_iff_lt, ge_iff_le, bne_eq_false_iff_eq, beq_eq_false_iff_ne, ne_eq, Int.toNat_natCast] at c1
    omega
  · try simp only [decide_eq_true_eq, decide_eq_false_iff_not, beq_iff_eq, bne_iff_ne, Bool.not_eq_true', Bool.not_eq_false', Bool.and_eq_true, Bool.or_eq_true, Bool.and_eq_false_iff, Bool.or_eq_false_iff, Int.not_lt, Int.not_le, gt_iff_lt, ge_iff_le, bne_eq_false_iff_eq, beq_eq_false_iff_ne, ne_eq, Int.toNat_natCast] at c1
    refine AWp.exit ?_
    refine AWp.seq (AWp.region ?_)
    refine ARun.step rfl (step_moveV rfl (hn rfl) rfl rfl) ?_
    refine ARun.step rfl (step_assignV rfl (hn rfl) rfl rfl) ?_
    refine ARun.nil ?_
    refine AWp.ret ?_
    refine RetIs.mk (.inr rfl) rfl rfl ?_ ⟨⟨⟨_, _, _, _, _, rfl, rfl, .refl _⟩, trivial⟩, ⟨trivial, trivial⟩⟩
    refine congrArg (T.int _) ?_
    rfl
theorem heldBatch0 (k : Int)  : ASpec Try.prog 59 [.one (noB 114 6), .one (.int .i64 k)] (.one (.int .i64 k)) := by
  refine ASpec.body Try.func59 rfl [4] rfl 69 rfl rfl rfl ?_
  refine AWp.seq (AWp.region ?_)
  refine ARun.step rfl (step_assignV rfl (hn rfl) rfl rfl) ?_
  refine ARun.nil ?_
  refine AWp.seq ?_
  refine AWp.seq (AWp.region ?_)
  refine ARun.step rfl (step_assignV rfl (hn rfl) rfl rfl) ?_
  refine ARun.nil ?_
  refine AWp.block ?_
  refine AWp.loopM (fun i : Nat => mkAS 69 [(0, ⟨true, .one (.v (noB 114 6))⟩), (1, ⟨true, .one (.v (.int .i64 k))⟩), (5, ⟨true, .one (.v (.int .i64 (i : Nat)))⟩)] [] []) (fun i => i ≤ 0) (fun i => 0) 0 ?_ (Le.forgetR rfl ⟨rfl, rfl, rfl, trivial⟩ trivial trivial) ?_
  · try dsimp only
    omega
  rintro i hi
  refine AWp.seq ?_
  refine AWp.seq (AWp.region ?_)
  refine ARun.step rfl (step_moveV rfl (hn rfl) rfl rfl) ?_
  refine ARun.step rfl (step_moveV rfl (hn rfl) rfl rfl) ?_
  refine ARun.step rfl (step_len_f rfl (hn rfl) rfl yoSl46 rfl) ?_
  refine ARun.step rfl (step_lss rfl (hn rfl) rfl rfl rfl) ?_
  refine ARun.nil ?_
  refine AWp.cond rfl (fun c1 => ?_) (fun c1 => ?_)
  · try simp only [decide_eq_true_eq, decide_eq_false_iff_not, beq_iff_eq, bne_iff_ne, Bool.not_eq_true', Bool.not_eq_false', Bool.and_eq_true, Bool.or_eq_true, Bool.and_eq_false_iff, Bool.or_eq_false_iff, Int.not_lt, Int.not_le, gt_iff_lt, ge_iff_le, bne_eq_false_iff_eq, beq_eq_false_iff_ne, ne_eq, Int.toNat_natCast] at c1
    omega
  · try simp only [decide_eq_true_eq, decide_eq_false_iff_not, beq_iff_eq, bne_iff_ne, Bool.not_eq_true', Bool.not_eq_false', Bool.and_eq_true, Bool.or_eq_true, Bool.and_eq_false_iff, Bool.or_eq_false_iff, Int.not_lt, Int.not_le, gt_iff_lt, ge_iff_le, bne_eq_false_iff_eq, beq_eq_false_iff_ne, ne_eq, Int.toNat_natCast] at c1
    refine AWp.exit ?_
    refine AWp.seq (AWp.region ?_)
    refine ARun.step rfl (step_moveV rfl (hn rfl) rfl rfl) ?_
    refine ARun.step rfl (step_assignV rfl (hn rfl) rfl rfl) ?_
    refine ARun.nil ?_
    refine AWp.ret ?_
    refine RetIs.sc (.inr rfl) rfl rfl ?_
    refine congrArg (T.int _) ?_
    rfl
theorem eqDone0   : ASpec Try.prog 56 [.one (noB 117 3), .one (noB 117 3)] (.one (.bool true)) := by
  refine ASpec.body Try.func56 rfl [4] rfl 27 rfl rfl rfl ?_
  refine AWp.seq (AWp.region ?_)
  refine ARun.step rfl (step_assignV rfl (hn rfl) rfl rfl) ?_
  refine ARun.nil ?_
  refine AWp.seq ?_
  refine AWp.seq (AWp.region ?_)
  refine ARun.step rfl (step_moveV rfl (hn rfl) rfl rfl) ?_
  refine ARun.step rfl (step_len_f rfl (hn rfl) rfl yoSl47 rfl) ?_
  refine ARun.step rfl (step_moveV rfl (hn rfl) rfl rfl) ?_
  refine ARun.step rfl (step_len_f rfl (hn rfl) rfl yoSl47 rfl) ?_
  refine ARun.step rfl (step_neq rfl (hn rfl) rfl rfl rfl) ?_
  refine ARun.nil ?_
  refine AWp.cond rfl (fun c1 => ?_) (fun c1 => ?_)
  · try simp only [decide_eq_true_eq, decide_eq_false_iff_not, beq_iff_eq, bne_iff_ne, Bool.not_eq_true', Bool.not_eq_false', Bool.and_eq_true, Bool.or_eq_true, Bool.and_eq_false_iff, Bool.or_eq_false_iff, Int.not_lt, Int.not_le, gt_iff_lt, ge_iff_le, bne_eq_false_iff_eq, beq_eq_false_iff_ne, ne_eq, Int.toNat_natCast] at c1
    refine AWp.seq (AWp.region ?_)
    refine ARun.step rfl (step_assignV rfl (hn rfl) rfl rfl) ?_
    refine ARun.nil ?_
    refine AWp.ret ?_
    refine RetIs.sc (.inr rfl) rfl rfl ?_
    refine congrArg T.bool ?_
    exact absurd trivial c1
  · try simp only [decide_eq_true_eq, decide_eq_false_iff_not, beq_iff_eq, bne_iff_ne, Bool.not_eq_true', Bool.not_eq_false', Bool.and_eq_true, Bool.or_eq_true, Bool.and_eq_false_iff, Bool.or_eq_false_iff, Int.not_lt, Int.not_le, gt_iff_lt, ge_iff_le, bne_eq_false_iff_eq, beq_eq_false_iff_ne, ne_eq, Int.toNat_natCast] at c1
    refine AWp.skip ?_
    refine AWp.seq ?_
    refine AWp.seq (AWp.region ?_)
    refine ARun.step rfl (step_assignV rfl (hn rfl) rfl rfl) ?_
    refine ARun.nil ?_
    refine AWp.block ?_
    refine AWp.loopM (fun i : Nat => mkAS 27 [(0, ⟨true, .one (.v (noB 117 3))⟩), (1, ⟨true, .one (.v (noB 117 3))⟩), (5, ⟨true, .one (.v (.int .i64 (i : Nat)))⟩)] [] []) (fun i => i ≤ 0) (fun i => 0) 0 ?_ (Le.forgetR rfl ⟨rfl, rfl, rfl, trivial⟩ trivial trivial) ?_
    · try dsimp only
      omega
    rintro i hi
    refine AWp.seq ?_
    refine AWp.seq (AWp.region ?_)
    refine ARun.step rfl (step_moveV rfl (hn rfl) rfl rfl) ?_
    refine ARun.step rfl (step_moveV rfl (hn rfl) rfl rfl) ?_
    refine ARun.step rfl (step_len_f rfl (hn rfl) rfl yoSl47 rfl) ?_
    refine ARun.step rfl (step_lss rfl (hn rfl) rfl rfl rfl) ?_
    refine ARun.nil ?_
    refine AWp.cond rfl (fun c2 => ?_) (fun c2 => ?_)
    · try simp only [decide_eq_true_eq, decide_eq_false_iff_not, beq_iff_eq, bne_iff_ne, Bool.not_eq_true', Bool.not_eq_false', Bool.and_eq_true, Bool.or_eq_true, Bool.and_eq_false_iff, Bool.or_eq_false_iff, Int.not_lt, Int.not_le, gt_iff_lt, ge_iff_le, bne_eq_false_iff_eq, beq_eq_false_iff_ne, ne_eq, Int.toNat_natCast] at c2
      omega
    · try simp only [decide_eq_true_eq, decide_eq_false_iff_not, beq_iff_eq, bne_iff_ne, Bool.not_eq_true', Bool.not_eq_false', Bool.and_eq_true, Bool.or_eq_true, Bool.and_eq_false_iff, Bool.or_eq_false_iff, Int.not_lt, Int.not_le, gt_iff_lt, ge_iff_le, bne_eq_false_iff_eq, beq_eq_false_iff_ne, ne_eq, Int.toNat_natCast] at c2
      refine AWp.exit ?_
      refine AWp.seq (AWp.region ?_)
      refine ARun.step rfl (step_assignV rfl (hn rfl) rfl rfl) ?_
      refine ARun.nil ?_
      refine AWp.ret ?_
      refine RetIs.sc (.inr rfl) rfl rfl ?_
      refine congrArg T.bool ?_
      rfl
theorem markDone0 (k : Int)  : MSpec Try.prog 58 [.one (.rw (noB 117 3) (noB 117 3)), .one (.ro (.int .i64 k))] (.int .i64 k) := by
  refine MSpec.body Try.func58 rfl 4 rfl 35 rfl rfl rfl rfl ?_
  refine AWp.seq (AWp.region ?_)
  refine ARun.step rfl (step_assignV rfl (hn rfl) rfl rfl) ?_
  refine ARun.nil ?_
  refine AWp.seq ?_
  refine AWp.seq (AWp.region ?_)
  refine ARun.step rfl (step_assignV rfl (hn rfl) rfl rfl) ?_
  refine ARun.nil ?_
  refine AWp.block ?_
  refine AWp.loopM (fun i : Nat => mkAS 35 [(0, ⟨true, .one (.ref ⟨.arr 1000000 0, []⟩)⟩), (1, ⟨true, .one (.v (.int .i64 k))⟩), (5, ⟨true, .one (.v (.int .i64 (i : Nat)))⟩)] [] [(1000000, 0, noB 117 3)]) (fun i => i ≤ 0) (fun i => 0) 0 ?_ (Le.forgetR rfl ⟨rfl, rfl, rfl, trivial⟩ trivial ⟨.refl _, trivial⟩) ?_
  · try dsimp only
    omega
  rintro i hi
  refine AWp.seq ?_
  refine AWp.seq (AWp.region ?_)
  refine ARun.step rfl (step_moveV rfl (hn rfl) rfl rfl) ?_
  refine ARun.step rfl (step_moveV rfl (hn rfl) rfl rfl) ?_
  refine ARun.step rfl (step_len_r rfl (hn rfl) rfl yoSl47 rfl rfl) ?_
  refine ARun.step rfl (step_lss rfl (hn rfl) rfl rfl rfl) ?_
  refine ARun.nil ?_
  refine AWp.cond rfl (fun c1 => ?_) (fun c1 => ?_)
  · try simp only [decide_eq_true_eq, decide_eq_false_iff_not, beq_iff_eq, bne_iff_ne, Bool.not_eq_true', Bool.not_eq_false', Bool.and_eq_true, Bool.or_eq_true, Bool.and_eq_false_iff, Bool.or_eq_false_iff, Int.not_lt, Int.not_le, gt_iff_lt, ge_iff_le, bne_eq_false_iff_eq, beq_eq_false_iff_ne, ne_eq, Int.toNat_natCast] at c1
    omega
  · try simp only [decide_eq_true_eq, decide_eq_false_iff_not, beq_iff_eq, bne_iff_ne, Bool.not_eq_true', Bool.not_eq_false', Bool.and_eq_true, Bool.or_eq_true, Bool.and_eq_false_iff, Bool.or_eq_false_iff, Int.not_lt, Int.not_le, gt_iff_lt, ge_iff_le, bne_eq_false_iff_eq, beq_eq_false_iff_ne, ne_eq, Int.toNat_natCast] at c1
    refine AWp.exit ?_
    refine AWp.seq (AWp.region ?_)
    refine ARun.step rfl (step_moveV rfl (hn rfl) rfl rfl) ?_
    refine ARun.step rfl (step_assignV rfl (hn rfl) rfl rfl) ?_
    refine ARun.nil ?_
    refine AWp.ret ?_
    refine RetIs.mk (.inr rfl) rfl rfl ?_ ⟨⟨⟨_, _, _, _, _, rfl, rfl, .refl _⟩, trivial⟩, ⟨trivial, trivial⟩⟩
    refine congrArg (T.int _) ?_
    rfl
theorem heldDone0 (k : Int)  : ASpec Try.prog 60 [.one (noB 117 3), .one (.int .i64 k)] (.one (.int .i64 k)) := by
  refine ASpec.body Try.func60 rfl [4] rfl 41 rfl rfl rfl ?_
  refine AWp.seq (AWp.region ?_)
  refine ARun.step rfl (step_assignV rfl (hn rfl) rfl rfl) ?_
  refine ARun.nil ?_
  refine AWp.seq ?_
  refine AWp.seq (AWp.region ?_)
  refine ARun.step rfl (step_assignV rfl (hn rfl) rfl rfl) ?_
  refine ARun.nil ?_
  refine AWp.block ?_
  refine AWp.loopM (fun i : Nat => mkAS 41 [(0, ⟨true, .one (.v (noB 117 3))⟩), (1, ⟨true, .one (.v (.int .i64 k))⟩), (5, ⟨true, .one (.v (.int .i64 (i : Nat)))⟩)] [] []) (fun i => i ≤ 0) (fun i => 0) 0 ?_ (Le.forgetR rfl ⟨rfl, rfl, rfl, trivial⟩ trivial trivial) ?_
  · try dsimp only
    omega
  rintro i hi
  refine AWp.seq ?_
  refine AWp.seq (AWp.region ?_)
  refine ARun.step rfl (step_moveV rfl (hn rfl) rfl rfl) ?_
  refine ARun.step rfl (step_moveV rfl (hn rfl) rfl rfl) ?_
  refine ARun.step rfl (step_len_f rfl (hn rfl) rfl yoSl47 rfl) ?_
  refine ARun.step rfl (step_lss rfl (hn rfl) rfl rfl rfl) ?_
  refine ARun.nil ?_
  refine AWp.cond rfl (fun c1 => ?_) (fun c1 => ?_)
  · try simp only [decide_eq_true_eq, decide_eq_false_iff_not, beq_iff_eq, bne_iff_ne, Bool.not_eq_true', Bool.not_eq_false', Bool.and_eq_true, Bool.or_eq_true, Bool.and_eq_false_iff, Bool.or_eq_false_iff, Int.not_lt, Int.not_le, gt_iff_lt, ge_iff_le, bne_eq_false_iff_eq, beq_eq_false_iff_ne, ne_eq, Int.toNat_natCast] at c1
    omega
  · try simp only [decide_eq_true_eq, decide_eq_false_iff_not, beq_iff_eq, bne_iff_ne, Bool.not_eq_true', Bool.not_eq_false', Bool.and_eq_true, Bool.or_eq_true, Bool.and_eq_false_iff, Bool.or_eq_false_iff, Int.not_lt, Int.not_le, gt_iff_lt, ge_iff_le, bne_eq_false_iff_eq, beq_eq_false_iff_ne, ne_eq, Int.toNat_natCast] at c1
    refine AWp.exit ?_
    refine AWp.seq (AWp.region ?_)
    refine ARun.step rfl (step_moveV rfl (hn rfl) rfl rfl) ?_
    refine ARun.step rfl (step_assignV rfl (hn rfl) rfl rfl) ?_
    refine ARun.nil ?_
    refine AWp.ret ?_
    refine RetIs.sc (.inr rfl) rfl rfl ?_
    refine congrArg (T.int _) ?_
    rfl
theorem eqHs (a b : List Str)  : ASpec Try.prog 25 [.agg (hz a), .agg (hz b)] (.one (.bool (eqL strEq a b))) := by
  refine ASpec.body Try.func25 rfl [4] rfl 33 rfl rfl rfl ?_
  refine AWp.seq (AWp.region ?_)
  refine ARun.step rfl (step_box_p (m := 5) rfl (hn rfl) rfl rfl rfl rfl rfl) ?_
  refine ARun.step rfl (step_box_p (m := 5) rfl (hn rfl) rfl rfl rfl rfl rfl) ?_
  refine ARun.step rfl (step_assignV rfl (hn rfl) rfl rfl) ?_
  refine ARun.nil ?_
  refine AWp.seq ?_
  refine AWp.seq (AWp.region ?_)
  refine ARun.step rfl (step_field_b rfl (hn rfl) rfl yoFo49_0 rfl (by exact List.cons_ne_nil _ _)) ?_
  refine ARun.step rfl (step_load_b rfl (hn rfl) rfl yoSc3 rfl rfl) ?_
  refine ARun.step rfl (step_field_b rfl (hn rfl) rfl yoFo49_0 rfl (by exact List.cons_ne_nil _ _)) ?_
  refine ARun.step rfl (step_load_b rfl (hn rfl) rfl yoSc3 rfl rfl) ?_
  refine ARun.step rfl (step_neq rfl (hn rfl) rfl rfl rfl) ?_
  refine ARun.nil ?_
  refine AWp.cond rfl (fun c1 => ?_) (fun c1 => ?_)
  · try simp only [decide_eq_true_eq, decide_eq_false_iff_not, beq_iff_eq, bne_iff_ne, Bool.not_eq_true', Bool.not_eq_false', Bool.and_eq_true, Bool.or_eq_true, Bool.and_eq_false_iff, Bool.or_eq_false_iff, Int.not_lt, Int.not_le, gt_iff_lt, ge_iff_le, bne_eq_false_iff_eq, beq_eq_false_iff_ne, ne_eq, Int.toNat_natCast] at c1
    refine AWp.seq (AWp.region ?_)
    refine ARun.step rfl (step_assignV rfl (hn rfl) rfl rfl) ?_
    refine ARun.nil ?_
    refine AWp.ret ?_
    refine RetIs.sc (.inr rfl) rfl rfl ?_
    refine congrArg T.bool ?_
    simp_all [eqBk, eqL]
  · try simp only [decide_eq_true_eq, decide_eq_false_iff_not, beq_iff_eq, bne_iff_ne, Bool.not_eq_true', Bool.not_eq_false', Bool.and_eq_true, Bool.or_eq_true, Bool.and_eq_false_iff, Bool.or_eq_false_iff, Int.not_lt, Int.not_le, gt_iff_lt, ge_iff_le, bne_eq_false_iff_eq, beq_eq_false_iff_ne, ne_eq, Int.toNat_natCast] at c1
    refine AWp.skip ?_
    refine AWp.seq ?_
    refine AWp.seq (AWp.region ?_)
    refine ARun.step rfl (step_field_b rfl (hn rfl) rfl yoFo49_1 rfl (by exact List.cons_ne_nil _ _)) ?_
    refine ARun.step rfl (step_load_b rfl (hn rfl) rfl yoSc3 rfl rfl) ?_
    refine ARun.step rfl (step_field_b rfl (hn rfl) rfl yoFo49_1 rfl (by exact List.cons_ne_nil _ _)) ?_
    refine ARun.step rfl (step_load_b rfl (hn rfl) rfl yoSc3 rfl rfl) ?_
    refine ARun.step rfl (step_neq rfl (hn rfl) rfl rfl rfl) ?_
    refine ARun.nil ?_
    refine AWp.cond rfl (fun c2 => ?_) (fun c2 => ?_)
    · try simp only [decide_eq_true_eq, decide_eq_false_iff_not, beq_iff_eq, bne_iff_ne, Bool.not_eq_true', Bool.not_eq_false', Bool.and_eq_true, Bool.or_eq_true, Bool.and_eq_false_iff, Bool.or_eq_false_iff, Int.not_lt, Int.not_le, gt_iff_lt, ge_iff_le, bne_eq_false_iff_eq, beq_eq_false_iff_ne, ne_eq, Int.toNat_natCast] at c2
      refine AWp.seq (AWp.region ?_)
      refine ARun.step rfl (step_assignV rfl (hn rfl) rfl rfl) ?_
      refine ARun.nil ?_
      refine AWp.ret ?_
      refine RetIs.sc (.inr rfl) rfl rfl ?_
      refine congrArg T.bool ?_
      simp_all [eqBk, eqL]
    · try simp only [decide_eq_true_eq, decide_eq_false_iff_not, beq_iff_eq, bne_iff_ne, Bool.not_eq_true', Bool.not_eq_false', Bool.and_eq_true, Bool.or_eq_true, Bool.and_eq_false_iff, Bool.or_eq_false_iff, Int.not_lt, Int.not_le, gt_iff_lt, ge_iff_le, bne_eq_false_iff_eq, beq_eq_false_iff_ne, ne_eq, Int.toNat_natCast] at c2
      refine AWp.skip ?_
      refine AWp.seq ?_
      refine AWp.seq (AWp.region ?_)
      refine ARun.step rfl (step_field_b rfl (hn rfl) rfl yoFo49_2 rfl (by exact List.cons_ne_nil _ _)) ?_
      refine ARun.step rfl (step_loadS_b rfl (hn rfl) rfl yoSt45 rfl rfl rfl (by decide)) ?_
      refine ARun.step rfl (step_field_b rfl (hn rfl) rfl yoFo49_2 rfl (by exact List.cons_ne_nil _ _)) ?_
      refine ARun.step rfl (step_loadS_b rfl (hn rfl) rfl yoSt45 rfl rfl rfl (by decide)) ?_
      refine ARun.step rfl (call_step1 rfl (hn rfl) rfl yoCo32 (.cons rfl (.agg (.cons (.v _) (.cons (.v _) .nil))) (.cons rfl (.agg (.cons (.v _) (.cons (.v _) .nil))) (.nil))) (eqBkI ⟨a, []⟩ ⟨b, []⟩) rfl) ?_
      refine ARun.step rfl (step_not rfl (hn rfl) rfl rfl) ?_
      refine ARun.nil ?_
      refine AWp.cond rfl (fun c3 => ?_) (fun c3 => ?_)
      · try simp only [decide_eq_true_eq, decide_eq_false_iff_not, beq_iff_eq, bne_iff_ne, Bool.not_eq_true', Bool.not_eq_false', Bool.and_eq_true, Bool.or_eq_true, Bool.and_eq_false_iff, Bool.or_eq_false_iff, Int.not_lt, Int.not_le, gt_iff_lt, ge_iff_le, bne_eq_false_iff_eq, beq_eq_false_iff_ne, ne_eq, Int.toNat_natCast] at c3
        refine AWp.seq (AWp.region ?_)
        refine ARun.step rfl (step_assignV rfl (hn rfl) rfl rfl) ?_
        refine ARun.nil ?_
        refine AWp.ret ?_
        refine RetIs.sc (.inr rfl) rfl rfl ?_
        refine congrArg T.bool ?_
        simp_all [eqBk, eqL]
      · try simp only [decide_eq_true_eq, decide_eq_false_iff_not, beq_iff_eq, bne_iff_ne, Bool.not_eq_true', Bool.not_eq_false', Bool.and_eq_true, Bool.or_eq_true, Bool.and_eq_false_iff, Bool.or_eq_false_iff, Int.not_lt, Int.not_le, gt_iff_lt, ge_iff_le, bne_eq_false_iff_eq, beq_eq_false_iff_ne, ne_eq, Int.toNat_natCast] at c3
        refine AWp.skip ?_
        refine AWp.seq ?_
        refine AWp.seq (AWp.region ?_)
        refine ARun.step rfl (step_field_b rfl (hn rfl) rfl yoFo49_3 rfl (by exact List.cons_ne_nil _ _)) ?_
        refine ARun.step rfl (step_load_b rfl (hn rfl) rfl yoSc46 rfl rfl) ?_
        refine ARun.step rfl (step_field_b rfl (hn rfl) rfl yoFo49_3 rfl (by exact List.cons_ne_nil _ _)) ?_
        refine ARun.step rfl (step_load_b rfl (hn rfl) rfl yoSc46 rfl rfl) ?_
        refine ARun.step rfl (call_step1 rfl (hn rfl) rfl yoCo55 (.cons rfl (.one (.v _)) (.cons rfl (.one (.v _)) (.nil))) eqBatch0 rfl) ?_
        refine ARun.step rfl (step_not rfl (hn rfl) rfl rfl) ?_
        refine ARun.nil ?_
        refine AWp.cond rfl (fun c4 => ?_) (fun c4 => ?_)
        · try simp only [decide_eq_true_eq, decide_eq_false_iff_not, beq_iff_eq, bne_iff_ne, Bool.not_eq_true', Bool.not_eq_false', Bool.and_eq_true, Bool.or_eq_true, Bool.and_eq_false_iff, Bool.or_eq_false_iff, Int.not_lt, Int.not_le, gt_iff_lt, ge_iff_le, bne_eq_false_iff_eq, beq_eq_false_iff_ne, ne_eq, Int.toNat_natCast] at c4
          refine AWp.seq (AWp.region ?_)
          refine ARun.step rfl (step_assignV rfl (hn rfl) rfl rfl) ?_
          refine ARun.nil ?_
          refine AWp.ret ?_
          refine RetIs.sc (.inr rfl) rfl rfl ?_
          refine congrArg T.bool ?_
          simp_all [eqBk, eqL]
        · try simp only [decide_eq_true_eq, decide_eq_false_iff_not, beq_iff_eq, bne_iff_ne, Bool.not_eq_true', Bool.not_eq_false', Bool.and_eq_true, Bool.or_eq_true, Bool.and_eq_false_iff, Bool.or_eq_false_iff, Int.not_lt, Int.not_le, gt_iff_lt, ge_iff_le, bne_eq_false_iff_eq, beq_eq_false_iff_ne, ne_eq, Int.toNat_natCast] at c4
          refine AWp.skip ?_
          refine AWp.seq ?_
          refine AWp.seq (AWp.region ?_)
          refine ARun.step rfl (step_field_b rfl (hn rfl) rfl yoFo49_4 rfl (by exact List.cons_ne_nil _ _)) ?_
          refine ARun.step rfl (step_load_b rfl (hn rfl) rfl yoSc47 rfl rfl) ?_
          refine ARun.step rfl (step_field_b rfl (hn rfl) rfl yoFo49_4 rfl (by exact List.cons_ne_nil _ _)) ?_
          refine ARun.step rfl (step_load_b rfl (hn rfl) rfl yoSc47 rfl rfl) ?_
          refine ARun.step rfl (call_step1 rfl (hn rfl) rfl yoCo56 (.cons rfl (.one (.v _)) (.cons rfl (.one (.v _)) (.nil))) eqDone0 rfl) ?_
          refine ARun.step rfl (step_not rfl (hn rfl) rfl rfl) ?_
          refine ARun.nil ?_
          refine AWp.cond rfl (fun c5 => ?_) (fun c5 => ?_)
          · try simp only [decide_eq_true_eq, decide_eq_false_iff_not, beq_iff_eq, bne_iff_ne, Bool.not_eq_true', Bool.not_eq_false', Bool.and_eq_true, Bool.or_eq_true, Bool.and_eq_false_iff, Bool.or_eq_false_iff, Int.not_lt, Int.not_le, gt_iff_lt, ge_iff_le, bne_eq_false_iff_eq, beq_eq_false_iff_ne, ne_eq, Int.toNat_natCast] at c5
            refine AWp.seq (AWp.region ?_)
            refine ARun.step rfl (step_assignV rfl (hn rfl) rfl rfl) ?_
            refine ARun.nil ?_
            refine AWp.ret ?_
            refine RetIs.sc (.inr rfl) rfl rfl ?_
            refine congrArg T.bool ?_
            simp_all [eqBk, eqL]
          · try simp only [decide_eq_true_eq, decide_eq_false_iff_not, beq_iff_eq, bne_iff_ne, Bool.not_eq_true', Bool.not_eq_false', Bool.and_eq_true, Bool.or_eq_true, Bool.and_eq_false_iff, Bool.or_eq_false_iff, Int.not_lt, Int.not_le, gt_iff_lt, ge_iff_le, bne_eq_false_iff_eq, beq_eq_false_iff_ne, ne_eq, Int.toNat_natCast] at c5
            refine AWp.skip ?_
            refine AWp.seq (AWp.region ?_)
            refine ARun.step rfl (step_assignV rfl (hn rfl) rfl rfl) ?_
            refine ARun.nil ?_
            refine AWp.ret ?_
            refine RetIs.sc (.inr rfl) rfl rfl ?_
            refine congrArg T.bool ?_
            simp_all [eqBk, eqL]
theorem markHs (l : List Str) (k : Int) (h0 : 0 ≤ k) (h1 : k + l.length ≤ 1152921504606846976) : MSpec Try.prog 26 [.agg [.ro (.int .i64 0), .ro (.int .i64 0), .rw (strs l) (mkS l.length k), .rw (btsO 94 []) (mkBts [] (k + l.length)), .rw (noB 114 6) (noB 114 6), .rw (noB 117 3) (noB 117 3)], .one (.ro (.int .i64 k))] (.int .i64 (k + l.length)) := by
  refine MSpec.body Try.func26 rfl 4 rfl 18 rfl rfl rfl rfl ?_
  refine AWp.seq (AWp.region ?_)
  refine ARun.step rfl (step_box_r (m := 5) rfl (hn rfl) rfl rfl rfl rfl rfl) ?_
  refine ARun.step rfl (step_assignV rfl (hn rfl) rfl rfl) ?_
  refine ARun.nil ?_
  refine AWp.seq (AWp.region ?_)
  refine ARun.step rfl (step_field_b rfl (hn rfl) rfl yoFo49_2 rfl (by exact List.cons_ne_nil _ _)) ?_
  refine ARun.step rfl (step_loadS_b rfl (hn rfl) rfl yoSt45 rfl rfl rfl (by decide)) ?_
  refine ARun.step rfl (step_moveV rfl (hn rfl) rfl rfl) ?_
  refine ARun.step rfl (mcall_roots (L := [(⟨.arr 1000000 2, []⟩, 0), (⟨.arr 1000000 3, []⟩, 1)]) (TL := [(1000000, 2, _), (1000000, 3, _)]) rfl (hn rfl) rfl yoCo33 rfl (.cons rfl (.agg (.cons (.rw _ rfl rfl rfl) (.cons (.rw _ rfl rfl rfl) (.nil _)))) (.cons rfl (.one (.v (.refl _))) (.nil _))) (markBk ⟨l, []⟩ k (by omega) (by simp [cntTo]; omega)) rfl (.cons (i := 0) (j := 0) rfl rfl rfl rfl rfl rfl (.cons (i := 0) (j := 1) rfl rfl rfl rfl rfl rfl .nil))) ?_
  refine ARun.step rfl (step_assignV rfl (hn rfl) rfl rfl) ?_
  refine ARun.nil ?_
  refine AWp.seq (AWp.region ?_)
  refine ARun.step rfl (step_field_b rfl (hn rfl) rfl yoFo49_3 rfl (by exact List.cons_ne_nil _ _)) ?_
  refine ARun.step rfl (step_load_b rfl (hn rfl) rfl yoSc46 rfl rfl) ?_
  refine ARun.step rfl (step_moveV rfl (hn rfl) rfl rfl) ?_
  refine ARun.step rfl (mcall_roots (L := [(⟨.arr 1000000 4, []⟩, 0)]) (TL := [(1000000, 4, _)]) rfl (hn rfl) rfl yoCo57 rfl (.cons rfl (.one (.rw _ rfl rfl rfl)) (.cons rfl (.one (.v (.refl _))) (.nil _))) (markBatch0 _) rfl (.cons (i := 0) (j := 0) rfl rfl rfl rfl rfl rfl .nil)) ?_
  refine ARun.step rfl (step_assignV rfl (hn rfl) rfl rfl) ?_
  refine ARun.nil ?_
  refine AWp.seq (AWp.region ?_)
  refine ARun.step rfl (step_field_b rfl (hn rfl) rfl yoFo49_4 rfl (by exact List.cons_ne_nil _ _)) ?_
  refine ARun.step rfl (step_load_b rfl (hn rfl) rfl yoSc47 rfl rfl) ?_
  refine ARun.step rfl (step_moveV rfl (hn rfl) rfl rfl) ?_
  refine ARun.step rfl (mcall_roots (L := [(⟨.arr 1000000 5, []⟩, 0)]) (TL := [(1000000, 5, _)]) rfl (hn rfl) rfl yoCo58 rfl (.cons rfl (.one (.rw _ rfl rfl rfl)) (.cons rfl (.one (.v (.refl _))) (.nil _))) (markDone0 _) rfl (.cons (i := 0) (j := 0) rfl rfl rfl rfl rfl rfl .nil)) ?_
  refine ARun.step rfl (step_assignV rfl (hn rfl) rfl rfl) ?_
  refine ARun.nil ?_
  refine AWp.seq (AWp.region ?_)
  refine ARun.step rfl (step_moveV rfl (hn rfl) rfl rfl) ?_
  refine ARun.step rfl (step_assignV rfl (hn rfl) rfl rfl) ?_
  refine ARun.nil ?_
  refine AWp.ret ?_
  refine RetIs.mk (.inr rfl) rfl rfl ?_ ⟨⟨⟨_, _, _, _, _, rfl, rfl, .refl _⟩, ⟨⟨_, _, _, _, _, rfl, rfl, .refl _⟩, ⟨⟨_, _, _, _, _, rfl, rfl, .refl _⟩, ⟨⟨_, _, _, _, _, rfl, rfl, .refl _⟩, trivial⟩⟩⟩⟩, ⟨trivial, trivial⟩⟩
  refine congrArg (T.int _) ?_
  simp [cntTo]
theorem heldHs (l : List Str) (k : Int) (h0 : 0 ≤ k) (h1 : k + l.length ≤ 1152921504606846976) : ASpec Try.prog 27 [.agg [.int .i64 0, .int .i64 0, mkS l.length k, mkBts [] (k + l.length), noB 114 6, noB 117 3], .one (.int .i64 k)] (.one (.int .i64 (k + l.length))) := by
  refine ASpec.body Try.func27 rfl [4] rfl 24 rfl rfl rfl ?_
  refine AWp.seq (AWp.region ?_)
  refine ARun.step rfl (step_box_p (m := 5) rfl (hn rfl) rfl rfl rfl rfl rfl) ?_
  refine ARun.step rfl (step_assignV rfl (hn rfl) rfl rfl) ?_
  refine ARun.nil ?_
  refine AWp.seq (AWp.region ?_)
  refine ARun.step rfl (step_field_b rfl (hn rfl) rfl yoFo49_2 rfl (by exact List.cons_ne_nil _ _)) ?_
  refine ARun.step rfl (step_loadS_b rfl (hn rfl) rfl yoSt45 rfl rfl rfl (by decide)) ?_
  refine ARun.step rfl (step_moveV rfl (hn rfl) rfl rfl) ?_
  refine ARun.step rfl (call_step1 rfl (hn rfl) rfl yoCo34 (.cons rfl (.agg (.cons (.v _) (.cons (.v _) .nil))) (.cons rfl (.one (.v _)) (.nil))) (heldBk ⟨l, []⟩ k (by omega) (by simp [cntTo]; omega)) rfl) ?_
  refine ARun.step rfl (step_assignV rfl (hn rfl) rfl rfl) ?_
  refine ARun.nil ?_
  refine AWp.seq ?_
  refine AWp.seq (AWp.region ?_)
  refine ARun.step rfl (step_moveV rfl (hn rfl) rfl rfl) ?_
  refine ARun.step rfl (step_lss rfl (hn rfl) rfl rfl rfl) ?_
  refine ARun.nil ?_
  refine AWp.cond rfl (fun c1 => ?_) (fun c1 => ?_)
  · try simp only [decide_eq_true_eq, decide_eq_false_iff_not, beq_iff_eq, bne_iff_ne, Bool.not_eq_true', Bool.not_eq_false', Bool.and_eq_true, Bool.or_eq_true, Bool.and_eq_false_iff, Bool.or_eq_false_iff, Int.not_lt, Int.not_le, gt_iff_lt, ge_iff_le, bne_eq_false_iff_eq, beq_eq_false_iff_ne, ne_eq, Int.toNat_natCast] at c1
    refine AWp.seq (AWp.region ?_)
    refine ARun.step rfl (step_assignV rfl (hn rfl) rfl rfl) ?_
    refine ARun.nil ?_
    refine AWp.ret ?_
    refine RetIs.sc (.inr rfl) rfl rfl ?_
    refine congrArg (T.int _) ?_
    first
      | (simp [cntTo]; done)
      | (exfalso; simp [cntTo] at *; omega)
  · try simp only [decide_eq_true_eq, decide_eq_false_iff_not, beq_iff_eq, bne_iff_ne, Bool.not_eq_true', Bool.not_eq_false', Bool.and_eq_true, Bool.or_eq_true, Bool.and_eq_false_iff, Bool.or_eq_false_iff, Int.not_lt, Int.not_le, gt_iff_lt, ge_iff_le, bne_eq_false_iff_eq, beq_eq_false_iff_ne, ne_eq, Int.toNat_natCast] at c1
    refine AWp.skip ?_
    refine AWp.seq (AWp.region ?_)
    refine ARun.step rfl (step_field_b rfl (hn rfl) rfl yoFo49_3 rfl (by exact List.cons_ne_nil _ _)) ?_
    refine ARun.step rfl (step_load_b rfl (hn rfl) rfl yoSc46 rfl rfl) ?_
    refine ARun.step rfl (step_moveV rfl (hn rfl) rfl rfl) ?_
    refine ARun.step rfl (call_step1 rfl (hn rfl) rfl yoCo59 (.cons rfl (.one (.v _)) (.cons rfl (.one (.v _)) (.nil))) (heldBatch0 _) rfl) ?_
    refine ARun.step rfl (step_assignV rfl (hn rfl) rfl rfl) ?_
    refine ARun.nil ?_
    refine AWp.seq ?_
    refine AWp.seq (AWp.region ?_)
    refine ARun.step rfl (step_moveV rfl (hn rfl) rfl rfl) ?_
    refine ARun.step rfl (step_lss rfl (hn rfl) rfl rfl rfl) ?_
    refine ARun.nil ?_
    refine AWp.cond rfl (fun c2 => ?_) (fun c2 => ?_)
    · try simp only [decide_eq_true_eq, decide_eq_false_iff_not, beq_iff_eq, bne_iff_ne, Bool.not_eq_true', Bool.not_eq_false', Bool.and_eq_true, Bool.or_eq_true, Bool.and_eq_false_iff, Bool.or_eq_false_iff, Int.not_lt, Int.not_le, gt_iff_lt, ge_iff_le, bne_eq_false_iff_eq, beq_eq_false_iff_ne, ne_eq, Int.toNat_natCast] at c2
      refine AWp.seq (AWp.region ?_)
      refine ARun.step rfl (step_assignV rfl (hn rfl) rfl rfl) ?_
      refine ARun.nil ?_
      refine AWp.ret ?_
      refine RetIs.sc (.inr rfl) rfl rfl ?_
      refine congrArg (T.int _) ?_
      first
        | (simp [cntTo]; done)
        | (exfalso; simp [cntTo] at *; omega)
    · try simp only [decide_eq_true_eq, decide_eq_false_iff_not, beq_iff_eq, bne_iff_ne, Bool.not_eq_true', Bool.not_eq_false', Bool.and_eq_true, Bool.or_eq_true, Bool.and_eq_false_iff, Bool.or_eq_false_iff, Int.not_lt, Int.not_le, gt_iff_lt, ge_iff_le, bne_eq_false_iff_eq, beq_eq_false_iff_ne, ne_eq, Int.toNat_natCast] at c2
      refine AWp.skip ?_
      refine AWp.seq (AWp.region ?_)
      refine ARun.step rfl (step_field_b rfl (hn rfl) rfl yoFo49_4 rfl (by exact List.cons_ne_nil _ _)) ?_
      refine ARun.step rfl (step_load_b rfl (hn rfl) rfl yoSc47 rfl rfl) ?_
      refine ARun.step rfl (step_moveV rfl (hn rfl) rfl rfl) ?_
      refine ARun.step rfl (call_step1 rfl (hn rfl) rfl yoCo60 (.cons rfl (.one (.v _)) (.cons rfl (.one (.v _)) (.nil))) (heldDone0 _) rfl) ?_
      refine ARun.step rfl (step_assignV rfl (hn rfl) rfl rfl) ?_
      refine ARun.nil ?_
      refine AWp.seq ?_
      refine AWp.seq (AWp.region ?_)
      refine ARun.step rfl (step_moveV rfl (hn rfl) rfl rfl) ?_
      refine ARun.step rfl (step_lss rfl (hn rfl) rfl rfl rfl) ?_
      refine ARun.nil ?_
      refine AWp.cond rfl (fun c3 => ?_) (fun c3 => ?_)
      · try simp only [decide_eq_true_eq, decide_eq_false_iff_not, beq_iff_eq, bne_iff_ne, Bool.not_eq_true', Bool.not_eq_false', Bool.and_eq_true, Bool.or_eq_true, Bool.and_eq_false_iff, Bool.or_eq_false_iff, Int.not_lt, Int.not_le, gt_iff_lt, ge_iff_le, bne_eq_false_iff_eq, beq_eq_false_iff_ne, ne_eq, Int.toNat_natCast] at c3
        refine AWp.seq (AWp.region ?_)
        refine ARun.step rfl (step_assignV rfl (hn rfl) rfl rfl) ?_
        refine ARun.nil ?_
        refine AWp.ret ?_
        refine RetIs.sc (.inr rfl) rfl rfl ?_
        refine congrArg (T.int _) ?_
        first
          | (simp [cntTo]; done)
          | (exfalso; simp [cntTo] at *; omega)
      · try simp only [decide_eq_true_eq, decide_eq_false_iff_not, beq_iff_eq, bne_iff_ne, Bool.not_eq_true', Bool.not_eq_false', Bool.and_eq_true, Bool.or_eq_true, Bool.and_eq_false_iff, Bool.or_eq_false_iff, Int.not_lt, Int.not_le, gt_iff_lt, ge_iff_le, bne_eq_false_iff_eq, beq_eq_false_iff_ne, ne_eq, Int.toNat_natCast] at c3
        refine AWp.skip ?_
        refine AWp.seq (AWp.region ?_)
        refine ARun.step rfl (step_moveV rfl (hn rfl) rfl rfl) ?_
        refine ARun.step rfl (step_assignV rfl (hn rfl) rfl rfl) ?_
        refine ARun.nil ?_
        refine AWp.ret ?_
        refine RetIs.sc (.inr rfl) rfl rfl ?_
        refine congrArg (T.int _) ?_
        first
          | (simp [cntTo]; done)
          | (exfalso; simp [cntTo] at *; omega)
theorem openI (l : List Str) (hl : l.length ≤ 1048576) : ASpec Try.prog 24 [.one (strs l)] (.tup [.agg (ho (openR l)), .one (.bool (bookOk ⟨l, []⟩))]) := by
  refine ASpec.bodyC Try.func24 rfl 2 49 [3] rfl rfl 14 rfl rfl rfl ?_
  refine AWp.seq (AWp.region ?_)
  refine ARun.step rfl (step_alloc_p rfl (hn rfl) rfl yoZs49) ?_
  refine ARun.step rfl (step_assignV rfl (hn rfl) rfl rfl) ?_
  refine ARun.nil ?_
  refine AWp.seq (AWp.region ?_)
  refine ARun.step rfl (step_moveV rfl (hn rfl) rfl rfl) ?_
  refine ARun.step rfl (call_stepN rfl (hn rfl) rfl yoCo53 (.cons rfl (.one (.v _)) (.nil)) (copiedI _ hl) rfl rfl) ?_
  refine ARun.step rfl (step_build rfl (hn rfl) rfl yoPl45 yoZc45 (.cons rfl rfl rfl rfl (.nil)) rfl) ?_
  refine ARun.step rfl (step_alloc_p rfl (hn rfl) rfl yoZs45) ?_
  refine ARun.step rfl (step_store_r rfl rfl yoCs45 rfl rfl rfl rfl rfl rfl rfl) ?_
  refine ARun.nil ?_
  refine AWp.seq ?_
  refine AWp.seq (AWp.region ?_)
  refine ARun.step rfl (step_loadS_b rfl (hn rfl) rfl yoSt45 rfl rfl rfl (by decide)) ?_
  refine ARun.step rfl (call_step1 rfl (hn rfl) rfl yoCo54 (.cons rfl (.agg (.cons (.ref _ rfl) (.cons (.nil _ _ _) .nil))) (.nil)) (bookOkI ⟨l, []⟩) rfl) ?_
  refine ARun.step rfl (step_not rfl (hn rfl) rfl rfl) ?_
  refine ARun.nil ?_
  refine AWp.cond rfl (fun c1 => ?_) (fun c1 => ?_)
  · try simp only [decide_eq_true_eq, decide_eq_false_iff_not, beq_iff_eq, bne_iff_ne, Bool.not_eq_true', Bool.not_eq_false', Bool.and_eq_true, Bool.or_eq_true, Bool.and_eq_false_iff, Bool.or_eq_false_iff, Int.not_lt, Int.not_le, gt_iff_lt, ge_iff_le, bne_eq_false_iff_eq, beq_eq_false_iff_ne, ne_eq, Int.toNat_natCast] at c1
    refine AWp.seq (AWp.region ?_)
    refine ARun.step rfl (step_build rfl (hn rfl) rfl yoPl49 yoZc49 (.nil) rfl) ?_
    refine ARun.step rfl (step_store_p rfl rfl yoCs49 rfl rfl rfl rfl rfl rfl rfl) ?_
    refine ARun.step rfl (step_assignV rfl (hn rfl) rfl rfl) ?_
    refine ARun.nil ?_
    refine AWp.ret ?_
    refine ⟨.inr rfl, 2, 6, _, _, _, yoSt49, by decide, rfl, rfl, rfl, rfl, (.cons rfl (.agg (.cons (.sc _ _ rfl) (.cons (.sc _ _ rfl) (.cons (.nil 9 1 (fun i => [.str (nth [] i)]) _) (.cons (.nil 94 3 (fun i => (nth ([] : List Bt) i).cells) _) (.cons (.nil 114 6 (fun _ => []) _) (.cons (.nil 117 3 (fun _ => []) _) (.nil _)))))))) (.cons rfl (.one (.sc _ _ rfl)) (.nil _))), rfl, ?_⟩
    rw [show openR l = [] by simp [openR, *]]
    simp_all [ho]
    rfl
  · try simp only [decide_eq_true_eq, decide_eq_false_iff_not, beq_iff_eq, bne_iff_ne, Bool.not_eq_true', Bool.not_eq_false', Bool.and_eq_true, Bool.or_eq_true, Bool.and_eq_false_iff, Bool.or_eq_false_iff, Int.not_lt, Int.not_le, gt_iff_lt, ge_iff_le, bne_eq_false_iff_eq, beq_eq_false_iff_ne, ne_eq, Int.toNat_natCast] at c1
    refine AWp.skip ?_
    refine AWp.seq (AWp.region ?_)
    refine ARun.step rfl (step_loadS_b rfl (hn rfl) rfl yoSt45 rfl rfl rfl (by decide)) ?_
    refine ARun.step rfl (step_build rfl (hn rfl) rfl yoPl49 yoZc49 (.cons rfl rfl rfl rfl (.nil)) rfl) ?_
    refine ARun.step rfl (step_store_r rfl rfl yoCs49 rfl rfl rfl rfl rfl rfl rfl) ?_
    refine ARun.step rfl (step_assignV rfl (hn rfl) rfl rfl) ?_
    refine ARun.nil ?_
    refine AWp.ret ?_
    refine ⟨.inr rfl, 2, 6, _, _, _, yoSt49, by decide, rfl, rfl, rfl, rfl, (.cons rfl (.agg (.cons (.sc _ _ rfl) (.cons (.sc _ _ rfl) (.cons (.ref _ _ rfl) (.cons (.nil 94 3 (fun i => (nth ([] : List Bt) i).cells) _) (.cons (.nil 114 6 (fun _ => []) _) (.cons (.nil 117 3 (fun _ => []) _) (.nil _)))))))) (.cons rfl (.one (.sc _ _ rfl)) (.nil _))), rfl, ?_⟩
    rw [show openR l = l by simp [openR, *]]
    simp_all [ho]
    rfl
theorem openS (l : List Str) (hl : l.length ≤ 1048576) : ASpec Try.prog 22 [.one (strs l)] (.tup [.agg (ho (openR l)), .one (.bool (bookOk ⟨l, []⟩))]) := by
  refine ASpec.bodyC Try.func22 rfl 2 49 [3] rfl rfl 14 rfl rfl rfl ?_
  refine AWp.seq (AWp.region ?_)
  refine ARun.step rfl (step_alloc_p rfl (hn rfl) rfl yoZs49) ?_
  refine ARun.step rfl (step_assignV rfl (hn rfl) rfl rfl) ?_
  refine ARun.nil ?_
  refine AWp.seq (AWp.region ?_)
  refine ARun.step rfl (step_moveV rfl (hn rfl) rfl rfl) ?_
  refine ARun.step rfl (call_stepN rfl (hn rfl) rfl yoCo51 (.cons rfl (.one (.v _)) (.nil)) (namesC _ hl) rfl rfl) ?_
  refine ARun.step rfl (step_build rfl (hn rfl) rfl yoPl45 yoZc45 (.cons rfl rfl rfl rfl (.nil)) rfl) ?_
  refine ARun.step rfl (step_alloc_p rfl (hn rfl) rfl yoZs45) ?_
  refine ARun.step rfl (step_store_r rfl rfl yoCs45 rfl rfl rfl rfl rfl rfl rfl) ?_
  refine ARun.nil ?_
  refine AWp.seq ?_
  refine AWp.seq (AWp.region ?_)
  refine ARun.step rfl (step_loadS_b rfl (hn rfl) rfl yoSt45 rfl rfl rfl (by decide)) ?_
  refine ARun.step rfl (call_step1 rfl (hn rfl) rfl yoCo52 (.cons rfl (.agg (.cons (.ref _ rfl) (.cons (.nil _ _ _) .nil))) (.nil)) (bookOkS ⟨l, []⟩) rfl) ?_
  refine ARun.step rfl (step_not rfl (hn rfl) rfl rfl) ?_
  refine ARun.nil ?_
  refine AWp.cond rfl (fun c1 => ?_) (fun c1 => ?_)
  · try simp only [decide_eq_true_eq, decide_eq_false_iff_not, beq_iff_eq, bne_iff_ne, Bool.not_eq_true', Bool.not_eq_false', Bool.and_eq_true, Bool.or_eq_true, Bool.and_eq_false_iff, Bool.or_eq_false_iff, Int.not_lt, Int.not_le, gt_iff_lt, ge_iff_le, bne_eq_false_iff_eq, beq_eq_false_iff_ne, ne_eq, Int.toNat_natCast] at c1
    refine AWp.seq (AWp.region ?_)
    refine ARun.step rfl (step_build rfl (hn rfl) rfl yoPl49 yoZc49 (.nil) rfl) ?_
    refine ARun.step rfl (step_store_p rfl rfl yoCs49 rfl rfl rfl rfl rfl rfl rfl) ?_
    refine ARun.step rfl (step_assignV rfl (hn rfl) rfl rfl) ?_
    refine ARun.nil ?_
    refine AWp.ret ?_
    refine ⟨.inr rfl, 2, 6, _, _, _, yoSt49, by decide, rfl, rfl, rfl, rfl, (.cons rfl (.agg (.cons (.sc _ _ rfl) (.cons (.sc _ _ rfl) (.cons (.nil 9 1 (fun i => [.str (nth [] i)]) _) (.cons (.nil 94 3 (fun i => (nth ([] : List Bt) i).cells) _) (.cons (.nil 114 6 (fun _ => []) _) (.cons (.nil 117 3 (fun _ => []) _) (.nil _)))))))) (.cons rfl (.one (.sc _ _ rfl)) (.nil _))), rfl, ?_⟩
    rw [show openR l = [] by simp [openR, *]]
    simp_all [ho]
    rfl
  · try simp only [decide_eq_true_eq, decide_eq_false_iff_not, beq_iff_eq, bne_iff_ne, Bool.not_eq_true', Bool.not_eq_false', Bool.and_eq_true, Bool.or_eq_true, Bool.and_eq_false_iff, Bool.or_eq_false_iff, Int.not_lt, Int.not_le, gt_iff_lt, ge_iff_le, bne_eq_false_iff_eq, beq_eq_false_iff_ne, ne_eq, Int.toNat_natCast] at c1
    refine AWp.skip ?_
    refine AWp.seq (AWp.region ?_)
    refine ARun.step rfl (step_loadS_b rfl (hn rfl) rfl yoSt45 rfl rfl rfl (by decide)) ?_
    refine ARun.step rfl (step_build rfl (hn rfl) rfl yoPl49 yoZc49 (.cons rfl rfl rfl rfl (.nil)) rfl) ?_
    refine ARun.step rfl (step_store_r rfl rfl yoCs49 rfl rfl rfl rfl rfl rfl rfl) ?_
    refine ARun.step rfl (step_assignV rfl (hn rfl) rfl rfl) ?_
    refine ARun.nil ?_
    refine AWp.ret ?_
    refine ⟨.inr rfl, 2, 6, _, _, _, yoSt49, by decide, rfl, rfl, rfl, rfl, (.cons rfl (.agg (.cons (.sc _ _ rfl) (.cons (.sc _ _ rfl) (.cons (.ref _ _ rfl) (.cons (.nil 94 3 (fun i => (nth ([] : List Bt) i).cells) _) (.cons (.nil 114 6 (fun _ => []) _) (.cons (.nil 117 3 (fun _ => []) _) (.nil _)))))))) (.cons rfl (.one (.sc _ _ rfl)) (.nil _))), rfl, ?_⟩
    rw [show openR l = l by simp [openR, *]]
    simp_all [ho]
    rfl
set_option maxHeartbeats 1000000 in
theorem lawRunOpen (l : List Str)  : ASpec Try.prog 4 [.one (strs l)] (.one (.bool true)) := by
  refine ASpec.body Try.func4 rfl [2] rfl 96 rfl rfl rfl ?_
  have hrl := openR_len l
  refine AWp.seq (AWp.region ?_)
  refine ARun.step rfl (step_assignV rfl (hn rfl) rfl rfl) ?_
  refine ARun.nil ?_
  refine AWp.seq (AWp.region ?_)
  refine ARun.step rfl (step_assignV rfl (hn rfl) rfl rfl) ?_
  refine ARun.nil ?_
  refine AWp.seq (AWp.region ?_)
  refine ARun.step rfl (step_moveV rfl (hn rfl) rfl rfl) ?_
  refine ARun.step rfl (step_moveV rfl (hn rfl) rfl rfl) ?_
  refine ARun.step rfl (call_step1 rfl (hn rfl) rfl yoCo21 (.cons rfl (.one (.v _)) (.cons rfl (.one (.v _)) (.nil))) (szStrS _ _ (by omega) (by omega)) rfl) ?_
  refine ARun.step rfl (step_assignV rfl (hn rfl) rfl rfl) ?_
  refine ARun.nil ?_
  refine AWp.seq ?_
  refine AWp.seq (AWp.region ?_)
  refine ARun.step rfl (step_moveV rfl (hn rfl) rfl rfl) ?_
  refine ARun.step rfl (step_lss rfl (hn rfl) rfl rfl rfl) ?_
  refine ARun.nil ?_
  refine AWp.cond rfl (fun c1 => ?_) (fun c1 => ?_)
  · try simp only [decide_eq_true_eq, decide_eq_false_iff_not, beq_iff_eq, bne_iff_ne, Bool.not_eq_true', Bool.not_eq_false', Bool.and_eq_true, Bool.or_eq_true, Bool.and_eq_false_iff, Bool.or_eq_false_iff, Int.not_lt, Int.not_le, gt_iff_lt, ge_iff_le, bne_eq_false_iff_eq, beq_eq_false_iff_ne, ne_eq, Int.toNat_natCast] at c1
    refine AWp.seq (AWp.region ?_)
    refine ARun.step rfl (step_assignV rfl (hn rfl) rfl rfl) ?_
    refine ARun.nil ?_
    refine AWp.ret ?_
    refine RetIs.sc (.inr rfl) rfl rfl ?_
    refine congrArg T.bool ?_
    first
      | rfl
      | (exfalso; omega)
      | (exfalso; simp [eqL_refl, strEq_refl, eqBk_refl] at *; done)
      | (exfalso; simp [eqL_refl, strEq_refl, eqBk_refl] at *; omega)
  · try simp only [decide_eq_true_eq, decide_eq_false_iff_not, beq_iff_eq, bne_iff_ne, Bool.not_eq_true', Bool.not_eq_false', Bool.and_eq_true, Bool.or_eq_true, Bool.and_eq_false_iff, Bool.or_eq_false_iff, Int.not_lt, Int.not_le, gt_iff_lt, ge_iff_le, bne_eq_false_iff_eq, beq_eq_false_iff_ne, ne_eq, Int.toNat_natCast] at c1
    have hll := szL_len (f := szStr) (l := l) (by assumption)
    have hl : l.length ≤ 1048576 := by omega
    have hol : (openR l).length ≤ 1048576 := by omega
    refine AWp.skip ?_
    refine AWp.seq (AWp.region ?_)
    refine ARun.step rfl (step_moveV rfl (hn rfl) rfl rfl) ?_
    refine ARun.step rfl (call_stepZ rfl (hn rfl) rfl yoCo23 (.cons rfl (.one (.v _)) (.nil)) (toStrSZ _ (by assumption)) rfl rfl) ?_
    refine ARun.step rfl (call_stepN rfl (hn rfl) rfl yoCo22 (.cons rfl (.one (.v _)) (.nil)) (openS l hl) rfl rfl) ?_
    refine ARun.step rfl (step_moveV rfl (hn rfl) rfl rfl) ?_
    refine ARun.step rfl (step_extract rfl (hn rfl) rfl rfl rfl (by intro l h; cases h)) ?_
    refine ARun.step rfl (step_extract rfl (hn rfl) rfl rfl rfl (by intro l h; cases h)) ?_
    refine ARun.step rfl (step_alloc_p rfl (hn rfl) rfl yoZs49) ?_
    refine ARun.step rfl (step_store_r rfl rfl yoCs49 rfl rfl rfl rfl rfl rfl rfl) ?_
    refine ARun.step rfl (step_assignV rfl (hn rfl) rfl rfl) ?_
    refine ARun.nil ?_
    refine AWp.seq (AWp.region ?_)
    refine ARun.step rfl (step_moveV rfl (hn rfl) rfl rfl) ?_
    refine ARun.step rfl (call_stepN rfl (hn rfl) rfl yoCo23 (.cons rfl (.one (.v _)) (.nil)) (toStrS _ (by assumption)) rfl rfl) ?_
    refine ARun.step rfl (step_assignV rfl (hn rfl) rfl rfl) ?_
    refine ARun.nil ?_
    refine AWp.seq (AWp.region ?_)
    refine ARun.step rfl (step_moveV rfl (hn rfl) rfl rfl) ?_
    refine ARun.step rfl (call_stepC rfl (hn rfl) rfl yoCo24 (.cons rfl (.one (.ref _ rfl)) (.nil)) (openI l hl) rfl (CleanL.all (.cons (.int _ _) (.cons (.int _ _) (.cons (clean_strs _) (.cons (clean_btsO _ _) (.cons (clean_noB _ _) (.cons (clean_noB _ _) (.cons (.bool _) .nil))))))))) ?_
    refine ARun.step rfl (step_moveV rfl (hn rfl) rfl rfl) ?_
    refine ARun.step rfl (step_extract rfl (hn rfl) rfl rfl rfl (by intro l h; cases h)) ?_
    refine ARun.step rfl (step_extract rfl (hn rfl) rfl rfl rfl (by intro l h; cases h)) ?_
    refine ARun.step rfl (step_alloc_p rfl (hn rfl) rfl yoZs49) ?_
    refine ARun.step rfl (step_store_r rfl rfl yoCs49 rfl rfl rfl rfl rfl rfl rfl) ?_
    refine ARun.step rfl (step_assignV rfl (hn rfl) rfl rfl) ?_
    refine ARun.nil ?_
    refine AWp.seq ?_
    refine AWp.seq (AWp.region ?_)
    refine ARun.step rfl (step_loadS_b rfl (hn rfl) rfl yoSt49 rfl rfl rfl (by decide)) ?_
    refine ARun.step rfl (step_loadS_b rfl (hn rfl) rfl yoSt49 rfl rfl rfl (by decide)) ?_
    refine ARun.step rfl (call_step1 rfl (hn rfl) rfl yoCo25 (.cons rfl (.agg (.cons (.v _) (.cons (.v _) (.cons (.ref _ rfl) (.cons (.refz _ rfl (fz_bts _ _)) (.cons (.ref _ rfl) (.cons (.ref _ rfl) .nil))))))) (.cons rfl (.agg (.cons (.v _) (.cons (.v _) (.cons (.ref _ rfl) (.cons (.refz _ rfl (fz_bts _ _)) (.cons (.ref _ rfl) (.cons (.ref _ rfl) .nil))))))) (.nil))) (eqHs _ _) rfl) ?_
    refine ARun.step rfl (step_not rfl (hn rfl) rfl rfl) ?_
    refine ARun.step rfl (step_moveV rfl (hn rfl) rfl rfl) ?_
    refine guardS rfl rfl rfl rfl (hn rfl) (fun g1 g2 => step_moveV rfl (hn rfl) rfl rfl) ?_
    refine guardS rfl rfl rfl rfl (hn rfl) (fun g1 g2 => step_moveV rfl (hn rfl) rfl rfl) ?_
    refine guardS rfl rfl rfl rfl (hn rfl) (fun g1 g2 => step_bneq rfl (hn rfl) rfl yoUb4 (ev_true rfl (by exact flag2 g1 g2)) (ev_true rfl (by exact flag2 g1 g2))) ?_
    refine ARun.step rfl (step_or rfl (hn rfl) rfl rfl rfl (fun h => (by exact flag1 h))) ?_
    refine ARun.nil ?_
    refine AWp.cond rfl (fun c2 => ?_) (fun c2 => ?_)
    · try simp only [decide_eq_true_eq, decide_eq_false_iff_not, beq_iff_eq, bne_iff_ne, Bool.not_eq_true', Bool.not_eq_false', Bool.and_eq_true, Bool.or_eq_true, Bool.and_eq_false_iff, Bool.or_eq_false_iff, Int.not_lt, Int.not_le, gt_iff_lt, ge_iff_le, bne_eq_false_iff_eq, beq_eq_false_iff_ne, ne_eq, Int.toNat_natCast] at c2
      refine AWp.seq (AWp.region ?_)
      refine ARun.step rfl (step_assignV rfl (hn rfl) rfl rfl) ?_
      refine ARun.nil ?_
      refine AWp.ret ?_
      refine RetIs.sc (.inr rfl) rfl rfl ?_
      refine congrArg T.bool ?_
      first
        | rfl
        | (exfalso; omega)
        | (exfalso; simp [eqL_refl, strEq_refl, eqBk_refl] at *; done)
        | (exfalso; simp [eqL_refl, strEq_refl, eqBk_refl] at *; omega)
    · try simp only [decide_eq_true_eq, decide_eq_false_iff_not, beq_iff_eq, bne_iff_ne, Bool.not_eq_true', Bool.not_eq_false', Bool.and_eq_true, Bool.or_eq_true, Bool.and_eq_false_iff, Bool.or_eq_false_iff, Int.not_lt, Int.not_le, gt_iff_lt, ge_iff_le, bne_eq_false_iff_eq, beq_eq_false_iff_ne, ne_eq, Int.toNat_natCast] at c2
      refine AWp.skip ?_
      refine AWp.seq ?_
      refine AWp.seq (AWp.region ?_)
      refine ARun.step rfl (step_moveV rfl (hn rfl) rfl rfl) ?_
      refine ARun.step rfl (step_moveV rfl (hn rfl) rfl rfl) ?_
      refine ARun.step rfl (call_stepZ rfl (hn rfl) rfl yoCo23 (.cons rfl (.one (.v _)) (.nil)) (toStrSZ _ (by assumption)) rfl rfl) ?_
      refine ARun.step rfl (call_step1 rfl (hn rfl) rfl yoCo14 (.cons rfl (.one (.ref _ rfl)) (.cons rfl (.one (.v _)) (.nil))) (eqStrS _ _) rfl) ?_
      refine ARun.step rfl (step_not rfl (hn rfl) rfl rfl) ?_
      refine ARun.nil ?_
      refine AWp.cond rfl (fun c3 => ?_) (fun c3 => ?_)
      · try simp only [decide_eq_true_eq, decide_eq_false_iff_not, beq_iff_eq, bne_iff_ne, Bool.not_eq_true', Bool.not_eq_false', Bool.and_eq_true, Bool.or_eq_true, Bool.and_eq_false_iff, Bool.or_eq_false_iff, Int.not_lt, Int.not_le, gt_iff_lt, ge_iff_le, bne_eq_false_iff_eq, beq_eq_false_iff_ne, ne_eq, Int.toNat_natCast] at c3
        refine AWp.seq (AWp.region ?_)
        refine ARun.step rfl (step_assignV rfl (hn rfl) rfl rfl) ?_
        refine ARun.nil ?_
        refine AWp.ret ?_
        refine RetIs.sc (.inr rfl) rfl rfl ?_
        refine congrArg T.bool ?_
        first
          | rfl
          | (exfalso; omega)
          | (exfalso; simp [eqL_refl, strEq_refl, eqBk_refl] at *; done)
          | (exfalso; simp [eqL_refl, strEq_refl, eqBk_refl] at *; omega)
      · try simp only [decide_eq_true_eq, decide_eq_false_iff_not, beq_iff_eq, bne_iff_ne, Bool.not_eq_true', Bool.not_eq_false', Bool.and_eq_true, Bool.or_eq_true, Bool.and_eq_false_iff, Bool.or_eq_false_iff, Int.not_lt, Int.not_le, gt_iff_lt, ge_iff_le, bne_eq_false_iff_eq, beq_eq_false_iff_ne, ne_eq, Int.toNat_natCast] at c3
        refine AWp.skip ?_
        refine AWp.seq (AWp.region ?_)
        refine ARun.step rfl (step_assignV rfl (hn rfl) rfl rfl) ?_
        refine ARun.nil ?_
        refine AWp.seq (AWp.region ?_)
        refine ARun.step rfl (step_moveV rfl (hn rfl) rfl rfl) ?_
        refine ARun.step rfl (step_moveV rfl (hn rfl) rfl rfl) ?_
        refine ARun.step rfl (mcall_roots (L := [(⟨.arr 26 0, []⟩, 0)]) (TL := [(26, 0, _)]) rfl (hn rfl) rfl yoCo19 rfl (.cons rfl (.one (.rw _ rfl rfl rfl)) (.cons rfl (.one (.v (.refl _))) (.nil _))) (markStrS l 1 (by omega) (by omega)) rfl (.cons (i := 0) (j := 0) rfl rfl rfl rfl rfl rfl .nil)) ?_
        refine ARun.step rfl (step_assignV rfl (hn rfl) rfl rfl) ?_
        refine ARun.nil ?_
        refine AWp.seq ?_
        refine AWp.seq (AWp.region ?_)
        refine ARun.step rfl (step_moveV rfl (hn rfl) rfl rfl) ?_
        refine ARun.step rfl (step_lss rfl (hn rfl) rfl rfl rfl) ?_
        refine ARun.step rfl (step_moveV rfl (hn rfl) rfl rfl) ?_
        refine guardS rfl rfl rfl rfl (hn rfl) (fun g1 g2 => step_loadS_b rfl (hn rfl) rfl yoSt49 rfl rfl rfl (by decide)) ?_
        refine guardS rfl rfl rfl rfl (hn rfl) (fun g1 g2 => step_loadS_b rfl (hn rfl) rfl yoSt49 rfl rfl rfl (by decide)) ?_
        refine guardS rfl rfl rfl rfl (hn rfl) (fun g1 g2 => call_step1 rfl (hn rfl) rfl yoCo25 (.cons (ev_true rfl (by exact flag2 g1 g2)) (.agg (.cons (.v _) (.cons (.v _) (.cons (.ref _ rfl) (.cons (.refz _ rfl (fz_bts _ _)) (.cons (.ref _ rfl) (.cons (.ref _ rfl) .nil))))))) (.cons (ev_true rfl (by exact flag2 g1 g2)) (.agg (.cons (.v _) (.cons (.v _) (.cons (.ref _ rfl) (.cons (.refz _ rfl (fz_bts _ _)) (.cons (.ref _ rfl) (.cons (.ref _ rfl) .nil))))))) (.nil))) (eqHs _ _) rfl) ?_
        refine guardS rfl rfl rfl rfl (hn rfl) (fun g1 g2 => step_not rfl (hn rfl) rfl (ev_true rfl (by exact flag2 g1 g2))) ?_
        refine ARun.step rfl (step_or rfl (hn rfl) rfl rfl rfl (fun h => (by exact flag1 h))) ?_
        refine ARun.step rfl (step_moveV rfl (hn rfl) rfl rfl) ?_
        refine guardS rfl rfl rfl rfl (hn rfl) (fun g1 g2 => step_moveV rfl (hn rfl) rfl rfl) ?_
        refine guardS rfl rfl rfl rfl (hn rfl) (fun g1 g2 => step_moveV rfl (hn rfl) rfl rfl) ?_
        refine guardS rfl rfl rfl rfl (hn rfl) (fun g1 g2 => step_bneq rfl (hn rfl) rfl yoUb4 (ev_true rfl (by exact flag2 g1 g2)) (ev_true rfl (by exact flag2 g1 g2))) ?_
        refine ARun.step rfl (step_or rfl (hn rfl) rfl rfl rfl (fun h => (by exact flag1 h))) ?_
        refine ARun.nil ?_
        refine AWp.cond rfl (fun c4 => ?_) (fun c4 => ?_)
        · try simp only [decide_eq_true_eq, decide_eq_false_iff_not, beq_iff_eq, bne_iff_ne, Bool.not_eq_true', Bool.not_eq_false', Bool.and_eq_true, Bool.or_eq_true, Bool.and_eq_false_iff, Bool.or_eq_false_iff, Int.not_lt, Int.not_le, gt_iff_lt, ge_iff_le, bne_eq_false_iff_eq, beq_eq_false_iff_ne, ne_eq, Int.toNat_natCast] at c4
          refine AWp.seq (AWp.region ?_)
          refine ARun.step rfl (step_assignV rfl (hn rfl) rfl rfl) ?_
          refine ARun.nil ?_
          refine AWp.ret ?_
          refine RetIs.sc (.inr rfl) rfl rfl ?_
          refine congrArg T.bool ?_
          first
            | rfl
            | (exfalso; omega)
            | (exfalso; simp [eqL_refl, strEq_refl, eqBk_refl] at *; done)
            | (exfalso; simp [eqL_refl, strEq_refl, eqBk_refl] at *; omega)
        · try simp only [decide_eq_true_eq, decide_eq_false_iff_not, beq_iff_eq, bne_iff_ne, Bool.not_eq_true', Bool.not_eq_false', Bool.and_eq_true, Bool.or_eq_true, Bool.and_eq_false_iff, Bool.or_eq_false_iff, Int.not_lt, Int.not_le, gt_iff_lt, ge_iff_le, bne_eq_false_iff_eq, beq_eq_false_iff_ne, ne_eq, Int.toNat_natCast] at c4
          refine AWp.skip ?_
          refine AWp.seq (AWp.region ?_)
          refine ARun.step rfl (step_assignV rfl (hn rfl) rfl rfl) ?_
          refine ARun.nil ?_
          refine AWp.seq (AWp.region ?_)
          refine ARun.step rfl (step_loadS_b rfl (hn rfl) rfl yoSt49 rfl rfl rfl (by decide)) ?_
          refine ARun.step rfl (step_moveV rfl (hn rfl) rfl rfl) ?_
          refine ARun.step rfl (mcall_roots (L := [(⟨.arr 29 2, []⟩, 2), (⟨.arr 29 3, []⟩, 3), (⟨.arr 29 4, []⟩, 4), (⟨.arr 29 5, []⟩, 5)]) (TL := [(29, 2, _), (29, 3, _), (29, 4, _), (29, 5, _)]) rfl (hn rfl) rfl yoCo26 rfl (.cons rfl (.agg (.cons (.v (.refl _)) (.cons (.v (.refl _)) (.cons (.rw _ rfl rfl rfl) (.cons (.rw _ rfl rfl rfl) (.cons (.rw _ rfl rfl rfl) (.cons (.rw _ rfl rfl rfl) (.nil _)))))))) (.cons rfl (.one (.v (.refl _))) (.nil _))) (markHs (openR l) 1 (by omega) (by omega)) rfl (.cons (i := 0) (j := 2) rfl rfl rfl rfl rfl rfl (.cons (i := 0) (j := 3) rfl rfl rfl rfl rfl rfl (.cons (i := 0) (j := 4) rfl rfl rfl rfl rfl rfl (.cons (i := 0) (j := 5) rfl rfl rfl rfl rfl rfl .nil))))) ?_
          refine ARun.step rfl (step_assignV rfl (hn rfl) rfl rfl) ?_
          refine ARun.nil ?_
          refine AWp.seq (AWp.region ?_)
          refine ARun.step rfl (step_assignV rfl (hn rfl) rfl rfl) ?_
          refine ARun.nil ?_
          refine AWp.seq (AWp.region ?_)
          refine ARun.step rfl (step_loadS_b rfl (hn rfl) rfl yoSt49 rfl rfl rfl (by decide)) ?_
          refine ARun.step rfl (step_moveV rfl (hn rfl) rfl rfl) ?_
          refine ARun.step rfl (call_step1 rfl (hn rfl) rfl yoCo27 (.cons rfl (.agg (.cons (.v _) (.cons (.v _) (.cons (.ref _ rfl) (.cons (.ref _ rfl) (.cons (.ref _ rfl) (.cons (.ref _ rfl) .nil))))))) (.cons rfl (.one (.v _)) (.nil))) (heldHs (openR l) 1 (by omega) (by omega)) rfl) ?_
          refine ARun.step rfl (step_assignV rfl (hn rfl) rfl rfl) ?_
          refine ARun.nil ?_
          refine AWp.seq ?_
          refine AWp.seq (AWp.region ?_)
          refine ARun.step rfl (step_moveV rfl (hn rfl) rfl rfl) ?_
          refine ARun.step rfl (step_lss rfl (hn rfl) rfl rfl rfl) ?_
          refine ARun.nil ?_
          refine AWp.cond rfl (fun c5 => ?_) (fun c5 => ?_)
          · try simp only [decide_eq_true_eq, decide_eq_false_iff_not, beq_iff_eq, bne_iff_ne, Bool.not_eq_true', Bool.not_eq_false', Bool.and_eq_true, Bool.or_eq_true, Bool.and_eq_false_iff, Bool.or_eq_false_iff, Int.not_lt, Int.not_le, gt_iff_lt, ge_iff_le, bne_eq_false_iff_eq, beq_eq_false_iff_ne, ne_eq, Int.toNat_natCast] at c5
            refine AWp.seq (AWp.region ?_)
            refine ARun.step rfl (step_assignV rfl (hn rfl) rfl rfl) ?_
            refine ARun.nil ?_
            refine AWp.ret ?_
            refine RetIs.sc (.inr rfl) rfl rfl ?_
            refine congrArg T.bool ?_
            first
              | rfl
              | (exfalso; omega)
              | (exfalso; simp [eqL_refl, strEq_refl, eqBk_refl] at *; done)
              | (exfalso; simp [eqL_refl, strEq_refl, eqBk_refl] at *; omega)
          · try simp only [decide_eq_true_eq, decide_eq_false_iff_not, beq_iff_eq, bne_iff_ne, Bool.not_eq_true', Bool.not_eq_false', Bool.and_eq_true, Bool.or_eq_true, Bool.and_eq_false_iff, Bool.or_eq_false_iff, Int.not_lt, Int.not_le, gt_iff_lt, ge_iff_le, bne_eq_false_iff_eq, beq_eq_false_iff_ne, ne_eq, Int.toNat_natCast] at c5
            refine AWp.skip ?_
            refine AWp.seq ?_
            refine AWp.seq (AWp.region ?_)
            refine ARun.step rfl (step_moveV rfl (hn rfl) rfl rfl) ?_
            refine ARun.step rfl (step_moveV rfl (hn rfl) rfl rfl) ?_
            refine ARun.step rfl (step_neq rfl (hn rfl) rfl rfl rfl) ?_
            refine ARun.nil ?_
            refine AWp.cond rfl (fun c6 => ?_) (fun c6 => ?_)
            · try simp only [decide_eq_true_eq, decide_eq_false_iff_not, beq_iff_eq, bne_iff_ne, Bool.not_eq_true', Bool.not_eq_false', Bool.and_eq_true, Bool.or_eq_true, Bool.and_eq_false_iff, Bool.or_eq_false_iff, Int.not_lt, Int.not_le, gt_iff_lt, ge_iff_le, bne_eq_false_iff_eq, beq_eq_false_iff_ne, ne_eq, Int.toNat_natCast] at c6
              refine AWp.seq (AWp.region ?_)
              refine ARun.step rfl (step_assignV rfl (hn rfl) rfl rfl) ?_
              refine ARun.nil ?_
              refine AWp.ret ?_
              refine RetIs.sc (.inr rfl) rfl rfl ?_
              refine congrArg T.bool ?_
              first
                | rfl
                | (exfalso; omega)
                | (exfalso; simp [eqL_refl, strEq_refl, eqBk_refl] at *; done)
                | (exfalso; simp [eqL_refl, strEq_refl, eqBk_refl] at *; omega)
            · try simp only [decide_eq_true_eq, decide_eq_false_iff_not, beq_iff_eq, bne_iff_ne, Bool.not_eq_true', Bool.not_eq_false', Bool.and_eq_true, Bool.or_eq_true, Bool.and_eq_false_iff, Bool.or_eq_false_iff, Int.not_lt, Int.not_le, gt_iff_lt, ge_iff_le, bne_eq_false_iff_eq, beq_eq_false_iff_ne, ne_eq, Int.toNat_natCast] at c6
              refine AWp.skip ?_
              refine AWp.seq (AWp.region ?_)
              refine ARun.step rfl (step_moveV rfl (hn rfl) rfl rfl) ?_
              refine ARun.step rfl (call_stepZ rfl (hn rfl) rfl yoCo23 (.cons rfl (.one (.v _)) (.nil)) (toStrSZ _ (by assumption)) rfl rfl) ?_
              refine ARun.step rfl (call_stepN rfl (hn rfl) rfl yoCo24 (.cons rfl (.one (.v _)) (.nil)) (openI l hl) rfl rfl) ?_
              refine ARun.step rfl (step_moveV rfl (hn rfl) rfl rfl) ?_
              refine ARun.step rfl (step_extract rfl (hn rfl) rfl rfl rfl (by intro l h; cases h)) ?_
              refine ARun.step rfl (step_extract rfl (hn rfl) rfl rfl rfl (by intro l h; cases h)) ?_
              refine ARun.step rfl (step_alloc_p rfl (hn rfl) rfl yoZs49) ?_
              refine ARun.step rfl (step_store_r rfl rfl yoCs49 rfl rfl rfl rfl rfl rfl rfl) ?_
              refine ARun.step rfl (step_assignV rfl (hn rfl) rfl rfl) ?_
              refine ARun.nil ?_
              refine AWp.seq ?_
              refine AWp.seq (AWp.region ?_)
              refine ARun.step rfl (step_loadS_b rfl (hn rfl) rfl yoSt49 rfl rfl rfl (by decide)) ?_
              refine ARun.step rfl (step_loadS_b rfl (hn rfl) rfl yoSt49 rfl rfl rfl (by decide)) ?_
              refine ARun.step rfl (call_step1 rfl (hn rfl) rfl yoCo25 (.cons rfl (.agg (.cons (.v _) (.cons (.v _) (.cons (.ref _ rfl) (.cons (.refz _ rfl (fz_bts _ _)) (.cons (.ref _ rfl) (.cons (.ref _ rfl) .nil))))))) (.cons rfl (.agg (.cons (.v _) (.cons (.v _) (.cons (.ref _ rfl) (.cons (.refz _ rfl (fz_bts _ _)) (.cons (.ref _ rfl) (.cons (.ref _ rfl) .nil))))))) (.nil))) (eqHs _ _) rfl) ?_
              refine ARun.step rfl (step_not rfl (hn rfl) rfl rfl) ?_
              refine ARun.step rfl (step_moveV rfl (hn rfl) rfl rfl) ?_
              refine guardS rfl rfl rfl rfl (hn rfl) (fun g1 g2 => step_moveV rfl (hn rfl) rfl rfl) ?_
              refine guardS rfl rfl rfl rfl (hn rfl) (fun g1 g2 => step_moveV rfl (hn rfl) rfl rfl) ?_
              refine guardS rfl rfl rfl rfl (hn rfl) (fun g1 g2 => step_bneq rfl (hn rfl) rfl yoUb4 (ev_true rfl (by exact flag2 g1 g2)) (ev_true rfl (by exact flag2 g1 g2))) ?_
              refine ARun.step rfl (step_or rfl (hn rfl) rfl rfl rfl (fun h => (by exact flag1 h))) ?_
              refine ARun.nil ?_
              refine AWp.cond rfl (fun c7 => ?_) (fun c7 => ?_)
              · try simp only [decide_eq_true_eq, decide_eq_false_iff_not, beq_iff_eq, bne_iff_ne, Bool.not_eq_true', Bool.not_eq_false', Bool.and_eq_true, Bool.or_eq_true, Bool.and_eq_false_iff, Bool.or_eq_false_iff, Int.not_lt, Int.not_le, gt_iff_lt, ge_iff_le, bne_eq_false_iff_eq, beq_eq_false_iff_ne, ne_eq, Int.toNat_natCast] at c7
                refine AWp.seq (AWp.region ?_)
                refine ARun.step rfl (step_assignV rfl (hn rfl) rfl rfl) ?_
                refine ARun.nil ?_
                refine AWp.ret ?_
                refine RetIs.sc (.inr rfl) rfl rfl ?_
                refine congrArg T.bool ?_
                first
                  | rfl
                  | (exfalso; omega)
                  | (exfalso; simp [eqL_refl, strEq_refl, eqBk_refl] at *; done)
                  | (exfalso; simp [eqL_refl, strEq_refl, eqBk_refl] at *; omega)
              · try simp only [decide_eq_true_eq, decide_eq_false_iff_not, beq_iff_eq, bne_iff_ne, Bool.not_eq_true', Bool.not_eq_false', Bool.and_eq_true, Bool.or_eq_true, Bool.and_eq_false_iff, Bool.or_eq_false_iff, Int.not_lt, Int.not_le, gt_iff_lt, ge_iff_le, bne_eq_false_iff_eq, beq_eq_false_iff_ne, ne_eq, Int.toNat_natCast] at c7
                refine AWp.skip ?_
                refine AWp.seq (AWp.region ?_)
                refine ARun.step rfl (step_assignV rfl (hn rfl) rfl rfl) ?_
                refine ARun.nil ?_
                refine AWp.seq (AWp.region ?_)
                refine ARun.step rfl (step_loadS_b rfl (hn rfl) rfl yoSt49 rfl rfl rfl (by decide)) ?_
                refine ARun.step rfl (step_moveV rfl (hn rfl) rfl rfl) ?_
                refine ARun.step rfl (call_step1 rfl (hn rfl) rfl yoCo27 (.cons rfl (.agg (.cons (.v _) (.cons (.v _) (.cons (.ref _ rfl) (.cons (.ref _ rfl) (.cons (.ref _ rfl) (.cons (.ref _ rfl) .nil))))))) (.cons rfl (.one (.v _)) (.nil))) (heldHs (openR l) 1 (by omega) (by omega)) rfl) ?_
                refine ARun.step rfl (step_assignV rfl (hn rfl) rfl rfl) ?_
                refine ARun.nil ?_
                refine AWp.seq ?_
                refine AWp.seq (AWp.region ?_)
                refine ARun.step rfl (step_moveV rfl (hn rfl) rfl rfl) ?_
                refine ARun.step rfl (step_lss rfl (hn rfl) rfl rfl rfl) ?_
                refine ARun.nil ?_
                refine AWp.cond rfl (fun c8 => ?_) (fun c8 => ?_)
                · try simp only [decide_eq_true_eq, decide_eq_false_iff_not, beq_iff_eq, bne_iff_ne, Bool.not_eq_true', Bool.not_eq_false', Bool.and_eq_true, Bool.or_eq_true, Bool.and_eq_false_iff, Bool.or_eq_false_iff, Int.not_lt, Int.not_le, gt_iff_lt, ge_iff_le, bne_eq_false_iff_eq, beq_eq_false_iff_ne, ne_eq, Int.toNat_natCast] at c8
                  refine AWp.seq (AWp.region ?_)
                  refine ARun.step rfl (step_assignV rfl (hn rfl) rfl rfl) ?_
                  refine ARun.nil ?_
                  refine AWp.ret ?_
                  refine RetIs.sc (.inr rfl) rfl rfl ?_
                  refine congrArg T.bool ?_
                  first
                    | rfl
                    | (exfalso; omega)
                    | (exfalso; simp [eqL_refl, strEq_refl, eqBk_refl] at *; done)
                    | (exfalso; simp [eqL_refl, strEq_refl, eqBk_refl] at *; omega)
                · try simp only [decide_eq_true_eq, decide_eq_false_iff_not, beq_iff_eq, bne_iff_ne, Bool.not_eq_true', Bool.not_eq_false', Bool.and_eq_true, Bool.or_eq_true, Bool.and_eq_false_iff, Bool.or_eq_false_iff, Int.not_lt, Int.not_le, gt_iff_lt, ge_iff_le, bne_eq_false_iff_eq, beq_eq_false_iff_ne, ne_eq, Int.toNat_natCast] at c8
                  refine AWp.skip ?_
                  refine AWp.seq ?_
                  refine AWp.seq (AWp.region ?_)
                  refine ARun.step rfl (step_moveV rfl (hn rfl) rfl rfl) ?_
                  refine ARun.step rfl (step_moveV rfl (hn rfl) rfl rfl) ?_
                  refine ARun.step rfl (step_neq rfl (hn rfl) rfl rfl rfl) ?_
                  refine ARun.nil ?_
                  refine AWp.cond rfl (fun c9 => ?_) (fun c9 => ?_)
                  · try simp only [decide_eq_true_eq, decide_eq_false_iff_not, beq_iff_eq, bne_iff_ne, Bool.not_eq_true', Bool.not_eq_false', Bool.and_eq_true, Bool.or_eq_true, Bool.and_eq_false_iff, Bool.or_eq_false_iff, Int.not_lt, Int.not_le, gt_iff_lt, ge_iff_le, bne_eq_false_iff_eq, beq_eq_false_iff_ne, ne_eq, Int.toNat_natCast] at c9
                    refine AWp.seq (AWp.region ?_)
                    refine ARun.step rfl (step_assignV rfl (hn rfl) rfl rfl) ?_
                    refine ARun.nil ?_
                    refine AWp.ret ?_
                    refine RetIs.sc (.inr rfl) rfl rfl ?_
                    refine congrArg T.bool ?_
                    first
                      | rfl
                      | (exfalso; omega)
                      | (exfalso; simp [eqL_refl, strEq_refl, eqBk_refl] at *; done)
                      | (exfalso; simp [eqL_refl, strEq_refl, eqBk_refl] at *; omega)
                  · try simp only [decide_eq_true_eq, decide_eq_false_iff_not, beq_iff_eq, bne_iff_ne, Bool.not_eq_true', Bool.not_eq_false', Bool.and_eq_true, Bool.or_eq_true, Bool.and_eq_false_iff, Bool.or_eq_false_iff, Int.not_lt, Int.not_le, gt_iff_lt, ge_iff_le, bne_eq_false_iff_eq, beq_eq_false_iff_ne, ne_eq, Int.toNat_natCast] at c9
                    refine AWp.skip ?_
                    refine AWp.seq (AWp.region ?_)
                    refine ARun.step rfl (step_assignV rfl (hn rfl) rfl rfl) ?_
                    refine ARun.nil ?_
                    refine AWp.ret ?_
                    refine RetIs.sc (.inr rfl) rfl rfl ?_
                    refine congrArg T.bool ?_
                    first
                      | rfl
                      | (exfalso; omega)
                      | (exfalso; simp [eqL_refl, strEq_refl, eqBk_refl] at *; done)
                      | (exfalso; simp [eqL_refl, strEq_refl, eqBk_refl] at *; omega)

end Go.Proofs.Ytnedadngbhndkaa
