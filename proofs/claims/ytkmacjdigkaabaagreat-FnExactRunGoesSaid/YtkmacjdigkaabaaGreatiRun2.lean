/- Contracts of functions of the program, each met by its body; conditions stand in each statement. No condition. -/
import Derived.Test.YtkmacjdigkaabaaGreatiRun1
import Derived.Test.YtkmacjdigkaabaaGreatProg
import Derived.KernelRfl
set_option linter.unusedVariables false
set_option linter.unusedSimpArgs false
set_option linter.unnecessarySimpa false
set_option linter.unusedSimpArgs false
set_option maxRecDepth 100000
namespace Go.Proofs.YtkmacjdigkaabaaGreat
open Go Go.Mh

theorem yxSl59 : sliceT Tryz.prog 59 = some ⟨68, 8, 104⟩ := by kernel_rfl
theorem yxFo68_0 : fieldOff Tryz.prog 68 0 = some 0 := by kernel_rfl
theorem yxSc9 : scalarB Tryz.prog 9 = true := by kernel_rfl
theorem yxCo154 : callOk Tryz.prog 154 = true := by kernel_rfl
theorem yxSl22 : sliceT Tryz.prog 22 = some ⟨9, 1, 16⟩ := by kernel_rfl
theorem yxSl60 : sliceT Tryz.prog 60 = some ⟨177, 2, 32⟩ := by kernel_rfl
theorem yxSt177 : structSz Tryz.prog 177 = some 2 := by kernel_rfl
theorem yxZs177 : zeroSz Tryz.prog 177 = some 2 := by kernel_rfl
theorem yxCs177 : cellsSz Tryz.prog 177 = some (1 + 1) := by kernel_rfl
theorem yxFo177_0 : fieldOff Tryz.prog 177 0 = some 0 := by kernel_rfl
theorem yxFo177_1 : fieldOff Tryz.prog 177 1 = some 1 := by kernel_rfl
theorem yxCo67 : callOk Tryz.prog 67 = true := by kernel_rfl
theorem yxCo86 : callOk Tryz.prog 86 = true := by kernel_rfl
theorem yxMo : Tryz.prog.follows .mixedOrders = true := by kernel_rfl
theorem yxCo98 : callOk Tryz.prog 98 = true := by kernel_rfl
theorem yxCo102 : callOk Tryz.prog 102 = true := by kernel_rfl
theorem yxFo62_0 : fieldOff Tryz.prog 62 0 = some 0 := by kernel_rfl
theorem yxFo62_1 : fieldOff Tryz.prog 62 1 = some 1 := by kernel_rfl
theorem yxSc59 : scalarB Tryz.prog 59 = true := by kernel_rfl
theorem yxCo99 : callOk Tryz.prog 99 = true := by kernel_rfl
theorem yxFo62_2 : fieldOff Tryz.prog 62 2 = some 2 := by kernel_rfl
theorem yxSc60 : scalarB Tryz.prog 60 = true := by kernel_rfl
theorem yxCo100 : callOk Tryz.prog 100 = true := by kernel_rfl
theorem yxFo62_5 : fieldOff Tryz.prog 62 5 = some 5 := by kernel_rfl
theorem yxSc3 : scalarB Tryz.prog 3 = true := by kernel_rfl
theorem yxFo62_3 : fieldOff Tryz.prog 62 3 = some 3 := by kernel_rfl
theorem yxCo101 : callOk Tryz.prog 101 = true := by kernel_rfl
theorem yxFo62_4 : fieldOff Tryz.prog 62 4 = some 4 := by kernel_rfl
theorem yxFo68_5 : fieldOff Tryz.prog 68 5 = some 5 := by kernel_rfl
theorem yxCo103 : callOk Tryz.prog 103 = true := by kernel_rfl
theorem yxCo104 : callOk Tryz.prog 104 = true := by kernel_rfl
theorem yxCo105 : callOk Tryz.prog 105 = true := by kernel_rfl
theorem yxCo106 : callOk Tryz.prog 106 = true := by kernel_rfl
theorem slotsOkI (l : List Ph) (sl : List Slt) (h : recOk l = true) : ASpec Tryz.prog 100 [.one (phs 68 l), .one (slts 177 sl)] (.one (.bool (slotsOkB l sl))) := by
  refine ASpec.body Tryz.func100 rfl [4] rfl 52 rfl rfl rfl ?_
  have hlen := recOk_len h
  have hml := slotsB_len h (nth l 0).name
  refine AWp.seq (AWp.region ?_)
  refine ARun.step rfl (step_assignV rfl (hn rfl) rfl rfl) ?_
  refine ARun.nil ?_
  refine AWp.seq (AWp.region ?_)
  refine ARun.step rfl (step_moveV rfl (hn rfl) rfl rfl) ?_
  refine ARun.step rfl (step_moveV rfl (hn rfl) rfl rfl) ?_
  refine ARun.step rfl (step_index_f rfl (hn rfl) rfl yxSl59 rfl rfl (by omega) (by omega)) ?_
  refine ARun.step rfl (step_field_f rfl (hn rfl) rfl yxFo68_0 rfl) ?_
  refine ARun.step rfl (step_load_f rfl (hn rfl) rfl yxSc9 rfl (hn rfl) rfl) ?_
  refine ARun.step rfl (call_stepZ rfl (hn rfl) rfl yxCo154 (.cons rfl (.one (.v _)) (.cons rfl (.one (.v _)) (.nil))) (slotsI l (nth l 0).name h) rfl rfl) ?_
  refine ARun.step rfl (step_assignV rfl (hn rfl) rfl rfl) ?_
  refine ARun.nil ?_
  refine AWp.seq ?_
  refine AWp.seq (AWp.region ?_)
  refine ARun.step rfl (step_moveV rfl (hn rfl) rfl rfl) ?_
  refine ARun.step rfl (step_len_f rfl (hn rfl) rfl yxSl22 rfl) ?_
  refine ARun.step rfl (step_moveV rfl (hn rfl) rfl rfl) ?_
  refine ARun.step rfl (step_len_f rfl (hn rfl) rfl yxSl60 rfl) ?_
  refine ARun.step rfl (step_neq rfl (hn rfl) rfl rfl rfl) ?_
  refine ARun.nil ?_
  refine AWp.cond rfl (fun c1 => ?_) (fun c1 => ?_)
  · try simp only [nrm] at c1
    refine AWp.seq (AWp.region ?_)
    refine ARun.step rfl (step_assignV rfl (hn rfl) rfl rfl) ?_
    refine ARun.nil ?_
    refine AWp.ret ?_
    refine RetIs.sc (.inr rfl) rfl rfl ?_
    refine congrArg T.bool ?_
    rw [slotsOkB, show decide ((slotsB l (nth l 0).name).length = sl.length) = false by simp; omega, Bool.false_and]
  · try simp only [nrm] at c1
    refine AWp.skip ?_
    refine AWp.seq (AWp.region ?_)
    refine ARun.step rfl (step_assignV rfl (hn rfl) rfl rfl) ?_
    refine ARun.nil ?_
    refine AWp.seq ?_
    refine AWp.seq (AWp.region ?_)
    refine ARun.step rfl (step_moveV rfl (hn rfl) rfl rfl) ?_
    refine ARun.step rfl (step_len_f rfl (hn rfl) rfl yxSl60 rfl) ?_
    refine ARun.step rfl (step_moveV rfl (hn rfl) rfl rfl) ?_
    refine ARun.nil ?_
    refine AWp.block ?_
    refine AWp.le (Le.nilRef 6 6 9 1 (fun i => [.str (nth [] i)]) rfl rfl) ?_
    refine AWp.loopM (fun i : Nat => mkAS 52 [(5, ⟨true, .one (.v (strs (slotsB l (nth l 0).name)))⟩), (6, ⟨true, .one (.ref ⟨.arr 6 0, []⟩)⟩), (20, ⟨true, .one (.v (slts 177 sl))⟩), (21, ⟨true, .one (.v (.int .i64 (sl.length : Nat)))⟩), (22, ⟨true, .one (.v (.int .i64 (i : Nat)))⟩)] [] [(6, 0, strs (thgs sl i))]) (fun i => i ≤ sl.length ∧ ∀ j, j < i → sloAt (slotsB l (nth l 0).name) sl j = true) (fun i => sl.length - i) 0 ?_ (Le.forgetR rfl ⟨rfl, rfl, rfl, rfl, rfl, trivial⟩ trivial ⟨.refl _, trivial⟩) ?_
    · try dsimp only
      exact ⟨by omega, by omega⟩
    rintro i ⟨hi, hall⟩
    have htl := thgs_len sl i
    refine AWp.seq (AWp.region ?_)
    refine ARun.step rfl (step_lss rfl (hn rfl) rfl rfl rfl) ?_
    refine ARun.nil ?_
    refine AWp.seq ?_
    refine AWp.cond rfl (fun c2 => ?_) (fun c2 => ?_)
    · try simp only [nrm] at c2
      refine AWp.skip ?_
      refine AWp.seq ?_
      refine AWp.block ?_
      refine AWp.seq (AWp.region ?_)
      refine ARun.step rfl (step_moveV rfl (hn rfl) rfl rfl) ?_
      refine ARun.step rfl (step_index_fN rfl (hn rfl) rfl yxSl60 rfl rfl (by omega)) ?_
      refine ARun.step rfl (step_loadS_f rfl (hn rfl) rfl yxSt177 rfl (hn rfl) rfl rfl) ?_
      refine ARun.step rfl (step_alloc_p rfl (hn rfl) rfl yxZs177) ?_
      refine ARun.step rfl (step_assignV rfl (hn rfl) rfl rfl) ?_
      refine ARun.step rfl (step_store_p rfl rfl yxCs177 rfl rfl rfl rfl rfl rfl rfl) ?_
      refine ARun.nil ?_
      refine AWp.seq ?_
      refine AWp.le (Le.slotInt 7 (k := .i64) (a := ((i : Nat) : Int)) (b := ((i : Nat) : Int)) rfl rfl) ?_
      refine AWp.seq (AWp.draw [⟨[.s 8, .b 8], [.s 27], false⟩, ⟨[.s 27, .b 8], [.s 28], false⟩, ⟨[.s 5], [.s 29], false⟩, ⟨[.s 7], [.s 30], false⟩, ⟨[.s 29, .s 30], [.s 31], false⟩, ⟨[.s 31], [.s 32], false⟩, ⟨[.s 28, .s 32], [.s 33], false⟩, ⟨[.s 33], [.s 34], false⟩, ⟨[.s 8, .b 8, .s 34], [.s 35], false⟩, ⟨[.s 35, .b 8, .s 34], [.s 36], false⟩, ⟨[.s 36, .s 34], [.s 37], false⟩, ⟨[.s 37, .s 34], [.s 38], false⟩, ⟨[.s 34, .s 38], [.s 39], false⟩, ⟨[.s 39], [.s 40], false⟩, ⟨[.s 6, .s 40], [.s 41], false⟩, ⟨[.s 8, .b 8, .s 40], [.s 42], false⟩, ⟨[.s 42, .b 8, .s 40], [.s 43], false⟩, ⟨[.s 43, .a 6 0, .s 41, .s 40], [.s 44], false⟩, ⟨[.s 40, .s 44], [.s 45], false⟩] yxMo rfl ?_)
      refine DRun.step rfl (fun τ hN hr => step_field_b rfl (rdN hN (hn rfl)) rfl yxFo177_0 (by exact rdS hr rfl rfl) (by exact rdBne hr rfl (by exact List.cons_ne_nil _ _))) ?_
      refine DRun.step rfl (fun τ hN hr => step_load_b rfl (rdN hN (hn rfl)) rfl yxSc9 (by exact rdS hr rfl rfl) (by exact rdBget hr rfl rfl)) ?_
      refine DRun.step rfl (fun τ hN hr => step_moveV rfl (rdN hN (hn rfl)) rfl (by exact rdS hr rfl rfl)) ?_
      refine DRun.step rfl (fun τ hN hr => step_moveV rfl (rdN hN (hn rfl)) rfl (by exact rdS hr rfl rfl)) ?_
      refine DRun.step rfl (fun τ hN hr => step_index_fN rfl (rdN hN (hn rfl)) rfl yxSl22 (by exact rdS hr rfl rfl) (by exact rdS hr rfl rfl) (by omega)) ?_
      refine DRun.step rfl (fun τ hN hr => step_load_f rfl (rdN hN (hn rfl)) rfl yxSc9 (by exact rdS hr rfl rfl) (hn rfl) rfl) ?_
      refine DRun.step rfl (fun τ hN hr => step_sneq rfl (rdN hN (hn rfl)) rfl (by exact rdS hr rfl rfl) (by exact rdS hr rfl rfl)) ?_
      refine DRun.step rfl (fun τ hN hr => step_moveV rfl (rdN hN (hn rfl)) rfl (by exact rdS hr rfl rfl)) ?_
      refine guardD rfl rfl rfl rfl rfl (hn rfl) (fun τ hN hr g1 g2 => step_field_b rfl (rdN hN (hn rfl)) rfl yxFo177_1 (by exact rdS hr rfl rfl) (by exact rdBne hr rfl (by exact List.cons_ne_nil _ _))) ?_
      refine guardD rfl rfl rfl rfl rfl (hn rfl) (fun τ hN hr g1 g2 => step_load_b rfl (rdN hN (hn rfl)) rfl yxSc9 (ev_true (by exact rdS hr rfl rfl) (by exact flag2 g1 g2)) (by exact rdBget hr rfl rfl)) ?_
      refine guardD rfl rfl rfl rfl rfl (hn rfl) (fun τ hN hr g1 g2 => call_step1 rfl (rdN hN (hn rfl)) rfl yxCo67 (.cons (ev_true (by exact rdS hr rfl rfl) (by exact flag2 g1 g2)) (.one (.v _)) (.nil)) (isNameI _) rfl) ?_
      refine guardD rfl rfl rfl rfl rfl (hn rfl) (fun τ hN hr g1 g2 => step_not rfl (rdN hN (hn rfl)) rfl (ev_true (by exact rdS hr rfl rfl) (by exact flag2 g1 g2))) ?_
      refine DRun.step rfl (fun τ hN hr => step_or rfl (rdN hN (hn rfl)) rfl (by exact rdS hr rfl rfl) (by exact rdS hr rfl rfl) (fun h => (by exact flag1 h))) ?_
      refine DRun.step rfl (fun τ hN hr => step_moveV rfl (rdN hN (hn rfl)) rfl (by exact rdS hr rfl rfl)) ?_
      refine guardD rfl rfl rfl rfl rfl (hn rfl) (fun τ hN hr g1 g2 => step_moveV rfl (rdN hN (hn rfl)) rfl (by exact rdS hr rfl rfl)) ?_
      refine guardD rfl rfl rfl rfl rfl (hn rfl) (fun τ hN hr g1 g2 => step_field_b rfl (rdN hN (hn rfl)) rfl yxFo177_1 (by exact rdS hr rfl rfl) (by exact rdBne hr rfl (by exact List.cons_ne_nil _ _))) ?_
      refine guardD rfl rfl rfl rfl rfl (hn rfl) (fun τ hN hr g1 g2 => step_load_b rfl (rdN hN (hn rfl)) rfl yxSc9 (ev_true (by exact rdS hr rfl rfl) (by exact flag2 g1 g2)) (by exact rdBget hr rfl rfl)) ?_
      refine guardD rfl rfl rfl rfl rfl (hn rfl) (fun τ hN hr g1 g2 => call_step1 rfl (rdN hN (hn rfl)) rfl yxCo86 (.cons (ev_true (by exact rdS hr rfl rfl) (by exact flag2 g1 g2)) (.one (.ref _ (by exact rdA hr rfl rfl))) (.cons (ev_true (by exact rdS hr rfl rfl) (by exact flag2 g1 g2)) (.one (.v _)) (.nil))) (hasI _ _) rfl) ?_
      refine DRun.step rfl (fun τ hN hr => step_or rfl (rdN hN (hn rfl)) rfl (by exact rdS hr rfl rfl) (by exact rdS hr rfl rfl) (fun h => (by exact flag1 h))) ?_
      refine DRun.nil ?_
      refine AWp.cond rfl (fun c3 => ?_) (fun c3 => ?_)
      · try simp only [nrm] at c3
        refine AWp.seq (AWp.region ?_)
        refine ARun.step rfl (step_assignV rfl (hn rfl) rfl rfl) ?_
        refine ARun.nil ?_
        refine AWp.ret ?_
        refine RetIs.sc (.inr rfl) rfl rfl ?_
        refine congrArg T.bool ?_
        exact slo_no (i := i) (by omega) (by simp only [sloAt]; grind)
      · try simp only [nrm] at c3
        refine AWp.skip ?_
        refine AWp.region ?_
        refine ARun.step rfl (step_moveV rfl (hn rfl) rfl rfl) ?_
        refine ARun.step rfl (step_field_b rfl (hn rfl) rfl yxFo177_1 rfl (by exact List.cons_ne_nil _ _)) ?_
        refine ARun.step rfl (step_load_b rfl (hn rfl) rfl yxSc9 rfl rfl) ?_
        refine ARun.step rfl (step_buildVT rfl (hn rfl) rfl yxSl22 (strs [_]) (.cons rfl rfl rfl rfl (.nil _)) rfl rfl rfl (rows1 rfl)) ?_
        refine ARun.step rfl (step_append_strs rfl (hn rfl) rfl yxSl22 rfl rfl rfl (.v _) (by first | omega | (simp only [List.length_cons, List.length_nil, List.length_append, List.length_take, List.length_drop]; omega)) (by first | omega | (simp only [List.length_cons, List.length_nil, List.length_append, List.length_take, List.length_drop]; omega))) ?_
        refine ARun.step rfl (step_assignV rfl (hn rfl) rfl rfl) ?_
        refine ARun.nil ?_
        refine AWp.region ?_
        refine ARun.step rfl (step_addI rfl (hn rfl) rfl rfl rfl (by omega) (by omega)) ?_
        refine ARun.step rfl (step_moveV rfl (hn rfl) rfl rfl) ?_
        refine ARun.nil ?_
        refine ⟨i + 1, ?_, ?_, Le.forgetR rfl ⟨rfl, rfl, rfl, rfl, rfl, trivial⟩ trivial ⟨(eqv_strs (thgs_next (by omega))), trivial⟩⟩
        · try dsimp only
          exact ⟨by omega, upto hall (by simp only [sloAt]; grind)⟩
        · try dsimp only
          omega
    · try simp only [nrm] at c2
      refine AWp.exit ?_
      refine AWp.seq (AWp.region ?_)
      refine ARun.step rfl (step_assignV rfl (hn rfl) rfl rfl) ?_
      refine ARun.nil ?_
      refine AWp.ret ?_
      refine RetIs.sc (.inr rfl) rfl rfl ?_
      refine congrArg T.bool ?_
      rw [slotsOkB, all_of (fun j hj => hall j (by omega)), show decide ((slotsB l (nth l 0).name).length = sl.length) = true by simp; omega, Bool.and_true]
theorem slotsOkS (l : List Ph) (sl : List Slt) (h : recOk l = true) : ASpec Tryz.prog 104 [.one (phs 68 l), .one (slts 177 sl)] (.one (.bool (slotsOkB l sl))) := by
  refine ASpec.body Tryz.func104 rfl [4] rfl 60 rfl rfl rfl ?_
  have hlen := recOk_len h
  have hml := slotsB_len h (nth l 0).name
  refine AWp.seq (AWp.region ?_)
  refine ARun.step rfl (step_assignV rfl (hn rfl) rfl rfl) ?_
  refine ARun.nil ?_
  refine AWp.seq (AWp.region ?_)
  refine ARun.step rfl (step_moveV rfl (hn rfl) rfl rfl) ?_
  refine ARun.step rfl (step_moveV rfl (hn rfl) rfl rfl) ?_
  refine ARun.step rfl (step_index_f rfl (hn rfl) rfl yxSl59 rfl rfl (by omega) (by omega)) ?_
  refine ARun.step rfl (step_field_f rfl (hn rfl) rfl yxFo68_0 rfl) ?_
  refine ARun.step rfl (step_load_f rfl (hn rfl) rfl yxSc9 rfl (hn rfl) rfl) ?_
  refine ARun.step rfl (call_stepZ rfl (hn rfl) rfl yxCo98 (.cons rfl (.one (.v _)) (.cons rfl (.one (.v _)) (.nil))) (slotsS l (nth l 0).name h) rfl rfl) ?_
  refine ARun.step rfl (step_assignV rfl (hn rfl) rfl rfl) ?_
  refine ARun.nil ?_
  refine AWp.seq ?_
  refine AWp.seq (AWp.region ?_)
  refine ARun.step rfl (step_moveV rfl (hn rfl) rfl rfl) ?_
  refine ARun.step rfl (step_len_f rfl (hn rfl) rfl yxSl22 rfl) ?_
  refine ARun.step rfl (step_moveV rfl (hn rfl) rfl rfl) ?_
  refine ARun.step rfl (step_len_f rfl (hn rfl) rfl yxSl60 rfl) ?_
  refine ARun.step rfl (step_neq rfl (hn rfl) rfl rfl rfl) ?_
  refine ARun.nil ?_
  refine AWp.cond rfl (fun c1 => ?_) (fun c1 => ?_)
  · try simp only [nrm] at c1
    refine AWp.seq (AWp.region ?_)
    refine ARun.step rfl (step_assignV rfl (hn rfl) rfl rfl) ?_
    refine ARun.nil ?_
    refine AWp.ret ?_
    refine RetIs.sc (.inr rfl) rfl rfl ?_
    refine congrArg T.bool ?_
    rw [slotsOkB, show decide ((slotsB l (nth l 0).name).length = sl.length) = false by simp; omega, Bool.false_and]
  · try simp only [nrm] at c1
    refine AWp.skip ?_
    refine AWp.seq ?_
    refine AWp.seq (AWp.region ?_)
    refine ARun.step rfl (step_assignV rfl (hn rfl) rfl rfl) ?_
    refine ARun.nil ?_
    refine AWp.block ?_
    refine AWp.loopM (fun i : Nat => mkAS 60 [(1, ⟨true, .one (.v (slts 177 sl))⟩), (5, ⟨true, .one (.v (strs (slotsB l (nth l 0).name)))⟩), (6, ⟨true, .one (.v (.int .i64 (i : Nat)))⟩)] [] []) (fun i => i ≤ sl.length ∧ ∀ j, j < i → sloAt (slotsB l (nth l 0).name) sl j = true) (fun i => sl.length - i) 0 ?_ (Le.forgetR rfl ⟨rfl, rfl, rfl, trivial⟩ trivial trivial) ?_
    · try dsimp only
      exact ⟨by omega, by omega⟩
    rintro i ⟨hi, hall⟩
    refine AWp.seq ?_
    refine AWp.seq (AWp.region ?_)
    refine ARun.step rfl (step_moveV rfl (hn rfl) rfl rfl) ?_
    refine ARun.step rfl (step_moveV rfl (hn rfl) rfl rfl) ?_
    refine ARun.step rfl (step_len_f rfl (hn rfl) rfl yxSl60 rfl) ?_
    refine ARun.step rfl (step_lss rfl (hn rfl) rfl rfl rfl) ?_
    refine ARun.nil ?_
    refine AWp.cond rfl (fun c2 => ?_) (fun c2 => ?_)
    · try simp only [nrm] at c2
      refine AWp.skip ?_
      refine AWp.seq ?_
      refine AWp.block ?_
      refine AWp.seq ?_
      refine AWp.seq (AWp.draw [⟨[.s 1], [.s 25], false⟩, ⟨[.s 6], [.s 26], false⟩, ⟨[.s 25, .s 26], [.s 27], false⟩, ⟨[.s 27], [.s 28], false⟩, ⟨[.s 28], [.s 29], false⟩, ⟨[.s 5], [.s 30], false⟩, ⟨[.s 6], [.s 31], false⟩, ⟨[.s 30, .s 31], [.s 32], false⟩, ⟨[.s 32], [.s 33], false⟩, ⟨[.s 29, .s 33], [.s 34], false⟩, ⟨[.s 34], [.s 35], false⟩, ⟨[.s 1, .s 35], [.s 36], false⟩, ⟨[.s 6, .s 35], [.s 37], false⟩, ⟨[.s 36, .s 37, .s 35], [.s 38], false⟩, ⟨[.s 38, .s 35], [.s 39], false⟩, ⟨[.s 39, .s 35], [.s 40], false⟩, ⟨[.s 40, .s 35], [.s 41], false⟩, ⟨[.s 41, .s 35], [.s 42], false⟩, ⟨[.s 35, .s 42], [.s 43], false⟩] yxMo rfl ?_)
      refine DRun.step rfl (fun τ hN hr => step_moveV rfl (rdN hN (hn rfl)) rfl (by exact rdS hr rfl rfl)) ?_
      refine DRun.step rfl (fun τ hN hr => step_moveV rfl (rdN hN (hn rfl)) rfl (by exact rdS hr rfl rfl)) ?_
      refine DRun.step rfl (fun τ hN hr => step_index_fN rfl (rdN hN (hn rfl)) rfl yxSl60 (by exact rdS hr rfl rfl) (by exact rdS hr rfl rfl) (by omega)) ?_
      refine DRun.step rfl (fun τ hN hr => step_field_f rfl (rdN hN (hn rfl)) rfl yxFo177_0 (by exact rdS hr rfl rfl)) ?_
      refine DRun.step rfl (fun τ hN hr => step_load_f rfl (rdN hN (hn rfl)) rfl yxSc9 (by exact rdS hr rfl rfl) (hn rfl) rfl) ?_
      refine DRun.step rfl (fun τ hN hr => step_moveV rfl (rdN hN (hn rfl)) rfl (by exact rdS hr rfl rfl)) ?_
      refine DRun.step rfl (fun τ hN hr => step_moveV rfl (rdN hN (hn rfl)) rfl (by exact rdS hr rfl rfl)) ?_
      refine DRun.step rfl (fun τ hN hr => step_index_fN rfl (rdN hN (hn rfl)) rfl yxSl22 (by exact rdS hr rfl rfl) (by exact rdS hr rfl rfl) (by omega)) ?_
      refine DRun.step rfl (fun τ hN hr => step_load_f rfl (rdN hN (hn rfl)) rfl yxSc9 (by exact rdS hr rfl rfl) (hn rfl) rfl) ?_
      refine DRun.step rfl (fun τ hN hr => step_sneq rfl (rdN hN (hn rfl)) rfl (by exact rdS hr rfl rfl) (by exact rdS hr rfl rfl)) ?_
      refine DRun.step rfl (fun τ hN hr => step_moveV rfl (rdN hN (hn rfl)) rfl (by exact rdS hr rfl rfl)) ?_
      refine guardD rfl rfl rfl rfl rfl (hn rfl) (fun τ hN hr g1 g2 => step_moveV rfl (rdN hN (hn rfl)) rfl (by exact rdS hr rfl rfl)) ?_
      refine guardD rfl rfl rfl rfl rfl (hn rfl) (fun τ hN hr g1 g2 => step_moveV rfl (rdN hN (hn rfl)) rfl (by exact rdS hr rfl rfl)) ?_
      refine guardD rfl rfl rfl rfl rfl (hn rfl) (fun τ hN hr g1 g2 => step_index_fN rfl (rdN hN (hn rfl)) rfl yxSl60 (ev_true (by exact rdS hr rfl rfl) (by exact flag2 g1 g2)) (ev_true (by exact rdS hr rfl rfl) (by exact flag2 g1 g2)) (by first | omega | (have := of_decide_eq_true g2; omega) | (have := of_decide_eq_false g2; omega) | (simp only [nrm] at g2; omega) | (simp only [nrm, Bool.true_and] at g1 g2; omega))) ?_
      refine guardD rfl rfl rfl rfl rfl (hn rfl) (fun τ hN hr g1 g2 => step_field_f rfl (rdN hN (hn rfl)) rfl yxFo177_1 (ev_true (by exact rdS hr rfl rfl) (by exact flag2 g1 g2))) ?_
      refine guardD rfl rfl rfl rfl rfl (hn rfl) (fun τ hN hr g1 g2 => step_load_f rfl (rdN hN (hn rfl)) rfl yxSc9 (ev_true (by exact rdS hr rfl rfl) (by exact flag2 g1 g2)) (hn rfl) rfl) ?_
      refine guardD rfl rfl rfl rfl rfl (hn rfl) (fun τ hN hr g1 g2 => call_step1 rfl (rdN hN (hn rfl)) rfl yxCo102 (.cons (ev_true (by exact rdS hr rfl rfl) (by exact flag2 g1 g2)) (.one (.v _)) (.nil)) (l41NameOk _) rfl) ?_
      refine guardD rfl rfl rfl rfl rfl (hn rfl) (fun τ hN hr g1 g2 => step_not rfl (rdN hN (hn rfl)) rfl (ev_true (by exact rdS hr rfl rfl) (by exact flag2 g1 g2))) ?_
      refine DRun.step rfl (fun τ hN hr => step_or rfl (rdN hN (hn rfl)) rfl (by exact rdS hr rfl rfl) (by exact rdS hr rfl rfl) (fun h => (by exact flag1 h))) ?_
      refine DRun.nil ?_
      refine AWp.cond rfl (fun c3 => ?_) (fun c3 => ?_)
      · try simp only [nrm] at c3
        refine AWp.seq (AWp.region ?_)
        refine ARun.step rfl (step_assignV rfl (hn rfl) rfl rfl) ?_
        refine ARun.nil ?_
        refine AWp.ret ?_
        refine RetIs.sc (.inr rfl) rfl rfl ?_
        refine congrArg T.bool ?_
        exact slo_no (i := i) (by omega) (by simp only [sloAt]; grind)
      · try simp only [nrm] at c3
        refine AWp.skip ?_
        refine AWp.seq (AWp.region ?_)
        refine ARun.step rfl (step_assignV rfl (hn rfl) rfl rfl) ?_
        refine ARun.nil ?_
        refine AWp.block ?_
        refine AWp.loopM (fun j : Nat => mkAS 60 [(1, ⟨true, .one (.v (slts 177 sl))⟩), (5, ⟨true, .one (.v (strs (slotsB l (nth l 0).name)))⟩), (6, ⟨true, .one (.v (.int .i64 (i : Nat)))⟩), (7, ⟨true, .one (.v (.int .i64 (j : Nat)))⟩)] [] []) (fun j => j ≤ i ∧ ∀ q, q < j → strEq (nth sl q).thing (nth sl i).thing = false) (fun j => i - j) 0 ?_ (Le.forgetR rfl ⟨rfl, rfl, rfl, rfl, trivial⟩ trivial trivial) ?_
        · try dsimp only
          exact ⟨by omega, by omega⟩
        rintro j ⟨hj, hfree⟩
        refine AWp.seq ?_
        refine AWp.seq (AWp.region ?_)
        refine ARun.step rfl (step_moveV rfl (hn rfl) rfl rfl) ?_
        refine ARun.step rfl (step_moveV rfl (hn rfl) rfl rfl) ?_
        refine ARun.step rfl (step_lss rfl (hn rfl) rfl rfl rfl) ?_
        refine ARun.nil ?_
        refine AWp.cond rfl (fun c4 => ?_) (fun c4 => ?_)
        · try simp only [nrm] at c4
          refine AWp.skip ?_
          refine AWp.seq ?_
          refine AWp.block ?_
          refine AWp.seq (AWp.draw [⟨[.s 1], [.s 49], false⟩, ⟨[.s 7], [.s 50], false⟩, ⟨[.s 49, .s 50], [.s 51], false⟩, ⟨[.s 51], [.s 52], false⟩, ⟨[.s 52], [.s 53], false⟩, ⟨[.s 1], [.s 54], false⟩, ⟨[.s 6], [.s 55], false⟩, ⟨[.s 54, .s 55], [.s 56], false⟩, ⟨[.s 56], [.s 57], false⟩, ⟨[.s 57], [.s 58], false⟩, ⟨[.s 53, .s 58], [.s 59], false⟩] yxMo rfl ?_)
          refine DRun.step rfl (fun τ hN hr => step_moveV rfl (rdN hN (hn rfl)) rfl (by exact rdS hr rfl rfl)) ?_
          refine DRun.step rfl (fun τ hN hr => step_moveV rfl (rdN hN (hn rfl)) rfl (by exact rdS hr rfl rfl)) ?_
          refine DRun.step rfl (fun τ hN hr => step_index_fN rfl (rdN hN (hn rfl)) rfl yxSl60 (by exact rdS hr rfl rfl) (by exact rdS hr rfl rfl) (by omega)) ?_
          refine DRun.step rfl (fun τ hN hr => step_field_f rfl (rdN hN (hn rfl)) rfl yxFo177_1 (by exact rdS hr rfl rfl)) ?_
          refine DRun.step rfl (fun τ hN hr => step_load_f rfl (rdN hN (hn rfl)) rfl yxSc9 (by exact rdS hr rfl rfl) (hn rfl) rfl) ?_
          refine DRun.step rfl (fun τ hN hr => step_moveV rfl (rdN hN (hn rfl)) rfl (by exact rdS hr rfl rfl)) ?_
          refine DRun.step rfl (fun τ hN hr => step_moveV rfl (rdN hN (hn rfl)) rfl (by exact rdS hr rfl rfl)) ?_
          refine DRun.step rfl (fun τ hN hr => step_index_fN rfl (rdN hN (hn rfl)) rfl yxSl60 (by exact rdS hr rfl rfl) (by exact rdS hr rfl rfl) (by omega)) ?_
          refine DRun.step rfl (fun τ hN hr => step_field_f rfl (rdN hN (hn rfl)) rfl yxFo177_1 (by exact rdS hr rfl rfl)) ?_
          refine DRun.step rfl (fun τ hN hr => step_load_f rfl (rdN hN (hn rfl)) rfl yxSc9 (by exact rdS hr rfl rfl) (hn rfl) rfl) ?_
          refine DRun.step rfl (fun τ hN hr => step_seql rfl (rdN hN (hn rfl)) rfl (by exact rdS hr rfl rfl) (by exact rdS hr rfl rfl)) ?_
          refine DRun.nil ?_
          refine AWp.cond rfl (fun c5 => ?_) (fun c5 => ?_)
          · try simp only [nrm] at c5
            refine AWp.seq (AWp.region ?_)
            refine ARun.step rfl (step_assignV rfl (hn rfl) rfl rfl) ?_
            refine ARun.nil ?_
            refine AWp.ret ?_
            refine RetIs.sc (.inr rfl) rfl rfl ?_
            refine congrArg T.bool ?_
            exact slo_no (i := i) (by omega) (by have hfr := slo_some (sl := sl) (i := i) (j := j) (by omega) (by omega) (by assumption); simp only [sloAt]; grind)
          · try simp only [nrm] at c5
            refine AWp.skip ?_
            refine AWp.region ?_
            refine ARun.step rfl (step_moveV rfl (hn rfl) rfl rfl) ?_
            refine ARun.step rfl (step_addI rfl (hn rfl) rfl rfl rfl (by omega) (by omega)) ?_
            refine ARun.step rfl (step_assignV rfl (hn rfl) rfl rfl) ?_
            refine ARun.nil ?_
            refine ⟨j + 1, ?_, ?_, Le.forgetR rfl ⟨rfl, rfl, rfl, rfl, trivial⟩ trivial trivial⟩
            · try dsimp only
              exact ⟨by omega, upto hfree (by assumption)⟩
            · try dsimp only
              omega
        · try simp only [nrm] at c4
          refine AWp.exit ?_
          refine AWp.region ?_
          refine ARun.step rfl (step_moveV rfl (hn rfl) rfl rfl) ?_
          refine ARun.step rfl (step_addI rfl (hn rfl) rfl rfl rfl (by omega) (by omega)) ?_
          refine ARun.step rfl (step_assignV rfl (hn rfl) rfl rfl) ?_
          refine ARun.nil ?_
          refine ⟨i + 1, ?_, ?_, Le.forgetR rfl ⟨rfl, rfl, rfl, trivial⟩ trivial trivial⟩
          · try dsimp only
            exact ⟨by omega, upto hall (by have hfr := slo_free (sl := sl) (i := i) (by omega) (fun q hq => hfree q (by omega)); simp only [sloAt]; grind)⟩
          · try dsimp only
            omega
    · try simp only [nrm] at c2
      refine AWp.exit ?_
      refine AWp.seq (AWp.region ?_)
      refine ARun.step rfl (step_assignV rfl (hn rfl) rfl rfl) ?_
      refine ARun.nil ?_
      refine AWp.ret ?_
      refine RetIs.sc (.inr rfl) rfl rfl ?_
      refine congrArg T.bool ?_
      rw [slotsOkB, all_of (fun j hj => hall j (by omega)), show decide ((slotsB l (nth l 0).name).length = sl.length) = true by simp; omega, Bool.and_true]
theorem rbOkI (p : Rb)  : ASpec Tryz.prog 35 [.agg (p.cells 68 177)] (.one (.bool (rbOk p))) := by
  refine ASpec.body Tryz.func35 rfl [2] rfl 50 rfl rfl rfl ?_
  refine AWp.seq (AWp.region ?_)
  refine ARun.step rfl (step_box_p (m := 5) rfl (hn rfl) rfl rfl rfl rfl rfl) ?_
  refine ARun.step rfl (step_assignV rfl (hn rfl) rfl rfl) ?_
  refine ARun.nil ?_
  refine AWp.seq ?_
  refine AWp.seq (AWp.region ?_)
  refine ARun.step rfl (step_field_b rfl (hn rfl) rfl yxFo62_0 rfl (by exact List.cons_ne_nil _ _)) ?_
  refine ARun.step rfl (step_load_b rfl (hn rfl) rfl yxSc9 rfl rfl) ?_
  refine ARun.step rfl (call_step1 rfl (hn rfl) rfl yxCo67 (.cons rfl (.one (.v _)) (.nil)) (isNameI _) rfl) ?_
  refine ARun.step rfl (step_not rfl (hn rfl) rfl rfl) ?_
  refine ARun.step rfl (step_moveV rfl (hn rfl) rfl rfl) ?_
  refine guardS rfl rfl rfl rfl (hn rfl) (fun g1 g2 => step_field_b rfl (hn rfl) rfl yxFo62_1 rfl (by exact List.cons_ne_nil _ _)) ?_
  refine guardS rfl rfl rfl rfl (hn rfl) (fun g1 g2 => step_load_b rfl (hn rfl) rfl yxSc59 (ev_true rfl (by exact flag2 g1 g2)) rfl) ?_
  refine guardS rfl rfl rfl rfl (hn rfl) (fun g1 g2 => call_step1 rfl (hn rfl) rfl yxCo99 (.cons (ev_true rfl (by exact flag2 g1 g2)) (.one (.v _)) (.nil)) (recOkI _) rfl) ?_
  refine guardS rfl rfl rfl rfl (hn rfl) (fun g1 g2 => step_not rfl (hn rfl) rfl (ev_true rfl (by exact flag2 g1 g2))) ?_
  refine ARun.step rfl (step_or rfl (hn rfl) rfl rfl rfl (fun h => (by exact flag1 h))) ?_
  refine ARun.step rfl (step_moveV rfl (hn rfl) rfl rfl) ?_
  refine guardS rfl rfl rfl rfl (hn rfl) (fun g1 g2 => step_field_b rfl (hn rfl) rfl yxFo62_1 rfl (by exact List.cons_ne_nil _ _)) ?_
  refine guardS rfl rfl rfl rfl (hn rfl) (fun g1 g2 => step_load_b rfl (hn rfl) rfl yxSc59 (ev_true rfl (by exact flag2 g1 g2)) rfl) ?_
  refine guardS rfl rfl rfl rfl (hn rfl) (fun g1 g2 => step_field_b rfl (hn rfl) rfl yxFo62_2 rfl (by exact List.cons_ne_nil _ _)) ?_
  refine guardS rfl rfl rfl rfl (hn rfl) (fun g1 g2 => step_load_b rfl (hn rfl) rfl yxSc60 (ev_true rfl (by exact flag2 g1 g2)) rfl) ?_
  refine guardS rfl rfl rfl rfl (hn rfl) (fun g1 g2 => call_step1 rfl (hn rfl) rfl yxCo100 (.cons (ev_true rfl (by exact flag2 g1 g2)) (.one (.v _)) (.cons (ev_true rfl (by exact flag2 g1 g2)) (.one (.v _)) (.nil))) (slotsOkI _ _ (by simp only [Bool.or_eq_false_iff, Bool.not_eq_false'] at g2; exact g2.2)) rfl) ?_
  refine guardS rfl rfl rfl rfl (hn rfl) (fun g1 g2 => step_not rfl (hn rfl) rfl (ev_true rfl (by exact flag2 g1 g2))) ?_
  refine ARun.step rfl (step_or rfl (hn rfl) rfl rfl rfl (fun h => (by exact flag1 h))) ?_
  refine ARun.step rfl (step_moveV rfl (hn rfl) rfl rfl) ?_
  refine guardS rfl rfl rfl rfl (hn rfl) (fun g1 g2 => step_field_b rfl (hn rfl) rfl yxFo62_5 rfl (by exact List.cons_ne_nil _ _)) ?_
  refine guardS rfl rfl rfl rfl (hn rfl) (fun g1 g2 => step_load_b rfl (hn rfl) rfl yxSc3 (ev_true rfl (by exact flag2 g1 g2)) rfl) ?_
  refine guardS rfl rfl rfl rfl (hn rfl) (fun g1 g2 => step_lss rfl (hn rfl) rfl (ev_true rfl (by exact flag2 g1 g2)) rfl) ?_
  refine ARun.step rfl (step_or rfl (hn rfl) rfl rfl rfl (fun h => (by exact flag1 h))) ?_
  refine ARun.nil ?_
  refine AWp.cond rfl (fun c1 => ?_) (fun c1 => ?_)
  · try simp only [nrm] at c1
    refine AWp.seq (AWp.region ?_)
    refine ARun.step rfl (step_assignV rfl (hn rfl) rfl rfl) ?_
    refine ARun.nil ?_
    refine AWp.ret ?_
    refine RetIs.sc (.inr rfl) rfl rfl ?_
    refine congrArg T.bool ?_
    simp only [rbOk]; grind
  · try simp only [nrm] at c1
    have h : recOk p.recipe = true := by grind
    have ha := atP_lt p.recipe p.at_
    have hw : 0 ≤ atP p.recipe p.at_ → 1 ≤ (nth p.recipe (atP p.recipe p.at_).toNat).within ∧ (nth p.recipe (atP p.recipe p.at_).toNat).within ≤ 1000 := fun h0 => within_ok h (by omega)
    refine AWp.skip ?_
    refine AWp.seq (AWp.region ?_)
    refine ARun.step rfl (step_field_b rfl (hn rfl) rfl yxFo62_1 rfl (by exact List.cons_ne_nil _ _)) ?_
    refine ARun.step rfl (step_load_b rfl (hn rfl) rfl yxSc59 rfl rfl) ?_
    refine ARun.step rfl (step_field_b rfl (hn rfl) rfl yxFo62_3 rfl (by exact List.cons_ne_nil _ _)) ?_
    refine ARun.step rfl (step_load_b rfl (hn rfl) rfl yxSc9 rfl rfl) ?_
    refine ARun.step rfl (call_step1 rfl (hn rfl) rfl yxCo101 (.cons rfl (.one (.v _)) (.cons rfl (.one (.v _)) (.nil))) (phaseI _ _) rfl) ?_
    refine ARun.step rfl (step_assignV rfl (hn rfl) rfl rfl) ?_
    refine ARun.nil ?_
    refine AWp.seq (AWp.draw [⟨[.s 3], [.s 32], false⟩, ⟨[.s 32], [.s 33], false⟩, ⟨[.s 33], [.s 34], false⟩, ⟨[.s 1, .b 1, .s 34], [.s 35], false⟩, ⟨[.s 35, .b 1, .s 34], [.s 36], false⟩, ⟨[.s 36, .s 34], [.s 37], false⟩, ⟨[.s 34, .s 37], [.s 38], false⟩, ⟨[.s 38], [.s 39], false⟩, ⟨[.s 1, .b 1, .s 39], [.s 40], false⟩, ⟨[.s 40, .b 1, .s 39], [.s 41], false⟩, ⟨[.s 1, .b 1, .s 39], [.s 42], false⟩, ⟨[.s 42, .b 1, .s 39], [.s 43], false⟩, ⟨[.s 3, .s 39], [.s 44], false⟩, ⟨[.s 43, .s 44, .s 39], [.s 45], false⟩, ⟨[.s 45, .s 39], [.s 46], false⟩, ⟨[.s 46, .s 39], [.s 47], false⟩, ⟨[.s 41, .s 47, .s 39], [.s 48], false⟩, ⟨[.s 39, .s 48], [.s 49], false⟩, ⟨[], [], true⟩] yxMo rfl ?_)
    refine DRun.step rfl (fun τ hN hr => step_moveV rfl (rdN hN (hn rfl)) rfl (by exact rdS hr rfl rfl)) ?_
    refine DRun.step rfl (fun τ hN hr => step_geq rfl (rdN hN (hn rfl)) rfl (by exact rdS hr rfl rfl) rfl) ?_
    refine DRun.step rfl (fun τ hN hr => step_moveV rfl (rdN hN (hn rfl)) rfl (by exact rdS hr rfl rfl)) ?_
    refine guardD rfl rfl rfl rfl rfl (hn rfl) (fun τ hN hr g1 g2 => step_field_b rfl (rdN hN (hn rfl)) rfl yxFo62_4 (by exact rdS hr rfl rfl) (by exact rdBne hr rfl (by exact List.cons_ne_nil _ _))) ?_
    refine guardD rfl rfl rfl rfl rfl (hn rfl) (fun τ hN hr g1 g2 => step_load_b rfl (rdN hN (hn rfl)) rfl yxSc3 (ev_true (by exact rdS hr rfl rfl) (by exact flag2 g1 g2)) (by exact rdBget hr rfl rfl)) ?_
    refine guardD rfl rfl rfl rfl rfl (hn rfl) (fun τ hN hr g1 g2 => step_geq rfl (rdN hN (hn rfl)) rfl (ev_true (by exact rdS hr rfl rfl) (by exact flag2 g1 g2)) rfl) ?_
    refine DRun.step rfl (fun τ hN hr => step_and rfl (rdN hN (hn rfl)) rfl (by exact rdS hr rfl rfl) (by exact rdS hr rfl rfl) (fun h => (by exact flag1 h))) ?_
    refine DRun.step rfl (fun τ hN hr => step_moveV rfl (rdN hN (hn rfl)) rfl (by exact rdS hr rfl rfl)) ?_
    refine guardD rfl rfl rfl rfl rfl (hn rfl) (fun τ hN hr g1 g2 => step_field_b rfl (rdN hN (hn rfl)) rfl yxFo62_4 (by exact rdS hr rfl rfl) (by exact rdBne hr rfl (by exact List.cons_ne_nil _ _))) ?_
    refine guardD rfl rfl rfl rfl rfl (hn rfl) (fun τ hN hr g1 g2 => step_load_b rfl (rdN hN (hn rfl)) rfl yxSc3 (ev_true (by exact rdS hr rfl rfl) (by exact flag2 g1 g2)) (by exact rdBget hr rfl rfl)) ?_
    refine guardD rfl rfl rfl rfl rfl (hn rfl) (fun τ hN hr g1 g2 => step_field_b rfl (rdN hN (hn rfl)) rfl yxFo62_1 (by exact rdS hr rfl rfl) (by exact rdBne hr rfl (by exact List.cons_ne_nil _ _))) ?_
    refine guardD rfl rfl rfl rfl rfl (hn rfl) (fun τ hN hr g1 g2 => step_load_b rfl (rdN hN (hn rfl)) rfl yxSc59 (ev_true (by exact rdS hr rfl rfl) (by exact flag2 g1 g2)) (by exact rdBget hr rfl rfl)) ?_
    refine guardD rfl rfl rfl rfl rfl (hn rfl) (fun τ hN hr g1 g2 => step_moveV rfl (rdN hN (hn rfl)) rfl (by exact rdS hr rfl rfl)) ?_
    refine guardD rfl rfl rfl rfl rfl (hn rfl) (fun τ hN hr g1 g2 => step_index_f rfl (rdN hN (hn rfl)) rfl yxSl59 (ev_true (by exact rdS hr rfl rfl) (by exact flag2 g1 g2)) (ev_true (by exact rdS hr rfl rfl) (by exact flag2 g1 g2)) (by first | omega | (have := of_decide_eq_true g2; omega) | (have := of_decide_eq_false g2; omega) | (simp only [nrm] at g2; omega) | (simp only [nrm, Bool.true_and] at g1 g2; omega)) (by first | omega | (have := of_decide_eq_true g2; omega) | (have := of_decide_eq_false g2; omega) | (simp only [nrm] at g2; omega) | (simp only [nrm, Bool.true_and] at g1 g2; omega))) ?_
    refine guardD rfl rfl rfl rfl rfl (hn rfl) (fun τ hN hr g1 g2 => step_field_f rfl (rdN hN (hn rfl)) rfl yxFo68_5 (ev_true (by exact rdS hr rfl rfl) (by exact flag2 g1 g2))) ?_
    refine guardD rfl rfl rfl rfl rfl (hn rfl) (fun τ hN hr g1 g2 => step_load_f rfl (rdN hN (hn rfl)) rfl yxSc3 (ev_true (by exact rdS hr rfl rfl) (by exact flag2 g1 g2)) (hn rfl) rfl) ?_
    refine guardD rfl rfl rfl rfl rfl (hn rfl) (fun τ hN hr g1 g2 => step_lss rfl (rdN hN (hn rfl)) rfl (ev_true (by exact rdS hr rfl rfl) (by exact flag2 g1 g2)) (ev_true (by exact rdS hr rfl rfl) (by exact flag2 g1 g2))) ?_
    refine DRun.step rfl (fun τ hN hr => step_and rfl (rdN hN (hn rfl)) rfl (by exact rdS hr rfl rfl) (by exact rdS hr rfl rfl) (fun h => (by exact flag1 h))) ?_
    refine DRun.lastS rfl (step_assignV rfl (hn rfl) rfl rfl) ?_
    refine AWp.ret ?_
    refine RetIs.sc (.inr rfl) rfl rfl ?_
    refine congrArg T.bool ?_
    simp only [rbOk, inB]; grind
theorem rbOkS (p : Rb)  : ASpec Tryz.prog 36 [.agg (p.cells 68 177)] (.one (.bool (rbOk p))) := by
  refine ASpec.body Tryz.func36 rfl [2] rfl 46 rfl rfl rfl ?_
  refine AWp.seq (AWp.region ?_)
  refine ARun.step rfl (step_box_p (m := 5) rfl (hn rfl) rfl rfl rfl rfl rfl) ?_
  refine ARun.step rfl (step_assignV rfl (hn rfl) rfl rfl) ?_
  refine ARun.nil ?_
  refine AWp.seq ?_
  refine AWp.seq (AWp.region ?_)
  refine ARun.step rfl (step_field_b rfl (hn rfl) rfl yxFo62_0 rfl (by exact List.cons_ne_nil _ _)) ?_
  refine ARun.step rfl (step_load_b rfl (hn rfl) rfl yxSc9 rfl rfl) ?_
  refine ARun.step rfl (call_step1 rfl (hn rfl) rfl yxCo102 (.cons rfl (.one (.v _)) (.nil)) (l41NameOk _) rfl) ?_
  refine ARun.step rfl (step_not rfl (hn rfl) rfl rfl) ?_
  refine ARun.step rfl (step_moveV rfl (hn rfl) rfl rfl) ?_
  refine guardS rfl rfl rfl rfl (hn rfl) (fun g1 g2 => step_field_b rfl (hn rfl) rfl yxFo62_1 rfl (by exact List.cons_ne_nil _ _)) ?_
  refine guardS rfl rfl rfl rfl (hn rfl) (fun g1 g2 => step_load_b rfl (hn rfl) rfl yxSc59 (ev_true rfl (by exact flag2 g1 g2)) rfl) ?_
  refine guardS rfl rfl rfl rfl (hn rfl) (fun g1 g2 => call_step1 rfl (hn rfl) rfl yxCo103 (.cons (ev_true rfl (by exact flag2 g1 g2)) (.one (.v _)) (.nil)) (recOkS _) rfl) ?_
  refine guardS rfl rfl rfl rfl (hn rfl) (fun g1 g2 => step_not rfl (hn rfl) rfl (ev_true rfl (by exact flag2 g1 g2))) ?_
  refine ARun.step rfl (step_or rfl (hn rfl) rfl rfl rfl (fun h => (by exact flag1 h))) ?_
  refine ARun.step rfl (step_moveV rfl (hn rfl) rfl rfl) ?_
  refine guardS rfl rfl rfl rfl (hn rfl) (fun g1 g2 => step_field_b rfl (hn rfl) rfl yxFo62_1 rfl (by exact List.cons_ne_nil _ _)) ?_
  refine guardS rfl rfl rfl rfl (hn rfl) (fun g1 g2 => step_load_b rfl (hn rfl) rfl yxSc59 (ev_true rfl (by exact flag2 g1 g2)) rfl) ?_
  refine guardS rfl rfl rfl rfl (hn rfl) (fun g1 g2 => step_field_b rfl (hn rfl) rfl yxFo62_2 rfl (by exact List.cons_ne_nil _ _)) ?_
  refine guardS rfl rfl rfl rfl (hn rfl) (fun g1 g2 => step_load_b rfl (hn rfl) rfl yxSc60 (ev_true rfl (by exact flag2 g1 g2)) rfl) ?_
  refine guardS rfl rfl rfl rfl (hn rfl) (fun g1 g2 => call_step1 rfl (hn rfl) rfl yxCo104 (.cons (ev_true rfl (by exact flag2 g1 g2)) (.one (.v _)) (.cons (ev_true rfl (by exact flag2 g1 g2)) (.one (.v _)) (.nil))) (slotsOkS _ _ (by simp only [Bool.or_eq_false_iff, Bool.not_eq_false'] at g2; exact g2.2)) rfl) ?_
  refine guardS rfl rfl rfl rfl (hn rfl) (fun g1 g2 => step_not rfl (hn rfl) rfl (ev_true rfl (by exact flag2 g1 g2))) ?_
  refine ARun.step rfl (step_or rfl (hn rfl) rfl rfl rfl (fun h => (by exact flag1 h))) ?_
  refine ARun.step rfl (step_moveV rfl (hn rfl) rfl rfl) ?_
  refine guardS rfl rfl rfl rfl (hn rfl) (fun g1 g2 => step_field_b rfl (hn rfl) rfl yxFo62_5 rfl (by exact List.cons_ne_nil _ _)) ?_
  refine guardS rfl rfl rfl rfl (hn rfl) (fun g1 g2 => step_load_b rfl (hn rfl) rfl yxSc3 (ev_true rfl (by exact flag2 g1 g2)) rfl) ?_
  refine guardS rfl rfl rfl rfl (hn rfl) (fun g1 g2 => step_lss rfl (hn rfl) rfl (ev_true rfl (by exact flag2 g1 g2)) rfl) ?_
  refine ARun.step rfl (step_or rfl (hn rfl) rfl rfl rfl (fun h => (by exact flag1 h))) ?_
  refine ARun.nil ?_
  refine AWp.cond rfl (fun c1 => ?_) (fun c1 => ?_)
  · try simp only [nrm] at c1
    refine AWp.seq (AWp.region ?_)
    refine ARun.step rfl (step_assignV rfl (hn rfl) rfl rfl) ?_
    refine ARun.nil ?_
    refine AWp.ret ?_
    refine RetIs.sc (.inr rfl) rfl rfl ?_
    refine congrArg T.bool ?_
    simp only [rbOk]; grind
  · try simp only [nrm] at c1
    have h : recOk p.recipe = true := by grind
    have ha := atP_lt p.recipe p.at_
    have hw : 0 ≤ atP p.recipe p.at_ → 1 ≤ (nth p.recipe (atP p.recipe p.at_).toNat).within ∧ (nth p.recipe (atP p.recipe p.at_).toNat).within ≤ 1000 := fun h0 => within_ok h (by omega)
    refine AWp.skip ?_
    refine AWp.seq (AWp.region ?_)
    refine ARun.step rfl (step_field_b rfl (hn rfl) rfl yxFo62_1 rfl (by exact List.cons_ne_nil _ _)) ?_
    refine ARun.step rfl (step_load_b rfl (hn rfl) rfl yxSc59 rfl rfl) ?_
    refine ARun.step rfl (step_field_b rfl (hn rfl) rfl yxFo62_3 rfl (by exact List.cons_ne_nil _ _)) ?_
    refine ARun.step rfl (step_load_b rfl (hn rfl) rfl yxSc9 rfl rfl) ?_
    refine ARun.step rfl (call_step1 rfl (hn rfl) rfl yxCo105 (.cons rfl (.one (.v _)) (.cons rfl (.one (.v _)) (.nil))) (l42At _ _) rfl) ?_
    refine ARun.step rfl (step_assignV rfl (hn rfl) rfl rfl) ?_
    refine ARun.nil ?_
    refine AWp.seq (AWp.draw [⟨[.s 3], [.s 32], false⟩, ⟨[.s 32], [.s 33], false⟩, ⟨[.s 33], [.s 34], false⟩, ⟨[.s 1, .b 1, .s 34], [.s 35], false⟩, ⟨[.s 35, .b 1, .s 34], [.s 36], false⟩, ⟨[.s 1, .b 1, .s 34], [.s 37], false⟩, ⟨[.s 37, .b 1, .s 34], [.s 38], false⟩, ⟨[.s 3, .s 34], [.s 39], false⟩, ⟨[.s 38, .s 39, .s 34], [.s 40], false⟩, ⟨[.s 40, .s 34], [.s 41], false⟩, ⟨[.s 41, .s 34], [.s 42], false⟩, ⟨[.s 42, .s 34], [.s 43], false⟩, ⟨[.s 43, .s 36, .s 34], [.s 44], false⟩, ⟨[.s 34, .s 44], [.s 45], false⟩, ⟨[], [], true⟩] yxMo rfl ?_)
    refine DRun.step rfl (fun τ hN hr => step_moveV rfl (rdN hN (hn rfl)) rfl (by exact rdS hr rfl rfl)) ?_
    refine DRun.step rfl (fun τ hN hr => step_geq rfl (rdN hN (hn rfl)) rfl (by exact rdS hr rfl rfl) rfl) ?_
    refine DRun.step rfl (fun τ hN hr => step_moveV rfl (rdN hN (hn rfl)) rfl (by exact rdS hr rfl rfl)) ?_
    refine guardD rfl rfl rfl rfl rfl (hn rfl) (fun τ hN hr g1 g2 => step_field_b rfl (rdN hN (hn rfl)) rfl yxFo62_4 (by exact rdS hr rfl rfl) (by exact rdBne hr rfl (by exact List.cons_ne_nil _ _))) ?_
    refine guardD rfl rfl rfl rfl rfl (hn rfl) (fun τ hN hr g1 g2 => step_load_b rfl (rdN hN (hn rfl)) rfl yxSc3 (ev_true (by exact rdS hr rfl rfl) (by exact flag2 g1 g2)) (by exact rdBget hr rfl rfl)) ?_
    refine guardD rfl rfl rfl rfl rfl (hn rfl) (fun τ hN hr g1 g2 => step_field_b rfl (rdN hN (hn rfl)) rfl yxFo62_1 (by exact rdS hr rfl rfl) (by exact rdBne hr rfl (by exact List.cons_ne_nil _ _))) ?_
    refine guardD rfl rfl rfl rfl rfl (hn rfl) (fun τ hN hr g1 g2 => step_load_b rfl (rdN hN (hn rfl)) rfl yxSc59 (ev_true (by exact rdS hr rfl rfl) (by exact flag2 g1 g2)) (by exact rdBget hr rfl rfl)) ?_
    refine guardD rfl rfl rfl rfl rfl (hn rfl) (fun τ hN hr g1 g2 => step_moveV rfl (rdN hN (hn rfl)) rfl (by exact rdS hr rfl rfl)) ?_
    refine guardD rfl rfl rfl rfl rfl (hn rfl) (fun τ hN hr g1 g2 => step_index_f rfl (rdN hN (hn rfl)) rfl yxSl59 (ev_true (by exact rdS hr rfl rfl) (by exact flag2 g1 g2)) (ev_true (by exact rdS hr rfl rfl) (by exact flag2 g1 g2)) (by first | omega | (have := of_decide_eq_true g2; omega) | (have := of_decide_eq_false g2; omega) | (simp only [nrm] at g2; omega) | (simp only [nrm, Bool.true_and] at g1 g2; omega)) (by first | omega | (have := of_decide_eq_true g2; omega) | (have := of_decide_eq_false g2; omega) | (simp only [nrm] at g2; omega) | (simp only [nrm, Bool.true_and] at g1 g2; omega))) ?_
    refine guardD rfl rfl rfl rfl rfl (hn rfl) (fun τ hN hr g1 g2 => step_field_f rfl (rdN hN (hn rfl)) rfl yxFo68_5 (ev_true (by exact rdS hr rfl rfl) (by exact flag2 g1 g2))) ?_
    refine guardD rfl rfl rfl rfl rfl (hn rfl) (fun τ hN hr g1 g2 => step_load_f rfl (rdN hN (hn rfl)) rfl yxSc3 (ev_true (by exact rdS hr rfl rfl) (by exact flag2 g1 g2)) (hn rfl) rfl) ?_
    refine guardD rfl rfl rfl rfl rfl (hn rfl) (fun τ hN hr g1 g2 => step_subI rfl (rdN hN (hn rfl)) rfl (ev_true (by exact rdS hr rfl rfl) (by exact flag2 g1 g2)) rfl (by have := hw (of_decide_eq_true g2); omega) (by have := hw (of_decide_eq_true g2); omega)) ?_
    refine guardD rfl rfl rfl rfl rfl (hn rfl) (fun τ hN hr g1 g2 => call_step1 rfl (rdN hN (hn rfl)) rfl yxCo106 (.cons (ev_true (by exact rdS hr rfl rfl) (by exact flag2 g1 g2)) (.one (.v _)) (.cons rfl (.one (.v _)) (.cons (ev_true (by exact rdS hr rfl rfl) (by exact flag2 g1 g2)) (.one (.v _)) (.nil)))) (l41In _ _ _) rfl) ?_
    refine DRun.step rfl (fun τ hN hr => step_and rfl (rdN hN (hn rfl)) rfl (by exact rdS hr rfl rfl) (by exact rdS hr rfl rfl) (fun h => (by exact flag1 h))) ?_
    refine DRun.lastS rfl (step_assignV rfl (hn rfl) rfl rfl) ?_
    refine AWp.ret ?_
    refine RetIs.sc (.inr rfl) rfl rfl ?_
    refine congrArg T.bool ?_
    simp only [rbOk, inB]; grind

end Go.Proofs.YtkmacjdigkaabaaGreat
