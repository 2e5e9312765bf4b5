/- Contracts of functions of the program, each met by its body; conditions stand in each statement. No condition. -/
import Derived.Test.YtkmacjdigkaabaaGreatiRd52
import Derived.Test.YtkmacjdigkaabaaGreatiBank
import Derived.Test.YtkmacjdigkaabaaGreatiWh
import Derived.Test.YtkmacjdigkaabaaGreatProg
import Derived.KernelRfl
set_option linter.unusedVariables false
set_option linter.unusedSimpArgs false
set_option linter.unnecessarySimpa false
set_option linter.unusedSimpArgs false
set_option maxRecDepth 100000
namespace Go.Proofs.YtkmacjdigkaabaaGreat
open Go Go.Mh

theorem eqBk_no1 {a b : Bk} (h : ¬ (eqL strEq a.things b.things = true ∧ a.bs.length = b.bs.length)) : false = eqBk a b := by
  symm
  cases hh : eqBk a b with
  | false => rfl
  | true =>
    simp only [eqBk, eqL, Bool.and_eq_true, beq_iff_eq] at hh
    exact absurd ⟨by rw [eqL, Bool.and_eq_true, beq_iff_eq]; exact hh.1, hh.2.1⟩ h
theorem eqBk_no2 {a b : Bk} {i : Nat} (hi : i < a.bs.length) (h : eqBt (nth a.bs i) (nth b.bs i) = false) : false = eqBk a b := by
  rw [eqBk, show eqL eqBt a.bs b.bs = false by rw [eqL, all_not (i := i) hi h, Bool.and_false], Bool.and_false]
theorem eqBk_yes {a b : Bk} (h1 : eqL strEq a.things b.things = true) (h2 : a.bs.length = b.bs.length) (h3 : ∀ j, j < a.bs.length → eqBt (nth a.bs j) (nth b.bs j) = true) : true = eqBk a b := by
  rw [eqBk, h1, eqL, h2, ← h2, all_of h3]; simp [h2]

theorem yvFo34_0 : fieldOff Tryz.prog 34 0 = some 0 := by kernel_rfl
theorem yvSc22 : scalarB Tryz.prog 22 = true := by kernel_rfl
theorem yvCo88 : callOk Tryz.prog 88 = true := by kernel_rfl
theorem yvFo34_1 : fieldOff Tryz.prog 34 1 = some 1 := by kernel_rfl
theorem yvSc32 : scalarB Tryz.prog 32 = true := by kernel_rfl
theorem yvSl32 : sliceT Tryz.prog 32 = some ⟨105, 3, 64⟩ := by kernel_rfl
theorem yvFo105_0 : fieldOff Tryz.prog 105 0 = some 0 := by kernel_rfl
theorem yvSc9 : scalarB Tryz.prog 9 = true := by kernel_rfl
theorem yvFo105_1 : fieldOff Tryz.prog 105 1 = some 1 := by kernel_rfl
theorem yvFo105_2 : fieldOff Tryz.prog 105 2 = some 2 := by kernel_rfl
theorem yvMo : Tryz.prog.follows .mixedOrders = true := by kernel_rfl
set_option maxHeartbeats 1000000 in
theorem whBook (a b : Bk)  : ASpec Tryz.prog 25 [.agg (a.cells 105), .agg (b.cells 105)] (.one (.bool (eqBk a b))) := by
  refine ASpec.body Tryz.func25 rfl [4] rfl 73 rfl rfl rfl ?_
  refine AWp.aggLe 0 rfl (fun hc => ?_)
  have hl : a.bs.length ≤ 9223372036854775807 := hc (.v (bts 105 a.bs)) (by exact List.mem_cons_of_mem _ List.mem_cons_self)
  clear hc
  refine AWp.seq (AWp.region ?_)
  refine ARun.step rfl (step_box_p (m := 1) rfl (hn rfl) rfl rfl rfl rfl rfl) ?_
  refine ARun.step rfl (step_box_p (m := 1) rfl (hn rfl) rfl rfl rfl rfl rfl) ?_
  refine ARun.step rfl (step_assignV rfl (hn rfl) rfl rfl) ?_
  refine ARun.nil ?_
  refine AWp.seq ?_
  refine AWp.seq (AWp.region ?_)
  refine ARun.step rfl (step_field_b rfl (hn rfl) rfl yvFo34_0 rfl (by exact List.cons_ne_nil _ _)) ?_
  refine ARun.step rfl (step_load_b rfl (hn rfl) rfl yvSc22 rfl rfl) ?_
  refine ARun.step rfl (step_field_b rfl (hn rfl) rfl yvFo34_0 rfl (by exact List.cons_ne_nil _ _)) ?_
  refine ARun.step rfl (step_load_b rfl (hn rfl) rfl yvSc22 rfl rfl) ?_
  refine ARun.step rfl (call_step1 rfl (hn rfl) rfl yvCo88 (.cons rfl (.one (.v _)) (.cons rfl (.one (.v _)) (.nil))) (whTexts _ _) rfl) ?_
  refine ARun.step rfl (step_not rfl (hn rfl) rfl rfl) ?_
  refine ARun.step rfl (step_moveV rfl (hn rfl) rfl rfl) ?_
  refine guardS rfl rfl rfl rfl (hn rfl) (fun g1 g2 => step_field_b rfl (hn rfl) rfl yvFo34_1 rfl (by exact List.cons_ne_nil _ _)) ?_
  refine guardS rfl rfl rfl rfl (hn rfl) (fun g1 g2 => step_load_b rfl (hn rfl) rfl yvSc32 (ev_true rfl (by exact flag2 g1 g2)) rfl) ?_
  refine guardS rfl rfl rfl rfl (hn rfl) (fun g1 g2 => step_len_f rfl (hn rfl) rfl yvSl32 (ev_true rfl (by exact flag2 g1 g2))) ?_
  refine guardS rfl rfl rfl rfl (hn rfl) (fun g1 g2 => step_field_b rfl (hn rfl) rfl yvFo34_1 rfl (by exact List.cons_ne_nil _ _)) ?_
  refine guardS rfl rfl rfl rfl (hn rfl) (fun g1 g2 => step_load_b rfl (hn rfl) rfl yvSc32 (ev_true rfl (by exact flag2 g1 g2)) rfl) ?_
  refine guardS rfl rfl rfl rfl (hn rfl) (fun g1 g2 => step_len_f rfl (hn rfl) rfl yvSl32 (ev_true rfl (by exact flag2 g1 g2))) ?_
  refine guardS rfl rfl rfl rfl (hn rfl) (fun g1 g2 => step_neq rfl (hn rfl) rfl (ev_true rfl (by exact flag2 g1 g2)) (ev_true rfl (by exact flag2 g1 g2))) ?_
  refine ARun.step rfl (step_or rfl (hn rfl) rfl rfl rfl (fun h => (by exact flag1 h))) ?_
  refine ARun.nil ?_
  refine AWp.cond rfl (fun c1 => ?_) (fun c1 => ?_)
  · try simp only [nrm] at c1
    refine AWp.seq (AWp.region ?_)
    refine ARun.step rfl (step_assignV rfl (hn rfl) rfl rfl) ?_
    refine ARun.nil ?_
    refine AWp.ret ?_
    refine RetIs.sc (.inr rfl) rfl rfl ?_
    refine congrArg T.bool ?_
    exact eqBk_no1 (by grind)
  · try simp only [nrm] at c1
    refine AWp.skip ?_
    refine AWp.seq ?_
    refine AWp.seq (AWp.region ?_)
    refine ARun.step rfl (step_assignV rfl (hn rfl) rfl rfl) ?_
    refine ARun.nil ?_
    refine AWp.block ?_
    refine AWp.loopM (fun i : Nat => mkAS 73 [(2, ⟨true, .one (.bptr 2 0)⟩), (3, ⟨true, .one (.bptr 3 0)⟩), (5, ⟨true, .one (.v (.int .i64 (i : Nat)))⟩)] [(2, (a.cells 105).map C.v), (3, (b.cells 105).map C.v)] []) (fun i => i ≤ a.bs.length ∧ ∀ j, j < i → eqBt (nth a.bs j) (nth b.bs j) = true) (fun i => a.bs.length - i) 0 ?_ (Le.forgetR rfl ⟨rfl, rfl, rfl, trivial⟩ ⟨rfl, rfl, trivial⟩ trivial) ?_
    · try dsimp only
      exact ⟨by omega, by omega⟩
    rintro i ⟨hi, hall⟩
    refine AWp.seq ?_
    refine AWp.seq (AWp.region ?_)
    refine ARun.step rfl (step_moveV rfl (hn rfl) rfl rfl) ?_
    refine ARun.step rfl (step_field_b rfl (hn rfl) rfl yvFo34_1 rfl (by exact List.cons_ne_nil _ _)) ?_
    refine ARun.step rfl (step_load_b rfl (hn rfl) rfl yvSc32 rfl rfl) ?_
    refine ARun.step rfl (step_len_f rfl (hn rfl) rfl yvSl32 rfl) ?_
    refine ARun.step rfl (step_lss rfl (hn rfl) rfl rfl rfl) ?_
    refine ARun.nil ?_
    refine AWp.cond rfl (fun c2 => ?_) (fun c2 => ?_)
    · try simp only [nrm] at c2
      refine AWp.skip ?_
      refine AWp.seq ?_
      refine AWp.block ?_
      refine AWp.seq (AWp.draw [⟨[.s 2, .b 2], [.s 28], false⟩, ⟨[.s 28, .b 2], [.s 29], false⟩, ⟨[.s 5], [.s 30], false⟩, ⟨[.s 29, .s 30], [.s 31], false⟩, ⟨[.s 31], [.s 32], false⟩, ⟨[.s 32], [.s 33], false⟩, ⟨[.s 3, .b 3], [.s 34], false⟩, ⟨[.s 34, .b 3], [.s 35], false⟩, ⟨[.s 5], [.s 36], false⟩, ⟨[.s 35, .s 36], [.s 37], false⟩, ⟨[.s 37], [.s 38], false⟩, ⟨[.s 38], [.s 39], false⟩, ⟨[.s 33, .s 39], [.s 40], false⟩, ⟨[.s 40], [.s 41], false⟩, ⟨[.s 2, .b 2, .s 41], [.s 42], false⟩, ⟨[.s 42, .b 2, .s 41], [.s 43], false⟩, ⟨[.s 5, .s 41], [.s 44], false⟩, ⟨[.s 43, .s 44, .s 41], [.s 45], false⟩, ⟨[.s 45, .s 41], [.s 46], false⟩, ⟨[.s 46, .s 41], [.s 47], false⟩, ⟨[.s 3, .b 3, .s 41], [.s 48], false⟩, ⟨[.s 48, .b 3, .s 41], [.s 49], false⟩, ⟨[.s 5, .s 41], [.s 50], false⟩, ⟨[.s 49, .s 50, .s 41], [.s 51], false⟩, ⟨[.s 51, .s 41], [.s 52], false⟩, ⟨[.s 52, .s 41], [.s 53], false⟩, ⟨[.s 53, .s 47, .s 41], [.s 54], false⟩, ⟨[.s 54, .s 41], [.s 55], false⟩, ⟨[.s 41, .s 55], [.s 56], false⟩, ⟨[.s 56], [.s 57], false⟩, ⟨[.s 2, .b 2, .s 57], [.s 58], false⟩, ⟨[.s 58, .b 2, .s 57], [.s 59], false⟩, ⟨[.s 5, .s 57], [.s 60], false⟩, ⟨[.s 59, .s 60, .s 57], [.s 61], false⟩, ⟨[.s 61, .s 57], [.s 62], false⟩, ⟨[.s 62, .s 57], [.s 63], false⟩, ⟨[.s 3, .b 3, .s 57], [.s 64], false⟩, ⟨[.s 64, .b 3, .s 57], [.s 65], false⟩, ⟨[.s 5, .s 57], [.s 66], false⟩, ⟨[.s 65, .s 66, .s 57], [.s 67], false⟩, ⟨[.s 67, .s 57], [.s 68], false⟩, ⟨[.s 68, .s 57], [.s 69], false⟩, ⟨[.s 69, .s 63, .s 57], [.s 70], false⟩, ⟨[.s 70, .s 57], [.s 71], false⟩, ⟨[.s 57, .s 71], [.s 72], false⟩] yvMo (by kernel_rfl) ?_)
      refine DRun.step rfl (fun τ hN hr => step_field_b rfl (rdN hN (hn rfl)) rfl yvFo34_1 (by exact rdS hr rfl rfl) (by exact rdBne hr rfl (by exact List.cons_ne_nil _ _))) ?_
      refine DRun.step rfl (fun τ hN hr => step_load_b rfl (rdN hN (hn rfl)) rfl yvSc32 (by exact rdS hr rfl rfl) (by exact rdBget hr rfl rfl)) ?_
      refine DRun.step rfl (fun τ hN hr => step_moveV rfl (rdN hN (hn rfl)) rfl (by exact rdS hr rfl rfl)) ?_
      refine DRun.step rfl (fun τ hN hr => step_index_fN rfl (rdN hN (hn rfl)) rfl yvSl32 (by exact rdS hr rfl rfl) (by exact rdS hr rfl rfl) (by omega)) ?_
      refine DRun.step rfl (fun τ hN hr => step_field_f rfl (rdN hN (hn rfl)) rfl yvFo105_0 (by exact rdS hr rfl rfl)) ?_
      refine DRun.step rfl (fun τ hN hr => step_load_f rfl (rdN hN (hn rfl)) rfl yvSc9 (by exact rdS hr rfl rfl) (hn rfl) rfl) ?_
      refine DRun.step rfl (fun τ hN hr => step_field_b rfl (rdN hN (hn rfl)) rfl yvFo34_1 (by exact rdS hr rfl rfl) (by exact rdBne hr rfl (by exact List.cons_ne_nil _ _))) ?_
      refine DRun.step rfl (fun τ hN hr => step_load_b rfl (rdN hN (hn rfl)) rfl yvSc32 (by exact rdS hr rfl rfl) (by exact rdBget hr rfl rfl)) ?_
      refine DRun.step rfl (fun τ hN hr => step_moveV rfl (rdN hN (hn rfl)) rfl (by exact rdS hr rfl rfl)) ?_
      refine DRun.step rfl (fun τ hN hr => step_index_fN rfl (rdN hN (hn rfl)) rfl yvSl32 (by exact rdS hr rfl rfl) (by exact rdS hr rfl rfl) (by omega)) ?_
      refine DRun.step rfl (fun τ hN hr => step_field_f rfl (rdN hN (hn rfl)) rfl yvFo105_0 (by exact rdS hr rfl rfl)) ?_
      refine DRun.step rfl (fun τ hN hr => step_load_f rfl (rdN hN (hn rfl)) rfl yvSc9 (by exact rdS hr rfl rfl) (hn rfl) rfl) ?_
      refine DRun.step rfl (fun τ hN hr => step_sneq rfl (rdN hN (hn rfl)) rfl (by exact rdS hr rfl rfl) (by exact rdS hr rfl rfl)) ?_
      refine DRun.step rfl (fun τ hN hr => step_moveV rfl (rdN hN (hn rfl)) rfl (by exact rdS hr rfl rfl)) ?_
      refine guardD rfl rfl rfl rfl rfl (hn rfl) (fun τ hN hr g1 g2 => step_field_b rfl (rdN hN (hn rfl)) rfl yvFo34_1 (by exact rdS hr rfl rfl) (by exact rdBne hr rfl (by exact List.cons_ne_nil _ _))) ?_
      refine guardD rfl rfl rfl rfl rfl (hn rfl) (fun τ hN hr g1 g2 => step_load_b rfl (rdN hN (hn rfl)) rfl yvSc32 (ev_true (by exact rdS hr rfl rfl) (by exact flag2 g1 g2)) (by exact rdBget hr rfl rfl)) ?_
      refine guardD rfl rfl rfl rfl rfl (hn rfl) (fun τ hN hr g1 g2 => step_moveV rfl (rdN hN (hn rfl)) rfl (by exact rdS hr rfl rfl)) ?_
      refine guardD rfl rfl rfl rfl rfl (hn rfl) (fun τ hN hr g1 g2 => step_index_fN rfl (rdN hN (hn rfl)) rfl yvSl32 (ev_true (by exact rdS hr rfl rfl) (by exact flag2 g1 g2)) (ev_true (by exact rdS hr rfl rfl) (by exact flag2 g1 g2)) (by first | omega | (have := of_decide_eq_true g2; omega) | (have := of_decide_eq_false g2; omega) | (simp only [nrm] at g2; omega) | (simp only [nrm, Bool.true_and] at g1 g2; omega))) ?_
      refine guardD rfl rfl rfl rfl rfl (hn rfl) (fun τ hN hr g1 g2 => step_field_f rfl (rdN hN (hn rfl)) rfl yvFo105_1 (ev_true (by exact rdS hr rfl rfl) (by exact flag2 g1 g2))) ?_
      refine guardD rfl rfl rfl rfl rfl (hn rfl) (fun τ hN hr g1 g2 => step_load_f rfl (rdN hN (hn rfl)) rfl yvSc22 (ev_true (by exact rdS hr rfl rfl) (by exact flag2 g1 g2)) (hn rfl) rfl) ?_
      refine guardD rfl rfl rfl rfl rfl (hn rfl) (fun τ hN hr g1 g2 => step_field_b rfl (rdN hN (hn rfl)) rfl yvFo34_1 (by exact rdS hr rfl rfl) (by exact rdBne hr rfl (by exact List.cons_ne_nil _ _))) ?_
      refine guardD rfl rfl rfl rfl rfl (hn rfl) (fun τ hN hr g1 g2 => step_load_b rfl (rdN hN (hn rfl)) rfl yvSc32 (ev_true (by exact rdS hr rfl rfl) (by exact flag2 g1 g2)) (by exact rdBget hr rfl rfl)) ?_
      refine guardD rfl rfl rfl rfl rfl (hn rfl) (fun τ hN hr g1 g2 => step_moveV rfl (rdN hN (hn rfl)) rfl (by exact rdS hr rfl rfl)) ?_
      refine guardD rfl rfl rfl rfl rfl (hn rfl) (fun τ hN hr g1 g2 => step_index_fN rfl (rdN hN (hn rfl)) rfl yvSl32 (ev_true (by exact rdS hr rfl rfl) (by exact flag2 g1 g2)) (ev_true (by exact rdS hr rfl rfl) (by exact flag2 g1 g2)) (by first | omega | (have := of_decide_eq_true g2; omega) | (have := of_decide_eq_false g2; omega) | (simp only [nrm] at g2; omega) | (simp only [nrm, Bool.true_and] at g1 g2; omega))) ?_
      refine guardD rfl rfl rfl rfl rfl (hn rfl) (fun τ hN hr g1 g2 => step_field_f rfl (rdN hN (hn rfl)) rfl yvFo105_1 (ev_true (by exact rdS hr rfl rfl) (by exact flag2 g1 g2))) ?_
      refine guardD rfl rfl rfl rfl rfl (hn rfl) (fun τ hN hr g1 g2 => step_load_f rfl (rdN hN (hn rfl)) rfl yvSc22 (ev_true (by exact rdS hr rfl rfl) (by exact flag2 g1 g2)) (hn rfl) rfl) ?_
      refine guardD rfl rfl rfl rfl rfl (hn rfl) (fun τ hN hr g1 g2 => call_step1 rfl (rdN hN (hn rfl)) rfl yvCo88 (.cons (ev_true (by exact rdS hr rfl rfl) (by exact flag2 g1 g2)) (.one (.v _)) (.cons (ev_true (by exact rdS hr rfl rfl) (by exact flag2 g1 g2)) (.one (.v _)) (.nil))) (whTexts _ _) rfl) ?_
      refine guardD rfl rfl rfl rfl rfl (hn rfl) (fun τ hN hr g1 g2 => step_not rfl (rdN hN (hn rfl)) rfl (ev_true (by exact rdS hr rfl rfl) (by exact flag2 g1 g2))) ?_
      refine DRun.step rfl (fun τ hN hr => step_or rfl (rdN hN (hn rfl)) rfl (by exact rdS hr rfl rfl) (by exact rdS hr rfl rfl) (fun h => (by exact flag1 h))) ?_
      refine DRun.step rfl (fun τ hN hr => step_moveV rfl (rdN hN (hn rfl)) rfl (by exact rdS hr rfl rfl)) ?_
      refine guardD rfl rfl rfl rfl rfl (hn rfl) (fun τ hN hr g1 g2 => step_field_b rfl (rdN hN (hn rfl)) rfl yvFo34_1 (by exact rdS hr rfl rfl) (by exact rdBne hr rfl (by exact List.cons_ne_nil _ _))) ?_
      refine guardD rfl rfl rfl rfl rfl (hn rfl) (fun τ hN hr g1 g2 => step_load_b rfl (rdN hN (hn rfl)) rfl yvSc32 (ev_true (by exact rdS hr rfl rfl) (by exact flag2 g1 g2)) (by exact rdBget hr rfl rfl)) ?_
      refine guardD rfl rfl rfl rfl rfl (hn rfl) (fun τ hN hr g1 g2 => step_moveV rfl (rdN hN (hn rfl)) rfl (by exact rdS hr rfl rfl)) ?_
      refine guardD rfl rfl rfl rfl rfl (hn rfl) (fun τ hN hr g1 g2 => step_index_fN rfl (rdN hN (hn rfl)) rfl yvSl32 (ev_true (by exact rdS hr rfl rfl) (by exact flag2 g1 g2)) (ev_true (by exact rdS hr rfl rfl) (by exact flag2 g1 g2)) (by first | omega | (have := of_decide_eq_true g2; omega) | (have := of_decide_eq_false g2; omega) | (simp only [nrm] at g2; omega) | (simp only [nrm, Bool.true_and] at g1 g2; omega))) ?_
      refine guardD rfl rfl rfl rfl rfl (hn rfl) (fun τ hN hr g1 g2 => step_field_f rfl (rdN hN (hn rfl)) rfl yvFo105_2 (ev_true (by exact rdS hr rfl rfl) (by exact flag2 g1 g2))) ?_
      refine guardD rfl rfl rfl rfl rfl (hn rfl) (fun τ hN hr g1 g2 => step_load_f rfl (rdN hN (hn rfl)) rfl yvSc22 (ev_true (by exact rdS hr rfl rfl) (by exact flag2 g1 g2)) (hn rfl) rfl) ?_
      refine guardD rfl rfl rfl rfl rfl (hn rfl) (fun τ hN hr g1 g2 => step_field_b rfl (rdN hN (hn rfl)) rfl yvFo34_1 (by exact rdS hr rfl rfl) (by exact rdBne hr rfl (by exact List.cons_ne_nil _ _))) ?_
      refine guardD rfl rfl rfl rfl rfl (hn rfl) (fun τ hN hr g1 g2 => step_load_b rfl (rdN hN (hn rfl)) rfl yvSc32 (ev_true (by exact rdS hr rfl rfl) (by exact flag2 g1 g2)) (by exact rdBget hr rfl rfl)) ?_
      refine guardD rfl rfl rfl rfl rfl (hn rfl) (fun τ hN hr g1 g2 => step_moveV rfl (rdN hN (hn rfl)) rfl (by exact rdS hr rfl rfl)) ?_
      refine guardD rfl rfl rfl rfl rfl (hn rfl) (fun τ hN hr g1 g2 => step_index_fN rfl (rdN hN (hn rfl)) rfl yvSl32 (ev_true (by exact rdS hr rfl rfl) (by exact flag2 g1 g2)) (ev_true (by exact rdS hr rfl rfl) (by exact flag2 g1 g2)) (by first | omega | (have := of_decide_eq_true g2; omega) | (have := of_decide_eq_false g2; omega) | (simp only [nrm] at g2; omega) | (simp only [nrm, Bool.true_and] at g1 g2; omega))) ?_
      refine guardD rfl rfl rfl rfl rfl (hn rfl) (fun τ hN hr g1 g2 => step_field_f rfl (rdN hN (hn rfl)) rfl yvFo105_2 (ev_true (by exact rdS hr rfl rfl) (by exact flag2 g1 g2))) ?_
      refine guardD rfl rfl rfl rfl rfl (hn rfl) (fun τ hN hr g1 g2 => step_load_f rfl (rdN hN (hn rfl)) rfl yvSc22 (ev_true (by exact rdS hr rfl rfl) (by exact flag2 g1 g2)) (hn rfl) rfl) ?_
      refine guardD rfl rfl rfl rfl rfl (hn rfl) (fun τ hN hr g1 g2 => call_step1 rfl (rdN hN (hn rfl)) rfl yvCo88 (.cons (ev_true (by exact rdS hr rfl rfl) (by exact flag2 g1 g2)) (.one (.v _)) (.cons (ev_true (by exact rdS hr rfl rfl) (by exact flag2 g1 g2)) (.one (.v _)) (.nil))) (whTexts _ _) rfl) ?_
      refine guardD rfl rfl rfl rfl rfl (hn rfl) (fun τ hN hr g1 g2 => step_not rfl (rdN hN (hn rfl)) rfl (ev_true (by exact rdS hr rfl rfl) (by exact flag2 g1 g2))) ?_
      refine DRun.step rfl (fun τ hN hr => step_or rfl (rdN hN (hn rfl)) rfl (by exact rdS hr rfl rfl) (by exact rdS hr rfl rfl) (fun h => (by exact flag1 h))) ?_
      refine DRun.nil ?_
      refine AWp.cond rfl (fun c3 => ?_) (fun c3 => ?_)
      · try simp only [nrm] at c3
        refine AWp.seq (AWp.region ?_)
        refine ARun.step rfl (step_assignV rfl (hn rfl) rfl rfl) ?_
        refine ARun.nil ?_
        refine AWp.ret ?_
        refine RetIs.sc (.inr rfl) rfl rfl ?_
        refine congrArg T.bool ?_
        exact eqBk_no2 (i := i) (by omega) (by rw [eqBt]; grind)
      · try simp only [nrm] at c3
        refine AWp.skip ?_
        refine AWp.region ?_
        refine ARun.step rfl (step_moveV rfl (hn rfl) rfl rfl) ?_
        refine ARun.step rfl (step_addI rfl (hn rfl) rfl rfl rfl (by omega) (by omega)) ?_
        refine ARun.step rfl (step_assignV rfl (hn rfl) rfl rfl) ?_
        refine ARun.nil ?_
        refine ⟨i + 1, ?_, ?_, Le.forgetR rfl ⟨rfl, rfl, rfl, trivial⟩ ⟨rfl, rfl, trivial⟩ trivial⟩
        · try dsimp only
          exact ⟨by omega, upto hall (by rw [eqBt]; grind)⟩
        · try dsimp only
          omega
    · try simp only [nrm] at c2
      refine AWp.exit ?_
      refine AWp.seq (AWp.region ?_)
      refine ARun.step rfl (step_assignV rfl (hn rfl) rfl rfl) ?_
      refine ARun.nil ?_
      refine AWp.ret ?_
      refine RetIs.sc (.inr rfl) rfl rfl ?_
      refine congrArg T.bool ?_
      exact eqBk_yes (by grind) (by grind) (fun j hj => hall j (by omega))

end Go.Proofs.YtkmacjdigkaabaaGreat
