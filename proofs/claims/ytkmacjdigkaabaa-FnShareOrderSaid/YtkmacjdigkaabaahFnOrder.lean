/- Contracts of functions of the program, each met by its body; conditions stand in each statement. No condition. -/
import Derived.Test.YtkmacjdigkaabaahWsome
import Derived.Test.YtkmacjdigkaabaaProg
import Derived.KernelRfl
set_option linter.unusedVariables false
set_option linter.unusedSimpArgs false
set_option linter.unnecessarySimpa false
set_option linter.unusedSimpArgs false
set_option maxRecDepth 100000
namespace Go.Proofs.Ytkmacjdigkaabaa
open Go Go.Mh

theorem shareOrderIZ (p : Bk) : ASpec Try.prog 40 [.agg (p.cells 48)] (.tup [.one (.fz (strs ((orderB p).getD []))), .one (.bool (orderB p).isSome)]) := (shareOrderI p).letGo (.tup (.cons (.one (.fz (.refl _))) (.cons (.one (.sc _ rfl)) .nil)))

theorem shareOrderSZ (p : Bk) : ASpec Try.prog 41 [.agg (p.cells 48)] (.tup [.one (.fz (strs ((orderB p).getD []))), .one (.bool (orderB p).isSome)]) := (shareOrderS p).letGo (.tup (.cons (.one (.fz (.refl _))) (.cons (.one (.sc _ rfl)) .nil)))

theorem zdSl41 : sliceT Try.prog 41 = some ⟨5, 1, 1⟩ := by kernel_rfl
theorem zdCo39 : callOk Try.prog 39 = true := by kernel_rfl
theorem zdZs29 : zeroSz Try.prog 29 = some 2 := by kernel_rfl
theorem zdCs29 : cellsSz Try.prog 29 = some (1 + 1) := by kernel_rfl
theorem zdSt29 : structSz Try.prog 29 = some 2 := by kernel_rfl
theorem zdCo40 : callOk Try.prog 40 = true := by kernel_rfl
theorem zdCo41 : callOk Try.prog 41 = true := by kernel_rfl
theorem zdCo45 : callOk Try.prog 45 = true := by kernel_rfl
theorem zdCo44 : callOk Try.prog 44 = true := by kernel_rfl
theorem zdCo46 : callOk Try.prog 46 = true := by kernel_rfl
theorem zdUb4 : Try.prog.underlying 4 = some .bool := by kernel_rfl
theorem zdCo35 : callOk Try.prog 35 = true := by kernel_rfl
theorem zdCo27 : callOk Try.prog 27 = true := by kernel_rfl
theorem zdSl22 : sliceT Try.prog 22 = some ⟨9, 1, 16⟩ := by kernel_rfl
theorem zdCo43 : callOk Try.prog 43 = true := by kernel_rfl
theorem zdCo31 : callOk Try.prog 31 = true := by kernel_rfl
theorem zdCo42 : callOk Try.prog 42 = true := by kernel_rfl
theorem zdMo : Try.prog.follows .mixedOrders = true := by kernel_rfl
set_option maxHeartbeats 1000000 in
theorem lawFnShareOrder (b m : List UInt8)  : ASpec Try.prog 7 [.one (bytesT 5 b), .one (bytesT 5 m)] (.one (.bool true)) := by
  refine ASpec.body Try.func7 rfl [4] rfl 94 rfl rfl rfl ?_
  refine AWp.seq (AWp.region ?_)
  refine ARun.step rfl (step_assignV rfl (hn rfl) rfl rfl) ?_
  refine ARun.nil ?_
  refine AWp.seq ?_
  refine AWp.seq (AWp.region ?_)
  refine ARun.step rfl (step_moveV rfl (hn rfl) rfl rfl) ?_
  refine ARun.step rfl (step_len_f rfl (hn rfl) rfl zdSl41 rfl) ?_
  refine ARun.step rfl (step_gtr rfl (hn rfl) rfl rfl rfl) ?_
  refine ARun.step rfl (step_moveV rfl (hn rfl) rfl rfl) ?_
  refine guardS rfl rfl rfl rfl (hn rfl) (fun g1 g2 => step_moveV rfl (hn rfl) rfl rfl) ?_
  refine guardS rfl rfl rfl rfl (hn rfl) (fun g1 g2 => step_len_f rfl (hn rfl) rfl zdSl41 (ev_true rfl (by exact flag2 g1 g2))) ?_
  refine guardS rfl rfl rfl rfl (hn rfl) (fun g1 g2 => step_gtr rfl (hn rfl) rfl (ev_true rfl (by exact flag2 g1 g2)) rfl) ?_
  refine ARun.step rfl (step_or rfl (hn rfl) rfl rfl rfl (fun h => (by exact flag1 h))) ?_
  refine ARun.nil ?_
  refine AWp.cond rfl (fun c1 => ?_) (fun c1 => ?_)
  · try simp only [nrm] at c1
    refine AWp.seq (AWp.region ?_)
    refine ARun.step rfl (step_assignV rfl (hn rfl) rfl rfl) ?_
    refine ARun.nil ?_
    refine AWp.ret ?_
    refine RetIs.sc (.inr rfl) rfl rfl ?_
    refine congrArg T.bool ?_
    rfl
  · try simp only [nrm] at c1
    refine AWp.skip ?_
    obtain ⟨k, _, hk, hd⟩ := drawShareOrder b (by omega)
    have hkl := hk.2.1
    refine AWp.seq (AWp.region ?_)
    refine ARun.step rfl (step_moveV rfl (hn rfl) rfl rfl) ?_
    refine ARun.step rfl (call_stepZ rfl (hn rfl) rfl zdCo39 (.cons rfl (.one (.v _)) (.nil)) hd rfl rfl) ?_
    refine ARun.step rfl (step_alloc_p rfl (hn rfl) rfl zdZs29) ?_
    refine ARun.step rfl (step_store_p rfl rfl zdCs29 rfl rfl rfl rfl rfl rfl rfl) ?_
    refine ARun.nil ?_
    have hi1 := shareOrderIZ k
    have hs1 := shareOrderSZ k
    obtain ⟨o, ho⟩ : ∃ o, (orderB k).getD [] = o := ⟨_, rfl⟩
    obtain ⟨z, hz⟩ : ∃ z, (orderB k).isSome = z := ⟨_, rfl⟩
    rw [ho, hz] at hi1 hs1
    refine AWp.seq (AWp.region ?_)
    refine ARun.step rfl (step_loadS_b rfl (hn rfl) rfl zdSt29 rfl rfl rfl (by decide)) ?_
    refine ARun.step rfl (call_stepZ rfl (hn rfl) rfl zdCo40 (.cons rfl (.agg (.cons (.v _) (.cons (.v _) .nil))) (.nil)) hi1 rfl rfl) ?_
    refine ARun.step rfl (step_moveV rfl (hn rfl) rfl rfl) ?_
    refine ARun.step rfl (step_extract rfl (hn rfl) rfl rfl rfl (by intro l h; cases h)) ?_
    refine ARun.step rfl (step_extract rfl (hn rfl) rfl rfl rfl (by intro l h; cases h)) ?_
    refine ARun.step rfl (step_assignV rfl (hn rfl) rfl rfl) ?_
    refine ARun.step rfl (step_assignV rfl (hn rfl) rfl rfl) ?_
    refine ARun.nil ?_
    refine AWp.seq (AWp.region ?_)
    refine ARun.step rfl (step_loadS_b rfl (hn rfl) rfl zdSt29 rfl rfl rfl (by decide)) ?_
    refine ARun.step rfl (call_stepZ rfl (hn rfl) rfl zdCo41 (.cons rfl (.agg (.cons (.v _) (.cons (.v _) .nil))) (.nil)) hs1 rfl rfl) ?_
    refine ARun.step rfl (step_moveV rfl (hn rfl) rfl rfl) ?_
    refine ARun.step rfl (step_extract rfl (hn rfl) rfl rfl rfl (by intro l h; cases h)) ?_
    refine ARun.step rfl (step_extract rfl (hn rfl) rfl rfl rfl (by intro l h; cases h)) ?_
    refine ARun.step rfl (step_assignV rfl (hn rfl) rfl rfl) ?_
    refine ARun.step rfl (step_assignV rfl (hn rfl) rfl rfl) ?_
    refine ARun.nil ?_
    refine AWp.join (fun u : Unit => mkAS 94 [(1, ⟨true, .one (.v (bytesT 5 m))⟩), (5, ⟨true, .one (.bptr 5 0)⟩), (6, ⟨true, .one (.v (strs o))⟩), (7, ⟨true, .one (.v (.bool z))⟩)] [(5, [.v (strs k.things), .v (bts 48 k.bs)])] []) (fun u => True) ?_ ?_
    · rintro u _
      refine AWp.join (fun u : Unit => mkAS 94 [(1, ⟨true, .one (.v (bytesT 5 m))⟩)] [] []) (fun u => True) ?_ ?_
      · rintro u _
        obtain ⟨q, l, ⟨hq, hl⟩, hd2⟩ := drawShareFits m (by omega)
        refine AWp.seq (AWp.region ?_)
        refine ARun.step rfl (step_moveV rfl (hn rfl) rfl rfl) ?_
        refine ARun.step rfl (call_stepZ rfl (hn rfl) rfl zdCo45 (.cons rfl (.one (.v _)) (.nil)) hd2 rfl rfl) ?_
        refine ARun.step rfl (step_moveV rfl (hn rfl) rfl rfl) ?_
        refine ARun.step rfl (step_extract rfl (hn rfl) rfl rfl rfl (by intro l h; cases h)) ?_
        refine ARun.step rfl (step_extract rfl (hn rfl) rfl rfl rfl (by intro l h; cases h)) ?_
        refine ARun.step rfl (step_alloc_p rfl (hn rfl) rfl zdZs29) ?_
        refine ARun.step rfl (step_store_p rfl rfl zdCs29 rfl rfl rfl rfl rfl rfl rfl) ?_
        refine ARun.step rfl (step_assignV rfl (hn rfl) rfl rfl) ?_
        refine ARun.nil ?_
        refine AWp.seq (AWp.region ?_)
        refine ARun.step rfl (step_loadS_b rfl (hn rfl) rfl zdSt29 rfl rfl rfl (by decide)) ?_
        refine ARun.step rfl (step_moveV rfl (hn rfl) rfl rfl) ?_
        refine ARun.step rfl (call_step1 rfl (hn rfl) rfl zdCo44 (.cons rfl (.agg (.cons (.v _) (.cons (.v _) .nil))) (.cons rfl (.one (.v _)) (.nil))) (fitsI q l) rfl) ?_
        refine ARun.step rfl (step_assignV rfl (hn rfl) rfl rfl) ?_
        refine ARun.nil ?_
        refine AWp.seq (AWp.region ?_)
        refine ARun.step rfl (step_moveV rfl (hn rfl) rfl rfl) ?_
        refine ARun.step rfl (step_loadS_b rfl (hn rfl) rfl zdSt29 rfl rfl rfl (by decide)) ?_
        refine ARun.step rfl (step_moveV rfl (hn rfl) rfl rfl) ?_
        refine ARun.step rfl (call_step1 rfl (hn rfl) rfl zdCo46 (.cons rfl (.agg (.cons (.v _) (.cons (.v _) .nil))) (.cons rfl (.one (.v _)) (.nil))) (fitsS q l) rfl) ?_
        refine ARun.step rfl (step_beql rfl (hn rfl) rfl zdUb4 rfl rfl) ?_
        refine ARun.step rfl (step_moveV rfl (hn rfl) rfl rfl) ?_
        refine guardS rfl rfl rfl rfl (hn rfl) (fun g1 g2 => step_moveV rfl (hn rfl) rfl rfl) ?_
        refine guardS rfl rfl rfl rfl (hn rfl) (fun g1 g2 => step_not rfl (hn rfl) rfl (ev_true rfl (by exact flag2 g1 g2))) ?_
        refine guardS rfl rfl rfl rfl (hn rfl) (fun g1 g2 => step_moveV rfl (hn rfl) rfl (ev_true rfl (by exact flag2 g1 g2))) ?_
        refine guardS rfl rfl rfl rfl (hn rfl) (fun g1 g2 => step_loadS_b rfl (hn rfl) rfl zdSt29 rfl rfl rfl (by decide)) ?_
        refine guardS rfl rfl rfl rfl (hn rfl) (fun g1 g2 => call_step1 rfl (hn rfl) rfl zdCo35 (.cons (ev_true rfl (by exact flag2 g1 g2)) (.agg (.cons (.v _) (.cons (.v _) .nil))) (.nil)) (safeI _) rfl) ?_
        refine guardS rfl rfl rfl rfl (hn rfl) (fun g1 g2 => step_or rfl (hn rfl) rfl (ev_true rfl (by exact flag2 g1 g2)) rfl (fun h => (by exact flag2 (by exact flag2 g1 g2) h))) ?_
        refine ARun.step rfl (step_and rfl (hn rfl) rfl rfl rfl (fun h => (by exact flag1 h))) ?_
        refine ARun.step rfl (step_assignV rfl (hn rfl) rfl rfl) ?_
        refine ARun.nil ?_
        refine AWp.ret ?_
        refine RetIs.sc (.inr rfl) rfl rfl ?_
        refine congrArg T.bool ?_
        cases hf : fitsB q l with
        | false => simp
        | true => simp [fits_safe hf]
      · refine AWp.seq (AWp.region ?_)
        refine ARun.step rfl (step_loadS_b rfl (hn rfl) rfl zdSt29 rfl rfl rfl (by decide)) ?_
        refine ARun.step rfl (call_step1 rfl (hn rfl) rfl zdCo27 (.cons rfl (.agg (.cons (.v _) (.cons (.v _) .nil))) (.nil)) (bookOkS _) rfl) ?_
        refine ARun.step rfl (step_moveV rfl (hn rfl) rfl rfl) ?_
        refine guardS rfl rfl rfl rfl (hn rfl) (fun g1 g2 => step_moveV rfl (hn rfl) rfl rfl) ?_
        refine guardS rfl rfl rfl rfl (hn rfl) (fun g1 g2 => step_loadS_b rfl (hn rfl) rfl zdSt29 rfl rfl rfl (by decide)) ?_
        refine guardS rfl rfl rfl rfl (hn rfl) (fun g1 g2 => step_buildVT rfl (hn rfl) rfl zdSl22 (strs []) (.nil _) rfl rfl rfl rows0) ?_
        refine guardS rfl rfl rfl rfl (hn rfl) (fun g1 g2 => call_step1 rfl (hn rfl) rfl zdCo43 (.cons (ev_true rfl (by exact flag2 g1 g2)) (.agg (.cons (.v _) (.cons (.v _) .nil))) (.cons (ev_true rfl (by exact flag2 g1 g2)) (.one (.v _)) (.nil))) (whSome k [] (by omega) (Nat.zero_le _)) rfl) ?_
        refine guardS rfl rfl rfl rfl (hn rfl) (fun g1 g2 => step_bneq rfl (hn rfl) rfl zdUb4 (ev_true rfl (by exact flag2 g1 g2)) (ev_true rfl (by exact flag2 g1 g2))) ?_
        refine ARun.step rfl (step_and rfl (hn rfl) rfl rfl rfl (fun h => (by exact flag1 h))) ?_
        refine ARun.step rfl (step_moveV rfl (hn rfl) rfl rfl) ?_
        refine guardS rfl rfl rfl rfl (hn rfl) (fun g1 g2 => step_moveV rfl (hn rfl) rfl rfl) ?_
        refine guardS rfl rfl rfl rfl (hn rfl) (fun g1 g2 => step_moveV rfl (hn rfl) rfl (ev_true rfl (by exact flag2 g1 g2))) ?_
        refine guardS rfl rfl rfl rfl (hn rfl) (fun g1 g2 => step_loadS_b rfl (hn rfl) rfl zdSt29 rfl rfl rfl (by decide)) ?_
        refine guardS rfl rfl rfl rfl (hn rfl) (fun g1 g2 => step_moveV rfl (hn rfl) rfl rfl) ?_
        refine guardS rfl rfl rfl rfl (hn rfl) (fun g1 g2 => call_step1 rfl (hn rfl) rfl zdCo44 (.cons (ev_true rfl (by exact flag2 g1 g2)) (.agg (.cons (.v _) (.cons (.v _) .nil))) (.cons (ev_true rfl (by exact flag2 g1 g2)) (.one (.v _)) (.nil))) (fitsI k o) rfl) ?_
        refine guardS rfl rfl rfl rfl (hn rfl) (fun g1 g2 => step_not rfl (hn rfl) rfl (ev_true rfl (by exact flag2 g1 g2))) ?_
        refine guardS rfl rfl rfl rfl (hn rfl) (fun g1 g2 => step_and rfl (hn rfl) rfl (ev_true rfl (by exact flag2 g1 g2)) rfl (fun h => (by exact flag2 (by exact flag2 g1 g2) h))) ?_
        refine ARun.step rfl (step_or rfl (hn rfl) rfl rfl rfl (fun h => (by exact flag1 h))) ?_
        refine ARun.nil ?_
        refine AWp.cond rfl (fun c2 => ?_) (fun c2 => ?_)
        · try simp only [nrm] at c2
          refine AWp.seq (AWp.region ?_)
          refine ARun.step rfl (step_assignV rfl (hn rfl) rfl rfl) ?_
          refine ARun.nil ?_
          refine AWp.ret ?_
          refine RetIs.sc (.inr rfl) rfl rfl ?_
          refine congrArg T.bool ?_
          exfalso
          rcases c2 with c2 | c2
          · apply c2.2
            rw [← hz]
            exact (wh_eq ((bk_ok k).1 c2.1)).symm
          · rw [c2.1] at hz
            obtain ⟨o2, ho2⟩ := Option.isSome_iff_exists.1 hz
            rw [ho2] at ho
            obtain rfl : o2 = o := ho
            rw [order_fits ho2] at c2; cases c2.2
        · try simp only [nrm] at c2
          refine AWp.skip ?_
          refine ⟨(()), ?_, Le.forgetR rfl ⟨rfl, trivial⟩ trivial trivial⟩
          try dsimp only
          all_goals trivial
    · refine AWp.seq (AWp.draw [⟨[.s 7], [.s 33], false⟩, ⟨[.s 9], [.s 34], false⟩, ⟨[.s 33, .s 34], [.s 35], false⟩, ⟨[.s 35], [.s 36], false⟩, ⟨[.s 6, .s 36], [.s 37], false⟩, ⟨[.s 8, .s 36], [.s 38], false⟩, ⟨[.s 38, .s 37, .s 36], [.s 39], false⟩, ⟨[.s 39, .s 36], [.s 40], false⟩, ⟨[.s 36, .s 40], [.s 41], false⟩, ⟨[.s 41], [.s 42], false⟩, ⟨[.s 7, .s 42], [.s 43], false⟩, ⟨[.s 5, .b 5, .s 42], [.s 44], false⟩, ⟨[.s 44, .s 42], [.s 45], false⟩, ⟨[.s 43, .s 45, .s 42], [.s 46], false⟩, ⟨[.s 42, .s 46], [.s 47], false⟩, ⟨[.s 47], [.s 48], false⟩, ⟨[.s 5, .b 5, .s 48], [.s 49], false⟩, ⟨[.s 49, .s 48], [.s 50], false⟩, ⟨[.s 5, .b 5, .s 48], [.s 51], false⟩, ⟨[.s 51, .s 48], [.s 52], false⟩, ⟨[.s 50, .s 52, .s 48], [.s 53], false⟩, ⟨[.s 48, .s 53], [.s 54], false⟩] zdMo rfl ?_)
      refine DRun.step rfl (fun τ hN hr => step_moveV rfl (rdN hN (hn rfl)) rfl (by exact rdS hr rfl rfl)) ?_
      refine DRun.step rfl (fun τ hN hr => step_moveV rfl (rdN hN (hn rfl)) rfl (by exact rdS hr rfl rfl)) ?_
      refine DRun.step rfl (fun τ hN hr => step_bneq rfl (rdN hN (hn rfl)) rfl zdUb4 (by exact rdS hr rfl rfl) (by exact rdS hr rfl rfl)) ?_
      refine DRun.step rfl (fun τ hN hr => step_moveV rfl (rdN hN (hn rfl)) rfl (by exact rdS hr rfl rfl)) ?_
      refine guardD rfl rfl rfl rfl rfl (hn rfl) (fun τ hN hr g1 g2 => step_moveV rfl (rdN hN (hn rfl)) rfl (by exact rdS hr rfl rfl)) ?_
      refine guardD rfl rfl rfl rfl rfl (hn rfl) (fun τ hN hr g1 g2 => step_moveV rfl (rdN hN (hn rfl)) rfl (by exact rdS hr rfl rfl)) ?_
      refine guardD rfl rfl rfl rfl rfl (hn rfl) (fun τ hN hr g1 g2 => call_step1 rfl (rdN hN (hn rfl)) rfl zdCo31 (.cons (ev_true (by exact rdS hr rfl rfl) (by exact flag2 g1 g2)) (.one (.v _)) (.cons (ev_true (by exact rdS hr rfl rfl) (by exact flag2 g1 g2)) (.one (.v _)) (.nil))) (whTexts _ _) rfl) ?_
      refine guardD rfl rfl rfl rfl rfl (hn rfl) (fun τ hN hr g1 g2 => step_not rfl (rdN hN (hn rfl)) rfl (ev_true (by exact rdS hr rfl rfl) (by exact flag2 g1 g2))) ?_
      refine DRun.step rfl (fun τ hN hr => step_or rfl (rdN hN (hn rfl)) rfl (by exact rdS hr rfl rfl) (by exact rdS hr rfl rfl) (fun h => (by exact flag1 h))) ?_
      refine DRun.step rfl (fun τ hN hr => step_moveV rfl (rdN hN (hn rfl)) rfl (by exact rdS hr rfl rfl)) ?_
      refine guardD rfl rfl rfl rfl rfl (hn rfl) (fun τ hN hr g1 g2 => step_moveV rfl (rdN hN (hn rfl)) rfl (by exact rdS hr rfl rfl)) ?_
      refine guardD rfl rfl rfl rfl rfl (hn rfl) (fun τ hN hr g1 g2 => step_loadS_b rfl (rdN hN (hn rfl)) rfl zdSt29 (by exact rdS hr rfl rfl) (by exact rdBtake hr rfl rfl) rfl (by decide)) ?_
      refine guardD rfl rfl rfl rfl rfl (hn rfl) (fun τ hN hr g1 g2 => call_step1 rfl (rdN hN (hn rfl)) rfl zdCo35 (.cons (ev_true (by exact rdS hr rfl rfl) (by exact flag2 g1 g2)) (.agg (.cons (.v _) (.cons (.v _) .nil))) (.nil)) (safeI _) rfl) ?_
      refine guardD rfl rfl rfl rfl rfl (hn rfl) (fun τ hN hr g1 g2 => step_bneq rfl (rdN hN (hn rfl)) rfl zdUb4 (ev_true (by exact rdS hr rfl rfl) (by exact flag2 g1 g2)) (ev_true (by exact rdS hr rfl rfl) (by exact flag2 g1 g2))) ?_
      refine DRun.step rfl (fun τ hN hr => step_or rfl (rdN hN (hn rfl)) rfl (by exact rdS hr rfl rfl) (by exact rdS hr rfl rfl) (fun h => (by exact flag1 h))) ?_
      refine DRun.step rfl (fun τ hN hr => step_moveV rfl (rdN hN (hn rfl)) rfl (by exact rdS hr rfl rfl)) ?_
      refine guardD rfl rfl rfl rfl rfl (hn rfl) (fun τ hN hr g1 g2 => step_loadS_b rfl (rdN hN (hn rfl)) rfl zdSt29 (by exact rdS hr rfl rfl) (by exact rdBtake hr rfl rfl) rfl (by decide)) ?_
      refine guardD rfl rfl rfl rfl rfl (hn rfl) (fun τ hN hr g1 g2 => call_step1 rfl (rdN hN (hn rfl)) rfl zdCo42 (.cons (ev_true (by exact rdS hr rfl rfl) (by exact flag2 g1 g2)) (.agg (.cons (.v _) (.cons (.v _) .nil))) (.nil)) (bookOkI _) rfl) ?_
      refine guardD rfl rfl rfl rfl rfl (hn rfl) (fun τ hN hr g1 g2 => step_loadS_b rfl (rdN hN (hn rfl)) rfl zdSt29 (by exact rdS hr rfl rfl) (by exact rdBtake hr rfl rfl) rfl (by decide)) ?_
      refine guardD rfl rfl rfl rfl rfl (hn rfl) (fun τ hN hr g1 g2 => call_step1 rfl (rdN hN (hn rfl)) rfl zdCo27 (.cons (ev_true (by exact rdS hr rfl rfl) (by exact flag2 g1 g2)) (.agg (.cons (.v _) (.cons (.v _) .nil))) (.nil)) (bookOkS _) rfl) ?_
      refine guardD rfl rfl rfl rfl rfl (hn rfl) (fun τ hN hr g1 g2 => step_bneq rfl (rdN hN (hn rfl)) rfl zdUb4 (ev_true (by exact rdS hr rfl rfl) (by exact flag2 g1 g2)) (ev_true (by exact rdS hr rfl rfl) (by exact flag2 g1 g2))) ?_
      refine DRun.step rfl (fun τ hN hr => step_or rfl (rdN hN (hn rfl)) rfl (by exact rdS hr rfl rfl) (by exact rdS hr rfl rfl) (fun h => (by exact flag1 h))) ?_
      refine DRun.nil ?_
      refine AWp.cond rfl (fun c3 => ?_) (fun c3 => ?_)
      · try simp only [nrm] at c3
        refine AWp.seq (AWp.region ?_)
        refine ARun.step rfl (step_assignV rfl (hn rfl) rfl rfl) ?_
        refine ARun.nil ?_
        refine AWp.ret ?_
        refine RetIs.sc (.inr rfl) rfl rfl ?_
        refine congrArg T.bool ?_
        exfalso
        rcases c3 with ((c3 | c3) | c3) | c3
        · exact c3 trivial
        · rw [eqL_refl strEq_refl] at c3; cases c3
        · exact c3 hz.symm
        · exact c3 trivial
      · try simp only [nrm] at c3
        refine AWp.skip ?_
        refine ⟨(()), ?_, Le.forgetR rfl ⟨rfl, rfl, rfl, rfl, trivial⟩ ⟨rfl, trivial⟩ trivial⟩
        try dsimp only
        all_goals trivial

end Go.Proofs.Ytkmacjdigkaabaa
