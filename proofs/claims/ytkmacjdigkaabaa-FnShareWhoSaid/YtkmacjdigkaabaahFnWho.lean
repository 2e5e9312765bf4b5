/- Contracts of functions of the program, each met by its body; conditions stand in each statement. No condition. -/
import Derived.Test.YtkmacjdigkaabaahWh
import Derived.Test.YtkmacjdigkaabaaProg
import Derived.KernelRfl
set_option linter.unusedVariables false
set_option linter.unusedSimpArgs false
set_option linter.unnecessarySimpa false
set_option linter.unusedSimpArgs false
set_option maxRecDepth 100000
namespace Go.Proofs.Ytkmacjdigkaabaa
open Go Go.Mh

def cntW (p : Bk) (s : Str) : Nat → Nat
  | 0 => 0
  | i + 1 => cntW p s i + if hasB (nth p.bs i).has s = true then 1 else 0
theorem cntW_yes {p : Bk} {s : Str} {i : Nat} (h : hasB (nth p.bs i).has s = true) : cntW p s i + 1 = cntW p s (i + 1) := by simp only [cntW, h, if_true]
theorem cntW_no {p : Bk} {s : Str} {i : Nat} (h : hasB (nth p.bs i).has s = false) : cntW p s i = cntW p s (i + 1) := by simp only [cntW, h]; rfl
theorem cntW_zero {p : Bk} {s : Str} : ∀ {i : Nat}, (∀ j, j < i → hasB (nth p.bs j).has s = false) → cntW p s i = 0
  | 0, _ => rfl
  | i + 1, h => by rw [← cntW_no (h i (by omega))]; exact cntW_zero fun j hj => h j (by omega)
theorem cntW_le (p : Bk) (s : Str) (i : Nat) : cntW p s i ≤ i := by
  induction i with
  | zero => exact Nat.le_refl _
  | succ i ih => simp only [cntW]; split <;> omega
theorem one_has {p : Bk} (hb : bookOk p = true) {s : Str} {i j : Nat} (hi : i < p.bs.length) (hj : j < p.bs.length) (h1 : hasB (nth p.bs i).has s = true) (h2 : hasB (nth p.bs j).has s = true) : i = j := by
  have hd := ((bk_ok p).1 hb).dj
  rw [List.pairwise_iff_getElem] at hd
  rw [has_mem, nth_getA hi] at h1
  rw [has_mem, nth_getA hj] at h2
  rcases Nat.lt_trichotomy i j with h | h | h
  · exact (hd i j hi hj h s h1 h2).elim
  · exact h
  · exact (hd j i hj hi h s h2 h1).elim
theorem who_is {p : Bk} (hb : bookOk p = true) {s : Str} {i : Nat} (hi : i < p.bs.length) (h : hasB (nth p.bs i).has s = true) : whoB p s = (nth p.bs i).name := by
  unfold whoB
  rw [if_pos hb]
  have : (List.range p.bs.length).find? (fun i => hasB (nth p.bs i).has s) = some i := by
    rw [List.find?_range_eq_some]
    refine ⟨h, List.mem_range.2 hi, fun j hj => ?_⟩
    cases hh : hasB (nth p.bs j).has s with
    | false => rfl
    | true => have := one_has hb (by omega) hi hh h; omega
  simp only [this]
theorem who_needs {p : Bk} (hb : bookOk p = true) {s : Str} {i : Nat} (hi : i < p.bs.length) (h : hasB (nth p.bs i).has s = true) : hasB (nth p.bs i).needs s = true := by
  rw [has_mem] at h ⊢
  exact (((bk_ok p).1 hb).all _ (nth_memA hi)).hd s h
theorem cntW_one {p : Bk} (hb : bookOk p = true) {s : Str} {i : Nat} (hi : i < p.bs.length) (h : hasB (nth p.bs i).has s = true) : ∀ {n : Nat}, n ≤ p.bs.length → cntW p s n = if i < n then 1 else 0
  | 0, _ => rfl
  | n + 1, hn => by
    have ih := cntW_one hb hi h (n := n) (by omega)
    by_cases e : i = n
    · subst e
      rw [← cntW_yes h, ih, if_neg (by omega), if_pos (by omega)]
    · rw [← cntW_no (i := n) (by
        cases hh : hasB (nth p.bs n).has s with
        | false => rfl
        | true => exact absurd (one_has hb hi (by omega) h hh) e), ih]
      by_cases h2 : i < n
      · rw [if_pos h2, if_pos (by omega)]
      · rw [if_neg h2, if_neg (by omega)]
theorem who_law {p : Bk} (hb : bookOk p = true) (s : Str) : (cntW p s p.bs.length = 0 ∧ whoB p s = ⟨#[]⟩) ∨ cntW p s p.bs.length = 1 := by
  by_cases h : ∃ i, i < p.bs.length ∧ hasB (nth p.bs i).has s = true
  · obtain ⟨i, hi, hh⟩ := h
    right
    rw [cntW_one hb hi hh (Nat.le_refl _), if_pos hi]
  · left
    have hall : ∀ j, j < p.bs.length → hasB (nth p.bs j).has s = false := fun j hj => by
      cases hh : hasB (nth p.bs j).has s with
      | false => rfl
      | true => exact absurd ⟨j, hj, hh⟩ h
    exact ⟨cntW_zero hall, (who_none hall (fun _ => Nat.le_refl _)).symm⟩

theorem ysSl41 : sliceT Try.prog 41 = some ⟨5, 1, 1⟩ := by kernel_rfl
theorem ysCo24 : callOk Try.prog 24 = true := by kernel_rfl
theorem ysZs29 : zeroSz Try.prog 29 = some 2 := by kernel_rfl
theorem ysCs29 : cellsSz Try.prog 29 = some (1 + 1) := by kernel_rfl
theorem ysSt29 : structSz Try.prog 29 = some 2 := by kernel_rfl
theorem ysCo25 : callOk Try.prog 25 = true := by kernel_rfl
theorem ysCo26 : callOk Try.prog 26 = true := by kernel_rfl
theorem ysCo27 : callOk Try.prog 27 = true := by kernel_rfl
theorem ysFo29_1 : fieldOff Try.prog 29 1 = some 1 := by kernel_rfl
theorem ysSc27 : scalarB Try.prog 27 = true := by kernel_rfl
theorem ysSl27 : sliceT Try.prog 27 = some ⟨48, 3, 64⟩ := by kernel_rfl
theorem ysFo48_1 : fieldOff Try.prog 48 1 = some 1 := by kernel_rfl
theorem ysSc22 : scalarB Try.prog 22 = true := by kernel_rfl
theorem ysCo28 : callOk Try.prog 28 = true := by kernel_rfl
theorem ysFo48_0 : fieldOff Try.prog 48 0 = some 0 := by kernel_rfl
theorem ysSc9 : scalarB Try.prog 9 = true := by kernel_rfl
theorem ysFo48_2 : fieldOff Try.prog 48 2 = some 2 := by kernel_rfl
set_option maxHeartbeats 1000000 in
theorem lawFnShareWho (b : List UInt8)  : ASpec Try.prog 5 [.one (bytesT 5 b)] (.one (.bool true)) := by
  refine ASpec.body Try.func5 rfl [2] rfl 84 rfl rfl rfl ?_
  refine AWp.seq (AWp.region ?_)
  refine ARun.step rfl (step_assignV rfl (hn rfl) rfl rfl) ?_
  refine ARun.nil ?_
  refine AWp.seq ?_
  refine AWp.seq (AWp.region ?_)
  refine ARun.step rfl (step_moveV rfl (hn rfl) rfl rfl) ?_
  refine ARun.step rfl (step_len_f rfl (hn rfl) rfl ysSl41 rfl) ?_
  refine ARun.step rfl (step_gtr rfl (hn rfl) rfl rfl rfl) ?_
  refine ARun.nil ?_
  refine AWp.cond rfl (fun c1 => ?_) (fun c1 => ?_)
  · try simp only [nrm] at c1
    refine AWp.seq (AWp.region ?_)
    refine ARun.step rfl (step_assignV rfl (hn rfl) rfl rfl) ?_
    refine ARun.nil ?_
    refine AWp.ret ?_
    refine RetIs.sc (.inr rfl) rfl rfl ?_
    refine congrArg T.bool ?_
    rfl
  · try simp only [nrm] at c1
    obtain ⟨k, s, hk, hd⟩ := drawShareWho b (by omega)
    have hkl := hk.2.1
    refine AWp.skip ?_
    refine AWp.seq (AWp.region ?_)
    refine ARun.step rfl (step_moveV rfl (hn rfl) rfl rfl) ?_
    refine ARun.step rfl (call_stepZ rfl (hn rfl) rfl ysCo24 (.cons rfl (.one (.v _)) (.nil)) hd rfl rfl) ?_
    refine ARun.step rfl (step_moveV rfl (hn rfl) rfl rfl) ?_
    refine ARun.step rfl (step_extract rfl (hn rfl) rfl rfl rfl (by intro l h; cases h)) ?_
    refine ARun.step rfl (step_extract rfl (hn rfl) rfl rfl rfl (by intro l h; cases h)) ?_
    refine ARun.step rfl (step_alloc_p rfl (hn rfl) rfl ysZs29) ?_
    refine ARun.step rfl (step_store_p rfl rfl ysCs29 rfl rfl rfl rfl rfl rfl rfl) ?_
    refine ARun.step rfl (step_assignV rfl (hn rfl) rfl rfl) ?_
    refine ARun.nil ?_
    refine AWp.seq (AWp.region ?_)
    refine ARun.step rfl (step_loadS_b rfl (hn rfl) rfl ysSt29 rfl rfl rfl (by decide)) ?_
    refine ARun.step rfl (step_moveV rfl (hn rfl) rfl rfl) ?_
    refine ARun.step rfl (call_step1 rfl (hn rfl) rfl ysCo25 (.cons rfl (.agg (.cons (.v _) (.cons (.v _) .nil))) (.cons rfl (.one (.v _)) (.nil))) (whoI _ _) rfl) ?_
    refine ARun.step rfl (step_assignV rfl (hn rfl) rfl rfl) ?_
    refine ARun.nil ?_
    refine AWp.seq ?_
    refine AWp.seq (AWp.region ?_)
    refine ARun.step rfl (step_moveV rfl (hn rfl) rfl rfl) ?_
    refine ARun.step rfl (step_loadS_b rfl (hn rfl) rfl ysSt29 rfl rfl rfl (by decide)) ?_
    refine ARun.step rfl (step_moveV rfl (hn rfl) rfl rfl) ?_
    refine ARun.step rfl (call_step1 rfl (hn rfl) rfl ysCo26 (.cons rfl (.agg (.cons (.v _) (.cons (.v _) .nil))) (.cons rfl (.one (.v _)) (.nil))) (whoS _ _) rfl) ?_
    refine ARun.step rfl (step_sneq rfl (hn rfl) rfl rfl rfl) ?_
    refine ARun.step rfl (step_moveV rfl (hn rfl) rfl rfl) ?_
    refine guardS rfl rfl rfl rfl (hn rfl) (fun g1 g2 => step_loadS_b rfl (hn rfl) rfl ysSt29 rfl rfl rfl (by decide)) ?_
    refine guardS rfl rfl rfl rfl (hn rfl) (fun g1 g2 => call_step1 rfl (hn rfl) rfl ysCo27 (.cons (ev_true rfl (by exact flag2 g1 g2)) (.agg (.cons (.v _) (.cons (.v _) .nil))) (.nil)) (bookOkS _) rfl) ?_
    refine guardS rfl rfl rfl rfl (hn rfl) (fun g1 g2 => step_not rfl (hn rfl) rfl (ev_true rfl (by exact flag2 g1 g2))) ?_
    refine ARun.step rfl (step_or rfl (hn rfl) rfl rfl rfl (fun h => (by exact flag1 h))) ?_
    refine ARun.nil ?_
    refine AWp.cond rfl (fun c2 => ?_) (fun c2 => ?_)
    · try simp only [nrm] at c2
      refine AWp.seq (AWp.region ?_)
      refine ARun.step rfl (step_moveV rfl (hn rfl) rfl rfl) ?_
      refine ARun.step rfl (step_loadS_b rfl (hn rfl) rfl ysSt29 rfl rfl rfl (by decide)) ?_
      refine ARun.step rfl (step_moveV rfl (hn rfl) rfl rfl) ?_
      refine ARun.step rfl (call_step1 rfl (hn rfl) rfl ysCo26 (.cons rfl (.agg (.cons (.v _) (.cons (.v _) .nil))) (.cons rfl (.one (.v _)) (.nil))) (whoS _ _) rfl) ?_
      refine ARun.step rfl (step_seql rfl (hn rfl) rfl rfl rfl) ?_
      refine ARun.step rfl (step_moveV rfl (hn rfl) rfl rfl) ?_
      refine guardS rfl rfl rfl rfl (hn rfl) (fun g1 g2 => step_moveV rfl (hn rfl) rfl rfl) ?_
      refine guardS rfl rfl rfl rfl (hn rfl) (fun g1 g2 => step_seql rfl (hn rfl) rfl (ev_true rfl (by exact flag2 g1 g2)) rfl) ?_
      refine ARun.step rfl (step_and rfl (hn rfl) rfl rfl rfl (fun h => (by exact flag1 h))) ?_
      refine ARun.step rfl (step_assignV rfl (hn rfl) rfl rfl) ?_
      refine ARun.nil ?_
      refine AWp.ret ?_
      refine RetIs.sc (.inr rfl) rfl rfl ?_
      refine congrArg T.bool ?_
      have hno : bookOk k = false := by simpa [strEq_refl] using c2
      simp [strEq_refl, whoB, hno]
    · try simp only [nrm] at c2
      have hok : bookOk k = true := by simpa [strEq_refl] using c2
      refine AWp.skip ?_
      refine AWp.seq (AWp.region ?_)
      refine ARun.step rfl (step_assignV rfl (hn rfl) rfl rfl) ?_
      refine ARun.nil ?_
      refine AWp.seq ?_
      refine AWp.seq (AWp.region ?_)
      refine ARun.step rfl (step_assignV rfl (hn rfl) rfl rfl) ?_
      refine ARun.nil ?_
      refine AWp.block ?_
      refine AWp.loopM (fun y : Nat => mkAS 84 [(3, ⟨true, .one (.bptr 3 0)⟩), (4, ⟨true, .one (.v (.str s))⟩), (5, ⟨true, .one (.v (.str (whoB k s)))⟩), (6, ⟨true, .one (.v (.int .i64 (cntW k s y : Nat)))⟩), (7, ⟨true, .one (.v (.int .i64 (y : Nat)))⟩)] [(3, [.v (strs k.things), .v (bts 48 k.bs)])] []) (fun y => y ≤ k.bs.length) (fun y => k.bs.length - y) 0 ?_ (Le.forgetR rfl ⟨rfl, rfl, rfl, rfl, rfl, trivial⟩ ⟨rfl, trivial⟩ trivial) ?_
      · try dsimp only
        omega
      rintro y hy
      refine AWp.seq ?_
      refine AWp.seq (AWp.region ?_)
      refine ARun.step rfl (step_moveV rfl (hn rfl) rfl rfl) ?_
      refine ARun.step rfl (step_field_b rfl (hn rfl) rfl ysFo29_1 rfl (by exact List.cons_ne_nil _ _)) ?_
      refine ARun.step rfl (step_load_b rfl (hn rfl) rfl ysSc27 rfl rfl) ?_
      refine ARun.step rfl (step_len_f rfl (hn rfl) rfl ysSl27 rfl) ?_
      refine ARun.step rfl (step_lss rfl (hn rfl) rfl rfl rfl) ?_
      refine ARun.nil ?_
      refine AWp.cond rfl (fun c3 => ?_) (fun c3 => ?_)
      · try simp only [nrm] at c3
        refine AWp.skip ?_
        refine AWp.seq ?_
        refine AWp.block ?_
        refine AWp.seq (AWp.region ?_)
        refine ARun.step rfl (step_field_b rfl (hn rfl) rfl ysFo29_1 rfl (by exact List.cons_ne_nil _ _)) ?_
        refine ARun.step rfl (step_load_b rfl (hn rfl) rfl ysSc27 rfl rfl) ?_
        refine ARun.step rfl (step_moveV rfl (hn rfl) rfl rfl) ?_
        refine ARun.step rfl (step_index_fN rfl (hn rfl) rfl ysSl27 rfl rfl (by omega)) ?_
        refine ARun.step rfl (step_field_f rfl (hn rfl) rfl ysFo48_1 rfl) ?_
        refine ARun.step rfl (step_load_f rfl (hn rfl) rfl ysSc22 rfl (hn rfl) rfl) ?_
        refine ARun.step rfl (step_moveV rfl (hn rfl) rfl rfl) ?_
        refine ARun.step rfl (call_step1 rfl (hn rfl) rfl ysCo28 (.cons rfl (.one (.v _)) (.cons rfl (.one (.v _)) (.nil))) (whHas _ _) rfl) ?_
        refine ARun.nil ?_
        refine AWp.cond rfl (fun c4 => ?_) (fun c4 => ?_)
        · try simp only [nrm] at c4
          have hcl := cntW_le k s y
          have hw := who_is hok (s := s) (i := y) (by omega) c4
          have hnd := who_needs hok (s := s) (i := y) (by omega) c4
          refine AWp.seq (AWp.region ?_)
          refine ARun.step rfl (step_moveV rfl (hn rfl) rfl rfl) ?_
          refine ARun.step rfl (step_addI rfl (hn rfl) rfl rfl rfl (by omega) (by omega)) ?_
          refine ARun.step rfl (step_assignV rfl (hn rfl) rfl rfl) ?_
          refine ARun.nil ?_
          refine AWp.seq (AWp.region ?_)
          refine ARun.step rfl (step_moveV rfl (hn rfl) rfl rfl) ?_
          refine ARun.step rfl (step_field_b rfl (hn rfl) rfl ysFo29_1 rfl (by exact List.cons_ne_nil _ _)) ?_
          refine ARun.step rfl (step_load_b rfl (hn rfl) rfl ysSc27 rfl rfl) ?_
          refine ARun.step rfl (step_moveV rfl (hn rfl) rfl rfl) ?_
          refine ARun.step rfl (step_index_fN rfl (hn rfl) rfl ysSl27 rfl rfl (by omega)) ?_
          refine ARun.step rfl (step_field_f rfl (hn rfl) rfl ysFo48_0 rfl) ?_
          refine ARun.step rfl (step_load_f rfl (hn rfl) rfl ysSc9 rfl (hn rfl) rfl) ?_
          refine ARun.step rfl (step_sneq rfl (hn rfl) rfl rfl rfl) ?_
          refine ARun.step rfl (step_moveV rfl (hn rfl) rfl rfl) ?_
          refine guardS rfl rfl rfl rfl (hn rfl) (fun g1 g2 => step_field_b rfl (hn rfl) rfl ysFo29_1 rfl (by exact List.cons_ne_nil _ _)) ?_
          refine guardS rfl rfl rfl rfl (hn rfl) (fun g1 g2 => step_load_b rfl (hn rfl) rfl ysSc27 (ev_true rfl (by exact flag2 g1 g2)) rfl) ?_
          refine guardS rfl rfl rfl rfl (hn rfl) (fun g1 g2 => step_moveV rfl (hn rfl) rfl rfl) ?_
          refine guardS rfl rfl rfl rfl (hn rfl) (fun g1 g2 => step_index_fN rfl (hn rfl) rfl ysSl27 (ev_true rfl (by exact flag2 g1 g2)) (ev_true rfl (by exact flag2 g1 g2)) (by first | omega | (have := of_decide_eq_true g2; omega) | (have := of_decide_eq_false g2; omega) | (simp only [nrm] at g2; omega) | (simp only [nrm, Bool.true_and] at g1 g2; omega))) ?_
          refine guardS rfl rfl rfl rfl (hn rfl) (fun g1 g2 => step_field_f rfl (hn rfl) rfl ysFo48_2 (ev_true rfl (by exact flag2 g1 g2))) ?_
          refine guardS rfl rfl rfl rfl (hn rfl) (fun g1 g2 => step_load_f rfl (hn rfl) rfl ysSc22 (ev_true rfl (by exact flag2 g1 g2)) (hn rfl) rfl) ?_
          refine guardS rfl rfl rfl rfl (hn rfl) (fun g1 g2 => step_moveV rfl (hn rfl) rfl rfl) ?_
          refine guardS rfl rfl rfl rfl (hn rfl) (fun g1 g2 => call_step1 rfl (hn rfl) rfl ysCo28 (.cons (ev_true rfl (by exact flag2 g1 g2)) (.one (.v _)) (.cons (ev_true rfl (by exact flag2 g1 g2)) (.one (.v _)) (.nil))) (whHas _ _) rfl) ?_
          refine guardS rfl rfl rfl rfl (hn rfl) (fun g1 g2 => step_not rfl (hn rfl) rfl (ev_true rfl (by exact flag2 g1 g2))) ?_
          refine ARun.step rfl (step_or rfl (hn rfl) rfl rfl rfl (fun h => (by exact flag1 h))) ?_
          refine ARun.nil ?_
          refine AWp.cond rfl (fun c5 => ?_) (fun c5 => ?_)
          · try simp only [nrm] at c5
            refine AWp.seq (AWp.region ?_)
            refine ARun.step rfl (step_assignV rfl (hn rfl) rfl rfl) ?_
            refine ARun.nil ?_
            refine AWp.ret ?_
            refine RetIs.sc (.inr rfl) rfl rfl ?_
            refine congrArg T.bool ?_
            exfalso
            rw [hw, hnd] at c5
            simp [strEq_refl] at c5
          · try simp only [nrm] at c5
            refine AWp.skip ?_
            refine AWp.region ?_
            refine ARun.step rfl (step_moveV rfl (hn rfl) rfl rfl) ?_
            refine ARun.step rfl (step_addI rfl (hn rfl) rfl rfl rfl (by omega) (by omega)) ?_
            refine ARun.step rfl (step_assignV rfl (hn rfl) rfl rfl) ?_
            refine ARun.nil ?_
            refine ⟨y + 1, ?_, ?_, (Le.slotInt 6 rfl (by first | (rw [← cntW_yes (by assumption)]; rfl) | rw [← cntW_no (by assumption)])).trans (Le.forgetR rfl ⟨rfl, rfl, rfl, rfl, rfl, trivial⟩ ⟨rfl, trivial⟩ trivial)⟩
            · try dsimp only
              omega
            · try dsimp only
              omega
        · try simp only [nrm] at c4
          refine AWp.skip ?_
          refine AWp.region ?_
          refine ARun.step rfl (step_moveV rfl (hn rfl) rfl rfl) ?_
          refine ARun.step rfl (step_addI rfl (hn rfl) rfl rfl rfl (by omega) (by omega)) ?_
          refine ARun.step rfl (step_assignV rfl (hn rfl) rfl rfl) ?_
          refine ARun.nil ?_
          refine ⟨y + 1, ?_, ?_, (Le.slotInt 6 rfl (by first | (rw [← cntW_yes (by assumption)]; rfl) | rw [← cntW_no (by assumption)])).trans (Le.forgetR rfl ⟨rfl, rfl, rfl, rfl, rfl, trivial⟩ ⟨rfl, trivial⟩ trivial)⟩
          · try dsimp only
            omega
          · try dsimp only
            omega
      · try simp only [nrm] at c3
        refine AWp.exit ?_
        refine AWp.seq (AWp.region ?_)
        refine ARun.step rfl (step_moveV rfl (hn rfl) rfl rfl) ?_
        refine ARun.step rfl (step_eql rfl (hn rfl) rfl rfl rfl) ?_
        refine ARun.step rfl (step_moveV rfl (hn rfl) rfl rfl) ?_
        refine guardS rfl rfl rfl rfl (hn rfl) (fun g1 g2 => step_moveV rfl (hn rfl) rfl rfl) ?_
        refine guardS rfl rfl rfl rfl (hn rfl) (fun g1 g2 => step_seql rfl (hn rfl) rfl (ev_true rfl (by exact flag2 g1 g2)) rfl) ?_
        refine ARun.step rfl (step_and rfl (hn rfl) rfl rfl rfl (fun h => (by exact flag1 h))) ?_
        refine ARun.step rfl (step_moveV rfl (hn rfl) rfl rfl) ?_
        refine guardS rfl rfl rfl rfl (hn rfl) (fun g1 g2 => step_moveV rfl (hn rfl) rfl rfl) ?_
        refine guardS rfl rfl rfl rfl (hn rfl) (fun g1 g2 => step_eql rfl (hn rfl) rfl (ev_true rfl (by exact flag2 g1 g2)) rfl) ?_
        refine ARun.step rfl (step_or rfl (hn rfl) rfl rfl rfl (fun h => (by exact flag1 h))) ?_
        refine ARun.step rfl (step_assignV rfl (hn rfl) rfl rfl) ?_
        refine ARun.nil ?_
        refine AWp.ret ?_
        refine RetIs.sc (.inr rfl) rfl rfl ?_
        refine congrArg T.bool ?_
        obtain rfl : y = k.bs.length := by omega
        rcases who_law hok s with ⟨h1, h2⟩ | h1
        · rw [h1, h2]; simp [strEq_refl]
        · rw [h1]; simp

end Go.Proofs.Ytkmacjdigkaabaa
