/- Contracts of functions of the program, each met by its body; conditions stand in each statement. No condition. -/
import Derived.Test.YtomjieobbgcjeaadRd41
import Derived.Test.YtomjieobbgcjeaaProg
import Derived.KernelRfl
set_option linter.unusedVariables false
set_option linter.unusedSimpArgs false
set_option linter.unnecessarySimpa false
set_option linter.unusedSimpArgs false
set_option maxRecDepth 100000
namespace Go.Proofs.Ytomjieobbgcjeaa
open Go Go.Mh

def reachG (l : List Ph) (t : Str) : Nat → Str → Bool
  | 0, _ => false
  | n + 1, s => if strEq s t = true then true else if atP l s < 0 then false else reachG l t n (nth l (atP l s).toNat).thn || reachG l t n (nth l (atP l s).toNat).els
theorem recEnd_is {s t : Str} (ht : recEnd t ≠ 0) : strEq s t = (recEnd s == recEnd t) := by
  have key : ∀ a b : Str, strEq a b = true → a = b := fun a b h => strEq_eq h
  by_cases h : strEq s t = true
  · rw [key _ _ h, strEq_refl, beq_self_eq_true]
  · have hf : strEq s t = false := by simpa using h
    rw [hf]
    symm
    rw [beq_eq_false_iff_ne]
    intro he
    apply h
    unfold recEnd at he ht
    repeat' split at ht
    all_goals first | (exfalso; exact ht rfl) | skip
    all_goals (repeat' split at he)
    all_goals first | (exfalso; omega) | (rename_i h1 h2; rw [key _ _ h1, key _ _ h2]; exact strEq_refl _) | (rename_i h1 h2 h3; rw [key _ _ h1, key _ _ h3]; exact strEq_refl _) | grind [strEq_refl]
theorem at_end {l : List Ph} {s : Str} (hl : recOk l = true) (h : 0 ≤ atP l s) : recEnd s = 0 := by
  have ha := atP_lt l s
  have hs := strEq_eq (atP_name h)
  rw [recOk_eq, Bool.and_eq_true, List.all_eq_true] at hl
  have hk := hl.2 (atP l s).toNat (List.mem_range.2 (by omega))
  simp only [okAt, phaseOk, plainOk, Bool.and_eq_true, beq_iff_eq] at hk
  rw [hs] at hk
  exact hk.1.1.1.1.1.1.1.2
theorem reach_can {l : List Ph} (hl : recOk l = true) {t : Str} (ht : recEnd t ≠ 0) : ∀ (n : Nat) (s : Str), reachG l t n s = canG l (recEnd t) n s
  | 0, s => rfl
  | n + 1, s => by
    rw [reachG, canG, recEnd_is ht]
    by_cases h : atP l s < 0
    · rw [if_pos h, if_pos h]
      cases recEnd s == recEnd t <;> rfl
    · rw [if_neg h, if_neg h, at_end hl (s := s) (by omega)]
      rw [show ((0 : Int) == recEnd t) = false by rw [beq_eq_false_iff_ne]; exact fun e => ht e.symm]
      rw [reach_can hl ht n, reach_can hl ht n]
      rfl
theorem recOk_le {l : List Ph} (h : recOk l = true) : 1 ≤ l.length ∧ l.length ≤ 12 := by
  rw [recOk_eq, Bool.and_eq_true] at h
  have := h.1
  simp only [inB, Bool.and_eq_true, decide_eq_true_eq] at this
  omega
theorem can_some {l : List Ph} (hl : recOk l = true) : ∀ (n : Nat) (s : Str), rank l s < n → (0 ≤ atP l s ∨ recEnd s ≠ 0) → canG l 1 n s = true ∨ canG l 2 n s = true ∨ canG l 3 n s = true
  | 0, s, hr, _ => by omega
  | n + 1, s, hr, hs => by
    by_cases h : 0 ≤ atP l s
    · have ha := atP_lt l s
      have hr2 := (rank_thn (s := s) hl h).1
      have hk : okAt l (atP l s).toNat = true := by
        have h2 := hl
        rw [recOk_eq, Bool.and_eq_true, List.all_eq_true] at h2
        exact h2.2 _ (List.mem_range.2 (by omega))
      simp only [okAt, Bool.and_eq_true] at hk
      have ht := hk.1.2
      have := can_some hl n (nth l (atP l s).toNat).thn (by omega) (by
        simp only [refOk, Bool.not_eq_true', Bool.and_eq_false_iff, beq_eq_false_iff_ne, decide_eq_false_iff_not] at ht
        rcases ht with ht | ht
        · exact .inr ht
        · exact .inl (by omega))
      simp only [canG, if_neg (show ¬ atP l s < 0 by omega), Bool.or_eq_true]
      rcases this with h1 | h1 | h1
      · exact .inl (.inl h1)
      · exact .inr (.inl (.inl h1))
      · exact .inr (.inr (.inl h1))
    · have he := hs.resolve_left h
      simp only [canG, if_pos (show atP l s < 0 by omega), beq_iff_eq]
      unfold recEnd at *
      repeat' split at he
      all_goals first | omega | (simp_all; done) | skip
      all_goals (repeat' split)
      all_goals first | omega | (simp_all; done)

def someI (l : List Ph) (i : Nat) (v : Bool) : Prop := v = true ↔ ∃ j : Nat, 1 ≤ j ∧ j < i ∧ recCan l (nth l 0).name (j : Int) = true
def foundI (l : List Ph) (s : Str) (k i : Nat) (v : Bool) : Prop := v = true ↔ (1 ≤ k ∧ k < i ∧ canG l (k : Int) (l.length + 1) s = true)
theorem some_0 {l : List Ph} : someI l 1 false := ⟨fun h => absurd h (by simp), fun ⟨j, h1, h2, _⟩ => by omega⟩
theorem found_0 {l : List Ph} {s : Str} {k : Nat} : foundI l s k 1 false := ⟨fun h => absurd h (by simp), fun ⟨h1, h2, _⟩ => by omega⟩
theorem some_next {l : List Ph} {i : Nat} {v : Bool} (hi : 1 ≤ i) (h : someI l i v) : someI l (i + 1) (v || recCan l (nth l 0).name (i : Int)) := by
  unfold someI at *
  rw [Bool.or_eq_true, h]
  constructor
  · rintro (⟨j, h1, h2, h3⟩ | h1)
    · exact ⟨j, h1, by omega, h3⟩
    · exact ⟨i, hi, by omega, h1⟩
  · rintro ⟨j, h1, h2, h3⟩
    by_cases e : j = i
    · subst e; exact .inr h3
    · exact .inl ⟨j, h1, by omega, h3⟩
theorem found_next {l : List Ph} {s : Str} {k i : Nat} {v : Bool} (hok : recOk l = true) (h1 : 1 ≤ i) (h3 : i ≤ 3) (h : foundI l s k i v) :
    foundI l s k (i + 1) (v || (((i : Int) == (k : Int)) && (((reachG l (⟨#[103, 111, 111, 100]⟩ : Str) (l.length + 1) s && ((i : Int) == 1)) || (reachG l (⟨#[115, 97, 118, 101, 100]⟩ : Str) (l.length + 1) s && ((i : Int) == 2))) || (reachG l (⟨#[115, 99, 114, 97, 112, 112, 101, 100]⟩ : Str) (l.length + 1) s && ((i : Int) == 3))))) := by
  unfold foundI at *
  rw [reach_can hok (t := (⟨#[103, 111, 111, 100]⟩ : Str)) (by decide +kernel), reach_can hok (t := (⟨#[115, 97, 118, 101, 100]⟩ : Str)) (by decide +kernel), reach_can hok (t := (⟨#[115, 99, 114, 97, 112, 112, 101, 100]⟩ : Str)) (by decide +kernel)]
  rw [show recEnd (⟨#[103, 111, 111, 100]⟩ : Str) = 1 by decide +kernel, show recEnd (⟨#[115, 97, 118, 101, 100]⟩ : Str) = 2 by decide +kernel, show recEnd (⟨#[115, 99, 114, 97, 112, 112, 101, 100]⟩ : Str) = 3 by decide +kernel]
  rw [Bool.or_eq_true, h]
  simp only [Bool.and_eq_true, Bool.or_eq_true, beq_iff_eq]
  constructor
  · rintro (⟨g1, g2, g3⟩ | ⟨g1, g2⟩)
    · exact ⟨g1, by omega, g3⟩
    · have e : i = k := by omega
      subst e
      refine ⟨h1, by omega, ?_⟩
      rcases g2 with (⟨g2, g3⟩ | ⟨g2, g3⟩) | ⟨g2, g3⟩ <;> rw [g3] <;> exact g2
  · rintro ⟨g1, g2, g3⟩
    by_cases e : k = i
    · subst e
      right
      refine ⟨rfl, ?_⟩
      have : k = 1 ∨ k = 2 ∨ k = 3 := by omega
      rcases this with rfl | rfl | rfl
      · exact .inl (.inl ⟨g3, rfl⟩)
      · exact .inl (.inr ⟨g3, rfl⟩)
      · exact .inr ⟨g3, rfl⟩
    · exact .inl ⟨g1, by omega, g3⟩
theorem law_end {l : List Ph} {s : Str} {k : Nat} {v u : Bool} (hok : recOk l = true) (hs : someI l 4 v) (hf : foundI l s k 4 u) : (v && (recCan l s (k : Int) == u)) = true := by
  unfold someI at hs
  unfold foundI at hf
  have hle := recOk_le hok
  have h0 : 0 ≤ atP l (nth l 0).name := by
    have h2 := hok
    rw [recOk_eq, Bool.and_eq_true, List.all_eq_true] at h2
    have := h2.2 0 (List.mem_range.2 (by omega))
    simp only [okAt, Bool.and_eq_true, beq_iff_eq] at this
    omega
  have hv : v = true := by
    rw [hs]
    have hi : ∀ j : Nat, 1 ≤ j → j ≤ 3 → inB (j : Int) 1 3 = true := fun j a b => by simp only [inB, Bool.and_eq_true, decide_eq_true_eq]; omega
    rcases can_some hok (l.length + 1) (nth l 0).name (rank_le _ _) (.inl h0) with h | h | h
    · exact ⟨1, by omega, by omega, by rw [recCan, hok, hi 1 (by omega) (by omega), Bool.true_and, Bool.true_and]; exact h⟩
    · exact ⟨2, by omega, by omega, by rw [recCan, hok, hi 2 (by omega) (by omega), Bool.true_and, Bool.true_and]; exact h⟩
    · exact ⟨3, by omega, by omega, by rw [recCan, hok, hi 3 (by omega) (by omega), Bool.true_and, Bool.true_and]; exact h⟩
  rw [hv, Bool.true_and, beq_iff_eq, Bool.eq_iff_iff, hf, recCan, hok, Bool.true_and, Bool.and_eq_true]
  simp only [inB, Bool.and_eq_true, decide_eq_true_eq]
  constructor
  · rintro ⟨⟨g1, g2⟩, g3⟩; exact ⟨by omega, by omega, g3⟩
  · rintro ⟨g1, g2, g3⟩; exact ⟨⟨by omega, by omega⟩, g3⟩

theorem yxSl23 : sliceT Try.prog 23 = some ⟨30, 8, 104⟩ := by kernel_rfl
theorem yxFo30_0 : fieldOff Try.prog 30 0 = some 0 := by kernel_rfl
theorem yxSc9 : scalarB Try.prog 9 = true := by kernel_rfl
theorem yxFo30_6 : fieldOff Try.prog 30 6 = some 6 := by kernel_rfl
theorem yxCo19 : callOk Try.prog 19 = true := by kernel_rfl
theorem yxFo30_7 : fieldOff Try.prog 30 7 = some 7 := by kernel_rfl
theorem yxSl22 : sliceT Try.prog 22 = some ⟨5, 1, 1⟩ := by kernel_rfl
theorem yxCo13 : callOk Try.prog 13 = true := by kernel_rfl
theorem yxCo14 : callOk Try.prog 14 = true := by kernel_rfl
theorem yxCo15 : callOk Try.prog 15 = true := by kernel_rfl
theorem yxUb4 : Try.prog.underlying 4 = some .bool := by kernel_rfl
theorem yxCo16 : callOk Try.prog 16 = true := by kernel_rfl
theorem yxCo17 : callOk Try.prog 17 = true := by kernel_rfl
theorem yxCo18 : callOk Try.prog 18 = true := by kernel_rfl
theorem reach0 (l : List Ph) (t : Str) (n : Nat) (s : Str) (h : recOk l = true) (hr : rank l s < n + 1) (ih : ∀ s, rank l s < n → ASpec Try.prog 19 [.one (phs 30 l), .one (.str s), .one (.str t)] (.one (.bool (reachG l t n s)))) : ASpec Try.prog 19 [.one (phs 30 l), .one (.str s), .one (.str t)] (.one (.bool (reachG l t (n + 1) s))) := by
  refine ASpec.body Try.func19 rfl [6] rfl 42 rfl rfl rfl ?_
  have hlen := recOk_le h
  refine AWp.seq (AWp.region ?_)
  refine ARun.step rfl (step_assignV rfl (hn rfl) rfl rfl) ?_
  refine ARun.nil ?_
  refine AWp.seq ?_
  refine AWp.seq (AWp.region ?_)
  refine ARun.step rfl (step_moveV rfl (hn rfl) rfl rfl) ?_
  refine ARun.step rfl (step_moveV rfl (hn rfl) rfl rfl) ?_
  refine ARun.step rfl (step_seql rfl (hn rfl) rfl rfl rfl) ?_
  refine ARun.nil ?_
  refine AWp.cond rfl (fun c1 => ?_) (fun c1 => ?_)
  · try simp only [nrm] at c1
    refine AWp.seq (AWp.region ?_)
    refine ARun.step rfl (step_assignV rfl (hn rfl) rfl rfl) ?_
    refine ARun.nil ?_
    refine AWp.ret ?_
    refine RetIs.sc (.inr rfl) rfl rfl ?_
    refine congrArg T.bool ?_
    rw [reachG, if_pos c1]
  · try simp only [nrm] at c1
    refine AWp.skip ?_
    refine AWp.seq ?_
    refine AWp.seq (AWp.region ?_)
    refine ARun.step rfl (step_assignV rfl (hn rfl) rfl rfl) ?_
    refine ARun.nil ?_
    refine AWp.block ?_
    refine AWp.loopM (fun i : Nat => mkAS 42 [(0, ⟨true, .one (.v (phs 30 l))⟩), (1, ⟨true, .one (.v (.str s))⟩), (2, ⟨true, .one (.v (.str t))⟩), (7, ⟨true, .one (.v (.int .i64 (i : Nat)))⟩)] [] []) (fun i => i ≤ l.length ∧ ∀ j, j < i → strEq (nth l j).name s = false) (fun i => l.length - i) 0 ?_ (Le.forgetR rfl ⟨rfl, rfl, rfl, rfl, trivial⟩ trivial trivial) ?_
    · try dsimp only
      exact ⟨by omega, by omega⟩
    rintro i ⟨hi, hall⟩
    refine AWp.seq ?_
    refine AWp.seq (AWp.region ?_)
    refine ARun.step rfl (step_moveV rfl (hn rfl) rfl rfl) ?_
    refine ARun.step rfl (step_moveV rfl (hn rfl) rfl rfl) ?_
    refine ARun.step rfl (step_len_f rfl (hn rfl) rfl yxSl23 rfl) ?_
    refine ARun.step rfl (step_lss rfl (hn rfl) rfl rfl rfl) ?_
    refine ARun.nil ?_
    refine AWp.cond rfl (fun c2 => ?_) (fun c2 => ?_)
    · try simp only [nrm] at c2
      refine AWp.skip ?_
      refine AWp.seq ?_
      refine AWp.block ?_
      refine AWp.seq (AWp.region ?_)
      refine ARun.step rfl (step_moveV rfl (hn rfl) rfl rfl) ?_
      refine ARun.step rfl (step_moveV rfl (hn rfl) rfl rfl) ?_
      refine ARun.step rfl (step_index_fN rfl (hn rfl) rfl yxSl23 rfl rfl (by omega)) ?_
      refine ARun.step rfl (step_field_f rfl (hn rfl) rfl yxFo30_0 rfl) ?_
      refine ARun.step rfl (step_load_f rfl (hn rfl) rfl yxSc9 rfl (hn rfl) rfl) ?_
      refine ARun.step rfl (step_moveV rfl (hn rfl) rfl rfl) ?_
      refine ARun.step rfl (step_seql rfl (hn rfl) rfl rfl rfl) ?_
      refine ARun.nil ?_
      refine AWp.cond rfl (fun c3 => ?_) (fun c3 => ?_)
      · try simp only [nrm] at c3
        have hai : (i : Int) = atP l s := atP_some hall (by omega) c3
        have hr2 := rank_thn (s := s) h (by omega)
        rw [← hai, Int.toNat_natCast] at hr2
        refine AWp.seq (AWp.region ?_)
        refine ARun.step rfl (step_moveV rfl (hn rfl) rfl rfl) ?_
        refine ARun.step rfl (step_moveV rfl (hn rfl) rfl rfl) ?_
        refine ARun.step rfl (step_moveV rfl (hn rfl) rfl rfl) ?_
        refine ARun.step rfl (step_index_fN rfl (hn rfl) rfl yxSl23 rfl rfl (by omega)) ?_
        refine ARun.step rfl (step_field_f rfl (hn rfl) rfl yxFo30_6 rfl) ?_
        refine ARun.step rfl (step_load_f rfl (hn rfl) rfl yxSc9 rfl (hn rfl) rfl) ?_
        refine ARun.step rfl (step_moveV rfl (hn rfl) rfl rfl) ?_
        refine ARun.step rfl (call_step1 rfl (hn rfl) rfl yxCo19 (.cons rfl (.one (.v _)) (.cons rfl (.one (.v _)) (.cons rfl (.one (.v _)) (.nil)))) (ih _ (by omega)) rfl) ?_
        refine ARun.step rfl (step_moveV rfl (hn rfl) rfl rfl) ?_
        refine guardS rfl rfl rfl rfl (hn rfl) (fun g1 g2 => step_moveV rfl (hn rfl) rfl rfl) ?_
        refine guardS rfl rfl rfl rfl (hn rfl) (fun g1 g2 => step_moveV rfl (hn rfl) rfl rfl) ?_
        refine guardS rfl rfl rfl rfl (hn rfl) (fun g1 g2 => step_moveV rfl (hn rfl) rfl rfl) ?_
        refine guardS rfl rfl rfl rfl (hn rfl) (fun g1 g2 => step_index_fN rfl (hn rfl) rfl yxSl23 (ev_true rfl (by exact flag2 g1 g2)) (ev_true rfl (by exact flag2 g1 g2)) (by first | omega | (have := of_decide_eq_true g2; omega) | (have := of_decide_eq_false g2; omega) | (simp only [nrm] at g2; omega) | (simp only [nrm, Bool.true_and] at g1 g2; omega))) ?_
        refine guardS rfl rfl rfl rfl (hn rfl) (fun g1 g2 => step_field_f rfl (hn rfl) rfl yxFo30_7 (ev_true rfl (by exact flag2 g1 g2))) ?_
        refine guardS rfl rfl rfl rfl (hn rfl) (fun g1 g2 => step_load_f rfl (hn rfl) rfl yxSc9 (ev_true rfl (by exact flag2 g1 g2)) (hn rfl) rfl) ?_
        refine guardS rfl rfl rfl rfl (hn rfl) (fun g1 g2 => step_moveV rfl (hn rfl) rfl rfl) ?_
        refine guardS rfl rfl rfl rfl (hn rfl) (fun g1 g2 => call_step1 rfl (hn rfl) rfl yxCo19 (.cons (ev_true rfl (by exact flag2 g1 g2)) (.one (.v _)) (.cons (ev_true rfl (by exact flag2 g1 g2)) (.one (.v _)) (.cons (ev_true rfl (by exact flag2 g1 g2)) (.one (.v _)) (.nil)))) (ih _ (by omega)) rfl) ?_
        refine ARun.step rfl (step_or rfl (hn rfl) rfl rfl rfl (fun h => (by exact flag1 h))) ?_
        refine ARun.step rfl (step_assignV rfl (hn rfl) rfl rfl) ?_
        refine ARun.nil ?_
        refine AWp.ret ?_
        refine RetIs.sc (.inr rfl) rfl rfl ?_
        refine congrArg T.bool ?_
        rw [reachG, if_neg (by simp [c1]), if_neg (by omega), ← hai, Int.toNat_natCast]
      · try simp only [nrm] at c3
        refine AWp.skip ?_
        refine AWp.region ?_
        refine ARun.step rfl (step_moveV rfl (hn rfl) rfl rfl) ?_
        refine ARun.step rfl (step_addI rfl (hn rfl) rfl rfl rfl (by omega) (by omega)) ?_
        refine ARun.step rfl (step_assignV rfl (hn rfl) rfl rfl) ?_
        refine ARun.nil ?_
        refine ⟨i + 1, ?_, ?_, Le.forgetR rfl ⟨rfl, rfl, rfl, rfl, trivial⟩ trivial trivial⟩
        · try dsimp only
          exact ⟨by omega, upto hall (by assumption)⟩
        · try dsimp only
          omega
    · try simp only [nrm] at c2
      refine AWp.exit ?_
      refine AWp.seq (AWp.region ?_)
      refine ARun.step rfl (step_assignV rfl (hn rfl) rfl rfl) ?_
      refine ARun.nil ?_
      refine AWp.ret ?_
      refine RetIs.sc (.inr rfl) rfl rfl ?_
      refine congrArg T.bool ?_
      rw [reachG, if_neg (by simp [c1]), if_pos (by have := atP_none hall (by omega); omega)]
theorem reachI (l : List Ph) (t : Str) (h : recOk l = true) : ∀ (n : Nat) (s : Str), rank l s < n → ASpec Try.prog 19 [.one (phs 30 l), .one (.str s), .one (.str t)] (.one (.bool (reachG l t n s)))
  | 0, s, hr => by omega
  | n + 1, s, hr => reach0 l t n s h hr (reachI l t h n)
set_option maxHeartbeats 1000000 in
theorem lawFnRecCan (b : List UInt8)  : ASpec Try.prog 3 [.one (bytesT 5 b)] (.one (.bool true)) := by
  refine ASpec.body Try.func3 rfl [2] rfl 94 rfl rfl rfl ?_
  refine AWp.seq (AWp.region ?_)
  refine ARun.step rfl (step_assignV rfl (hn rfl) rfl rfl) ?_
  refine ARun.nil ?_
  refine AWp.seq ?_
  refine AWp.seq (AWp.region ?_)
  refine ARun.step rfl (step_moveV rfl (hn rfl) rfl rfl) ?_
  refine ARun.step rfl (step_len_f rfl (hn rfl) rfl yxSl22 rfl) ?_
  refine ARun.step rfl (step_gtr rfl (hn rfl) rfl rfl rfl) ?_
  refine ARun.nil ?_
  refine AWp.cond rfl (fun c1 => ?_) (fun c1 => ?_)
  · try simp only [nrm] at c1
    refine AWp.seq (AWp.region ?_)
    refine ARun.step rfl (step_assignV rfl (hn rfl) rfl rfl) ?_
    refine ARun.nil ?_
    refine AWp.ret ?_
    refine RetIs.sc (.inr rfl) rfl rfl ?_
    refine congrArg T.bool ?_
    rfl
  · try simp only [nrm] at c1
    obtain ⟨l, s, k, ⟨hl13, hk⟩, hd⟩ := drawRecCan b (by omega)
    refine AWp.skip ?_
    refine AWp.seq (AWp.region ?_)
    refine ARun.step rfl (step_moveV rfl (hn rfl) rfl rfl) ?_
    refine ARun.step rfl (call_stepZ rfl (hn rfl) rfl yxCo13 (.cons rfl (.one (.v _)) (.nil)) hd rfl rfl) ?_
    refine ARun.step rfl (step_moveV rfl (hn rfl) rfl rfl) ?_
    refine ARun.step rfl (step_extract rfl (hn rfl) rfl rfl rfl (by intro l h; cases h)) ?_
    refine ARun.step rfl (step_extract rfl (hn rfl) rfl rfl rfl (by intro l h; cases h)) ?_
    refine ARun.step rfl (step_extract rfl (hn rfl) rfl rfl rfl (by intro l h; cases h)) ?_
    refine ARun.step rfl (step_assignV rfl (hn rfl) rfl rfl) ?_
    refine ARun.step rfl (step_assignV rfl (hn rfl) rfl rfl) ?_
    refine ARun.step rfl (step_assignV rfl (hn rfl) rfl rfl) ?_
    refine ARun.nil ?_
    refine AWp.seq (AWp.region ?_)
    refine ARun.step rfl (step_moveV rfl (hn rfl) rfl rfl) ?_
    refine ARun.step rfl (step_moveV rfl (hn rfl) rfl rfl) ?_
    refine ARun.step rfl (step_moveV rfl (hn rfl) rfl rfl) ?_
    refine ARun.step rfl (call_step1 rfl (hn rfl) rfl yxCo14 (.cons rfl (.one (.v _)) (.cons rfl (.one (.v _)) (.cons rfl (.one (.v _)) (.nil)))) (recCanI _ _ _) rfl) ?_
    refine ARun.step rfl (step_assignV rfl (hn rfl) rfl rfl) ?_
    refine ARun.nil ?_
    refine AWp.seq ?_
    refine AWp.seq (AWp.region ?_)
    refine ARun.step rfl (step_moveV rfl (hn rfl) rfl rfl) ?_
    refine ARun.step rfl (step_moveV rfl (hn rfl) rfl rfl) ?_
    refine ARun.step rfl (step_moveV rfl (hn rfl) rfl rfl) ?_
    refine ARun.step rfl (step_moveV rfl (hn rfl) rfl rfl) ?_
    refine ARun.step rfl (call_step1 rfl (hn rfl) rfl yxCo15 (.cons rfl (.one (.v _)) (.cons rfl (.one (.v _)) (.cons rfl (.one (.v _)) (.nil)))) (recCanS _ _ _) rfl) ?_
    refine ARun.step rfl (step_bneq rfl (hn rfl) rfl yxUb4 rfl rfl) ?_
    refine ARun.step rfl (step_moveV rfl (hn rfl) rfl rfl) ?_
    refine guardS rfl rfl rfl rfl (hn rfl) (fun g1 g2 => step_moveV rfl (hn rfl) rfl rfl) ?_
    refine guardS rfl rfl rfl rfl (hn rfl) (fun g1 g2 => call_step1 rfl (hn rfl) rfl yxCo16 (.cons (ev_true rfl (by exact flag2 g1 g2)) (.one (.v _)) (.nil)) (RecEndI _) rfl) ?_
    refine guardS rfl rfl rfl rfl (hn rfl) (fun g1 g2 => step_moveV rfl (hn rfl) rfl rfl) ?_
    refine guardS rfl rfl rfl rfl (hn rfl) (fun g1 g2 => call_step1 rfl (hn rfl) rfl yxCo17 (.cons (ev_true rfl (by exact flag2 g1 g2)) (.one (.v _)) (.nil)) (RecEndS _) rfl) ?_
    refine guardS rfl rfl rfl rfl (hn rfl) (fun g1 g2 => step_neq rfl (hn rfl) rfl (ev_true rfl (by exact flag2 g1 g2)) (ev_true rfl (by exact flag2 g1 g2))) ?_
    refine ARun.step rfl (step_or rfl (hn rfl) rfl rfl rfl (fun h => (by exact flag1 h))) ?_
    refine ARun.nil ?_
    refine AWp.cond rfl (fun c2 => ?_) (fun c2 => ?_)
    · try simp only [nrm] at c2
      refine AWp.seq (AWp.region ?_)
      refine ARun.step rfl (step_assignV rfl (hn rfl) rfl rfl) ?_
      refine ARun.nil ?_
      refine AWp.ret ?_
      refine RetIs.sc (.inr rfl) rfl rfl ?_
      refine congrArg T.bool ?_
      exfalso; simp at c2
    · try simp only [nrm] at c2
      refine AWp.skip ?_
      refine AWp.seq ?_
      refine AWp.seq (AWp.region ?_)
      refine ARun.step rfl (step_moveV rfl (hn rfl) rfl rfl) ?_
      refine ARun.step rfl (call_step1 rfl (hn rfl) rfl yxCo18 (.cons rfl (.one (.v _)) (.nil)) (recOkS _) rfl) ?_
      refine ARun.step rfl (step_not rfl (hn rfl) rfl rfl) ?_
      refine ARun.nil ?_
      refine AWp.cond rfl (fun c3 => ?_) (fun c3 => ?_)
      · try simp only [nrm] at c3
        refine AWp.seq (AWp.region ?_)
        refine ARun.step rfl (step_moveV rfl (hn rfl) rfl rfl) ?_
        refine ARun.step rfl (step_not rfl (hn rfl) rfl rfl) ?_
        refine ARun.step rfl (step_assignV rfl (hn rfl) rfl rfl) ?_
        refine ARun.nil ?_
        refine AWp.ret ?_
        refine RetIs.sc (.inr rfl) rfl rfl ?_
        refine congrArg T.bool ?_
        simp [recCan, c3]
      · try simp only [nrm] at c3
        have hok : recOk l = true := by simpa using c3
        have hle := recOk_le hok
        refine AWp.skip ?_
        refine AWp.seq (AWp.region ?_)
        refine ARun.step rfl (step_assignV rfl (hn rfl) rfl rfl) ?_
        refine ARun.nil ?_
        refine AWp.seq (AWp.region ?_)
        refine ARun.step rfl (step_assignV rfl (hn rfl) rfl rfl) ?_
        refine ARun.nil ?_
        refine AWp.seq ?_
        refine AWp.seq (AWp.region ?_)
        refine ARun.step rfl (step_assignV rfl (hn rfl) rfl rfl) ?_
        refine ARun.nil ?_
        refine AWp.block ?_
        refine AWp.loopM (fun x : Nat × Bool × Bool => mkAS 94 [(3, ⟨true, .one (.v (phs 30 l))⟩), (4, ⟨true, .one (.v (.str s))⟩), (5, ⟨true, .one (.v (.int .i64 (k : Nat)))⟩), (6, ⟨true, .one (.v (.bool (recCan l s (k : Nat))))⟩), (7, ⟨true, .one (.v (.bool x.2.1))⟩), (8, ⟨true, .one (.v (.bool x.2.2))⟩), (9, ⟨true, .one (.v (.int .i64 (x.1 : Nat)))⟩)] [] []) (fun x => 1 ≤ x.1 ∧ x.1 ≤ 4 ∧ someI l x.1 x.2.1 ∧ foundI l s k x.1 x.2.2) (fun x => 4 - x.1) (1, false, false) ?_ (Le.forgetR rfl ⟨rfl, rfl, rfl, rfl, rfl, rfl, rfl, trivial⟩ trivial trivial) ?_
        · try dsimp only
          exact ⟨by omega, by omega, some_0, found_0⟩
        rintro x ⟨h1, h4, hs, hf⟩
        refine AWp.seq ?_
        refine AWp.seq (AWp.region ?_)
        refine ARun.step rfl (step_moveV rfl (hn rfl) rfl rfl) ?_
        refine ARun.step rfl (step_leq rfl (hn rfl) rfl rfl rfl) ?_
        refine ARun.nil ?_
        refine AWp.cond rfl (fun c4 => ?_) (fun c4 => ?_)
        · try simp only [nrm] at c4
          refine AWp.skip ?_
          refine AWp.seq ?_
          refine AWp.block ?_
          refine AWp.seq (AWp.region ?_)
          refine ARun.step rfl (step_moveV rfl (hn rfl) rfl rfl) ?_
          refine ARun.step rfl (step_moveV rfl (hn rfl) rfl rfl) ?_
          refine guardS rfl rfl rfl rfl (hn rfl) (fun g1 g2 => step_moveV rfl (hn rfl) rfl rfl) ?_
          refine guardS rfl rfl rfl rfl (hn rfl) (fun g1 g2 => step_moveV rfl (hn rfl) rfl rfl) ?_
          refine guardS rfl rfl rfl rfl (hn rfl) (fun g1 g2 => step_index_f rfl (hn rfl) rfl yxSl23 (ev_true rfl (by exact flag2 g1 g2)) rfl (by first | omega | (have := of_decide_eq_true g2; omega) | (have := of_decide_eq_false g2; omega) | (simp only [nrm] at g2; omega) | (simp only [nrm, Bool.true_and] at g1 g2; omega)) (by first | omega | (have := of_decide_eq_true g2; omega) | (have := of_decide_eq_false g2; omega) | (simp only [nrm] at g2; omega) | (simp only [nrm, Bool.true_and] at g1 g2; omega))) ?_
          refine guardS rfl rfl rfl rfl (hn rfl) (fun g1 g2 => step_field_f rfl (hn rfl) rfl yxFo30_0 (ev_true rfl (by exact flag2 g1 g2))) ?_
          refine guardS rfl rfl rfl rfl (hn rfl) (fun g1 g2 => step_load_f rfl (hn rfl) rfl yxSc9 (ev_true rfl (by exact flag2 g1 g2)) (hn rfl) rfl) ?_
          refine guardS rfl rfl rfl rfl (hn rfl) (fun g1 g2 => step_moveV rfl (hn rfl) rfl rfl) ?_
          refine guardS rfl rfl rfl rfl (hn rfl) (fun g1 g2 => call_step1 rfl (hn rfl) rfl yxCo14 (.cons (ev_true rfl (by exact flag2 g1 g2)) (.one (.v _)) (.cons (ev_true rfl (by exact flag2 g1 g2)) (.one (.v _)) (.cons (ev_true rfl (by exact flag2 g1 g2)) (.one (.v _)) (.nil)))) (recCanI _ _ _) rfl) ?_
          refine ARun.step rfl (step_or rfl (hn rfl) rfl rfl rfl (fun h => (by exact flag1 h))) ?_
          refine ARun.step rfl (step_assignV rfl (hn rfl) rfl rfl) ?_
          refine ARun.nil ?_
          refine AWp.region ?_
          refine ARun.step rfl (step_moveV rfl (hn rfl) rfl rfl) ?_
          refine ARun.step rfl (step_moveV rfl (hn rfl) rfl rfl) ?_
          refine guardS rfl rfl rfl rfl (hn rfl) (fun g1 g2 => step_moveV rfl (hn rfl) rfl rfl) ?_
          refine guardS rfl rfl rfl rfl (hn rfl) (fun g1 g2 => step_moveV rfl (hn rfl) rfl rfl) ?_
          refine guardS rfl rfl rfl rfl (hn rfl) (fun g1 g2 => step_eql rfl (hn rfl) rfl (ev_true rfl (by exact flag2 g1 g2)) (ev_true rfl (by exact flag2 g1 g2))) ?_
          refine guardS rfl rfl rfl rfl (hn rfl) (fun g1 g2 => step_moveV rfl (hn rfl) rfl (ev_true rfl (by exact flag2 g1 g2))) ?_
          refine guardS rfl rfl rfl rfl (hn rfl) (fun g1 g2 => step_moveV rfl (hn rfl) rfl rfl) ?_
          refine guardS rfl rfl rfl rfl (hn rfl) (fun g1 g2 => step_moveV rfl (hn rfl) rfl rfl) ?_
          refine guardS rfl rfl rfl rfl (hn rfl) (fun g1 g2 => call_step1 rfl (hn rfl) rfl yxCo19 (.cons (ev_true rfl (by exact flag2 g1 g2)) (.one (.v _)) (.cons (ev_true rfl (by exact flag2 g1 g2)) (.one (.v _)) (.cons rfl (.one (.v _)) (.nil)))) (reachI l _ hok (l.length + 1) _ (rank_le _ _)) rfl) ?_
          refine guardS rfl rfl rfl rfl (hn rfl) (fun g1 g2 => step_moveV rfl (hn rfl) rfl (ev_true rfl (by exact flag2 g1 g2))) ?_
          refine guardS rfl rfl rfl rfl (hn rfl) (fun g1 g2 => step_moveV rfl (hn rfl) rfl rfl) ?_
          refine guardS rfl rfl rfl rfl (hn rfl) (fun g1 g2 => step_eql rfl (hn rfl) rfl (ev_true rfl (by exact flag2 g1 g2)) rfl) ?_
          refine guardS rfl rfl rfl rfl (hn rfl) (fun g1 g2 => step_and rfl (hn rfl) rfl (ev_true rfl (by exact flag2 g1 g2)) rfl (fun h => (by exact flag2 (by exact flag2 g1 g2) h))) ?_
          refine guardS rfl rfl rfl rfl (hn rfl) (fun g1 g2 => step_moveV rfl (hn rfl) rfl (ev_true rfl (by exact flag2 g1 g2))) ?_
          refine guardS rfl rfl rfl rfl (hn rfl) (fun g1 g2 => step_moveV rfl (hn rfl) rfl rfl) ?_
          refine guardS rfl rfl rfl rfl (hn rfl) (fun g1 g2 => step_moveV rfl (hn rfl) rfl rfl) ?_
          refine guardS rfl rfl rfl rfl (hn rfl) (fun g1 g2 => call_step1 rfl (hn rfl) rfl yxCo19 (.cons (ev_true rfl (by exact flag2 g1 g2)) (.one (.v _)) (.cons (ev_true rfl (by exact flag2 g1 g2)) (.one (.v _)) (.cons rfl (.one (.v _)) (.nil)))) (reachI l _ hok (l.length + 1) _ (rank_le _ _)) rfl) ?_
          refine guardS rfl rfl rfl rfl (hn rfl) (fun g1 g2 => step_moveV rfl (hn rfl) rfl (ev_true rfl (by exact flag2 g1 g2))) ?_
          refine guardS rfl rfl rfl rfl (hn rfl) (fun g1 g2 => step_moveV rfl (hn rfl) rfl rfl) ?_
          refine guardS rfl rfl rfl rfl (hn rfl) (fun g1 g2 => step_eql rfl (hn rfl) rfl (ev_true rfl (by exact flag2 g1 g2)) rfl) ?_
          refine guardS rfl rfl rfl rfl (hn rfl) (fun g1 g2 => step_and rfl (hn rfl) rfl (ev_true rfl (by exact flag2 g1 g2)) rfl (fun h => (by exact flag2 (by exact flag2 g1 g2) h))) ?_
          refine guardS rfl rfl rfl rfl (hn rfl) (fun g1 g2 => step_or rfl (hn rfl) rfl (ev_true rfl (by exact flag2 g1 g2)) rfl (fun h => (by exact flag2 (by exact flag2 g1 g2) h))) ?_
          refine guardS rfl rfl rfl rfl (hn rfl) (fun g1 g2 => step_moveV rfl (hn rfl) rfl (ev_true rfl (by exact flag2 g1 g2))) ?_
          refine guardS rfl rfl rfl rfl (hn rfl) (fun g1 g2 => step_moveV rfl (hn rfl) rfl rfl) ?_
          refine guardS rfl rfl rfl rfl (hn rfl) (fun g1 g2 => step_moveV rfl (hn rfl) rfl rfl) ?_
          refine guardS rfl rfl rfl rfl (hn rfl) (fun g1 g2 => call_step1 rfl (hn rfl) rfl yxCo19 (.cons (ev_true rfl (by exact flag2 g1 g2)) (.one (.v _)) (.cons (ev_true rfl (by exact flag2 g1 g2)) (.one (.v _)) (.cons rfl (.one (.v _)) (.nil)))) (reachI l _ hok (l.length + 1) _ (rank_le _ _)) rfl) ?_
          refine guardS rfl rfl rfl rfl (hn rfl) (fun g1 g2 => step_moveV rfl (hn rfl) rfl (ev_true rfl (by exact flag2 g1 g2))) ?_
          refine guardS rfl rfl rfl rfl (hn rfl) (fun g1 g2 => step_moveV rfl (hn rfl) rfl rfl) ?_
          refine guardS rfl rfl rfl rfl (hn rfl) (fun g1 g2 => step_eql rfl (hn rfl) rfl (ev_true rfl (by exact flag2 g1 g2)) rfl) ?_
          refine guardS rfl rfl rfl rfl (hn rfl) (fun g1 g2 => step_and rfl (hn rfl) rfl (ev_true rfl (by exact flag2 g1 g2)) rfl (fun h => (by exact flag2 (by exact flag2 g1 g2) h))) ?_
          refine guardS rfl rfl rfl rfl (hn rfl) (fun g1 g2 => step_or rfl (hn rfl) rfl (ev_true rfl (by exact flag2 g1 g2)) rfl (fun h => (by exact flag2 (by exact flag2 g1 g2) h))) ?_
          refine guardS rfl rfl rfl rfl (hn rfl) (fun g1 g2 => step_and rfl (hn rfl) rfl (ev_true rfl (by exact flag2 g1 g2)) rfl (fun h => (by exact flag2 (by exact flag2 g1 g2) h))) ?_
          refine ARun.step rfl (step_or rfl (hn rfl) rfl rfl rfl (fun h => (by exact flag1 h))) ?_
          refine ARun.step rfl (step_assignV rfl (hn rfl) rfl rfl) ?_
          refine ARun.nil ?_
          refine AWp.region ?_
          refine ARun.step rfl (step_moveV rfl (hn rfl) rfl rfl) ?_
          refine ARun.step rfl (step_addI rfl (hn rfl) rfl rfl rfl (by omega) (by omega)) ?_
          refine ARun.step rfl (step_assignV rfl (hn rfl) rfl rfl) ?_
          refine ARun.nil ?_
          refine ⟨(x.1 + 1, _, _), ?_, ?_, Le.forgetR rfl ⟨rfl, rfl, rfl, rfl, rfl, rfl, rfl, trivial⟩ trivial trivial⟩
          · try dsimp only
            exact ⟨by omega, by omega, some_next h1 hs, found_next hok h1 (by omega) hf⟩
          · try dsimp only
            omega
        · try simp only [nrm] at c4
          refine AWp.exit ?_
          refine AWp.seq (AWp.region ?_)
          refine ARun.step rfl (step_moveV rfl (hn rfl) rfl rfl) ?_
          refine ARun.step rfl (step_moveV rfl (hn rfl) rfl rfl) ?_
          refine guardS rfl rfl rfl rfl (hn rfl) (fun g1 g2 => step_moveV rfl (hn rfl) rfl rfl) ?_
          refine guardS rfl rfl rfl rfl (hn rfl) (fun g1 g2 => step_moveV rfl (hn rfl) rfl rfl) ?_
          refine guardS rfl rfl rfl rfl (hn rfl) (fun g1 g2 => step_beql rfl (hn rfl) rfl yxUb4 (ev_true rfl (by exact flag2 g1 g2)) (ev_true rfl (by exact flag2 g1 g2))) ?_
          refine ARun.step rfl (step_and rfl (hn rfl) rfl rfl rfl (fun h => (by exact flag1 h))) ?_
          refine ARun.step rfl (step_assignV rfl (hn rfl) rfl rfl) ?_
          refine ARun.nil ?_
          refine AWp.ret ?_
          refine RetIs.sc (.inr rfl) rfl rfl ?_
          refine congrArg T.bool ?_
          obtain ⟨i, v, u⟩ := x
          obtain rfl : i = 4 := by dsimp only at *; omega
          exact law_end hok hs hf

end Go.Proofs.Ytomjieobbgcjeaa
