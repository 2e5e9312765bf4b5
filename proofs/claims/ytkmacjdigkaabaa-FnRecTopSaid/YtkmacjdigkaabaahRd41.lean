/- Contracts of functions of the program, each met by its body; conditions stand in each statement. No condition. -/
import Derived.Test.YtkmacjdigkaabaahRecB
import Derived.Test.YtkmacjdigkaabaaHh
import Derived.Test.YtkmacjdigkaabaaProg
import Derived.KernelRfl
set_option linter.unusedVariables false
set_option linter.unusedSimpArgs false
set_option linter.unnecessarySimpa false
set_option linter.unusedSimpArgs false
set_option maxRecDepth 100000
namespace Go.Proofs.Ytkmacjdigkaabaa
open Go Go.Mh

theorem nth_mem {l : List Str} {k : Nat} (h : k < l.length) : nth l k ∈ l := by
  unfold nth
  rw [List.getD_eq_getElem?_getD, List.getElem?_eq_getElem h]
  exact List.getElem_mem h
theorem strs_sub (l : List Str) (lo m : Nat) : ∀ q, q < ((l.drop lo).take m).length → (fun i => [T.str (nth l i)]) (lo + q) = (fun i => [T.str (nth ((l.drop lo).take m) i)]) q := by
  intro q hq
  rw [List.length_take] at hq
  have : nth l (lo + q) = nth ((l.drop lo).take m) q := by
    simp only [nth, List.getD_eq_getElem?_getD, List.getElem?_take, List.getElem?_drop, if_pos (show q < m by omega)]
  simp only [this]
def nms : List Str := [⟨#[98, 114, 101, 119]⟩, ⟨#[102, 49]⟩, ⟨#[102, 50]⟩, ⟨#[103]⟩, ⟨#[104]⟩, ⟨#[109, 97, 115, 104]⟩, ⟨#[114, 101, 115, 116]⟩, ⟨#[120, 45, 57]⟩]
theorem phs_cat (e : Nat) (l : List Ph) (x : Ph) (g : Nat → List T) (hg : g 0 = x.cells) : Eqv (.sl e 8 (l.length + 1) (catF l.length (fun i => (nth l i).cells) g)) (phs e (l ++ [x])) := by
  unfold phs
  rw [List.length_append, List.length_cons, List.length_nil]
  refine .rows fun i hi => ?_
  simp only [catF]
  split
  · rename_i h1; rw [nth_append_left h1]
  · rename_i h1
    have : i = l.length := by omega
    subst this
    rw [nth_append_right (Nat.le_refl _), Nat.sub_self, hg]; rfl
theorem phs_app (e : Nat) (l : List Ph) {f : Nat → List T} : Eqv (.sl e 8 (0 + l.length) (catF 0 f (fun i => (nth l i).cells))) (phs e l) := by
  unfold phs
  rw [Nat.zero_add]
  exact .rows fun i hi => by simp [catF]
theorem phs_set (e : Nat) (l : List Ph) (k : Nat) (x : Ph) (row : List T) (hr : row = x.cells) : Eqv (.sl e 8 l.length (putRow (fun i => (nth l i).cells) k row)) (phs e (l.set k x)) := by
  subst hr
  unfold phs
  rw [List.length_set]
  refine .rows fun i hi => ?_
  by_cases h : i = k
  · subst h
    rw [putRow_self]
    simp [nth, List.getD_eq_getElem?_getD, List.getElem?_set, hi]
  · rw [putRow_other _ _ _ h]
    simp [nth, List.getD_eq_getElem?_getD, List.getElem?_set, Ne.symm h]
def ints (e : Nat) (l : List Int) : T := .sl e 1 l.length (fun i => [.int .i64 (nth l i)])

theorem ywFo138_1 : fieldOff Try.prog 138 1 = some 1 := by kernel_rfl
theorem ywSc3 : scalarB Try.prog 3 = true := by kernel_rfl
theorem ywCs3 : cellsSz Try.prog 3 = some (0 + 1) := by kernel_rfl
theorem ywFo138_0 : fieldOff Try.prog 138 0 = some 0 := by kernel_rfl
theorem ywSc41 : scalarB Try.prog 41 = true := by kernel_rfl
theorem ywSl41 : sliceT Try.prog 41 = some ⟨5, 1, 1⟩ := by kernel_rfl
theorem ywSc5 : scalarB Try.prog 5 = true := by kernel_rfl
theorem ywUi5 : Try.prog.underlying 5 = some (.int .u8) := by kernel_rfl
theorem ywUi3 : Try.prog.underlying 3 = some (.int .i64) := by kernel_rfl
theorem ywMo : Try.prog.follows .mixedOrders = true := by kernel_rfl
theorem ywSl22 : sliceT Try.prog 22 = some ⟨9, 1, 16⟩ := by kernel_rfl
theorem ywCo111 : callOk Try.prog 111 = true := by kernel_rfl
theorem ywSc9 : scalarB Try.prog 9 = true := by kernel_rfl
theorem ywPl138 : structPl Try.prog 138 = some [(0, 1), (1, 1)] := by kernel_rfl
theorem ywZc138 : zeroCs Try.prog 138 = some [.nil, .v (.int .i64 0)] := by kernel_rfl
theorem ywCo186 : callOk Try.prog 186 = true := by kernel_rfl
theorem ywUl41 : Try.prog.underlying 41 = some (.slice 5) := by kernel_rfl
theorem ywUs9 : Try.prog.underlying 9 = some .string := by kernel_rfl
theorem ywCo176 : callOk Try.prog 176 = true := by kernel_rfl
theorem ywZs74 : zeroSz Try.prog 74 = some 8 := by kernel_rfl
theorem ywCo185 : callOk Try.prog 185 = true := by kernel_rfl
theorem ywPl74 : structPl Try.prog 74 = some [(0, 1), (1, 1), (2, 1), (3, 1), (4, 1), (5, 1), (6, 1), (7, 1)] := by kernel_rfl
theorem ywZc74 : zeroCs Try.prog 74 = some [.v (.str ⟨#[]⟩), .v (.int .i64 0), .v (.str ⟨#[]⟩), .v (.str ⟨#[]⟩), .v (.int .i64 0), .v (.int .i64 0), .v (.str ⟨#[]⟩), .v (.str ⟨#[]⟩)] := by kernel_rfl
theorem ywCs74 : cellsSz Try.prog 74 = some (7 + 1) := by kernel_rfl
theorem ywFo74_1 : fieldOff Try.prog 74 1 = some 1 := by kernel_rfl
theorem ywFo74_3 : fieldOff Try.prog 74 3 = some 3 := by kernel_rfl
theorem ywCs9 : cellsSz Try.prog 9 = some (0 + 1) := by kernel_rfl
theorem ywFo74_4 : fieldOff Try.prog 74 4 = some 4 := by kernel_rfl
theorem ywFo74_6 : fieldOff Try.prog 74 6 = some 6 := by kernel_rfl
theorem ywFo74_7 : fieldOff Try.prog 74 7 = some 7 := by kernel_rfl
theorem ywSt74 : structSz Try.prog 74 = some 8 := by kernel_rfl
theorem ywFo74_2 : fieldOff Try.prog 74 2 = some 2 := by kernel_rfl
theorem ywFo74_5 : fieldOff Try.prog 74 5 = some 5 := by kernel_rfl
theorem ywCo174 : callOk Try.prog 174 = true := by kernel_rfl
theorem ywSl62 : sliceT Try.prog 62 = some ⟨74, 8, 104⟩ := by kernel_rfl
theorem ywCo175 : callOk Try.prog 175 = true := by kernel_rfl
theorem ywFo74_0 : fieldOff Try.prog 74 0 = some 0 := by kernel_rfl
theorem ywSl140 : sliceT Try.prog 140 = some ⟨3, 1, 8⟩ := by kernel_rfl
theorem ywCo177 : callOk Try.prog 177 = true := by kernel_rfl
theorem ywCo139 : callOk Try.prog 139 = true := by kernel_rfl
theorem ywCo140 : callOk Try.prog 140 = true := by kernel_rfl
theorem l41pick (b : List UInt8) (p n : Nat) (hb : b.length ≤ 2000) (hp : p ≤ 1000000000) (h1 : 1 ≤ n) (h2 : n ≤ 1000000000) : ∃ (q : Nat) (k : Nat), (q = p + 1 ∧ k < n) ∧ LSpec Try.prog 111 138 (rdR 5 b p) (rdR 5 b q) [.one (.int .i64 (n : Nat))] (.one (.int .i64 (k : Nat))) := by
  suffices key : ∃ i : Nat × Nat, (i.1 = p + 1 ∧ i.2 < n) ∧ LSpec Try.prog 111 138 (rdR 5 b p) (rdR 5 b i.1) [.one (.int .i64 (n : Nat))] (.one (.int .i64 (i.2 : Nat))) from (by obtain ⟨i, g, h⟩ := key; exact ⟨i.1, i.2, g, h⟩)
  refine LSpec.ex Try.func111 rfl [4] rfl 99 rfl rfl rfl rfl (fun i : Nat × Nat => rdR 5 b i.1) (fun i : Nat × Nat => (.one (.int .i64 (i.2 : Nat)))) (fun i : Nat × Nat => i.1 = p + 1 ∧ i.2 < n) (fun i => rfl) (fun i => rfl) ?_
  apply E.reg
  · intro Q hQ
    refine AWp.seq (AWp.region ?_)
    refine ARun.step rfl (step_assignV rfl (hn rfl) rfl rfl) ?_
    refine ARun.nil ?_
    exact hQ.out
  apply E.reg
  · intro Q hQ
    refine AWp.seq (AWp.region ?_)
    refine ARun.step rfl (step_moveV rfl (hn rfl) rfl rfl) ?_
    refine ARun.step rfl (step_moveV rfl (hn rfl) rfl rfl) ?_
    refine ARun.step rfl (step_nilE rfl (hn rfl) rfl rfl rfl) ?_
    refine ARun.step rfl (step_field_e rfl (hn rfl) rfl ywFo138_1 rfl rfl) ?_
    refine ARun.step rfl (step_load_e rfl (hn rfl) rfl ywSc3 rfl rfl (by omega) (hn rfl) rfl) ?_
    refine ARun.step rfl (step_inc rfl (hn rfl) rfl rfl rfl (by omega)) ?_
    refine ARun.step rfl (step_nilE rfl (hn rfl) rfl rfl rfl) ?_
    refine ARun.step rfl (step_field_e rfl (hn rfl) rfl ywFo138_1 rfl rfl) ?_
    refine ARun.step rfl (step_store_L rfl rfl ywCs3 rfl rfl rfl rfl rfl) ?_
    refine ARun.nil ?_
    exact hQ.out
  refine E.mono (fun Q h => AWp.seq h) ?_
  apply E.reg
  · intro Q hQ
    refine AWp.seq (AWp.region ?_)
    refine ARun.step rfl (step_moveV rfl (hn rfl) rfl rfl) ?_
    refine ARun.step rfl (step_lss rfl (hn rfl) rfl rfl rfl) ?_
    refine ARun.step rfl (step_moveV rfl (hn rfl) rfl rfl) ?_
    refine guardS rfl rfl rfl rfl (hn rfl) (fun g1 g2 => step_moveV rfl (hn rfl) rfl rfl) ?_
    refine guardS rfl rfl rfl rfl (hn rfl) (fun g1 g2 => step_nilE rfl (hn rfl) rfl (ev_true rfl (by exact flag2 g1 g2)) rfl) ?_
    refine guardS rfl rfl rfl rfl (hn rfl) (fun g1 g2 => step_field_e rfl (hn rfl) rfl ywFo138_0 (ev_true rfl (by exact flag2 g1 g2)) rfl) ?_
    refine guardS rfl rfl rfl rfl (hn rfl) (fun g1 g2 => step_load_e rfl (hn rfl) rfl ywSc41 (ev_true rfl (by exact flag2 g1 g2)) rfl (by first | omega | (have := of_decide_eq_true g2; omega) | (have := of_decide_eq_false g2; omega) | (simp only [nrm] at g2; omega) | (simp only [nrm, Bool.true_and] at g1 g2; omega)) (hn rfl) rfl) ?_
    refine guardS rfl rfl rfl rfl (hn rfl) (fun g1 g2 => step_len_f rfl (hn rfl) rfl ywSl41 (ev_true rfl (by exact flag2 g1 g2))) ?_
    refine guardS rfl rfl rfl rfl (hn rfl) (fun g1 g2 => step_eql rfl (hn rfl) rfl (ev_true rfl (by exact flag2 g1 g2)) rfl) ?_
    refine ARun.step rfl (step_or rfl (hn rfl) rfl rfl rfl (fun h => (by exact flag1 h))) ?_
    refine ARun.nil ?_
    exact hQ.out
  refine E.cond rfl (fun c1 => ?_) (fun c1 => ?_)
  · try simp only [nrm] at c1
    apply E.reg
    · intro Q hQ
      refine AWp.seq (AWp.region ?_)
      refine ARun.step rfl (step_assignV rfl (hn rfl) rfl rfl) ?_
      refine ARun.nil ?_
      exact hQ.out
    refine E.mono (fun Q h => AWp.ret h) ?_
    apply E.ret (i := (_, _))
    · refine ⟨?_, (.refl _)⟩
      refine RetIs.sc (.inr rfl) rfl rfl ?_
      refine congrArg (T.int _) ?_
      rfl
    · try dsimp only
      all_goals (exact ⟨rfl, by omega⟩)
  · try simp only [nrm] at c1
    have hpos : 0 < b.length := by omega
    refine E.mono (fun Q h => AWp.skip h) ?_
    apply E.reg
    · intro Q hQ
      refine AWp.seq (AWp.region ?_)
      refine ARun.step rfl (step_moveV rfl (hn rfl) rfl rfl) ?_
      refine ARun.step rfl (step_nilE rfl (hn rfl) rfl rfl rfl) ?_
      refine ARun.step rfl (step_field_e rfl (hn rfl) rfl ywFo138_1 rfl rfl) ?_
      refine ARun.step rfl (step_load_e rfl (hn rfl) rfl ywSc3 rfl rfl (by omega) (hn rfl) rfl) ?_
      refine ARun.step rfl (step_decN rfl (hn rfl) rfl rfl rfl (by omega) (by omega)) ?_
      refine ARun.step rfl (step_assignV rfl (hn rfl) rfl rfl) ?_
      refine ARun.nil ?_
      exact hQ.out
    refine E.mono (fun Q h => AWp.seq h) ?_
    refine E.mono (fun Q h => AWp.le (Le.slotInt 5 rfl (show ((p + 1 - 1 : Nat) : Int) = (p : Nat) from by omega)) h) ?_
    apply E.reg
    · intro Q hQ
      refine AWp.seq (AWp.region ?_)
      refine ARun.step rfl (step_moveV rfl (hn rfl) rfl rfl) ?_
      refine ARun.step rfl (step_moveV rfl (hn rfl) rfl rfl) ?_
      refine ARun.step rfl (step_nilE rfl (hn rfl) rfl rfl rfl) ?_
      refine ARun.step rfl (step_field_e rfl (hn rfl) rfl ywFo138_0 rfl rfl) ?_
      refine ARun.step rfl (step_load_e rfl (hn rfl) rfl ywSc41 rfl rfl (by omega) (hn rfl) rfl) ?_
      refine ARun.step rfl (step_len_f rfl (hn rfl) rfl ywSl41 rfl) ?_
      refine ARun.step rfl (step_lss rfl (hn rfl) rfl rfl rfl) ?_
      refine ARun.nil ?_
      exact hQ.out
    refine E.cond rfl (fun c2 => ?_) (fun c2 => ?_)
    · try simp only [nrm] at c2
      have hb0 : p < b.length := by omega
      have hb1 := bt_lt b p
      apply E.reg
      · intro Q hQ
        refine AWp.seq (AWp.region ?_)
        refine ARun.step rfl (step_moveV rfl (hn rfl) rfl rfl) ?_
        refine ARun.step rfl (step_nilE rfl (hn rfl) rfl rfl rfl) ?_
        refine ARun.step rfl (step_field_e rfl (hn rfl) rfl ywFo138_0 rfl rfl) ?_
        refine ARun.step rfl (step_load_e rfl (hn rfl) rfl ywSc41 rfl rfl (by omega) (hn rfl) rfl) ?_
        refine ARun.step rfl (step_moveV rfl (hn rfl) rfl rfl) ?_
        refine ARun.step rfl (step_index_fN rfl (hn rfl) rfl ywSl41 rfl rfl (by first | omega | (simp only [List.length_cons, List.length_nil]; omega))) ?_
        refine ARun.step rfl (step_load_f rfl (hn rfl) rfl ywSc5 rfl (hn rfl) rfl) ?_
        refine ARun.step rfl (step_convN rfl (hn rfl) rfl ⟨_, ywUi5⟩ ywUi3 rfl (by omega)) ?_
        refine ARun.step rfl (step_moveV rfl (hn rfl) rfl rfl) ?_
        refine ARun.step rfl (step_remN rfl (hn rfl) rfl rfl rfl (by omega)) ?_
        refine ARun.step rfl (step_assignV rfl (hn rfl) rfl rfl) ?_
        refine ARun.nil ?_
        exact hQ.out
      refine E.mono (fun Q h => AWp.ret h) ?_
      apply E.ret (i := (_, _))
      · refine ⟨?_, (.refl _)⟩
        refine RetIs.sc (.inr rfl) rfl rfl ?_
        refine congrArg (T.int _) ?_
        rfl
      · try dsimp only
        all_goals (exact ⟨rfl, Nat.mod_lt _ h1⟩)
    · try simp only [nrm] at c2
      have hm1 := Nat.mod_lt p hpos
      have hm2 := Nat.mod_lt (p * 7 + 3) hpos
      have hb1 := bt_lt b (p % b.length)
      have hb2 := bt_lt b ((p * 7 + 3) % b.length)
      have hd := Nat.div_le_self p b.length
      refine E.mono (fun Q h => AWp.skip h) ?_
      apply E.reg
      · intro Q hQ
        refine AWp.seq (AWp.draw [⟨[.s 0], [.s 47], false⟩, ⟨[.s 47, .a 1000000 0], [.s 48], false⟩, ⟨[.s 48, .a 1000000 0], [.s 49], false⟩, ⟨[.s 49, .a 1000000 0], [.s 50], false⟩, ⟨[.s 5], [.s 51], false⟩, ⟨[.s 0], [.s 52], false⟩, ⟨[.s 52, .a 1000000 0], [.s 53], false⟩, ⟨[.s 53, .a 1000000 0], [.s 54], false⟩, ⟨[.s 54, .a 1000000 0], [.s 55], false⟩, ⟨[.s 55], [.s 56], false⟩, ⟨[.s 51, .s 56], [.s 57], false⟩, ⟨[.s 50, .s 57], [.s 58], false⟩, ⟨[.s 58], [.s 59], false⟩, ⟨[.s 59], [.s 60], false⟩, ⟨[.s 60], [.s 61], false⟩, ⟨[.s 0], [.s 62], false⟩, ⟨[.s 62, .a 1000000 0], [.s 63], false⟩, ⟨[.s 63, .a 1000000 0], [.s 64], false⟩, ⟨[.s 64, .a 1000000 0], [.s 65], false⟩, ⟨[.s 5], [.s 66], false⟩, ⟨[.s 66], [.s 67], false⟩, ⟨[.s 67], [.s 68], false⟩, ⟨[.s 0], [.s 69], false⟩, ⟨[.s 69, .a 1000000 0], [.s 70], false⟩, ⟨[.s 70, .a 1000000 0], [.s 71], false⟩, ⟨[.s 71, .a 1000000 0], [.s 72], false⟩, ⟨[.s 72], [.s 73], false⟩, ⟨[.s 68, .s 73], [.s 74], false⟩, ⟨[.s 65, .s 74], [.s 75], false⟩, ⟨[.s 75], [.s 76], false⟩, ⟨[.s 76], [.s 77], false⟩, ⟨[.s 77], [.s 78], false⟩, ⟨[.s 61, .s 78], [.s 79], false⟩, ⟨[.s 5], [.s 80], false⟩, ⟨[.s 80], [.s 81], false⟩, ⟨[.s 79, .s 81], [.s 82], false⟩, ⟨[.s 5], [.s 83], false⟩, ⟨[.s 0], [.s 84], false⟩, ⟨[.s 84, .a 1000000 0], [.s 85], false⟩, ⟨[.s 85, .a 1000000 0], [.s 86], false⟩, ⟨[.s 86, .a 1000000 0], [.s 87], false⟩, ⟨[.s 87], [.s 88], false⟩, ⟨[.s 83, .s 88], [.s 89], false⟩, ⟨[.s 89], [.s 90], false⟩, ⟨[.s 82, .s 90], [.s 91], false⟩, ⟨[], [], true⟩] ywMo (by kernel_rfl) ?_)
        refine DRun.step rfl (fun τ hN hr => step_moveV rfl (rdN hN (hn rfl)) rfl (by exact rdS hr rfl rfl)) ?_
        refine DRun.step rfl (fun τ hN hr => step_nilE rfl (rdN hN (hn rfl)) rfl (by exact rdS hr rfl rfl) (by exact rdA hr rfl rfl)) ?_
        refine DRun.step rfl (fun τ hN hr => step_field_e rfl (rdN hN (hn rfl)) rfl ywFo138_0 (by exact rdS hr rfl rfl) (by exact rdA hr rfl rfl)) ?_
        refine DRun.step rfl (fun τ hN hr => step_load_e rfl (rdN hN (hn rfl)) rfl ywSc41 (by exact rdS hr rfl rfl) (by exact rdA hr rfl rfl) (by omega) (hn rfl) rfl) ?_
        refine DRun.step rfl (fun τ hN hr => step_moveV rfl (rdN hN (hn rfl)) rfl (by exact rdS hr rfl rfl)) ?_
        refine DRun.step rfl (fun τ hN hr => step_moveV rfl (rdN hN (hn rfl)) rfl (by exact rdS hr rfl rfl)) ?_
        refine DRun.step rfl (fun τ hN hr => step_nilE rfl (rdN hN (hn rfl)) rfl (by exact rdS hr rfl rfl) (by exact rdA hr rfl rfl)) ?_
        refine DRun.step rfl (fun τ hN hr => step_field_e rfl (rdN hN (hn rfl)) rfl ywFo138_0 (by exact rdS hr rfl rfl) (by exact rdA hr rfl rfl)) ?_
        refine DRun.step rfl (fun τ hN hr => step_load_e rfl (rdN hN (hn rfl)) rfl ywSc41 (by exact rdS hr rfl rfl) (by exact rdA hr rfl rfl) (by omega) (hn rfl) rfl) ?_
        refine DRun.step rfl (fun τ hN hr => step_len_f rfl (rdN hN (hn rfl)) rfl ywSl41 (by exact rdS hr rfl rfl)) ?_
        refine DRun.step rfl (fun τ hN hr => step_remN rfl (rdN hN (hn rfl)) rfl (by exact rdS hr rfl rfl) (by exact rdS hr rfl rfl) hpos) ?_
        refine DRun.step rfl (fun τ hN hr => step_index_fN rfl (rdN hN (hn rfl)) rfl ywSl41 (by exact rdS hr rfl rfl) (by exact rdS hr rfl rfl) (by first | omega | (simp only [List.length_cons, List.length_nil]; omega))) ?_
        refine DRun.step rfl (fun τ hN hr => step_load_f rfl (rdN hN (hn rfl)) rfl ywSc5 (by exact rdS hr rfl rfl) (hn rfl) rfl) ?_
        refine DRun.step rfl (fun τ hN hr => step_convN rfl (rdN hN (hn rfl)) rfl ⟨_, ywUi5⟩ ywUi3 (by exact rdS hr rfl rfl) (by omega)) ?_
        refine DRun.step rfl (fun τ hN hr => step_mulN (n := 131) rfl (rdN hN (hn rfl)) rfl (by exact rdS hr rfl rfl) rfl (by omega)) ?_
        refine DRun.step rfl (fun τ hN hr => step_moveV rfl (rdN hN (hn rfl)) rfl (by exact rdS hr rfl rfl)) ?_
        refine DRun.step rfl (fun τ hN hr => step_nilE rfl (rdN hN (hn rfl)) rfl (by exact rdS hr rfl rfl) (by exact rdA hr rfl rfl)) ?_
        refine DRun.step rfl (fun τ hN hr => step_field_e rfl (rdN hN (hn rfl)) rfl ywFo138_0 (by exact rdS hr rfl rfl) (by exact rdA hr rfl rfl)) ?_
        refine DRun.step rfl (fun τ hN hr => step_load_e rfl (rdN hN (hn rfl)) rfl ywSc41 (by exact rdS hr rfl rfl) (by exact rdA hr rfl rfl) (by omega) (hn rfl) rfl) ?_
        refine DRun.step rfl (fun τ hN hr => step_moveV rfl (rdN hN (hn rfl)) rfl (by exact rdS hr rfl rfl)) ?_
        refine DRun.step rfl (fun τ hN hr => step_mulN (n := 7) rfl (rdN hN (hn rfl)) rfl (by exact rdS hr rfl rfl) rfl (by omega)) ?_
        refine DRun.step rfl (fun τ hN hr => step_addN (n := 3) rfl (rdN hN (hn rfl)) rfl (by exact rdS hr rfl rfl) rfl (by omega)) ?_
        refine DRun.step rfl (fun τ hN hr => step_moveV rfl (rdN hN (hn rfl)) rfl (by exact rdS hr rfl rfl)) ?_
        refine DRun.step rfl (fun τ hN hr => step_nilE rfl (rdN hN (hn rfl)) rfl (by exact rdS hr rfl rfl) (by exact rdA hr rfl rfl)) ?_
        refine DRun.step rfl (fun τ hN hr => step_field_e rfl (rdN hN (hn rfl)) rfl ywFo138_0 (by exact rdS hr rfl rfl) (by exact rdA hr rfl rfl)) ?_
        refine DRun.step rfl (fun τ hN hr => step_load_e rfl (rdN hN (hn rfl)) rfl ywSc41 (by exact rdS hr rfl rfl) (by exact rdA hr rfl rfl) (by omega) (hn rfl) rfl) ?_
        refine DRun.step rfl (fun τ hN hr => step_len_f rfl (rdN hN (hn rfl)) rfl ywSl41 (by exact rdS hr rfl rfl)) ?_
        refine DRun.step rfl (fun τ hN hr => step_remN rfl (rdN hN (hn rfl)) rfl (by exact rdS hr rfl rfl) (by exact rdS hr rfl rfl) hpos) ?_
        refine DRun.step rfl (fun τ hN hr => step_index_fN rfl (rdN hN (hn rfl)) rfl ywSl41 (by exact rdS hr rfl rfl) (by exact rdS hr rfl rfl) (by first | omega | (simp only [List.length_cons, List.length_nil]; omega))) ?_
        refine DRun.step rfl (fun τ hN hr => step_load_f rfl (rdN hN (hn rfl)) rfl ywSc5 (by exact rdS hr rfl rfl) (hn rfl) rfl) ?_
        refine DRun.step rfl (fun τ hN hr => step_convN rfl (rdN hN (hn rfl)) rfl ⟨_, ywUi5⟩ ywUi3 (by exact rdS hr rfl rfl) (by omega)) ?_
        refine DRun.step rfl (fun τ hN hr => step_mulN (n := 1117) rfl (rdN hN (hn rfl)) rfl (by exact rdS hr rfl rfl) rfl (by omega)) ?_
        refine DRun.step rfl (fun τ hN hr => step_addN rfl (rdN hN (hn rfl)) rfl (by exact rdS hr rfl rfl) (by exact rdS hr rfl rfl) (by omega)) ?_
        refine DRun.step rfl (fun τ hN hr => step_moveV rfl (rdN hN (hn rfl)) rfl (by exact rdS hr rfl rfl)) ?_
        refine DRun.step rfl (fun τ hN hr => step_mulN (n := 29) rfl (rdN hN (hn rfl)) rfl (by exact rdS hr rfl rfl) rfl (by omega)) ?_
        refine DRun.step rfl (fun τ hN hr => step_addN rfl (rdN hN (hn rfl)) rfl (by exact rdS hr rfl rfl) (by exact rdS hr rfl rfl) (by omega)) ?_
        refine DRun.step rfl (fun τ hN hr => step_moveV rfl (rdN hN (hn rfl)) rfl (by exact rdS hr rfl rfl)) ?_
        refine DRun.step rfl (fun τ hN hr => step_moveV rfl (rdN hN (hn rfl)) rfl (by exact rdS hr rfl rfl)) ?_
        refine DRun.step rfl (fun τ hN hr => step_nilE rfl (rdN hN (hn rfl)) rfl (by exact rdS hr rfl rfl) (by exact rdA hr rfl rfl)) ?_
        refine DRun.step rfl (fun τ hN hr => step_field_e rfl (rdN hN (hn rfl)) rfl ywFo138_0 (by exact rdS hr rfl rfl) (by exact rdA hr rfl rfl)) ?_
        refine DRun.step rfl (fun τ hN hr => step_load_e rfl (rdN hN (hn rfl)) rfl ywSc41 (by exact rdS hr rfl rfl) (by exact rdA hr rfl rfl) (by omega) (hn rfl) rfl) ?_
        refine DRun.step rfl (fun τ hN hr => step_len_f rfl (rdN hN (hn rfl)) rfl ywSl41 (by exact rdS hr rfl rfl)) ?_
        refine DRun.step rfl (fun τ hN hr => step_quoN rfl (rdN hN (hn rfl)) rfl (by exact rdS hr rfl rfl) (by exact rdS hr rfl rfl) hpos (by omega)) ?_
        refine DRun.step rfl (fun τ hN hr => step_mulN (n := 53) rfl (rdN hN (hn rfl)) rfl (by exact rdS hr rfl rfl) rfl (by omega)) ?_
        refine DRun.step rfl (fun τ hN hr => step_addN rfl (rdN hN (hn rfl)) rfl (by exact rdS hr rfl rfl) (by exact rdS hr rfl rfl) (by omega)) ?_
        refine DRun.lastS rfl (step_assignV rfl (hn rfl) rfl rfl) ?_
        exact hQ.out
      apply E.reg
      · intro Q hQ
        refine AWp.seq (AWp.region ?_)
        refine ARun.step rfl (step_moveV rfl (hn rfl) rfl rfl) ?_
        refine ARun.step rfl (step_moveV rfl (hn rfl) rfl rfl) ?_
        refine ARun.step rfl (step_quoN (n := 64) rfl (hn rfl) rfl rfl rfl (by decide) (by omega)) ?_
        refine ARun.step rfl (step_xorN rfl (hn rfl) rfl rfl rfl (by omega) (by omega)) ?_
        refine ARun.step rfl (step_assignV rfl (hn rfl) rfl rfl) ?_
        refine ARun.nil ?_
        exact hQ.out
      apply E.reg
      · intro Q hQ
        refine AWp.seq (AWp.region ?_)
        refine ARun.step rfl (step_moveV rfl (hn rfl) rfl rfl) ?_
        refine ARun.step rfl (step_moveV rfl (hn rfl) rfl rfl) ?_
        refine ARun.step rfl (step_remN rfl (hn rfl) rfl rfl rfl (by omega)) ?_
        refine ARun.step rfl (step_assignV rfl (hn rfl) rfl rfl) ?_
        refine ARun.nil ?_
        exact hQ.out
      refine E.mono (fun Q h => AWp.ret h) ?_
      apply E.ret (i := (_, _))
      · refine ⟨?_, (.refl _)⟩
        refine RetIs.sc (.inr rfl) rfl rfl ?_
        refine congrArg (T.int _) ?_
        rfl
      · try dsimp only
        all_goals (exact ⟨rfl, Nat.mod_lt _ h1⟩)
theorem l41pick_if (c : Prop) [Decidable c] (b : List UInt8) (p n : Nat) (hb : b.length ≤ 2000) (hp : p ≤ 1000000000) (h1 : 1 ≤ n) (h2 : n ≤ 1000000000) :
    ∃ (q k : Nat), (p ≤ q ∧ q ≤ p + 1 ∧ k < n) ∧ (c → LSpec Try.prog 111 138 (rdR 5 b p) (rdR 5 b q) [.one (.int .i64 (n : Nat))] (.one (.int .i64 (k : Nat)))) ∧ (¬ c → q = p) := by
  by_cases h : c
  · obtain ⟨q, k, ⟨rfl, hk⟩, hs⟩ := l41pick b p n hb hp h1 h2
    exact ⟨_, k, ⟨by omega, by omega, hk⟩, fun _ => hs, fun h' => absurd h h'⟩
  · exact ⟨p, 0, ⟨by omega, by omega, by omega⟩, fun h' => absurd h' h, fun _ => rfl⟩
theorem l41of (b : List UInt8) (p : Nat) (l : List Str) (hb : b.length ≤ 2000) (hp : p ≤ 1000000000) (hl : 1 ≤ l.length) (hl2 : l.length ≤ 1000000000) : ∃ (q : Nat) (s : Str), (q = p + 1 ∧ s ∈ l) ∧ LSpec Try.prog 186 138 (rdR 5 b p) (rdR 5 b q) [.one (strs l)] (.one (.str s)) := by
  suffices key : ∃ i : Nat × Str, (i.1 = p + 1 ∧ i.2 ∈ l) ∧ LSpec Try.prog 186 138 (rdR 5 b p) (rdR 5 b i.1) [.one (strs l)] (.one (.str i.2)) from (by obtain ⟨i, g, h⟩ := key; exact ⟨i.1, i.2, g, h⟩)
  refine LSpec.ex Try.func186 rfl [4] rfl 12 rfl rfl rfl rfl (fun i : Nat × Str => rdR 5 b i.1) (fun i : Nat × Str => (.one (.str i.2))) (fun i : Nat × Str => i.1 = p + 1 ∧ i.2 ∈ l) (fun i => rfl) (fun i => rfl) ?_
  apply E.reg
  · intro Q hQ
    refine AWp.seq (AWp.region ?_)
    refine ARun.step rfl (step_assignV rfl (hn rfl) rfl rfl) ?_
    refine ARun.nil ?_
    exact hQ.out
  obtain ⟨q, k, ⟨rfl, hk⟩, hs⟩ := l41pick b p l.length hb hp hl hl2
  apply E.reg
  · intro Q hQ
    refine AWp.seq (AWp.region ?_)
    refine ARun.step rfl (step_moveV rfl (hn rfl) rfl rfl) ?_
    refine ARun.step rfl (step_moveV rfl (hn rfl) rfl rfl) ?_
    refine ARun.step rfl (step_moveV rfl (hn rfl) rfl rfl) ?_
    refine ARun.step rfl (step_len_f rfl (hn rfl) rfl ywSl22 rfl) ?_
    refine ARun.step rfl (call_stepLZ rfl (hn rfl) rfl ywCo111 rfl rfl rfl rfl (.cons rfl (.one (.v _)) (.nil)) hs rfl rfl) ?_
    refine ARun.step rfl (step_index_fN rfl (hn rfl) rfl ywSl22 rfl rfl (by first | omega | (simp only [List.length_cons, List.length_nil]; omega))) ?_
    refine ARun.step rfl (step_load_f rfl (hn rfl) rfl ywSc9 rfl (hn rfl) rfl) ?_
    refine ARun.step rfl (step_assignV rfl (hn rfl) rfl rfl) ?_
    refine ARun.nil ?_
    exact hQ.out
  refine E.mono (fun Q h => AWp.ret h) ?_
  apply E.ret (i := (_, _))
  · refine ⟨?_, (.refl _)⟩
    refine RetIs.sc (.inr rfl) rfl rfl ?_
    refine congrArg T.str ?_
    rfl
  · try dsimp only
    all_goals (exact ⟨rfl, nth_mem hk⟩)
theorem l41Open (b : List UInt8) (hb : b.length ≤ 2097152) : OSpec Try.prog 109 [.one (bytesT 5 b)] 138 (rdR 5 (b.take 2000) 0) := by
  refine OSpec.body Try.func109 rfl 2 rfl 11 rfl rfl rfl ?_
  refine AWp.seq (AWp.region ?_)
  refine ARun.step rfl (step_assignV rfl (hn rfl) rfl rfl) ?_
  refine ARun.nil ?_
  refine AWp.seq ?_
  refine AWp.seq (AWp.region ?_)
  refine ARun.step rfl (step_moveV rfl (hn rfl) rfl rfl) ?_
  refine ARun.step rfl (step_len_f rfl (hn rfl) rfl ywSl41 rfl) ?_
  refine ARun.step rfl (step_gtr rfl (hn rfl) rfl rfl rfl) ?_
  refine ARun.nil ?_
  refine AWp.cond rfl (fun c1 => ?_) (fun c1 => ?_)
  · try simp only [nrm] at c1
    refine AWp.region ?_
    refine ARun.step rfl (step_moveV rfl (hn rfl) rfl rfl) ?_
    refine ARun.step rfl (step_sliceF rfl (hn rfl) rfl ywSl41 (bytesT 5 (b.take 2000)) rfl (.dflt _) (.val (j := 2000) _ rfl) rfl (by rw [List.length_take]; omega) (by omega) (bytes_take b 2000)) ?_
    refine ARun.step rfl (step_assignV rfl (hn rfl) rfl rfl) ?_
    refine ARun.nil ?_
    refine AWp.seq (AWp.region ?_)
    refine ARun.step rfl (step_moveV rfl (hn rfl) rfl rfl) ?_
    refine ARun.step rfl (step_build rfl (hn rfl) rfl ywPl138 ywZc138 (.cons rfl rfl rfl rfl (.nil)) rfl) ?_
    refine ARun.step rfl (step_boxE (r := [.fz (bytesT 5 _), .int .i64 ((0 : Nat) : Int)]) rfl (hn rfl) rfl rfl rfl) ?_
    refine ARun.step rfl (step_assignV rfl (hn rfl) rfl rfl) ?_
    refine ARun.nil ?_
    refine AWp.ret ?_
    refine ⟨.inr rfl, 10, rfl, rfl, rfl⟩
  · try simp only [nrm] at c1
    rw [List.take_of_length_le (show b.length ≤ 2000 by omega)]
    refine AWp.skip ?_
    refine AWp.seq (AWp.region ?_)
    refine ARun.step rfl (step_moveV rfl (hn rfl) rfl rfl) ?_
    refine ARun.step rfl (step_build rfl (hn rfl) rfl ywPl138 ywZc138 (.cons rfl rfl rfl rfl (.nil)) rfl) ?_
    refine ARun.step rfl (step_boxE (r := [.fz (bytesT 5 _), .int .i64 ((0 : Nat) : Int)]) rfl (hn rfl) rfl rfl rfl) ?_
    refine ARun.step rfl (step_assignV rfl (hn rfl) rfl rfl) ?_
    refine ARun.nil ?_
    refine AWp.ret ?_
    refine ⟨.inr rfl, 10, rfl, rfl, rfl⟩
theorem l45Names   : ASpec Try.prog 174 [] (.one (.fz (strs nms))) := by
  refine ASpec.body Try.func174 rfl [0] rfl 2 rfl rfl rfl ?_
  refine AWp.seq (AWp.region ?_)
  refine ARun.step rfl (step_assignV rfl (hn rfl) rfl rfl) ?_
  refine ARun.nil ?_
  refine AWp.seq (AWp.region ?_)
  refine ARun.step rfl (step_buildVT rfl (hn rfl) rfl ywSl22 (strs nms) (.cons rfl rfl rfl rfl (.cons rfl rfl rfl rfl (.cons rfl rfl rfl rfl (.cons rfl rfl rfl rfl (.cons rfl rfl rfl rfl (.cons rfl rfl rfl rfl (.cons rfl rfl rfl rfl (.cons rfl rfl rfl rfl (.nil _))))))))) rfl rfl rfl (rowsE ⟨rfl, rfl, rfl, rfl, rfl, rfl, rfl, rfl, trivial⟩)) ?_
  refine ARun.step rfl (step_assignV rfl (hn rfl) rfl rfl) ?_
  refine ARun.nil ?_
  refine AWp.ret ?_
  refine RetIs.frz (.inr rfl) rfl ?_
  rfl
theorem l45Slot (b : List UInt8) (p : Nat) (hb : b.length ≤ 2000) (hp : p ≤ 900000000) : ∃ (q : Nat) (s : Str), (q = p + 1) ∧ LSpec Try.prog 185 138 (rdR 5 b p) (rdR 5 b q) [] (.one (.str s)) := by
  suffices key : ∃ i : Nat × Str, (i.1 = p + 1) ∧ LSpec Try.prog 185 138 (rdR 5 b p) (rdR 5 b i.1) [] (.one (.str i.2)) from (by obtain ⟨i, g, h⟩ := key; exact ⟨i.1, i.2, g, h⟩)
  refine LSpec.ex Try.func185 rfl [2] rfl 6 rfl rfl rfl rfl (fun i : Nat × Str => rdR 5 b i.1) (fun i : Nat × Str => (.one (.str i.2))) (fun i : Nat × Str => i.1 = p + 1) (fun i => rfl) (fun i => rfl) ?_
  apply E.reg
  · intro Q hQ
    refine AWp.seq (AWp.region ?_)
    refine ARun.step rfl (step_assignV rfl (hn rfl) rfl rfl) ?_
    refine ARun.nil ?_
    exact hQ.out
  obtain ⟨_, s1, ⟨rfl, hk1⟩, hl1⟩ := l41of b (p) ([⟨#[115, 49]⟩, ⟨#[115, 49]⟩, ⟨#[115, 50]⟩, ⟨#[115, 51]⟩, ⟨#[107, 101, 103]⟩]) (by first | assumption | omega | decide | (simp only [List.length_append, List.length_cons, List.length_nil, List.length_take, List.length_drop]; omega)) (by first | assumption | omega | decide | (simp only [List.length_append, List.length_cons, List.length_nil, List.length_take, List.length_drop]; omega)) (by first | assumption | omega | decide | (simp only [List.length_append, List.length_cons, List.length_nil, List.length_take, List.length_drop]; omega)) (by first | assumption | omega | decide | (simp only [List.length_append, List.length_cons, List.length_nil, List.length_take, List.length_drop]; omega))
  apply E.reg
  · intro Q hQ
    refine AWp.seq (AWp.region ?_)
    refine ARun.step rfl (step_moveV rfl (hn rfl) rfl rfl) ?_
    refine ARun.step rfl (step_buildVT rfl (hn rfl) rfl ywSl22 (strs [⟨#[115, 49]⟩, ⟨#[115, 49]⟩, ⟨#[115, 50]⟩, ⟨#[115, 51]⟩, ⟨#[107, 101, 103]⟩]) (.cons rfl rfl rfl rfl (.cons rfl rfl rfl rfl (.cons rfl rfl rfl rfl (.cons rfl rfl rfl rfl (.cons rfl rfl rfl rfl (.nil _)))))) rfl rfl rfl (rowsE ⟨rfl, rfl, rfl, rfl, rfl, trivial⟩)) ?_
    refine ARun.step rfl (call_stepLZ rfl (hn rfl) rfl ywCo186 rfl rfl rfl rfl (.cons rfl (.one (.v _)) (.nil)) hl1 rfl rfl) ?_
    refine ARun.step rfl (step_assignV rfl (hn rfl) rfl rfl) ?_
    refine ARun.nil ?_
    exact hQ.out
  refine E.mono (fun Q h => AWp.ret h) ?_
  apply E.ret (i := (_, _))
  · refine ⟨?_, (.refl _)⟩
    refine RetIs.sc (.inr rfl) rfl rfl ?_
    refine congrArg T.str ?_
    rfl
  · try dsimp only
    all_goals (rfl)
theorem l43DecE (n : Nat) (h0 : n ≤ 100000) : ∃ (s : Str) (u : Unit), (s.size ≤ n + 1) ∧ ASpec Try.prog 176 [.one (.int .i64 (n : Nat))] (.one (.str s)) := by
  revert h0
  refine Nat.strongRecOn n (fun n ih h0 => ?_)
  suffices key : ∃ i : Str × Unit, (i.1.size ≤ n + 1) ∧ ASpec Try.prog 176 [.one (.int .i64 (n : Nat))] (.one (.str i.1)) from (by obtain ⟨i, g, h⟩ := key; exact ⟨i.1, i.2, g, h⟩)
  refine ASpec.ex Try.func176 rfl [2] rfl 20 rfl rfl rfl (fun i : Str × Unit => (.one (.str i.1))) (fun i : Str × Unit => i.1.size ≤ n + 1) ?_
  apply E.reg
  · intro Q hQ
    refine AWp.seq (AWp.region ?_)
    refine ARun.step rfl (step_assignV rfl (hn rfl) rfl rfl) ?_
    refine ARun.nil ?_
    exact hQ.out
  refine E.mono (fun Q h => AWp.seq h) ?_
  apply E.reg
  · intro Q hQ
    refine AWp.seq (AWp.region ?_)
    refine ARun.step rfl (step_moveV rfl (hn rfl) rfl rfl) ?_
    refine ARun.step rfl (step_lss rfl (hn rfl) rfl rfl rfl) ?_
    refine ARun.nil ?_
    exact hQ.out
  refine E.cond rfl (fun c1 => ?_) (fun c1 => ?_)
  · try simp only [nrm] at c1
    apply E.reg
    · intro Q hQ
      refine AWp.seq (AWp.region ?_)
      refine ARun.step rfl (step_moveV rfl (hn rfl) rfl rfl) ?_
      refine ARun.step rfl (step_addN (m := 48) rfl (hn rfl) rfl rfl rfl (by omega)) ?_
      refine ARun.step rfl (step_convInt rfl (hn rfl) rfl ⟨_, ywUi3⟩ ywUi5 rfl) ?_
      refine ARun.step rfl (step_buildV rfl (hn rfl) rfl ywSl41 (.cons rfl rfl rfl rfl (.nil _)) rfl rfl) ?_
      refine ARun.step rfl (step_convBytes rfl (hn rfl) rfl ywUl41 ywUi5 ywUs9 [_] rfl rfl (by exact Nat.succ_pos _) (rows1 rfl)) ?_
      refine ARun.step rfl (step_assignV rfl (hn rfl) rfl rfl) ?_
      refine ARun.nil ?_
      exact hQ.out
    refine E.mono (fun Q h => AWp.ret h) ?_
    apply E.ret (i := (_, ()))
    · refine RetIs.sc (.inr rfl) rfl rfl ?_
      refine congrArg T.str ?_
      rfl
    · try dsimp only
      all_goals (exact (Nat.le_add_left 1 n : 1 ≤ n + 1))
  · try simp only [nrm] at c1
    refine E.mono (fun Q h => AWp.skip h) ?_
    obtain ⟨sd, _, hsd, hd⟩ := ih (n / 10) (by omega) (by omega)
    apply E.reg
    · intro Q hQ
      refine AWp.seq (AWp.draw [⟨[.s 0], [.s 10], false⟩, ⟨[.s 10], [.s 11], false⟩, ⟨[.s 11], [.s 12], false⟩, ⟨[.s 0], [.s 13], false⟩, ⟨[.s 13], [.s 14], false⟩, ⟨[.s 14], [.s 15], false⟩, ⟨[.s 15], [.s 16], false⟩, ⟨[.s 16], [.s 17], false⟩, ⟨[.s 17], [.s 18], false⟩, ⟨[.s 12, .s 18], [.s 19], false⟩, ⟨[], [], true⟩] ywMo rfl ?_)
      refine DRun.step rfl (fun τ hN hr => step_moveV rfl (rdN hN (hn rfl)) rfl (by exact rdS hr rfl rfl)) ?_
      refine DRun.step rfl (fun τ hN hr => step_quoN (n := 10) rfl (rdN hN (hn rfl)) rfl (by exact rdS hr rfl rfl) rfl (by decide) (by omega)) ?_
      refine DRun.step rfl (fun τ hN hr => call_step1 rfl (rdN hN (hn rfl)) rfl ywCo176 (.cons (by exact rdS hr rfl rfl) (.one (.v _)) (.nil)) hd rfl) ?_
      refine DRun.step rfl (fun τ hN hr => step_moveV rfl (rdN hN (hn rfl)) rfl (by exact rdS hr rfl rfl)) ?_
      refine DRun.step rfl (fun τ hN hr => step_remN (n := 10) rfl (rdN hN (hn rfl)) rfl (by exact rdS hr rfl rfl) rfl (by decide)) ?_
      refine DRun.step rfl (fun τ hN hr => step_addN (m := 48) rfl (rdN hN (hn rfl)) rfl rfl (by exact rdS hr rfl rfl) (by omega)) ?_
      refine DRun.step rfl (fun τ hN hr => step_convInt rfl (rdN hN (hn rfl)) rfl ⟨_, ywUi3⟩ ywUi5 (by exact rdS hr rfl rfl)) ?_
      refine DRun.step rfl (fun τ hN hr => step_buildV rfl (rdN hN (hn rfl)) rfl ywSl41 ((by exact .cons (by exact rdS hr rfl rfl) rfl rfl rfl (.nil _))) rfl rfl) ?_
      refine DRun.step rfl (fun τ hN hr => step_convBytes rfl (rdN hN (hn rfl)) rfl ywUl41 ywUi5 ywUs9 [_] (by exact rdS hr rfl rfl) rfl (by exact Nat.succ_pos _) (rows1 rfl)) ?_
      refine DRun.step rfl (fun τ hN hr => step_sadd rfl (rdN hN (hn rfl)) rfl (by exact rdS hr rfl rfl) (by exact rdS hr rfl rfl) (by simp only [bytesOf_size, List.length_cons, List.length_nil]; omega)) ?_
      refine DRun.lastS rfl (step_assignV rfl (hn rfl) rfl rfl) ?_
      exact hQ.out
    refine E.mono (fun Q h => AWp.ret h) ?_
    apply E.ret (i := (_, ()))
    · refine RetIs.sc (.inr rfl) rfl rfl ?_
      refine congrArg T.str ?_
      rfl
    · try dsimp only
      all_goals (simp only [ByteArray.size_append, bytesOf_size, List.length_cons, List.length_nil]; omega)
set_option maxHeartbeats 8000000 in
theorem l45Phase (b : List UInt8) (p : Nat) (s : Str) (l : List Str) (hb : b.length ≤ 2000) (hp : p ≤ 800000000) (hl : l.length ≤ 1000) : ∃ (q : Nat) (x : Ph), (p ≤ q ∧ q ≤ p + 20) ∧ LSpec Try.prog 175 138 (rdR 5 b p) (rdR 5 b q) [.one (.str s), .one (strs l)] (.agg x.cells) := by
  suffices key : ∃ i : Nat × Ph, (p ≤ i.1 ∧ i.1 ≤ p + 20) ∧ LSpec Try.prog 175 138 (rdR 5 b p) (rdR 5 b i.1) [.one (.str s), .one (strs l)] (.agg i.2.cells) from (by obtain ⟨i, g, h⟩ := key; exact ⟨i.1, i.2, g, h⟩)
  refine LSpec.exC Try.func175 rfl 6 74 [] rfl rfl 78 rfl rfl rfl rfl (fun i : Nat × Ph => rdR 5 b i.1) (fun i : Nat × Ph => (.agg i.2.cells)) (fun i : Nat × Ph => p ≤ i.1 ∧ i.1 ≤ p + 20) (fun i => rfl) (fun i => rfl) ?_
  apply E.reg
  · intro Q hQ
    refine AWp.seq (AWp.region ?_)
    refine ARun.step rfl (step_alloc_p rfl (hn rfl) rfl ywZs74) ?_
    refine ARun.nil ?_
    exact hQ.out
  obtain ⟨_, k1, ⟨rfl, hk1⟩, hl1⟩ := l41pick b (p) (5) (by first | assumption | omega | decide | (simp only [List.length_append, List.length_cons, List.length_nil, List.length_take, List.length_drop]; omega)) (by first | assumption | omega | decide | (simp only [List.length_append, List.length_cons, List.length_nil, List.length_take, List.length_drop]; omega)) (by first | assumption | omega | decide | (simp only [List.length_append, List.length_cons, List.length_nil, List.length_take, List.length_drop]; omega)) (by first | assumption | omega | decide | (simp only [List.length_append, List.length_cons, List.length_nil, List.length_take, List.length_drop]; omega))
  obtain ⟨_, s2, rfl, hl2⟩ := l45Slot b (p + 1)  (by first | assumption | omega | decide | (simp only [List.length_append, List.length_cons, List.length_nil, List.length_take, List.length_drop]; omega)) (by first | assumption | omega | decide | (simp only [List.length_append, List.length_cons, List.length_nil, List.length_take, List.length_drop]; omega))
  obtain ⟨_, k3, ⟨rfl, hk3⟩, hl3⟩ := l41pick b (p + 1 + 1) (20) (by first | assumption | omega | decide | (simp only [List.length_append, List.length_cons, List.length_nil, List.length_take, List.length_drop]; omega)) (by first | assumption | omega | decide | (simp only [List.length_append, List.length_cons, List.length_nil, List.length_take, List.length_drop]; omega)) (by first | assumption | omega | decide | (simp only [List.length_append, List.length_cons, List.length_nil, List.length_take, List.length_drop]; omega)) (by first | assumption | omega | decide | (simp only [List.length_append, List.length_cons, List.length_nil, List.length_take, List.length_drop]; omega))
  apply E.reg
  · intro Q hQ
    refine AWp.seq (AWp.region ?_)
    refine ARun.step rfl (step_moveV rfl (hn rfl) rfl rfl) ?_
    refine ARun.step rfl (step_moveV rfl (hn rfl) rfl rfl) ?_
    refine ARun.step rfl (call_stepLZ rfl (hn rfl) rfl ywCo111 rfl rfl rfl rfl (.cons rfl (.one (.v _)) (.nil)) hl1 rfl rfl) ?_
    refine ARun.step rfl (step_addN (m := 1) rfl (hn rfl) rfl rfl rfl (by omega)) ?_
    refine ARun.step rfl (step_moveV rfl (hn rfl) rfl rfl) ?_
    refine ARun.step rfl (call_stepLZ rfl (hn rfl) rfl ywCo185 rfl rfl rfl rfl (.nil) hl2 rfl rfl) ?_
    refine ARun.step rfl (step_moveV rfl (hn rfl) rfl rfl) ?_
    refine ARun.step rfl (call_stepLZ rfl (hn rfl) rfl ywCo111 rfl rfl rfl rfl (.cons rfl (.one (.v _)) (.nil)) hl3 rfl rfl) ?_
    refine ARun.step rfl (step_addN (m := 1) rfl (hn rfl) rfl rfl rfl (by omega)) ?_
    refine ARun.step rfl (step_build rfl (hn rfl) rfl ywPl74 ywZc74 (.cons rfl rfl rfl rfl (.cons rfl rfl rfl rfl (.cons rfl rfl rfl rfl (.cons rfl rfl rfl rfl (.nil))))) rfl) ?_
    refine ARun.step rfl (step_alloc_p rfl (hn rfl) rfl ywZs74) ?_
    refine ARun.step rfl (step_store_p (bs := [_, _, _, _, _, _, _, _]) rfl rfl ywCs74 rfl rfl rfl rfl rfl rfl rfl) ?_
    refine ARun.nil ?_
    exact hQ.out
  refine E.mono (fun Q h => AWp.seq h) ?_
  apply E.reg
  · intro Q hQ
    refine AWp.seq (AWp.region ?_)
    refine ARun.step rfl (step_field_b rfl (hn rfl) rfl ywFo74_1 rfl (by exact List.cons_ne_nil _ _)) ?_
    refine ARun.step rfl (step_load_b rfl (hn rfl) rfl ywSc3 rfl rfl) ?_
    refine ARun.nil ?_
    exact hQ.out
  refine E.mono (fun Q h => AWp.block h) ?_
  apply E.reg
  · intro Q hQ
    refine AWp.seq (AWp.region ?_)
    refine ARun.step rfl (step_eql rfl (hn rfl) rfl rfl rfl) ?_
    refine ARun.step rfl (step_assignV rfl (hn rfl) rfl rfl) ?_
    refine ARun.nil ?_
    exact hQ.out
  refine E.cond rfl (fun c1 => ?_) (fun c1 => ?_)
  · try simp only [nrm] at c1
    obtain ⟨_, s4, ⟨rfl, hk4⟩, hl4⟩ := l41of b (p + 1 + 1 + 1) ([(⟨#[97, 108, 101]⟩), (⟨#[109, 97, 108, 116]⟩)]) (by first | assumption | omega | decide | (simp only [List.length_append, List.length_cons, List.length_nil, List.length_take, List.length_drop]; omega)) (by first | assumption | omega | decide | (simp only [List.length_append, List.length_cons, List.length_nil, List.length_take, List.length_drop]; omega)) (by first | assumption | omega | decide | (simp only [List.length_append, List.length_cons, List.length_nil, List.length_take, List.length_drop]; omega)) (by first | assumption | omega | decide | (simp only [List.length_append, List.length_cons, List.length_nil, List.length_take, List.length_drop]; omega))
    apply E.reg
    · intro Q hQ
      refine AWp.seq (AWp.region ?_)
      refine ARun.step rfl (step_moveV rfl (hn rfl) rfl rfl) ?_
      refine ARun.step rfl (step_buildVT rfl (hn rfl) rfl ywSl22 (strs [_, _]) (.cons rfl rfl rfl rfl (.cons rfl rfl rfl rfl (.nil _))) rfl rfl rfl (rows2 rfl rfl)) ?_
      refine ARun.step rfl (call_stepLZ rfl (hn rfl) rfl ywCo186 rfl rfl rfl rfl (.cons rfl (.one (.v _)) (.nil)) hl4 rfl rfl) ?_
      refine ARun.step rfl (step_field_b rfl (hn rfl) rfl ywFo74_3 rfl (by exact List.cons_ne_nil _ _)) ?_
      refine ARun.step rfl (step_store_p (bs := [_, _, _, _, _, _, _, _]) rfl rfl ywCs9 rfl rfl rfl rfl rfl rfl rfl) ?_
      refine ARun.nil ?_
      exact hQ.out
    obtain ⟨_, k5, ⟨rfl, hk5⟩, hl5⟩ := l41pick b (p + 1 + 1 + 1 + 1) (30) (by first | assumption | omega | decide | (simp only [List.length_append, List.length_cons, List.length_nil, List.length_take, List.length_drop]; omega)) (by first | assumption | omega | decide | (simp only [List.length_append, List.length_cons, List.length_nil, List.length_take, List.length_drop]; omega)) (by first | assumption | omega | decide | (simp only [List.length_append, List.length_cons, List.length_nil, List.length_take, List.length_drop]; omega)) (by first | assumption | omega | decide | (simp only [List.length_append, List.length_cons, List.length_nil, List.length_take, List.length_drop]; omega))
    apply E.reg
    · intro Q hQ
      refine AWp.region ?_
      refine ARun.step rfl (step_moveV rfl (hn rfl) rfl rfl) ?_
      refine ARun.step rfl (call_stepLZ rfl (hn rfl) rfl ywCo111 rfl rfl rfl rfl (.cons rfl (.one (.v _)) (.nil)) hl5 rfl rfl) ?_
      refine ARun.step rfl (step_addN (m := 1) rfl (hn rfl) rfl rfl rfl (by omega)) ?_
      refine ARun.step rfl (step_field_b rfl (hn rfl) rfl ywFo74_4 rfl (by exact List.cons_ne_nil _ _)) ?_
      refine ARun.step rfl (step_store_p (bs := [_, _, _, _, _, _, _, _]) rfl rfl ywCs3 rfl rfl rfl rfl rfl rfl rfl) ?_
      refine ARun.nil ?_
      exact hQ.out
    apply E.reg
    · intro Q hQ
      refine AWp.seq (AWp.region ?_)
      refine ARun.step rfl ((step_buildSlice rfl (hn rfl) (ps := [(0, .const _), (1, .const _), (2, .const _)]) rfl ywSl22 rfl rfl (by simp) (by intro q hq; simp only [List.mem_cons, List.not_mem_nil, or_false] at hq; rcases hq with rfl | rfl | rfl <;> exact ⟨rfl, rfl, by intro c hc; cases hc; rfl⟩) rfl).le (Le.toArr (strs [⟨#[103, 111, 111, 100]⟩, ⟨#[115, 97, 118, 101, 100]⟩, ⟨#[115, 99, 114, 97, 112, 112, 101, 100]⟩]) rfl rfl ⟨rfl, rfl, rfl, trivial⟩)) ?_
      refine ARun.step rfl (step_moveV rfl (hn rfl) rfl rfl) ?_
      refine ARun.step rfl (step_append_strs rfl (hn rfl) rfl ywSl22 rfl rfl rfl (.v _) (by first | omega | (simp only [List.length_cons, List.length_nil, List.length_append, List.length_take, List.length_drop]; omega)) (by first | omega | (simp only [List.length_cons, List.length_nil, List.length_append, List.length_take, List.length_drop]; omega))) ?_
      refine ARun.step rfl (step_assignV rfl (hn rfl) rfl rfl) ?_
      refine ARun.nil ?_
      exact hQ.out
    refine E.mono (fun Q h => AWp.le (Le.letGo 54 0 (g := _) rfl (fun _ _ => rfl)) h) ?_
    obtain ⟨_, s6, ⟨rfl, hk6⟩, hl6⟩ := l41of b (p + 1 + 1 + 1 + 1 + 1) (([⟨#[103, 111, 111, 100]⟩, ⟨#[115, 97, 118, 101, 100]⟩, ⟨#[115, 99, 114, 97, 112, 112, 101, 100]⟩] ++ l)) (by first | assumption | omega | decide | (simp only [List.length_append, List.length_cons, List.length_nil, List.length_take, List.length_drop]; omega)) (by first | assumption | omega | decide | (simp only [List.length_append, List.length_cons, List.length_nil, List.length_take, List.length_drop]; omega)) (by first | assumption | omega | decide | (simp only [List.length_append, List.length_cons, List.length_nil, List.length_take, List.length_drop]; omega)) (by first | assumption | omega | decide | (simp only [List.length_append, List.length_cons, List.length_nil, List.length_take, List.length_drop]; omega))
    apply E.reg
    · intro Q hQ
      refine AWp.seq (AWp.region ?_)
      refine ARun.step rfl (step_moveV rfl (hn rfl) rfl rfl) ?_
      refine ARun.step rfl (step_moveV rfl (hn rfl) rfl rfl) ?_
      refine ARun.step rfl (call_stepLZ rfl (hn rfl) rfl ywCo186 rfl rfl rfl rfl (.cons rfl (.one (.v _)) (.nil)) hl6 rfl rfl) ?_
      refine ARun.step rfl (step_field_b rfl (hn rfl) rfl ywFo74_6 rfl (by exact List.cons_ne_nil _ _)) ?_
      refine ARun.step rfl (step_store_p (bs := [_, _, _, _, _, _, _, _]) rfl rfl ywCs9 rfl rfl rfl rfl rfl rfl rfl) ?_
      refine ARun.nil ?_
      exact hQ.out
    obtain ⟨_, s7, ⟨rfl, hk7⟩, hl7⟩ := l41of b (p + 1 + 1 + 1 + 1 + 1 + 1) (([⟨#[103, 111, 111, 100]⟩, ⟨#[115, 97, 118, 101, 100]⟩, ⟨#[115, 99, 114, 97, 112, 112, 101, 100]⟩] ++ l)) (by first | assumption | omega | decide | (simp only [List.length_append, List.length_cons, List.length_nil, List.length_take, List.length_drop]; omega)) (by first | assumption | omega | decide | (simp only [List.length_append, List.length_cons, List.length_nil, List.length_take, List.length_drop]; omega)) (by first | assumption | omega | decide | (simp only [List.length_append, List.length_cons, List.length_nil, List.length_take, List.length_drop]; omega)) (by first | assumption | omega | decide | (simp only [List.length_append, List.length_cons, List.length_nil, List.length_take, List.length_drop]; omega))
    apply E.reg
    · intro Q hQ
      refine AWp.seq (AWp.region ?_)
      refine ARun.step rfl (step_moveV rfl (hn rfl) rfl rfl) ?_
      refine ARun.step rfl (step_moveV rfl (hn rfl) rfl rfl) ?_
      refine ARun.step rfl (call_stepLZ rfl (hn rfl) rfl ywCo186 rfl rfl rfl rfl (.cons rfl (.one (.v _)) (.nil)) hl7 rfl rfl) ?_
      refine ARun.step rfl (step_field_b rfl (hn rfl) rfl ywFo74_7 rfl (by exact List.cons_ne_nil _ _)) ?_
      refine ARun.step rfl (step_store_p (bs := [_, _, _, _, _, _, _, _]) rfl rfl ywCs9 rfl rfl rfl rfl rfl rfl rfl) ?_
      refine ARun.nil ?_
      exact hQ.out
    refine E.mono (fun Q h => AWp.seq h) ?_
    obtain ⟨q8, k8, ⟨ha8, hb8, hc8⟩, hl8, hz8⟩ := l41pick_if (0 < l.length) b (p + 1 + 1 + 1 + 1 + 1 + 1 + 1) (4) (by first | assumption | omega | decide | (simp only [List.length_append, List.length_cons, List.length_nil, List.length_take, List.length_drop]; omega)) (by first | assumption | omega | decide | (simp only [List.length_append, List.length_cons, List.length_nil, List.length_take, List.length_drop]; omega)) (by first | assumption | omega | decide | (simp only [List.length_append, List.length_cons, List.length_nil, List.length_take, List.length_drop]; omega)) (by first | assumption | omega | decide | (simp only [List.length_append, List.length_cons, List.length_nil, List.length_take, List.length_drop]; omega))
    apply E.reg
    · intro Q hQ
      refine AWp.seq (AWp.region ?_)
      refine ARun.step rfl (step_moveV rfl (hn rfl) rfl rfl) ?_
      refine ARun.step rfl (step_len_f rfl (hn rfl) rfl ywSl22 rfl) ?_
      refine ARun.step rfl (step_gtr rfl (hn rfl) rfl rfl rfl) ?_
      refine ARun.step rfl (step_moveV rfl (hn rfl) rfl rfl) ?_
      refine guardS rfl rfl rfl rfl (hn rfl) (fun g1 g2 => step_moveV rfl (hn rfl) rfl rfl) ?_
      refine guardL rfl rfl rfl rfl (hn rfl) (fun g1 g2 => call_stepLZ rfl (hn rfl) rfl ywCo111 (ev_true rfl (by exact flag2 g1 g2)) rfl rfl rfl (.cons rfl (.one (.v _)) (.nil)) (hl8 (by first | (have := of_decide_eq_true g2; omega) | simpa using g2)) rfl rfl) (fun h => by rw [hz8 (by intro hc; first | (simp only [nrm, Bool.true_and] at h; omega) | (simp [hc] at h; done))]; exact rfl) ?_
      refine guardS rfl rfl rfl rfl (hn rfl) (fun g1 g2 => step_gtr rfl (hn rfl) rfl (ev_true rfl (by exact flag2 g1 g2)) rfl) ?_
      refine ARun.step rfl (step_and rfl (hn rfl) rfl rfl rfl (fun h => (by exact flag1 h))) ?_
      refine ARun.nil ?_
      exact hQ.out
    refine E.cond rfl (fun c2 => ?_) (fun c2 => ?_)
    · try simp only [nrm] at c2
      apply E.reg
      · intro Q hQ
        refine AWp.region ?_
        refine ARun.step rfl (step_moveV rfl (hn rfl) rfl rfl) ?_
        refine ARun.step rfl (step_index_f rfl (hn rfl) rfl ywSl22 rfl rfl (by first | omega | (simp only [List.length_cons, List.length_nil]; omega)) (by first | omega | (simp only [List.length_cons, List.length_nil]; omega))) ?_
        refine ARun.step rfl (step_load_f rfl (hn rfl) rfl ywSc9 rfl (hn rfl) rfl) ?_
        refine ARun.step rfl (step_field_b rfl (hn rfl) rfl ywFo74_6 rfl (by exact List.cons_ne_nil _ _)) ?_
        refine ARun.step rfl (step_store_p (bs := [_, _, _, _, _, _, _, _]) rfl rfl ywCs9 rfl rfl rfl rfl rfl rfl rfl) ?_
        refine ARun.nil ?_
        exact hQ.out
      apply E.reg
      · intro Q hQ
        refine AWp.seq (AWp.region ?_)
        refine ARun.step rfl (step_loadS_b rfl (hn rfl) rfl ywSt74 rfl rfl rfl (by decide)) ?_
        refine ARun.step rfl (step_store_p (bs := [_, _, _, _, _, _, _, _]) rfl rfl ywCs74 rfl rfl rfl rfl rfl rfl rfl) ?_
        refine ARun.nil ?_
        exact hQ.out
      refine E.mono (fun Q h => AWp.ret h) ?_
      apply E.ret (i := (_, Ph.mk _ _ _ _ _ _ _ _))
      · refine ⟨.inr rfl, ⟨6, 8, _, _, _, ywSt74, by decide, rfl, rfl, rfl, rfl, (.cons rfl (.agg (.cons (.sc _ _ rfl) (.cons (.sc _ _ rfl) (.cons (.sc _ _ rfl) (.cons (.sc _ _ rfl) (.cons (.sc _ _ rfl) (.cons (.sc _ _ rfl) (.cons (.sc _ _ rfl) (.cons (.sc _ _ rfl) (.nil _)))))))))) (.nil _)), rfl, ?_⟩, (.refl _)⟩
        refine congrArg PV.agg ?_
        rfl
      · try dsimp only
        all_goals (exact ⟨by omega, by omega⟩)
    · try simp only [nrm] at c2
      refine E.mono (fun Q h => AWp.skip h) ?_
      apply E.reg
      · intro Q hQ
        refine AWp.seq (AWp.region ?_)
        refine ARun.step rfl (step_loadS_b rfl (hn rfl) rfl ywSt74 rfl rfl rfl (by decide)) ?_
        refine ARun.step rfl (step_store_p (bs := [_, _, _, _, _, _, _, _]) rfl rfl ywCs74 rfl rfl rfl rfl rfl rfl rfl) ?_
        refine ARun.nil ?_
        exact hQ.out
      refine E.mono (fun Q h => AWp.ret h) ?_
      apply E.ret (i := (_, Ph.mk _ _ _ _ _ _ _ _))
      · refine ⟨.inr rfl, ⟨6, 8, _, _, _, ywSt74, by decide, rfl, rfl, rfl, rfl, (.cons rfl (.agg (.cons (.sc _ _ rfl) (.cons (.sc _ _ rfl) (.cons (.sc _ _ rfl) (.cons (.sc _ _ rfl) (.cons (.sc _ _ rfl) (.cons (.sc _ _ rfl) (.cons (.sc _ _ rfl) (.cons (.sc _ _ rfl) (.nil _)))))))))) (.nil _)), rfl, ?_⟩, (.refl _)⟩
        refine congrArg PV.agg ?_
        rfl
      · try dsimp only
        all_goals (exact ⟨by omega, by omega⟩)
  · try simp only [nrm] at c1
    apply E.reg
    · intro Q hQ
      refine AWp.seq (AWp.region ?_)
      refine ARun.step rfl (step_eql rfl (hn rfl) rfl rfl rfl) ?_
      refine ARun.step rfl (step_assignV rfl (hn rfl) rfl rfl) ?_
      refine ARun.nil ?_
      exact hQ.out
    refine E.cond rfl (fun c3 => ?_) (fun c3 => ?_)
    · try simp only [nrm] at c3
      obtain ⟨_, s9, rfl, hl9⟩ := l45Slot b (p + 1 + 1 + 1)  (by first | assumption | omega | decide | (simp only [List.length_append, List.length_cons, List.length_nil, List.length_take, List.length_drop]; omega)) (by first | assumption | omega | decide | (simp only [List.length_append, List.length_cons, List.length_nil, List.length_take, List.length_drop]; omega))
      apply E.reg
      · intro Q hQ
        refine AWp.seq (AWp.region ?_)
        refine ARun.step rfl (step_moveV rfl (hn rfl) rfl rfl) ?_
        refine ARun.step rfl (call_stepLZ rfl (hn rfl) rfl ywCo185 rfl rfl rfl rfl (.nil) hl9 rfl rfl) ?_
        refine ARun.step rfl (step_field_b rfl (hn rfl) rfl ywFo74_3 rfl (by exact List.cons_ne_nil _ _)) ?_
        refine ARun.step rfl (step_store_p (bs := [_, _, _, _, _, _, _, _]) rfl rfl ywCs9 rfl rfl rfl rfl rfl rfl rfl) ?_
        refine ARun.nil ?_
        exact hQ.out
      refine E.mono (fun Q h => AWp.seq h) ?_
      apply E.reg
      · intro Q hQ
        refine AWp.seq (AWp.region ?_)
        refine ARun.step rfl (step_field_b rfl (hn rfl) rfl ywFo74_3 rfl (by exact List.cons_ne_nil _ _)) ?_
        refine ARun.step rfl (step_load_b rfl (hn rfl) rfl ywSc9 rfl rfl) ?_
        refine ARun.step rfl (step_field_b rfl (hn rfl) rfl ywFo74_2 rfl (by exact List.cons_ne_nil _ _)) ?_
        refine ARun.step rfl (step_load_b rfl (hn rfl) rfl ywSc9 rfl rfl) ?_
        refine ARun.step rfl (step_seql rfl (hn rfl) rfl rfl rfl) ?_
        refine ARun.nil ?_
        exact hQ.out
      refine E.cond rfl (fun c4 => ?_) (fun c4 => ?_)
      · try simp only [nrm] at c4
        apply E.reg
        · intro Q hQ
          refine AWp.region ?_
          refine ARun.step rfl (step_field_b rfl (hn rfl) rfl ywFo74_3 rfl (by exact List.cons_ne_nil _ _)) ?_
          refine ARun.step rfl (step_store_p (bs := [_, _, _, _, _, _, _, _]) rfl rfl ywCs9 rfl rfl rfl rfl rfl rfl rfl) ?_
          refine ARun.nil ?_
          exact hQ.out
        obtain ⟨_, k10, ⟨rfl, hk10⟩, hl10⟩ := l41pick b (p + 1 + 1 + 1 + 1) (30) (by first | assumption | omega | decide | (simp only [List.length_append, List.length_cons, List.length_nil, List.length_take, List.length_drop]; omega)) (by first | assumption | omega | decide | (simp only [List.length_append, List.length_cons, List.length_nil, List.length_take, List.length_drop]; omega)) (by first | assumption | omega | decide | (simp only [List.length_append, List.length_cons, List.length_nil, List.length_take, List.length_drop]; omega)) (by first | assumption | omega | decide | (simp only [List.length_append, List.length_cons, List.length_nil, List.length_take, List.length_drop]; omega))
        apply E.reg
        · intro Q hQ
          refine AWp.region ?_
          refine ARun.step rfl (step_moveV rfl (hn rfl) rfl rfl) ?_
          refine ARun.step rfl (call_stepLZ rfl (hn rfl) rfl ywCo111 rfl rfl rfl rfl (.cons rfl (.one (.v _)) (.nil)) hl10 rfl rfl) ?_
          refine ARun.step rfl (step_addN (m := 1) rfl (hn rfl) rfl rfl rfl (by omega)) ?_
          refine ARun.step rfl (step_field_b rfl (hn rfl) rfl ywFo74_4 rfl (by exact List.cons_ne_nil _ _)) ?_
          refine ARun.step rfl (step_store_p (bs := [_, _, _, _, _, _, _, _]) rfl rfl ywCs3 rfl rfl rfl rfl rfl rfl rfl) ?_
          refine ARun.nil ?_
          exact hQ.out
        apply E.reg
        · intro Q hQ
          refine AWp.seq (AWp.region ?_)
          refine ARun.step rfl ((step_buildSlice rfl (hn rfl) (ps := [(0, .const _), (1, .const _), (2, .const _)]) rfl ywSl22 rfl rfl (by simp) (by intro q hq; simp only [List.mem_cons, List.not_mem_nil, or_false] at hq; rcases hq with rfl | rfl | rfl <;> exact ⟨rfl, rfl, by intro c hc; cases hc; rfl⟩) rfl).le (Le.toArr (strs [⟨#[103, 111, 111, 100]⟩, ⟨#[115, 97, 118, 101, 100]⟩, ⟨#[115, 99, 114, 97, 112, 112, 101, 100]⟩]) rfl rfl ⟨rfl, rfl, rfl, trivial⟩)) ?_
          refine ARun.step rfl (step_moveV rfl (hn rfl) rfl rfl) ?_
          refine ARun.step rfl (step_append_strs rfl (hn rfl) rfl ywSl22 rfl rfl rfl (.v _) (by first | omega | (simp only [List.length_cons, List.length_nil, List.length_append, List.length_take, List.length_drop]; omega)) (by first | omega | (simp only [List.length_cons, List.length_nil, List.length_append, List.length_take, List.length_drop]; omega))) ?_
          refine ARun.step rfl (step_assignV rfl (hn rfl) rfl rfl) ?_
          refine ARun.nil ?_
          exact hQ.out
        refine E.mono (fun Q h => AWp.le (Le.letGo 54 0 (g := _) rfl (fun _ _ => rfl)) h) ?_
        obtain ⟨_, s11, ⟨rfl, hk11⟩, hl11⟩ := l41of b (p + 1 + 1 + 1 + 1 + 1) (([⟨#[103, 111, 111, 100]⟩, ⟨#[115, 97, 118, 101, 100]⟩, ⟨#[115, 99, 114, 97, 112, 112, 101, 100]⟩] ++ l)) (by first | assumption | omega | decide | (simp only [List.length_append, List.length_cons, List.length_nil, List.length_take, List.length_drop]; omega)) (by first | assumption | omega | decide | (simp only [List.length_append, List.length_cons, List.length_nil, List.length_take, List.length_drop]; omega)) (by first | assumption | omega | decide | (simp only [List.length_append, List.length_cons, List.length_nil, List.length_take, List.length_drop]; omega)) (by first | assumption | omega | decide | (simp only [List.length_append, List.length_cons, List.length_nil, List.length_take, List.length_drop]; omega))
        apply E.reg
        · intro Q hQ
          refine AWp.seq (AWp.region ?_)
          refine ARun.step rfl (step_moveV rfl (hn rfl) rfl rfl) ?_
          refine ARun.step rfl (step_moveV rfl (hn rfl) rfl rfl) ?_
          refine ARun.step rfl (call_stepLZ rfl (hn rfl) rfl ywCo186 rfl rfl rfl rfl (.cons rfl (.one (.v _)) (.nil)) hl11 rfl rfl) ?_
          refine ARun.step rfl (step_field_b rfl (hn rfl) rfl ywFo74_6 rfl (by exact List.cons_ne_nil _ _)) ?_
          refine ARun.step rfl (step_store_p (bs := [_, _, _, _, _, _, _, _]) rfl rfl ywCs9 rfl rfl rfl rfl rfl rfl rfl) ?_
          refine ARun.nil ?_
          exact hQ.out
        obtain ⟨_, s12, ⟨rfl, hk12⟩, hl12⟩ := l41of b (p + 1 + 1 + 1 + 1 + 1 + 1) (([⟨#[103, 111, 111, 100]⟩, ⟨#[115, 97, 118, 101, 100]⟩, ⟨#[115, 99, 114, 97, 112, 112, 101, 100]⟩] ++ l)) (by first | assumption | omega | decide | (simp only [List.length_append, List.length_cons, List.length_nil, List.length_take, List.length_drop]; omega)) (by first | assumption | omega | decide | (simp only [List.length_append, List.length_cons, List.length_nil, List.length_take, List.length_drop]; omega)) (by first | assumption | omega | decide | (simp only [List.length_append, List.length_cons, List.length_nil, List.length_take, List.length_drop]; omega)) (by first | assumption | omega | decide | (simp only [List.length_append, List.length_cons, List.length_nil, List.length_take, List.length_drop]; omega))
        apply E.reg
        · intro Q hQ
          refine AWp.seq (AWp.region ?_)
          refine ARun.step rfl (step_moveV rfl (hn rfl) rfl rfl) ?_
          refine ARun.step rfl (step_moveV rfl (hn rfl) rfl rfl) ?_
          refine ARun.step rfl (call_stepLZ rfl (hn rfl) rfl ywCo186 rfl rfl rfl rfl (.cons rfl (.one (.v _)) (.nil)) hl12 rfl rfl) ?_
          refine ARun.step rfl (step_field_b rfl (hn rfl) rfl ywFo74_7 rfl (by exact List.cons_ne_nil _ _)) ?_
          refine ARun.step rfl (step_store_p (bs := [_, _, _, _, _, _, _, _]) rfl rfl ywCs9 rfl rfl rfl rfl rfl rfl rfl) ?_
          refine ARun.nil ?_
          exact hQ.out
        refine E.mono (fun Q h => AWp.seq h) ?_
        obtain ⟨q13, k13, ⟨ha13, hb13, hc13⟩, hl13, hz13⟩ := l41pick_if (0 < l.length) b (p + 1 + 1 + 1 + 1 + 1 + 1 + 1) (4) (by first | assumption | omega | decide | (simp only [List.length_append, List.length_cons, List.length_nil, List.length_take, List.length_drop]; omega)) (by first | assumption | omega | decide | (simp only [List.length_append, List.length_cons, List.length_nil, List.length_take, List.length_drop]; omega)) (by first | assumption | omega | decide | (simp only [List.length_append, List.length_cons, List.length_nil, List.length_take, List.length_drop]; omega)) (by first | assumption | omega | decide | (simp only [List.length_append, List.length_cons, List.length_nil, List.length_take, List.length_drop]; omega))
        apply E.reg
        · intro Q hQ
          refine AWp.seq (AWp.region ?_)
          refine ARun.step rfl (step_moveV rfl (hn rfl) rfl rfl) ?_
          refine ARun.step rfl (step_len_f rfl (hn rfl) rfl ywSl22 rfl) ?_
          refine ARun.step rfl (step_gtr rfl (hn rfl) rfl rfl rfl) ?_
          refine ARun.step rfl (step_moveV rfl (hn rfl) rfl rfl) ?_
          refine guardS rfl rfl rfl rfl (hn rfl) (fun g1 g2 => step_moveV rfl (hn rfl) rfl rfl) ?_
          refine guardL rfl rfl rfl rfl (hn rfl) (fun g1 g2 => call_stepLZ rfl (hn rfl) rfl ywCo111 (ev_true rfl (by exact flag2 g1 g2)) rfl rfl rfl (.cons rfl (.one (.v _)) (.nil)) (hl13 (by first | (have := of_decide_eq_true g2; omega) | simpa using g2)) rfl rfl) (fun h => by rw [hz13 (by intro hc; first | (simp only [nrm, Bool.true_and] at h; omega) | (simp [hc] at h; done))]; exact rfl) ?_
          refine guardS rfl rfl rfl rfl (hn rfl) (fun g1 g2 => step_gtr rfl (hn rfl) rfl (ev_true rfl (by exact flag2 g1 g2)) rfl) ?_
          refine ARun.step rfl (step_and rfl (hn rfl) rfl rfl rfl (fun h => (by exact flag1 h))) ?_
          refine ARun.nil ?_
          exact hQ.out
        refine E.cond rfl (fun c5 => ?_) (fun c5 => ?_)
        · try simp only [nrm] at c5
          apply E.reg
          · intro Q hQ
            refine AWp.region ?_
            refine ARun.step rfl (step_moveV rfl (hn rfl) rfl rfl) ?_
            refine ARun.step rfl (step_index_f rfl (hn rfl) rfl ywSl22 rfl rfl (by first | omega | (simp only [List.length_cons, List.length_nil]; omega)) (by first | omega | (simp only [List.length_cons, List.length_nil]; omega))) ?_
            refine ARun.step rfl (step_load_f rfl (hn rfl) rfl ywSc9 rfl (hn rfl) rfl) ?_
            refine ARun.step rfl (step_field_b rfl (hn rfl) rfl ywFo74_6 rfl (by exact List.cons_ne_nil _ _)) ?_
            refine ARun.step rfl (step_store_p (bs := [_, _, _, _, _, _, _, _]) rfl rfl ywCs9 rfl rfl rfl rfl rfl rfl rfl) ?_
            refine ARun.nil ?_
            exact hQ.out
          apply E.reg
          · intro Q hQ
            refine AWp.seq (AWp.region ?_)
            refine ARun.step rfl (step_loadS_b rfl (hn rfl) rfl ywSt74 rfl rfl rfl (by decide)) ?_
            refine ARun.step rfl (step_store_p (bs := [_, _, _, _, _, _, _, _]) rfl rfl ywCs74 rfl rfl rfl rfl rfl rfl rfl) ?_
            refine ARun.nil ?_
            exact hQ.out
          refine E.mono (fun Q h => AWp.ret h) ?_
          apply E.ret (i := (_, Ph.mk _ _ _ _ _ _ _ _))
          · refine ⟨.inr rfl, ⟨6, 8, _, _, _, ywSt74, by decide, rfl, rfl, rfl, rfl, (.cons rfl (.agg (.cons (.sc _ _ rfl) (.cons (.sc _ _ rfl) (.cons (.sc _ _ rfl) (.cons (.sc _ _ rfl) (.cons (.sc _ _ rfl) (.cons (.sc _ _ rfl) (.cons (.sc _ _ rfl) (.cons (.sc _ _ rfl) (.nil _)))))))))) (.nil _)), rfl, ?_⟩, (.refl _)⟩
            refine congrArg PV.agg ?_
            rfl
          · try dsimp only
            all_goals (exact ⟨by omega, by omega⟩)
        · try simp only [nrm] at c5
          refine E.mono (fun Q h => AWp.skip h) ?_
          apply E.reg
          · intro Q hQ
            refine AWp.seq (AWp.region ?_)
            refine ARun.step rfl (step_loadS_b rfl (hn rfl) rfl ywSt74 rfl rfl rfl (by decide)) ?_
            refine ARun.step rfl (step_store_p (bs := [_, _, _, _, _, _, _, _]) rfl rfl ywCs74 rfl rfl rfl rfl rfl rfl rfl) ?_
            refine ARun.nil ?_
            exact hQ.out
          refine E.mono (fun Q h => AWp.ret h) ?_
          apply E.ret (i := (_, Ph.mk _ _ _ _ _ _ _ _))
          · refine ⟨.inr rfl, ⟨6, 8, _, _, _, ywSt74, by decide, rfl, rfl, rfl, rfl, (.cons rfl (.agg (.cons (.sc _ _ rfl) (.cons (.sc _ _ rfl) (.cons (.sc _ _ rfl) (.cons (.sc _ _ rfl) (.cons (.sc _ _ rfl) (.cons (.sc _ _ rfl) (.cons (.sc _ _ rfl) (.cons (.sc _ _ rfl) (.nil _)))))))))) (.nil _)), rfl, ?_⟩, (.refl _)⟩
            refine congrArg PV.agg ?_
            rfl
          · try dsimp only
            all_goals (exact ⟨by omega, by omega⟩)
      · try simp only [nrm] at c4
        refine E.mono (fun Q h => AWp.skip h) ?_
        obtain ⟨_, k14, ⟨rfl, hk14⟩, hl14⟩ := l41pick b (p + 1 + 1 + 1 + 1) (30) (by first | assumption | omega | decide | (simp only [List.length_append, List.length_cons, List.length_nil, List.length_take, List.length_drop]; omega)) (by first | assumption | omega | decide | (simp only [List.length_append, List.length_cons, List.length_nil, List.length_take, List.length_drop]; omega)) (by first | assumption | omega | decide | (simp only [List.length_append, List.length_cons, List.length_nil, List.length_take, List.length_drop]; omega)) (by first | assumption | omega | decide | (simp only [List.length_append, List.length_cons, List.length_nil, List.length_take, List.length_drop]; omega))
        apply E.reg
        · intro Q hQ
          refine AWp.region ?_
          refine ARun.step rfl (step_moveV rfl (hn rfl) rfl rfl) ?_
          refine ARun.step rfl (call_stepLZ rfl (hn rfl) rfl ywCo111 rfl rfl rfl rfl (.cons rfl (.one (.v _)) (.nil)) hl14 rfl rfl) ?_
          refine ARun.step rfl (step_addN (m := 1) rfl (hn rfl) rfl rfl rfl (by omega)) ?_
          refine ARun.step rfl (step_field_b rfl (hn rfl) rfl ywFo74_4 rfl (by exact List.cons_ne_nil _ _)) ?_
          refine ARun.step rfl (step_store_p (bs := [_, _, _, _, _, _, _, _]) rfl rfl ywCs3 rfl rfl rfl rfl rfl rfl rfl) ?_
          refine ARun.nil ?_
          exact hQ.out
        apply E.reg
        · intro Q hQ
          refine AWp.seq (AWp.region ?_)
          refine ARun.step rfl ((step_buildSlice rfl (hn rfl) (ps := [(0, .const _), (1, .const _), (2, .const _)]) rfl ywSl22 rfl rfl (by simp) (by intro q hq; simp only [List.mem_cons, List.not_mem_nil, or_false] at hq; rcases hq with rfl | rfl | rfl <;> exact ⟨rfl, rfl, by intro c hc; cases hc; rfl⟩) rfl).le (Le.toArr (strs [⟨#[103, 111, 111, 100]⟩, ⟨#[115, 97, 118, 101, 100]⟩, ⟨#[115, 99, 114, 97, 112, 112, 101, 100]⟩]) rfl rfl ⟨rfl, rfl, rfl, trivial⟩)) ?_
          refine ARun.step rfl (step_moveV rfl (hn rfl) rfl rfl) ?_
          refine ARun.step rfl (step_append_strs rfl (hn rfl) rfl ywSl22 rfl rfl rfl (.v _) (by first | omega | (simp only [List.length_cons, List.length_nil, List.length_append, List.length_take, List.length_drop]; omega)) (by first | omega | (simp only [List.length_cons, List.length_nil, List.length_append, List.length_take, List.length_drop]; omega))) ?_
          refine ARun.step rfl (step_assignV rfl (hn rfl) rfl rfl) ?_
          refine ARun.nil ?_
          exact hQ.out
        refine E.mono (fun Q h => AWp.le (Le.letGo 54 0 (g := _) rfl (fun _ _ => rfl)) h) ?_
        obtain ⟨_, s15, ⟨rfl, hk15⟩, hl15⟩ := l41of b (p + 1 + 1 + 1 + 1 + 1) (([⟨#[103, 111, 111, 100]⟩, ⟨#[115, 97, 118, 101, 100]⟩, ⟨#[115, 99, 114, 97, 112, 112, 101, 100]⟩] ++ l)) (by first | assumption | omega | decide | (simp only [List.length_append, List.length_cons, List.length_nil, List.length_take, List.length_drop]; omega)) (by first | assumption | omega | decide | (simp only [List.length_append, List.length_cons, List.length_nil, List.length_take, List.length_drop]; omega)) (by first | assumption | omega | decide | (simp only [List.length_append, List.length_cons, List.length_nil, List.length_take, List.length_drop]; omega)) (by first | assumption | omega | decide | (simp only [List.length_append, List.length_cons, List.length_nil, List.length_take, List.length_drop]; omega))
        apply E.reg
        · intro Q hQ
          refine AWp.seq (AWp.region ?_)
          refine ARun.step rfl (step_moveV rfl (hn rfl) rfl rfl) ?_
          refine ARun.step rfl (step_moveV rfl (hn rfl) rfl rfl) ?_
          refine ARun.step rfl (call_stepLZ rfl (hn rfl) rfl ywCo186 rfl rfl rfl rfl (.cons rfl (.one (.v _)) (.nil)) hl15 rfl rfl) ?_
          refine ARun.step rfl (step_field_b rfl (hn rfl) rfl ywFo74_6 rfl (by exact List.cons_ne_nil _ _)) ?_
          refine ARun.step rfl (step_store_p (bs := [_, _, _, _, _, _, _, _]) rfl rfl ywCs9 rfl rfl rfl rfl rfl rfl rfl) ?_
          refine ARun.nil ?_
          exact hQ.out
        obtain ⟨_, s16, ⟨rfl, hk16⟩, hl16⟩ := l41of b (p + 1 + 1 + 1 + 1 + 1 + 1) (([⟨#[103, 111, 111, 100]⟩, ⟨#[115, 97, 118, 101, 100]⟩, ⟨#[115, 99, 114, 97, 112, 112, 101, 100]⟩] ++ l)) (by first | assumption | omega | decide | (simp only [List.length_append, List.length_cons, List.length_nil, List.length_take, List.length_drop]; omega)) (by first | assumption | omega | decide | (simp only [List.length_append, List.length_cons, List.length_nil, List.length_take, List.length_drop]; omega)) (by first | assumption | omega | decide | (simp only [List.length_append, List.length_cons, List.length_nil, List.length_take, List.length_drop]; omega)) (by first | assumption | omega | decide | (simp only [List.length_append, List.length_cons, List.length_nil, List.length_take, List.length_drop]; omega))
        apply E.reg
        · intro Q hQ
          refine AWp.seq (AWp.region ?_)
          refine ARun.step rfl (step_moveV rfl (hn rfl) rfl rfl) ?_
          refine ARun.step rfl (step_moveV rfl (hn rfl) rfl rfl) ?_
          refine ARun.step rfl (call_stepLZ rfl (hn rfl) rfl ywCo186 rfl rfl rfl rfl (.cons rfl (.one (.v _)) (.nil)) hl16 rfl rfl) ?_
          refine ARun.step rfl (step_field_b rfl (hn rfl) rfl ywFo74_7 rfl (by exact List.cons_ne_nil _ _)) ?_
          refine ARun.step rfl (step_store_p (bs := [_, _, _, _, _, _, _, _]) rfl rfl ywCs9 rfl rfl rfl rfl rfl rfl rfl) ?_
          refine ARun.nil ?_
          exact hQ.out
        refine E.mono (fun Q h => AWp.seq h) ?_
        obtain ⟨q17, k17, ⟨ha17, hb17, hc17⟩, hl17, hz17⟩ := l41pick_if (0 < l.length) b (p + 1 + 1 + 1 + 1 + 1 + 1 + 1) (4) (by first | assumption | omega | decide | (simp only [List.length_append, List.length_cons, List.length_nil, List.length_take, List.length_drop]; omega)) (by first | assumption | omega | decide | (simp only [List.length_append, List.length_cons, List.length_nil, List.length_take, List.length_drop]; omega)) (by first | assumption | omega | decide | (simp only [List.length_append, List.length_cons, List.length_nil, List.length_take, List.length_drop]; omega)) (by first | assumption | omega | decide | (simp only [List.length_append, List.length_cons, List.length_nil, List.length_take, List.length_drop]; omega))
        apply E.reg
        · intro Q hQ
          refine AWp.seq (AWp.region ?_)
          refine ARun.step rfl (step_moveV rfl (hn rfl) rfl rfl) ?_
          refine ARun.step rfl (step_len_f rfl (hn rfl) rfl ywSl22 rfl) ?_
          refine ARun.step rfl (step_gtr rfl (hn rfl) rfl rfl rfl) ?_
          refine ARun.step rfl (step_moveV rfl (hn rfl) rfl rfl) ?_
          refine guardS rfl rfl rfl rfl (hn rfl) (fun g1 g2 => step_moveV rfl (hn rfl) rfl rfl) ?_
          refine guardL rfl rfl rfl rfl (hn rfl) (fun g1 g2 => call_stepLZ rfl (hn rfl) rfl ywCo111 (ev_true rfl (by exact flag2 g1 g2)) rfl rfl rfl (.cons rfl (.one (.v _)) (.nil)) (hl17 (by first | (have := of_decide_eq_true g2; omega) | simpa using g2)) rfl rfl) (fun h => by rw [hz17 (by intro hc; first | (simp only [nrm, Bool.true_and] at h; omega) | (simp [hc] at h; done))]; exact rfl) ?_
          refine guardS rfl rfl rfl rfl (hn rfl) (fun g1 g2 => step_gtr rfl (hn rfl) rfl (ev_true rfl (by exact flag2 g1 g2)) rfl) ?_
          refine ARun.step rfl (step_and rfl (hn rfl) rfl rfl rfl (fun h => (by exact flag1 h))) ?_
          refine ARun.nil ?_
          exact hQ.out
        refine E.cond rfl (fun c6 => ?_) (fun c6 => ?_)
        · try simp only [nrm] at c6
          apply E.reg
          · intro Q hQ
            refine AWp.region ?_
            refine ARun.step rfl (step_moveV rfl (hn rfl) rfl rfl) ?_
            refine ARun.step rfl (step_index_f rfl (hn rfl) rfl ywSl22 rfl rfl (by first | omega | (simp only [List.length_cons, List.length_nil]; omega)) (by first | omega | (simp only [List.length_cons, List.length_nil]; omega))) ?_
            refine ARun.step rfl (step_load_f rfl (hn rfl) rfl ywSc9 rfl (hn rfl) rfl) ?_
            refine ARun.step rfl (step_field_b rfl (hn rfl) rfl ywFo74_6 rfl (by exact List.cons_ne_nil _ _)) ?_
            refine ARun.step rfl (step_store_p (bs := [_, _, _, _, _, _, _, _]) rfl rfl ywCs9 rfl rfl rfl rfl rfl rfl rfl) ?_
            refine ARun.nil ?_
            exact hQ.out
          apply E.reg
          · intro Q hQ
            refine AWp.seq (AWp.region ?_)
            refine ARun.step rfl (step_loadS_b rfl (hn rfl) rfl ywSt74 rfl rfl rfl (by decide)) ?_
            refine ARun.step rfl (step_store_p (bs := [_, _, _, _, _, _, _, _]) rfl rfl ywCs74 rfl rfl rfl rfl rfl rfl rfl) ?_
            refine ARun.nil ?_
            exact hQ.out
          refine E.mono (fun Q h => AWp.ret h) ?_
          apply E.ret (i := (_, Ph.mk _ _ _ _ _ _ _ _))
          · refine ⟨.inr rfl, ⟨6, 8, _, _, _, ywSt74, by decide, rfl, rfl, rfl, rfl, (.cons rfl (.agg (.cons (.sc _ _ rfl) (.cons (.sc _ _ rfl) (.cons (.sc _ _ rfl) (.cons (.sc _ _ rfl) (.cons (.sc _ _ rfl) (.cons (.sc _ _ rfl) (.cons (.sc _ _ rfl) (.cons (.sc _ _ rfl) (.nil _)))))))))) (.nil _)), rfl, ?_⟩, (.refl _)⟩
            refine congrArg PV.agg ?_
            rfl
          · try dsimp only
            all_goals (exact ⟨by omega, by omega⟩)
        · try simp only [nrm] at c6
          refine E.mono (fun Q h => AWp.skip h) ?_
          apply E.reg
          · intro Q hQ
            refine AWp.seq (AWp.region ?_)
            refine ARun.step rfl (step_loadS_b rfl (hn rfl) rfl ywSt74 rfl rfl rfl (by decide)) ?_
            refine ARun.step rfl (step_store_p (bs := [_, _, _, _, _, _, _, _]) rfl rfl ywCs74 rfl rfl rfl rfl rfl rfl rfl) ?_
            refine ARun.nil ?_
            exact hQ.out
          refine E.mono (fun Q h => AWp.ret h) ?_
          apply E.ret (i := (_, Ph.mk _ _ _ _ _ _ _ _))
          · refine ⟨.inr rfl, ⟨6, 8, _, _, _, ywSt74, by decide, rfl, rfl, rfl, rfl, (.cons rfl (.agg (.cons (.sc _ _ rfl) (.cons (.sc _ _ rfl) (.cons (.sc _ _ rfl) (.cons (.sc _ _ rfl) (.cons (.sc _ _ rfl) (.cons (.sc _ _ rfl) (.cons (.sc _ _ rfl) (.cons (.sc _ _ rfl) (.nil _)))))))))) (.nil _)), rfl, ?_⟩, (.refl _)⟩
            refine congrArg PV.agg ?_
            rfl
          · try dsimp only
            all_goals (exact ⟨by omega, by omega⟩)
    · try simp only [nrm] at c3
      apply E.reg
      · intro Q hQ
        refine AWp.seq (AWp.region ?_)
        refine ARun.step rfl (step_eql rfl (hn rfl) rfl rfl rfl) ?_
        refine ARun.step rfl (step_assignV rfl (hn rfl) rfl rfl) ?_
        refine ARun.nil ?_
        exact hQ.out
      refine E.cond rfl (fun c7 => ?_) (fun c7 => ?_)
      · try simp only [nrm] at c7
        obtain ⟨_, k18, ⟨rfl, hk18⟩, hl18⟩ := l41pick b (p + 1 + 1 + 1) (1 + k3) (by first | assumption | omega | decide | (simp only [List.length_append, List.length_cons, List.length_nil, List.length_take, List.length_drop]; omega)) (by first | assumption | omega | decide | (simp only [List.length_append, List.length_cons, List.length_nil, List.length_take, List.length_drop]; omega)) (by first | assumption | omega | decide | (simp only [List.length_append, List.length_cons, List.length_nil, List.length_take, List.length_drop]; omega)) (by first | assumption | omega | decide | (simp only [List.length_append, List.length_cons, List.length_nil, List.length_take, List.length_drop]; omega))
        apply E.reg
        · intro Q hQ
          refine AWp.region ?_
          refine ARun.step rfl (step_moveV rfl (hn rfl) rfl rfl) ?_
          refine ARun.step rfl (step_field_b rfl (hn rfl) rfl ywFo74_5 rfl (by exact List.cons_ne_nil _ _)) ?_
          refine ARun.step rfl (step_load_b rfl (hn rfl) rfl ywSc3 rfl rfl) ?_
          refine ARun.step rfl (call_stepLZ rfl (hn rfl) rfl ywCo111 rfl rfl rfl rfl (.cons rfl (.one (.v _)) (.nil)) hl18 rfl rfl) ?_
          refine ARun.step rfl (step_addN (m := 1) rfl (hn rfl) rfl rfl rfl (by omega)) ?_
          refine ARun.step rfl (step_field_b rfl (hn rfl) rfl ywFo74_4 rfl (by exact List.cons_ne_nil _ _)) ?_
          refine ARun.step rfl (step_store_p (bs := [_, _, _, _, _, _, _, _]) rfl rfl ywCs3 rfl rfl rfl rfl rfl rfl rfl) ?_
          refine ARun.nil ?_
          exact hQ.out
        apply E.reg
        · intro Q hQ
          refine AWp.seq (AWp.region ?_)
          refine ARun.step rfl ((step_buildSlice rfl (hn rfl) (ps := [(0, .const _), (1, .const _), (2, .const _)]) rfl ywSl22 rfl rfl (by simp) (by intro q hq; simp only [List.mem_cons, List.not_mem_nil, or_false] at hq; rcases hq with rfl | rfl | rfl <;> exact ⟨rfl, rfl, by intro c hc; cases hc; rfl⟩) rfl).le (Le.toArr (strs [⟨#[103, 111, 111, 100]⟩, ⟨#[115, 97, 118, 101, 100]⟩, ⟨#[115, 99, 114, 97, 112, 112, 101, 100]⟩]) rfl rfl ⟨rfl, rfl, rfl, trivial⟩)) ?_
          refine ARun.step rfl (step_moveV rfl (hn rfl) rfl rfl) ?_
          refine ARun.step rfl (step_append_strs rfl (hn rfl) rfl ywSl22 rfl rfl rfl (.v _) (by first | omega | (simp only [List.length_cons, List.length_nil, List.length_append, List.length_take, List.length_drop]; omega)) (by first | omega | (simp only [List.length_cons, List.length_nil, List.length_append, List.length_take, List.length_drop]; omega))) ?_
          refine ARun.step rfl (step_assignV rfl (hn rfl) rfl rfl) ?_
          refine ARun.nil ?_
          exact hQ.out
        refine E.mono (fun Q h => AWp.le (Le.letGo 54 0 (g := _) rfl (fun _ _ => rfl)) h) ?_
        obtain ⟨_, s19, ⟨rfl, hk19⟩, hl19⟩ := l41of b (p + 1 + 1 + 1 + 1) (([⟨#[103, 111, 111, 100]⟩, ⟨#[115, 97, 118, 101, 100]⟩, ⟨#[115, 99, 114, 97, 112, 112, 101, 100]⟩] ++ l)) (by first | assumption | omega | decide | (simp only [List.length_append, List.length_cons, List.length_nil, List.length_take, List.length_drop]; omega)) (by first | assumption | omega | decide | (simp only [List.length_append, List.length_cons, List.length_nil, List.length_take, List.length_drop]; omega)) (by first | assumption | omega | decide | (simp only [List.length_append, List.length_cons, List.length_nil, List.length_take, List.length_drop]; omega)) (by first | assumption | omega | decide | (simp only [List.length_append, List.length_cons, List.length_nil, List.length_take, List.length_drop]; omega))
        apply E.reg
        · intro Q hQ
          refine AWp.seq (AWp.region ?_)
          refine ARun.step rfl (step_moveV rfl (hn rfl) rfl rfl) ?_
          refine ARun.step rfl (step_moveV rfl (hn rfl) rfl rfl) ?_
          refine ARun.step rfl (call_stepLZ rfl (hn rfl) rfl ywCo186 rfl rfl rfl rfl (.cons rfl (.one (.v _)) (.nil)) hl19 rfl rfl) ?_
          refine ARun.step rfl (step_field_b rfl (hn rfl) rfl ywFo74_6 rfl (by exact List.cons_ne_nil _ _)) ?_
          refine ARun.step rfl (step_store_p (bs := [_, _, _, _, _, _, _, _]) rfl rfl ywCs9 rfl rfl rfl rfl rfl rfl rfl) ?_
          refine ARun.nil ?_
          exact hQ.out
        obtain ⟨_, s20, ⟨rfl, hk20⟩, hl20⟩ := l41of b (p + 1 + 1 + 1 + 1 + 1) (([⟨#[103, 111, 111, 100]⟩, ⟨#[115, 97, 118, 101, 100]⟩, ⟨#[115, 99, 114, 97, 112, 112, 101, 100]⟩] ++ l)) (by first | assumption | omega | decide | (simp only [List.length_append, List.length_cons, List.length_nil, List.length_take, List.length_drop]; omega)) (by first | assumption | omega | decide | (simp only [List.length_append, List.length_cons, List.length_nil, List.length_take, List.length_drop]; omega)) (by first | assumption | omega | decide | (simp only [List.length_append, List.length_cons, List.length_nil, List.length_take, List.length_drop]; omega)) (by first | assumption | omega | decide | (simp only [List.length_append, List.length_cons, List.length_nil, List.length_take, List.length_drop]; omega))
        apply E.reg
        · intro Q hQ
          refine AWp.seq (AWp.region ?_)
          refine ARun.step rfl (step_moveV rfl (hn rfl) rfl rfl) ?_
          refine ARun.step rfl (step_moveV rfl (hn rfl) rfl rfl) ?_
          refine ARun.step rfl (call_stepLZ rfl (hn rfl) rfl ywCo186 rfl rfl rfl rfl (.cons rfl (.one (.v _)) (.nil)) hl20 rfl rfl) ?_
          refine ARun.step rfl (step_field_b rfl (hn rfl) rfl ywFo74_7 rfl (by exact List.cons_ne_nil _ _)) ?_
          refine ARun.step rfl (step_store_p (bs := [_, _, _, _, _, _, _, _]) rfl rfl ywCs9 rfl rfl rfl rfl rfl rfl rfl) ?_
          refine ARun.nil ?_
          exact hQ.out
        refine E.mono (fun Q h => AWp.seq h) ?_
        obtain ⟨q21, k21, ⟨ha21, hb21, hc21⟩, hl21, hz21⟩ := l41pick_if (0 < l.length) b (p + 1 + 1 + 1 + 1 + 1 + 1) (4) (by first | assumption | omega | decide | (simp only [List.length_append, List.length_cons, List.length_nil, List.length_take, List.length_drop]; omega)) (by first | assumption | omega | decide | (simp only [List.length_append, List.length_cons, List.length_nil, List.length_take, List.length_drop]; omega)) (by first | assumption | omega | decide | (simp only [List.length_append, List.length_cons, List.length_nil, List.length_take, List.length_drop]; omega)) (by first | assumption | omega | decide | (simp only [List.length_append, List.length_cons, List.length_nil, List.length_take, List.length_drop]; omega))
        apply E.reg
        · intro Q hQ
          refine AWp.seq (AWp.region ?_)
          refine ARun.step rfl (step_moveV rfl (hn rfl) rfl rfl) ?_
          refine ARun.step rfl (step_len_f rfl (hn rfl) rfl ywSl22 rfl) ?_
          refine ARun.step rfl (step_gtr rfl (hn rfl) rfl rfl rfl) ?_
          refine ARun.step rfl (step_moveV rfl (hn rfl) rfl rfl) ?_
          refine guardS rfl rfl rfl rfl (hn rfl) (fun g1 g2 => step_moveV rfl (hn rfl) rfl rfl) ?_
          refine guardL rfl rfl rfl rfl (hn rfl) (fun g1 g2 => call_stepLZ rfl (hn rfl) rfl ywCo111 (ev_true rfl (by exact flag2 g1 g2)) rfl rfl rfl (.cons rfl (.one (.v _)) (.nil)) (hl21 (by first | (have := of_decide_eq_true g2; omega) | simpa using g2)) rfl rfl) (fun h => by rw [hz21 (by intro hc; first | (simp only [nrm, Bool.true_and] at h; omega) | (simp [hc] at h; done))]; exact rfl) ?_
          refine guardS rfl rfl rfl rfl (hn rfl) (fun g1 g2 => step_gtr rfl (hn rfl) rfl (ev_true rfl (by exact flag2 g1 g2)) rfl) ?_
          refine ARun.step rfl (step_and rfl (hn rfl) rfl rfl rfl (fun h => (by exact flag1 h))) ?_
          refine ARun.nil ?_
          exact hQ.out
        refine E.cond rfl (fun c8 => ?_) (fun c8 => ?_)
        · try simp only [nrm] at c8
          apply E.reg
          · intro Q hQ
            refine AWp.region ?_
            refine ARun.step rfl (step_moveV rfl (hn rfl) rfl rfl) ?_
            refine ARun.step rfl (step_index_f rfl (hn rfl) rfl ywSl22 rfl rfl (by first | omega | (simp only [List.length_cons, List.length_nil]; omega)) (by first | omega | (simp only [List.length_cons, List.length_nil]; omega))) ?_
            refine ARun.step rfl (step_load_f rfl (hn rfl) rfl ywSc9 rfl (hn rfl) rfl) ?_
            refine ARun.step rfl (step_field_b rfl (hn rfl) rfl ywFo74_6 rfl (by exact List.cons_ne_nil _ _)) ?_
            refine ARun.step rfl (step_store_p (bs := [_, _, _, _, _, _, _, _]) rfl rfl ywCs9 rfl rfl rfl rfl rfl rfl rfl) ?_
            refine ARun.nil ?_
            exact hQ.out
          apply E.reg
          · intro Q hQ
            refine AWp.seq (AWp.region ?_)
            refine ARun.step rfl (step_loadS_b rfl (hn rfl) rfl ywSt74 rfl rfl rfl (by decide)) ?_
            refine ARun.step rfl (step_store_p (bs := [_, _, _, _, _, _, _, _]) rfl rfl ywCs74 rfl rfl rfl rfl rfl rfl rfl) ?_
            refine ARun.nil ?_
            exact hQ.out
          refine E.mono (fun Q h => AWp.ret h) ?_
          apply E.ret (i := (_, Ph.mk _ _ _ _ _ _ _ _))
          · refine ⟨.inr rfl, ⟨6, 8, _, _, _, ywSt74, by decide, rfl, rfl, rfl, rfl, (.cons rfl (.agg (.cons (.sc _ _ rfl) (.cons (.sc _ _ rfl) (.cons (.sc _ _ rfl) (.cons (.sc _ _ rfl) (.cons (.sc _ _ rfl) (.cons (.sc _ _ rfl) (.cons (.sc _ _ rfl) (.cons (.sc _ _ rfl) (.nil _)))))))))) (.nil _)), rfl, ?_⟩, (.refl _)⟩
            refine congrArg PV.agg ?_
            rfl
          · try dsimp only
            all_goals (exact ⟨by omega, by omega⟩)
        · try simp only [nrm] at c8
          refine E.mono (fun Q h => AWp.skip h) ?_
          apply E.reg
          · intro Q hQ
            refine AWp.seq (AWp.region ?_)
            refine ARun.step rfl (step_loadS_b rfl (hn rfl) rfl ywSt74 rfl rfl rfl (by decide)) ?_
            refine ARun.step rfl (step_store_p (bs := [_, _, _, _, _, _, _, _]) rfl rfl ywCs74 rfl rfl rfl rfl rfl rfl rfl) ?_
            refine ARun.nil ?_
            exact hQ.out
          refine E.mono (fun Q h => AWp.ret h) ?_
          apply E.ret (i := (_, Ph.mk _ _ _ _ _ _ _ _))
          · refine ⟨.inr rfl, ⟨6, 8, _, _, _, ywSt74, by decide, rfl, rfl, rfl, rfl, (.cons rfl (.agg (.cons (.sc _ _ rfl) (.cons (.sc _ _ rfl) (.cons (.sc _ _ rfl) (.cons (.sc _ _ rfl) (.cons (.sc _ _ rfl) (.cons (.sc _ _ rfl) (.cons (.sc _ _ rfl) (.cons (.sc _ _ rfl) (.nil _)))))))))) (.nil _)), rfl, ?_⟩, (.refl _)⟩
            refine congrArg PV.agg ?_
            rfl
          · try dsimp only
            all_goals (exact ⟨by omega, by omega⟩)
      · try simp only [nrm] at c7
        refine E.mono (fun Q h => AWp.skip h) ?_
        apply E.reg
        · intro Q hQ
          refine AWp.seq (AWp.region ?_)
          refine ARun.step rfl ((step_buildSlice rfl (hn rfl) (ps := [(0, .const _), (1, .const _), (2, .const _)]) rfl ywSl22 rfl rfl (by simp) (by intro q hq; simp only [List.mem_cons, List.not_mem_nil, or_false] at hq; rcases hq with rfl | rfl | rfl <;> exact ⟨rfl, rfl, by intro c hc; cases hc; rfl⟩) rfl).le (Le.toArr (strs [⟨#[103, 111, 111, 100]⟩, ⟨#[115, 97, 118, 101, 100]⟩, ⟨#[115, 99, 114, 97, 112, 112, 101, 100]⟩]) rfl rfl ⟨rfl, rfl, rfl, trivial⟩)) ?_
          refine ARun.step rfl (step_moveV rfl (hn rfl) rfl rfl) ?_
          refine ARun.step rfl (step_append_strs rfl (hn rfl) rfl ywSl22 rfl rfl rfl (.v _) (by first | omega | (simp only [List.length_cons, List.length_nil, List.length_append, List.length_take, List.length_drop]; omega)) (by first | omega | (simp only [List.length_cons, List.length_nil, List.length_append, List.length_take, List.length_drop]; omega))) ?_
          refine ARun.step rfl (step_assignV rfl (hn rfl) rfl rfl) ?_
          refine ARun.nil ?_
          exact hQ.out
        refine E.mono (fun Q h => AWp.le (Le.letGo 54 0 (g := _) rfl (fun _ _ => rfl)) h) ?_
        obtain ⟨_, s22, ⟨rfl, hk22⟩, hl22⟩ := l41of b (p + 1 + 1 + 1) (([⟨#[103, 111, 111, 100]⟩, ⟨#[115, 97, 118, 101, 100]⟩, ⟨#[115, 99, 114, 97, 112, 112, 101, 100]⟩] ++ l)) (by first | assumption | omega | decide | (simp only [List.length_append, List.length_cons, List.length_nil, List.length_take, List.length_drop]; omega)) (by first | assumption | omega | decide | (simp only [List.length_append, List.length_cons, List.length_nil, List.length_take, List.length_drop]; omega)) (by first | assumption | omega | decide | (simp only [List.length_append, List.length_cons, List.length_nil, List.length_take, List.length_drop]; omega)) (by first | assumption | omega | decide | (simp only [List.length_append, List.length_cons, List.length_nil, List.length_take, List.length_drop]; omega))
        apply E.reg
        · intro Q hQ
          refine AWp.seq (AWp.region ?_)
          refine ARun.step rfl (step_moveV rfl (hn rfl) rfl rfl) ?_
          refine ARun.step rfl (step_moveV rfl (hn rfl) rfl rfl) ?_
          refine ARun.step rfl (call_stepLZ rfl (hn rfl) rfl ywCo186 rfl rfl rfl rfl (.cons rfl (.one (.v _)) (.nil)) hl22 rfl rfl) ?_
          refine ARun.step rfl (step_field_b rfl (hn rfl) rfl ywFo74_6 rfl (by exact List.cons_ne_nil _ _)) ?_
          refine ARun.step rfl (step_store_p (bs := [_, _, _, _, _, _, _, _]) rfl rfl ywCs9 rfl rfl rfl rfl rfl rfl rfl) ?_
          refine ARun.nil ?_
          exact hQ.out
        obtain ⟨_, s23, ⟨rfl, hk23⟩, hl23⟩ := l41of b (p + 1 + 1 + 1 + 1) (([⟨#[103, 111, 111, 100]⟩, ⟨#[115, 97, 118, 101, 100]⟩, ⟨#[115, 99, 114, 97, 112, 112, 101, 100]⟩] ++ l)) (by first | assumption | omega | decide | (simp only [List.length_append, List.length_cons, List.length_nil, List.length_take, List.length_drop]; omega)) (by first | assumption | omega | decide | (simp only [List.length_append, List.length_cons, List.length_nil, List.length_take, List.length_drop]; omega)) (by first | assumption | omega | decide | (simp only [List.length_append, List.length_cons, List.length_nil, List.length_take, List.length_drop]; omega)) (by first | assumption | omega | decide | (simp only [List.length_append, List.length_cons, List.length_nil, List.length_take, List.length_drop]; omega))
        apply E.reg
        · intro Q hQ
          refine AWp.seq (AWp.region ?_)
          refine ARun.step rfl (step_moveV rfl (hn rfl) rfl rfl) ?_
          refine ARun.step rfl (step_moveV rfl (hn rfl) rfl rfl) ?_
          refine ARun.step rfl (call_stepLZ rfl (hn rfl) rfl ywCo186 rfl rfl rfl rfl (.cons rfl (.one (.v _)) (.nil)) hl23 rfl rfl) ?_
          refine ARun.step rfl (step_field_b rfl (hn rfl) rfl ywFo74_7 rfl (by exact List.cons_ne_nil _ _)) ?_
          refine ARun.step rfl (step_store_p (bs := [_, _, _, _, _, _, _, _]) rfl rfl ywCs9 rfl rfl rfl rfl rfl rfl rfl) ?_
          refine ARun.nil ?_
          exact hQ.out
        refine E.mono (fun Q h => AWp.seq h) ?_
        obtain ⟨q24, k24, ⟨ha24, hb24, hc24⟩, hl24, hz24⟩ := l41pick_if (0 < l.length) b (p + 1 + 1 + 1 + 1 + 1) (4) (by first | assumption | omega | decide | (simp only [List.length_append, List.length_cons, List.length_nil, List.length_take, List.length_drop]; omega)) (by first | assumption | omega | decide | (simp only [List.length_append, List.length_cons, List.length_nil, List.length_take, List.length_drop]; omega)) (by first | assumption | omega | decide | (simp only [List.length_append, List.length_cons, List.length_nil, List.length_take, List.length_drop]; omega)) (by first | assumption | omega | decide | (simp only [List.length_append, List.length_cons, List.length_nil, List.length_take, List.length_drop]; omega))
        apply E.reg
        · intro Q hQ
          refine AWp.seq (AWp.region ?_)
          refine ARun.step rfl (step_moveV rfl (hn rfl) rfl rfl) ?_
          refine ARun.step rfl (step_len_f rfl (hn rfl) rfl ywSl22 rfl) ?_
          refine ARun.step rfl (step_gtr rfl (hn rfl) rfl rfl rfl) ?_
          refine ARun.step rfl (step_moveV rfl (hn rfl) rfl rfl) ?_
          refine guardS rfl rfl rfl rfl (hn rfl) (fun g1 g2 => step_moveV rfl (hn rfl) rfl rfl) ?_
          refine guardL rfl rfl rfl rfl (hn rfl) (fun g1 g2 => call_stepLZ rfl (hn rfl) rfl ywCo111 (ev_true rfl (by exact flag2 g1 g2)) rfl rfl rfl (.cons rfl (.one (.v _)) (.nil)) (hl24 (by first | (have := of_decide_eq_true g2; omega) | simpa using g2)) rfl rfl) (fun h => by rw [hz24 (by intro hc; first | (simp only [nrm, Bool.true_and] at h; omega) | (simp [hc] at h; done))]; exact rfl) ?_
          refine guardS rfl rfl rfl rfl (hn rfl) (fun g1 g2 => step_gtr rfl (hn rfl) rfl (ev_true rfl (by exact flag2 g1 g2)) rfl) ?_
          refine ARun.step rfl (step_and rfl (hn rfl) rfl rfl rfl (fun h => (by exact flag1 h))) ?_
          refine ARun.nil ?_
          exact hQ.out
        refine E.cond rfl (fun c9 => ?_) (fun c9 => ?_)
        · try simp only [nrm] at c9
          apply E.reg
          · intro Q hQ
            refine AWp.region ?_
            refine ARun.step rfl (step_moveV rfl (hn rfl) rfl rfl) ?_
            refine ARun.step rfl (step_index_f rfl (hn rfl) rfl ywSl22 rfl rfl (by first | omega | (simp only [List.length_cons, List.length_nil]; omega)) (by first | omega | (simp only [List.length_cons, List.length_nil]; omega))) ?_
            refine ARun.step rfl (step_load_f rfl (hn rfl) rfl ywSc9 rfl (hn rfl) rfl) ?_
            refine ARun.step rfl (step_field_b rfl (hn rfl) rfl ywFo74_6 rfl (by exact List.cons_ne_nil _ _)) ?_
            refine ARun.step rfl (step_store_p (bs := [_, _, _, _, _, _, _, _]) rfl rfl ywCs9 rfl rfl rfl rfl rfl rfl rfl) ?_
            refine ARun.nil ?_
            exact hQ.out
          apply E.reg
          · intro Q hQ
            refine AWp.seq (AWp.region ?_)
            refine ARun.step rfl (step_loadS_b rfl (hn rfl) rfl ywSt74 rfl rfl rfl (by decide)) ?_
            refine ARun.step rfl (step_store_p (bs := [_, _, _, _, _, _, _, _]) rfl rfl ywCs74 rfl rfl rfl rfl rfl rfl rfl) ?_
            refine ARun.nil ?_
            exact hQ.out
          refine E.mono (fun Q h => AWp.ret h) ?_
          apply E.ret (i := (_, Ph.mk _ _ _ _ _ _ _ _))
          · refine ⟨.inr rfl, ⟨6, 8, _, _, _, ywSt74, by decide, rfl, rfl, rfl, rfl, (.cons rfl (.agg (.cons (.sc _ _ rfl) (.cons (.sc _ _ rfl) (.cons (.sc _ _ rfl) (.cons (.sc _ _ rfl) (.cons (.sc _ _ rfl) (.cons (.sc _ _ rfl) (.cons (.sc _ _ rfl) (.cons (.sc _ _ rfl) (.nil _)))))))))) (.nil _)), rfl, ?_⟩, (.refl _)⟩
            refine congrArg PV.agg ?_
            rfl
          · try dsimp only
            all_goals (exact ⟨by omega, by omega⟩)
        · try simp only [nrm] at c9
          refine E.mono (fun Q h => AWp.skip h) ?_
          apply E.reg
          · intro Q hQ
            refine AWp.seq (AWp.region ?_)
            refine ARun.step rfl (step_loadS_b rfl (hn rfl) rfl ywSt74 rfl rfl rfl (by decide)) ?_
            refine ARun.step rfl (step_store_p (bs := [_, _, _, _, _, _, _, _]) rfl rfl ywCs74 rfl rfl rfl rfl rfl rfl rfl) ?_
            refine ARun.nil ?_
            exact hQ.out
          refine E.mono (fun Q h => AWp.ret h) ?_
          apply E.ret (i := (_, Ph.mk _ _ _ _ _ _ _ _))
          · refine ⟨.inr rfl, ⟨6, 8, _, _, _, ywSt74, by decide, rfl, rfl, rfl, rfl, (.cons rfl (.agg (.cons (.sc _ _ rfl) (.cons (.sc _ _ rfl) (.cons (.sc _ _ rfl) (.cons (.sc _ _ rfl) (.cons (.sc _ _ rfl) (.cons (.sc _ _ rfl) (.cons (.sc _ _ rfl) (.cons (.sc _ _ rfl) (.nil _)))))))))) (.nil _)), rfl, ?_⟩, (.refl _)⟩
            refine congrArg PV.agg ?_
            rfl
          · try dsimp only
            all_goals (exact ⟨by omega, by omega⟩)
set_option maxHeartbeats 1000000 in
theorem l45Recipe (b : List UInt8) (p : Nat) (hb : b.length ≤ 2000) (hp : p ≤ 100000000) : ∃ (q : Nat) (x : List Ph), (p ≤ q ∧ q ≤ p + 1000 ∧ 1 ≤ x.length ∧ x.length ≤ 12) ∧ LSpec Try.prog 139 138 (rdR 5 b p) (rdR 5 b q) [] (.one (.fz (phs 74 x))) := by
  suffices key : ∃ i : Nat × List Ph, (p ≤ i.1 ∧ i.1 ≤ p + 1000 ∧ 1 ≤ i.2.length ∧ i.2.length ≤ 12) ∧ LSpec Try.prog 139 138 (rdR 5 b p) (rdR 5 b i.1) [] (.one (.fz (phs 74 i.2))) from (by obtain ⟨i, g, h⟩ := key; exact ⟨i.1, i.2, g, h⟩)
  refine LSpec.ex Try.func139 rfl [2] rfl 52 rfl rfl rfl rfl (fun i : Nat × List Ph => rdR 5 b i.1) (fun i : Nat × List Ph => (.one (.fz (phs 74 i.2)))) (fun i : Nat × List Ph => p ≤ i.1 ∧ i.1 ≤ p + 1000 ∧ 1 ≤ i.2.length ∧ i.2.length ≤ 12) (fun i => rfl) (fun i => rfl) ?_
  have hnm : nms.length = 8 := rfl
  apply E.reg
  · intro Q hQ
    refine AWp.seq (AWp.region ?_)
    refine ARun.step rfl (step_assignV rfl (hn rfl) rfl rfl) ?_
    refine ARun.nil ?_
    exact hQ.out
  apply E.reg
  · intro Q hQ
    refine AWp.seq (AWp.region ?_)
    refine ARun.step rfl (call_stepZ rfl (hn rfl) rfl ywCo174 (.nil) (l45Names ) rfl rfl) ?_
    refine ARun.step rfl (step_assignV rfl (hn rfl) rfl rfl) ?_
    refine ARun.nil ?_
    exact hQ.out
  obtain ⟨_, k1, ⟨rfl, hk1⟩, hl1⟩ := l41pick b (p) 8 (by first | assumption | omega | decide | (simp only [List.length_append, List.length_cons, List.length_nil, List.length_take, List.length_drop]; omega)) (by first | assumption | omega | decide | (simp only [List.length_append, List.length_cons, List.length_nil, List.length_take, List.length_drop]; omega)) (by first | assumption | omega | decide | (simp only [List.length_append, List.length_cons, List.length_nil, List.length_take, List.length_drop]; omega)) (by first | assumption | omega | decide | (simp only [List.length_append, List.length_cons, List.length_nil, List.length_take, List.length_drop]; omega))
  apply E.reg
  · intro Q hQ
    refine AWp.seq (AWp.region ?_)
    refine ARun.step rfl (step_moveV rfl (hn rfl) rfl rfl) ?_
    refine ARun.step rfl (step_moveV rfl (hn rfl) rfl rfl) ?_
    refine ARun.step rfl (step_len_f rfl (hn rfl) rfl ywSl22 rfl) ?_
    refine ARun.step rfl (call_stepLZ rfl (hn rfl) rfl ywCo111 rfl rfl rfl rfl (.cons rfl (.one (.v _)) (.nil)) hl1 rfl rfl) ?_
    refine ARun.step rfl (step_addN (m := 1) rfl (hn rfl) rfl rfl rfl (by omega)) ?_
    refine ARun.step rfl (step_assignV rfl (hn rfl) rfl rfl) ?_
    refine ARun.nil ?_
    exact hQ.out
  apply E.reg
  · intro Q hQ
    refine AWp.seq (AWp.region ?_)
    refine ARun.step rfl (step_buildSlice rfl (hn rfl) (ps := []) rfl ywSl62 rfl rfl (by simp) (by intro q hq; cases hq) rfl) ?_
    refine ARun.step rfl (step_assignV rfl (hn rfl) rfl rfl) ?_
    refine ARun.nil ?_
    exact hQ.out
  refine E.mono (fun Q h => AWp.seq h) ?_
  apply E.reg
  · intro Q hQ
    refine AWp.seq (AWp.region ?_)
    refine ARun.step rfl (step_assignV rfl (hn rfl) rfl rfl) ?_
    refine ARun.nil ?_
    exact hQ.out
  refine E.mono (fun Q h => AWp.block h) ?_
  refine E.loop (fun x : Nat × List Ph × Nat => mkAS 52 [(0, ⟨true, .one (.eptr ⟨.arr 1000000 0, []⟩ 0 0)⟩), (3, ⟨true, .one (.v (strs nms))⟩), (4, ⟨true, .one (.v (.int .i64 (1 + k1 : Nat)))⟩), (5, ⟨true, .one (.ref ⟨.arr 14 0, []⟩)⟩), (6, ⟨true, .one (.v (.int .i64 (x.1 : Nat)))⟩)] [] [(14, 0, phs 74 x.2.1), (1000000, 0, ptT 138 (rdR 5 b x.2.2))]) (fun x => x.1 ≤ 1 + k1 ∧ x.2.1.length = x.1 ∧ p ≤ x.2.2 ∧ x.2.2 ≤ p + 1 + 20 * x.1) (fun x => 1 + k1 - x.1) (0, [], p + 1) ?_ (Le.forgetR rfl ⟨rfl, rfl, rfl, rfl, rfl, trivial⟩ trivial ⟨.rows (fun i hi => absurd hi (Nat.not_lt_zero i)), .refl _, trivial⟩) ?_
  · try dsimp only
    exact ⟨by omega, rfl, by omega, by omega⟩
  rintro x ⟨hi, hlen, hpa, hpb⟩ ih1
  refine E.mono (fun Q h => AWp.seq h) ?_
  apply E.reg
  · intro Q hQ
    refine AWp.seq (AWp.region ?_)
    refine ARun.step rfl (step_moveV rfl (hn rfl) rfl rfl) ?_
    refine ARun.step rfl (step_moveV rfl (hn rfl) rfl rfl) ?_
    refine ARun.step rfl (step_lss rfl (hn rfl) rfl rfl rfl) ?_
    refine ARun.nil ?_
    exact hQ.out
  refine E.cond rfl (fun c1 => ?_) (fun c1 => ?_)
  · try simp only [nrm] at c1
    refine E.mono (fun Q h => AWp.skip h) ?_
    refine E.mono (fun Q h => AWp.seq h) ?_
    refine E.mono (fun Q h => AWp.block h) ?_
    obtain ⟨q2, x2, ⟨hqa2, hqb2⟩, hl2⟩ := l45Phase b (x.2.2) (nth nms x.1) ((nms.drop (x.1 + 1)).take (1 + k1 - (x.1 + 1))) (by first | assumption | omega | decide | (simp only [List.length_append, List.length_cons, List.length_nil, List.length_take, List.length_drop]; omega)) (by first | assumption | omega | decide | (simp only [List.length_append, List.length_cons, List.length_nil, List.length_take, List.length_drop]; omega)) (by first | assumption | omega | decide | (simp only [List.length_append, List.length_cons, List.length_nil, List.length_take, List.length_drop]; omega))
    apply E.reg
    · intro Q hQ
      refine AWp.drawM [⟨⟨[.s 5], [.s 20], false⟩, none, []⟩, ⟨⟨[.s 0], [.s 21], false⟩, none, []⟩, ⟨⟨[.s 3], [.s 22], false⟩, none, []⟩, ⟨⟨[.s 6], [.s 23], false⟩, none, []⟩, ⟨⟨[.s 22, .s 23], [.s 24], false⟩, none, []⟩, ⟨⟨[.s 24], [.s 25], false⟩, none, []⟩, ⟨⟨[.s 3], [.s 26], false⟩, none, []⟩, ⟨⟨[.s 6], [.s 27], false⟩, none, []⟩, ⟨⟨[.s 27], [.s 28], false⟩, none, []⟩, ⟨⟨[.s 4], [.s 29], false⟩, none, []⟩, ⟨⟨[.s 28, .s 29, .s 26], [.s 30], false⟩, none, []⟩, ⟨⟨[.s 30, .s 25, .s 21, .a 1000000 0], [.s 31, .a 1000000 0], false⟩, none, []⟩, ⟨⟨[.s 31], [.s 32], false⟩, none, []⟩, ⟨⟨[], [], true⟩, none, []⟩, ⟨⟨[], [], true⟩, none, []⟩] ywMo rfl rfl (Le.forgetR (n := 52) (sl := [(0, _), (3, _), (4, _), (5, _), (6, _), (15, _), (16, _), (17, _)]) (bl := []) (al := [(14, 0, _), (1000000, 0, _)]) rfl ⟨rfl, rfl, rfl, rfl, rfl, rfl, rfl, rfl, trivial⟩ trivial ⟨.refl _, .refl _, trivial⟩) rfl ?_
      refine FRun.slot rfl (fun τ hN hr => step_moveV rfl (rdN hN (hn rfl)) rfl (by exact rdS hr rfl rfl)) (by exact rfl) ?_
      refine FRun.slot rfl (fun τ hN hr => step_moveV rfl (rdN hN (hn rfl)) rfl (by exact rdS hr rfl rfl)) (by exact rfl) ?_
      refine FRun.slot rfl (fun τ hN hr => step_moveV rfl (rdN hN (hn rfl)) rfl (by exact rdS hr rfl rfl)) (by exact rfl) ?_
      refine FRun.slot rfl (fun τ hN hr => step_moveV rfl (rdN hN (hn rfl)) rfl (by exact rdS hr rfl rfl)) (by exact rfl) ?_
      refine FRun.slot rfl (fun τ hN hr => step_index_fN rfl (rdN hN (hn rfl)) rfl ywSl22 (by exact rdS hr rfl rfl) (by exact rdS hr rfl rfl) (by first | omega | (simp only [List.length_cons, List.length_nil]; omega))) (by exact rfl) ?_
      refine FRun.slot rfl (fun τ hN hr => step_load_f rfl (rdN hN (hn rfl)) rfl ywSc9 (by exact rdS hr rfl rfl) (hn rfl) rfl) (by exact rfl) ?_
      refine FRun.slot rfl (fun τ hN hr => step_moveV rfl (rdN hN (hn rfl)) rfl (by exact rdS hr rfl rfl)) (by exact rfl) ?_
      refine FRun.slot rfl (fun τ hN hr => step_moveV rfl (rdN hN (hn rfl)) rfl (by exact rdS hr rfl rfl)) (by exact rfl) ?_
      refine FRun.slot rfl (fun τ hN hr => step_addN (n := 1) rfl (rdN hN (hn rfl)) rfl (by exact rdS hr rfl rfl) rfl (by omega)) (by exact rfl) ?_
      refine FRun.slot rfl (fun τ hN hr => step_moveV rfl (rdN hN (hn rfl)) rfl (by exact rdS hr rfl rfl)) (by exact rfl) ?_
      refine FRun.slot rfl (fun τ hN hr => step_sliceF rfl (rdN hN (hn rfl)) rfl ywSl22 (strs ((nms.drop (x.1 + 1)).take (1 + k1 - (x.1 + 1)))) (by exact rdS hr rfl rfl) (.val _ (by exact rdS hr rfl rfl)) (.val _ (by exact rdS hr rfl rfl)) rfl (by rw [List.length_take, List.length_drop]; omega) (by omega) (strs_sub _ _ _)) (by exact rfl) ?_
      refine FRun.lent rfl (fun τ hN hr => call_stepLZ rfl (rdN hN (hn rfl)) rfl ywCo175 (by exact rdS hr rfl rfl) (by exact rdA hr rfl rfl) rfl rfl (.cons (by exact rdS hr rfl rfl) (.one (.v _)) (.cons (by exact rdS hr rfl rfl) (.one (.v _)) (.nil))) hl2 rfl (by exact rdNoRefs hr rfl rfl)) (by exact rfl) ?_
      refine FRun.slot rfl (fun τ hN hr => step_buildV rfl (rdN hN (hn rfl)) rfl ywSl62 ((by exact .cons (by exact rdS hr rfl rfl) rfl rfl rfl (.nil _))) rfl rfl) (by exact rfl) ?_
      refine FRun.whole rfl (step_append rfl (hn rfl) rfl ywSl62 rfl rfl rfl (.v _) (flatRows_one rfl) (by first | omega | (simp only [List.length_cons, List.length_nil]; omega)) (by first | omega | (simp only [List.length_cons, List.length_nil]; omega))) (by exact rfl) ?_
      refine FRun.whole rfl (step_assignV rfl (hn rfl) rfl rfl) (by exact rfl) ?_
      refine FRun.nil ?_
      exact hQ.out
    apply E.reg
    · intro Q hQ
      refine AWp.region ?_
      refine ARun.step rfl (step_moveV rfl (hn rfl) rfl rfl) ?_
      refine ARun.step rfl (step_addI rfl (hn rfl) rfl rfl rfl (by first | omega | (simp only [List.length_cons, List.length_nil]; omega)) (by first | omega | (simp only [List.length_cons, List.length_nil]; omega))) ?_
      refine ARun.step rfl (step_assignV rfl (hn rfl) rfl rfl) ?_
      refine ARun.nil ?_
      exact hQ.out
    refine ih1 (x.1 + 1, x.2.1 ++ [x2], q2) _ ?_ ?_ (Le.forgetR rfl ⟨rfl, rfl, rfl, rfl, rfl, trivial⟩ trivial ⟨(phs_cat _ _ _ _ rfl), .refl _, trivial⟩)
    · try dsimp only
      exact ⟨by omega, by simp [hlen], by omega, by omega⟩
    · try dsimp only
      omega
  · try simp only [nrm] at c1
    refine E.mono (fun Q h => AWp.exit h) ?_
    refine E.mono (fun Q h => AWp.seq h) ?_
    obtain ⟨_, k3, ⟨rfl, hk3⟩, hl3⟩ := l41pick b (x.2.2) (20) (by first | assumption | omega | decide | (simp only [List.length_append, List.length_cons, List.length_nil, List.length_take, List.length_drop]; omega)) (by first | assumption | omega | decide | (simp only [List.length_append, List.length_cons, List.length_nil, List.length_take, List.length_drop]; omega)) (by first | assumption | omega | decide | (simp only [List.length_append, List.length_cons, List.length_nil, List.length_take, List.length_drop]; omega)) (by first | assumption | omega | decide | (simp only [List.length_append, List.length_cons, List.length_nil, List.length_take, List.length_drop]; omega))
    apply E.reg
    · intro Q hQ
      refine AWp.seq (AWp.region ?_)
      refine ARun.step rfl (step_moveV rfl (hn rfl) rfl rfl) ?_
      refine ARun.step rfl (call_stepLZ rfl (hn rfl) rfl ywCo111 rfl rfl rfl rfl (.cons rfl (.one (.v _)) (.nil)) hl3 rfl rfl) ?_
      refine ARun.step rfl (step_eql rfl (hn rfl) rfl rfl rfl) ?_
      refine ARun.nil ?_
      exact hQ.out
    refine E.cond rfl (fun c2 => ?_) (fun c2 => ?_)
    · try simp only [nrm] at c2
      apply E.reg
      · intro Q hQ
        refine AWp.seq (AWp.region ?_)
        refine ARun.step rfl (step_assignV rfl (hn rfl) rfl rfl) ?_
        refine ARun.nil ?_
        exact hQ.out
      refine E.mono (fun Q h => AWp.block h) ?_
      refine E.loop (fun y : Nat × List Ph × Nat => mkAS 52 [(0, ⟨true, .one (.eptr ⟨.arr 1000000 0, []⟩ 0 0)⟩), (5, ⟨true, .one (.ref ⟨.arr 14 0, []⟩)⟩), (7, ⟨true, .one (.v (.int .i64 (y.1 : Nat)))⟩)] [] [(14, 0, phs 74 y.2.1), (1000000, 0, ptT 138 (rdR 5 b y.2.2))]) (fun y => y.1 + x.2.1.length = y.2.1.length ∧ y.2.1.length ≤ 12 ∧ p ≤ y.2.2 ∧ y.2.2 ≤ p + 200 + 20 * y.1) (fun y => 12 - y.2.1.length) (0, x.2.1, x.2.2 + 1) ?_ (Le.forgetR rfl ⟨rfl, rfl, rfl, trivial⟩ trivial ⟨.refl _, .refl _, trivial⟩) ?_
      · try dsimp only
        exact ⟨by omega, by omega, by omega, by omega⟩
      rintro y ⟨hi2, hlen2, hpa2, hpb2⟩ ih2
      refine E.mono (fun Q h => AWp.seq h) ?_
      apply E.reg
      · intro Q hQ
        refine AWp.seq (AWp.region ?_)
        refine ARun.step rfl (step_moveV rfl (hn rfl) rfl rfl) ?_
        refine ARun.step rfl (step_len_r rfl (hn rfl) rfl ywSl62 rfl rfl) ?_
        refine ARun.step rfl (step_lss rfl (hn rfl) rfl rfl rfl) ?_
        refine ARun.nil ?_
        exact hQ.out
      refine E.cond rfl (fun c3 => ?_) (fun c3 => ?_)
      · try simp only [nrm] at c3
        refine E.mono (fun Q h => AWp.skip h) ?_
        refine E.mono (fun Q h => AWp.seq h) ?_
        refine E.mono (fun Q h => AWp.block h) ?_
        obtain ⟨sd, _, hsd, hd⟩ := l43DecE y.1 (by omega)
        obtain ⟨q4, x4, ⟨hqa4, hqb4⟩, hl4⟩ := l45Phase b (y.2.2) (⟨#[121]⟩ ++ sd) [] (by first | assumption | omega | decide | (simp only [List.length_append, List.length_cons, List.length_nil, List.length_take, List.length_drop]; omega)) (by first | assumption | omega | decide | (simp only [List.length_append, List.length_cons, List.length_nil, List.length_take, List.length_drop]; omega)) (by first | assumption | omega | decide | (simp only [List.length_append, List.length_cons, List.length_nil, List.length_take, List.length_drop]; omega))
        apply E.reg
        · intro Q hQ
          refine AWp.region ?_
          refine ARun.step rfl (step_moveV rfl (hn rfl) rfl rfl) ?_
          refine ARun.step rfl (step_moveV rfl (hn rfl) rfl rfl) ?_
          refine ARun.step rfl (step_moveV rfl (hn rfl) rfl rfl) ?_
          refine ARun.step rfl (call_step1 rfl (hn rfl) rfl ywCo176 (.cons rfl (.one (.v _)) (.nil)) hd rfl) ?_
          refine ARun.step rfl (step_sadd rfl (hn rfl) rfl rfl rfl (by have h1 : (⟨#[121]⟩ : Str).size = 1 := rfl; omega)) ?_
          refine ARun.step rfl (step_buildVT rfl (hn rfl) rfl ywSl22 (strs []) (.nil _) rfl rfl rfl rows0) ?_
          refine ARun.step rfl (call_stepLZ rfl (hn rfl) rfl ywCo175 rfl rfl rfl rfl (.cons rfl (.one (.v _)) (.cons rfl (.one (.v _)) (.nil))) hl4 rfl rfl) ?_
          refine ARun.step rfl (step_buildV rfl (hn rfl) rfl ywSl62 (.cons rfl rfl rfl rfl (.nil _)) rfl rfl) ?_
          refine ARun.step rfl (step_append rfl (hn rfl) rfl ywSl62 rfl rfl rfl (.v _) (flatRows_one rfl) (by first | omega | (simp only [List.length_cons, List.length_nil]; omega)) (by first | omega | (simp only [List.length_cons, List.length_nil]; omega))) ?_
          refine ARun.step rfl (step_assignV rfl (hn rfl) rfl rfl) ?_
          refine ARun.nil ?_
          exact hQ.out
        apply E.reg
        · intro Q hQ
          refine AWp.region ?_
          refine ARun.step rfl (step_moveV rfl (hn rfl) rfl rfl) ?_
          refine ARun.step rfl (step_addI rfl (hn rfl) rfl rfl rfl (by first | omega | (simp only [List.length_cons, List.length_nil]; omega)) (by first | omega | (simp only [List.length_cons, List.length_nil]; omega))) ?_
          refine ARun.step rfl (step_assignV rfl (hn rfl) rfl rfl) ?_
          refine ARun.nil ?_
          exact hQ.out
        refine ih2 (y.1 + 1, y.2.1 ++ [x4], q4) _ ?_ ?_ (Le.forgetR rfl ⟨rfl, rfl, rfl, trivial⟩ trivial ⟨(phs_cat _ _ _ _ rfl), .refl _, trivial⟩)
        · try dsimp only
          simp only [List.length_append, List.length_cons, List.length_nil]; exact ⟨by omega, by omega, by omega, by omega⟩
        · try dsimp only
          simp only [List.length_append, List.length_cons, List.length_nil]; omega
      · try simp only [nrm] at c3
        refine E.mono (fun Q h => AWp.exit h) ?_
        apply E.reg
        · intro Q hQ
          refine AWp.seq (AWp.region ?_)
          refine ARun.step rfl (step_moveV rfl (hn rfl) rfl rfl) ?_
          refine ARun.step rfl (step_assignV rfl (hn rfl) rfl rfl) ?_
          refine ARun.nil ?_
          exact hQ.out
        refine E.mono (fun Q h => AWp.le (Le.letGo 14 0 (g := _) rfl (fun _ _ => rfl)) h) ?_
        refine E.mono (fun Q h => AWp.ret h) ?_
        apply E.ret (i := (_, _))
        · refine ⟨?_, (.refl _)⟩
          refine RetIs.frz (.inr rfl) rfl ?_
          rfl
        · try dsimp only
          all_goals (exact ⟨(show p ≤ y.2.2 by omega), (show y.2.2 ≤ p + 1000 by omega), (show 1 ≤ y.2.1.length by omega), (show y.2.1.length ≤ 12 by omega)⟩)
    · try simp only [nrm] at c2
      refine E.mono (fun Q h => AWp.skip h) ?_
      apply E.reg
      · intro Q hQ
        refine AWp.seq (AWp.region ?_)
        refine ARun.step rfl (step_moveV rfl (hn rfl) rfl rfl) ?_
        refine ARun.step rfl (step_assignV rfl (hn rfl) rfl rfl) ?_
        refine ARun.nil ?_
        exact hQ.out
      refine E.mono (fun Q h => AWp.le (Le.letGo 14 0 (g := _) rfl (fun _ _ => rfl)) h) ?_
      refine E.mono (fun Q h => AWp.ret h) ?_
      apply E.ret (i := (_, _))
      · refine ⟨?_, (.refl _)⟩
        refine RetIs.frz (.inr rfl) rfl ?_
        rfl
      · try dsimp only
        all_goals (exact ⟨(show p ≤ x.2.2 + 1 by omega), (show x.2.2 + 1 ≤ p + 1000 by omega), (show 1 ≤ x.2.1.length by omega), (show x.2.1.length ≤ 12 by omega)⟩)
set_option maxHeartbeats 1000000 in
theorem l45SpoilPhase (b : List UInt8) (p : Nat) (x : Ph) (hb : b.length ≤ 2000) (hp : p ≤ 800000000) : ∃ (q : Nat) (y : Ph), (p ≤ q ∧ q ≤ p + 2) ∧ LSpec Try.prog 177 138 (rdR 5 b p) (rdR 5 b q) [.agg x.cells] (.agg y.cells) := by
  suffices key : ∃ i : Nat × Ph, (p ≤ i.1 ∧ i.1 ≤ p + 2) ∧ LSpec Try.prog 177 138 (rdR 5 b p) (rdR 5 b i.1) [.agg x.cells] (.agg i.2.cells) from (by obtain ⟨i, g, h⟩ := key; exact ⟨i.1, i.2, g, h⟩)
  refine LSpec.exC Try.func177 rfl 4 74 [] rfl rfl 67 rfl rfl rfl rfl (fun i : Nat × Ph => rdR 5 b i.1) (fun i : Nat × Ph => (.agg i.2.cells)) (fun i : Nat × Ph => p ≤ i.1 ∧ i.1 ≤ p + 2) (fun i => rfl) (fun i => rfl) ?_
  apply E.reg
  · intro Q hQ
    refine AWp.seq (AWp.region ?_)
    refine ARun.step rfl (step_box_p (m := 7) rfl (hn rfl) rfl rfl rfl rfl rfl) ?_
    refine ARun.step rfl (step_alloc_p rfl (hn rfl) rfl ywZs74) ?_
    refine ARun.nil ?_
    exact hQ.out
  refine E.mono (fun Q h => AWp.seq h) ?_
  obtain ⟨_, k1, ⟨rfl, hk1⟩, hl1⟩ := l41pick b (p) (8) (by first | assumption | omega | decide | (simp only [List.length_append, List.length_cons, List.length_nil, List.length_take, List.length_drop]; omega)) (by first | assumption | omega | decide | (simp only [List.length_append, List.length_cons, List.length_nil, List.length_take, List.length_drop]; omega)) (by first | assumption | omega | decide | (simp only [List.length_append, List.length_cons, List.length_nil, List.length_take, List.length_drop]; omega)) (by first | assumption | omega | decide | (simp only [List.length_append, List.length_cons, List.length_nil, List.length_take, List.length_drop]; omega))
  apply E.reg
  · intro Q hQ
    refine AWp.seq (AWp.region ?_)
    refine ARun.step rfl (step_moveV rfl (hn rfl) rfl rfl) ?_
    refine ARun.step rfl (call_stepLZ rfl (hn rfl) rfl ywCo111 rfl rfl rfl rfl (.cons rfl (.one (.v _)) (.nil)) hl1 rfl rfl) ?_
    refine ARun.nil ?_
    exact hQ.out
  refine E.mono (fun Q h => AWp.block h) ?_
  apply E.reg
  · intro Q hQ
    refine AWp.seq (AWp.region ?_)
    refine ARun.step rfl (step_eql rfl (hn rfl) rfl rfl rfl) ?_
    refine ARun.step rfl (step_assignV rfl (hn rfl) rfl rfl) ?_
    refine ARun.nil ?_
    exact hQ.out
  refine E.cond rfl (fun c1 => ?_) (fun c1 => ?_)
  · try simp only [nrm] at c1
    obtain ⟨_, s2, ⟨rfl, hk2⟩, hl2⟩ := l41of b (p + 1) ([⟨#[]⟩, ⟨#[65]⟩, ⟨#[103, 111, 111, 100]⟩, ⟨#[102, 49]⟩, ⟨#[110, 105, 110, 101, 45, 98, 121, 116, 101, 115]⟩]) (by first | assumption | omega | decide | (simp only [List.length_append, List.length_cons, List.length_nil, List.length_take, List.length_drop]; omega)) (by first | assumption | omega | decide | (simp only [List.length_append, List.length_cons, List.length_nil, List.length_take, List.length_drop]; omega)) (by first | assumption | omega | decide | (simp only [List.length_append, List.length_cons, List.length_nil, List.length_take, List.length_drop]; omega)) (by first | assumption | omega | decide | (simp only [List.length_append, List.length_cons, List.length_nil, List.length_take, List.length_drop]; omega))
    apply E.reg
    · intro Q hQ
      refine AWp.region ?_
      refine ARun.step rfl (step_moveV rfl (hn rfl) rfl rfl) ?_
      refine ARun.step rfl (step_buildVT rfl (hn rfl) rfl ywSl22 (strs [⟨#[]⟩, ⟨#[65]⟩, ⟨#[103, 111, 111, 100]⟩, ⟨#[102, 49]⟩, ⟨#[110, 105, 110, 101, 45, 98, 121, 116, 101, 115]⟩]) (.cons rfl rfl rfl rfl (.cons rfl rfl rfl rfl (.cons rfl rfl rfl rfl (.cons rfl rfl rfl rfl (.cons rfl rfl rfl rfl (.nil _)))))) rfl rfl rfl (rowsE ⟨rfl, rfl, rfl, rfl, rfl, trivial⟩)) ?_
      refine ARun.step rfl (call_stepLZ rfl (hn rfl) rfl ywCo186 rfl rfl rfl rfl (.cons rfl (.one (.v _)) (.nil)) hl2 rfl rfl) ?_
      refine ARun.step rfl (step_field_b rfl (hn rfl) rfl ywFo74_0 rfl (by exact List.cons_ne_nil _ _)) ?_
      refine ARun.step rfl (step_store_p (bs := [_, _, _, _, _, _, _, _]) rfl rfl ywCs9 rfl rfl rfl rfl rfl rfl rfl) ?_
      refine ARun.nil ?_
      exact hQ.out
    apply E.reg
    · intro Q hQ
      refine AWp.seq (AWp.region ?_)
      refine ARun.step rfl (step_loadS_b rfl (hn rfl) rfl ywSt74 rfl rfl rfl (by decide)) ?_
      refine ARun.step rfl (step_store_p (bs := [_, _, _, _, _, _, _, _]) rfl rfl ywCs74 rfl rfl rfl rfl rfl rfl rfl) ?_
      refine ARun.nil ?_
      exact hQ.out
    refine E.mono (fun Q h => AWp.ret h) ?_
    apply E.ret (i := (_, Ph.mk _ _ _ _ _ _ _ _))
    · refine ⟨.inr rfl, ⟨4, 8, _, _, _, ywSt74, by decide, rfl, rfl, rfl, rfl, (.cons rfl (.agg (.cons (.sc _ _ rfl) (.cons (.sc _ _ rfl) (.cons (.sc _ _ rfl) (.cons (.sc _ _ rfl) (.cons (.sc _ _ rfl) (.cons (.sc _ _ rfl) (.cons (.sc _ _ rfl) (.cons (.sc _ _ rfl) (.nil _)))))))))) (.nil _)), rfl, ?_⟩, (.refl _)⟩
      refine congrArg PV.agg ?_
      dsimp only [Ph.cells]
      all_goals rfl
    · try dsimp only
      all_goals (exact ⟨by omega, by omega⟩)
  · try simp only [nrm] at c1
    apply E.reg
    · intro Q hQ
      refine AWp.seq (AWp.region ?_)
      refine ARun.step rfl (step_eql rfl (hn rfl) rfl rfl rfl) ?_
      refine ARun.step rfl (step_assignV rfl (hn rfl) rfl rfl) ?_
      refine ARun.nil ?_
      exact hQ.out
    refine E.cond rfl (fun c2 => ?_) (fun c2 => ?_)
    · try simp only [nrm] at c2
      obtain ⟨_, k3, ⟨rfl, hk3⟩, hl3⟩ := l41pick b (p + 1) (8) (by first | assumption | omega | decide | (simp only [List.length_append, List.length_cons, List.length_nil, List.length_take, List.length_drop]; omega)) (by first | assumption | omega | decide | (simp only [List.length_append, List.length_cons, List.length_nil, List.length_take, List.length_drop]; omega)) (by first | assumption | omega | decide | (simp only [List.length_append, List.length_cons, List.length_nil, List.length_take, List.length_drop]; omega)) (by first | assumption | omega | decide | (simp only [List.length_append, List.length_cons, List.length_nil, List.length_take, List.length_drop]; omega))
      apply E.reg
      · intro Q hQ
        refine AWp.region ?_
        refine ARun.step rfl (step_moveV rfl (hn rfl) rfl rfl) ?_
        refine ARun.step rfl (call_stepLZ rfl (hn rfl) rfl ywCo111 rfl rfl rfl rfl (.cons rfl (.one (.v _)) (.nil)) hl3 rfl rfl) ?_
        refine ARun.step rfl (step_sub rfl (hn rfl) rfl rfl rfl) ?_
        refine ARun.step rfl (step_field_b rfl (hn rfl) rfl ywFo74_1 rfl (by exact List.cons_ne_nil _ _)) ?_
        refine ARun.step rfl (step_store_p (bs := [_, _, _, _, _, _, _, _]) rfl rfl ywCs3 rfl rfl rfl rfl rfl rfl rfl) ?_
        refine ARun.nil ?_
        exact hQ.out
      apply E.reg
      · intro Q hQ
        refine AWp.seq (AWp.region ?_)
        refine ARun.step rfl (step_loadS_b rfl (hn rfl) rfl ywSt74 rfl rfl rfl (by decide)) ?_
        refine ARun.step rfl (step_store_p (bs := [_, _, _, _, _, _, _, _]) rfl rfl ywCs74 rfl rfl rfl rfl rfl rfl rfl) ?_
        refine ARun.nil ?_
        exact hQ.out
      refine E.mono (fun Q h => AWp.ret h) ?_
      apply E.ret (i := (_, Ph.mk _ _ _ _ _ _ _ _))
      · refine ⟨.inr rfl, ⟨4, 8, _, _, _, ywSt74, by decide, rfl, rfl, rfl, rfl, (.cons rfl (.agg (.cons (.sc _ _ rfl) (.cons (.sc _ _ rfl) (.cons (.sc _ _ rfl) (.cons (.sc _ _ rfl) (.cons (.sc _ _ rfl) (.cons (.sc _ _ rfl) (.cons (.sc _ _ rfl) (.cons (.sc _ _ rfl) (.nil _)))))))))) (.nil _)), rfl, ?_⟩, (.refl _)⟩
        refine congrArg PV.agg ?_
        dsimp only [Ph.cells]
        all_goals rfl
      · try dsimp only
        all_goals (exact ⟨by omega, by omega⟩)
    · try simp only [nrm] at c2
      apply E.reg
      · intro Q hQ
        refine AWp.seq (AWp.region ?_)
        refine ARun.step rfl (step_eql rfl (hn rfl) rfl rfl rfl) ?_
        refine ARun.step rfl (step_assignV rfl (hn rfl) rfl rfl) ?_
        refine ARun.nil ?_
        exact hQ.out
      refine E.cond rfl (fun c3 => ?_) (fun c3 => ?_)
      · try simp only [nrm] at c3
        obtain ⟨_, s4, ⟨rfl, hk4⟩, hl4⟩ := l41of b (p + 1) ([⟨#[]⟩, ⟨#[65]⟩, x.b, ⟨#[103, 111, 111, 100]⟩]) (by first | assumption | omega | decide | (simp only [List.length_append, List.length_cons, List.length_nil, List.length_take, List.length_drop]; omega)) (by first | assumption | omega | decide | (simp only [List.length_append, List.length_cons, List.length_nil, List.length_take, List.length_drop]; omega)) (by first | assumption | omega | decide | (simp only [List.length_append, List.length_cons, List.length_nil, List.length_take, List.length_drop]; omega)) (by first | assumption | omega | decide | (simp only [List.length_append, List.length_cons, List.length_nil, List.length_take, List.length_drop]; omega))
        apply E.reg
        · intro Q hQ
          refine AWp.region ?_
          refine ARun.step rfl (step_moveV rfl (hn rfl) rfl rfl) ?_
          refine ARun.step rfl (step_field_b rfl (hn rfl) rfl ywFo74_3 rfl (by exact List.cons_ne_nil _ _)) ?_
          refine ARun.step rfl (step_load_b rfl (hn rfl) rfl ywSc9 rfl rfl) ?_
          refine ARun.step rfl (step_buildVT rfl (hn rfl) rfl ywSl22 (strs [⟨#[]⟩, ⟨#[65]⟩, x.b, ⟨#[103, 111, 111, 100]⟩]) (.cons rfl rfl rfl rfl (.cons rfl rfl rfl rfl (.cons rfl rfl rfl rfl (.cons rfl rfl rfl rfl (.nil _))))) rfl rfl rfl (rowsE ⟨rfl, rfl, rfl, rfl, trivial⟩)) ?_
          refine ARun.step rfl (call_stepLZ rfl (hn rfl) rfl ywCo186 rfl rfl rfl rfl (.cons rfl (.one (.v _)) (.nil)) hl4 rfl rfl) ?_
          refine ARun.step rfl (step_field_b rfl (hn rfl) rfl ywFo74_2 rfl (by exact List.cons_ne_nil _ _)) ?_
          refine ARun.step rfl (step_store_p (bs := [_, _, _, _, _, _, _, _]) rfl rfl ywCs9 rfl rfl rfl rfl rfl rfl rfl) ?_
          refine ARun.nil ?_
          exact hQ.out
        apply E.reg
        · intro Q hQ
          refine AWp.seq (AWp.region ?_)
          refine ARun.step rfl (step_loadS_b rfl (hn rfl) rfl ywSt74 rfl rfl rfl (by decide)) ?_
          refine ARun.step rfl (step_store_p (bs := [_, _, _, _, _, _, _, _]) rfl rfl ywCs74 rfl rfl rfl rfl rfl rfl rfl) ?_
          refine ARun.nil ?_
          exact hQ.out
        refine E.mono (fun Q h => AWp.ret h) ?_
        apply E.ret (i := (_, Ph.mk _ _ _ _ _ _ _ _))
        · refine ⟨.inr rfl, ⟨4, 8, _, _, _, ywSt74, by decide, rfl, rfl, rfl, rfl, (.cons rfl (.agg (.cons (.sc _ _ rfl) (.cons (.sc _ _ rfl) (.cons (.sc _ _ rfl) (.cons (.sc _ _ rfl) (.cons (.sc _ _ rfl) (.cons (.sc _ _ rfl) (.cons (.sc _ _ rfl) (.cons (.sc _ _ rfl) (.nil _)))))))))) (.nil _)), rfl, ?_⟩, (.refl _)⟩
          refine congrArg PV.agg ?_
          dsimp only [Ph.cells]
          all_goals rfl
        · try dsimp only
          all_goals (exact ⟨by omega, by omega⟩)
      · try simp only [nrm] at c3
        apply E.reg
        · intro Q hQ
          refine AWp.seq (AWp.region ?_)
          refine ARun.step rfl (step_eql rfl (hn rfl) rfl rfl rfl) ?_
          refine ARun.step rfl (step_assignV rfl (hn rfl) rfl rfl) ?_
          refine ARun.nil ?_
          exact hQ.out
        refine E.cond rfl (fun c4 => ?_) (fun c4 => ?_)
        · try simp only [nrm] at c4
          obtain ⟨_, s5, ⟨rfl, hk5⟩, hl5⟩ := l41of b (p + 1) ([⟨#[]⟩, ⟨#[65]⟩, x.a, ⟨#[103, 111, 111, 100]⟩]) (by first | assumption | omega | decide | (simp only [List.length_append, List.length_cons, List.length_nil, List.length_take, List.length_drop]; omega)) (by first | assumption | omega | decide | (simp only [List.length_append, List.length_cons, List.length_nil, List.length_take, List.length_drop]; omega)) (by first | assumption | omega | decide | (simp only [List.length_append, List.length_cons, List.length_nil, List.length_take, List.length_drop]; omega)) (by first | assumption | omega | decide | (simp only [List.length_append, List.length_cons, List.length_nil, List.length_take, List.length_drop]; omega))
          apply E.reg
          · intro Q hQ
            refine AWp.region ?_
            refine ARun.step rfl (step_moveV rfl (hn rfl) rfl rfl) ?_
            refine ARun.step rfl (step_field_b rfl (hn rfl) rfl ywFo74_2 rfl (by exact List.cons_ne_nil _ _)) ?_
            refine ARun.step rfl (step_load_b rfl (hn rfl) rfl ywSc9 rfl rfl) ?_
            refine ARun.step rfl (step_buildVT rfl (hn rfl) rfl ywSl22 (strs [⟨#[]⟩, ⟨#[65]⟩, x.a, ⟨#[103, 111, 111, 100]⟩]) (.cons rfl rfl rfl rfl (.cons rfl rfl rfl rfl (.cons rfl rfl rfl rfl (.cons rfl rfl rfl rfl (.nil _))))) rfl rfl rfl (rowsE ⟨rfl, rfl, rfl, rfl, trivial⟩)) ?_
            refine ARun.step rfl (call_stepLZ rfl (hn rfl) rfl ywCo186 rfl rfl rfl rfl (.cons rfl (.one (.v _)) (.nil)) hl5 rfl rfl) ?_
            refine ARun.step rfl (step_field_b rfl (hn rfl) rfl ywFo74_3 rfl (by exact List.cons_ne_nil _ _)) ?_
            refine ARun.step rfl (step_store_p (bs := [_, _, _, _, _, _, _, _]) rfl rfl ywCs9 rfl rfl rfl rfl rfl rfl rfl) ?_
            refine ARun.nil ?_
            exact hQ.out
          apply E.reg
          · intro Q hQ
            refine AWp.seq (AWp.region ?_)
            refine ARun.step rfl (step_loadS_b rfl (hn rfl) rfl ywSt74 rfl rfl rfl (by decide)) ?_
            refine ARun.step rfl (step_store_p (bs := [_, _, _, _, _, _, _, _]) rfl rfl ywCs74 rfl rfl rfl rfl rfl rfl rfl) ?_
            refine ARun.nil ?_
            exact hQ.out
          refine E.mono (fun Q h => AWp.ret h) ?_
          apply E.ret (i := (_, Ph.mk _ _ _ _ _ _ _ _))
          · refine ⟨.inr rfl, ⟨4, 8, _, _, _, ywSt74, by decide, rfl, rfl, rfl, rfl, (.cons rfl (.agg (.cons (.sc _ _ rfl) (.cons (.sc _ _ rfl) (.cons (.sc _ _ rfl) (.cons (.sc _ _ rfl) (.cons (.sc _ _ rfl) (.cons (.sc _ _ rfl) (.cons (.sc _ _ rfl) (.cons (.sc _ _ rfl) (.nil _)))))))))) (.nil _)), rfl, ?_⟩, (.refl _)⟩
            refine congrArg PV.agg ?_
            dsimp only [Ph.cells]
            all_goals rfl
          · try dsimp only
            all_goals (exact ⟨by omega, by omega⟩)
        · try simp only [nrm] at c4
          apply E.reg
          · intro Q hQ
            refine AWp.seq (AWp.region ?_)
            refine ARun.step rfl (step_eql rfl (hn rfl) rfl rfl rfl) ?_
            refine ARun.step rfl (step_assignV rfl (hn rfl) rfl rfl) ?_
            refine ARun.nil ?_
            exact hQ.out
          refine E.cond rfl (fun c5 => ?_) (fun c5 => ?_)
          · try simp only [nrm] at c5
            obtain ⟨_, k6, ⟨rfl, hk6⟩, hl6⟩ := l41pick b (p + 1) (7) (by first | assumption | omega | decide | (simp only [List.length_append, List.length_cons, List.length_nil, List.length_take, List.length_drop]; omega)) (by first | assumption | omega | decide | (simp only [List.length_append, List.length_cons, List.length_nil, List.length_take, List.length_drop]; omega)) (by first | assumption | omega | decide | (simp only [List.length_append, List.length_cons, List.length_nil, List.length_take, List.length_drop]; omega)) (by first | assumption | omega | decide | (simp only [List.length_append, List.length_cons, List.length_nil, List.length_take, List.length_drop]; omega))
            apply E.reg
            · intro Q hQ
              refine AWp.draw [⟨[.s 3, .b 3], [.s 41], false⟩, ⟨[.s 41, .b 3], [.s 42], false⟩, ⟨[.s 3, .b 3], [.s 43], false⟩, ⟨[.s 43, .b 3], [.s 44], false⟩, ⟨[.s 44], [.s 45], false⟩, ⟨[.s 45, .s 42], [.s 46], false⟩, ⟨[.s 0], [.s 47], false⟩, ⟨[.s 47, .a 1000000 0], [.s 48, .a 1000000 0], false⟩, ⟨[.s 46, .s 48], [.s 49], false⟩, ⟨[.s 49], [.s 50], false⟩, ⟨[.s 3, .b 3], [.s 51], false⟩, ⟨[], [], true⟩] ywMo rfl ?_
              refine DRun.step rfl (fun τ hN hr => step_field_b rfl (rdN hN (hn rfl)) rfl ywFo74_5 (by exact rdS hr rfl rfl) (by exact rdBne hr rfl (by exact List.cons_ne_nil _ _))) ?_
              refine DRun.step rfl (fun τ hN hr => step_load_b rfl (rdN hN (hn rfl)) rfl ywSc3 (by exact rdS hr rfl rfl) (by exact rdBget hr rfl rfl)) ?_
              refine DRun.step rfl (fun τ hN hr => step_field_b rfl (rdN hN (hn rfl)) rfl ywFo74_5 (by exact rdS hr rfl rfl) (by exact rdBne hr rfl (by exact List.cons_ne_nil _ _))) ?_
              refine DRun.step rfl (fun τ hN hr => step_load_b rfl (rdN hN (hn rfl)) rfl ywSc3 (by exact rdS hr rfl rfl) (by exact rdBget hr rfl rfl)) ?_
              refine DRun.step rfl (fun τ hN hr => step_add rfl (rdN hN (hn rfl)) rfl (by exact rdS hr rfl rfl) rfl) ?_
              refine DRun.step rfl (fun τ hN hr => step_buildVT rfl (rdN hN (hn rfl)) rfl ywSl140 (ints 3 [-1, 0, 1, x.within, IntKind.i64.wrap (x.within + 1), 1000, 1001]) (by exact .cons rfl rfl rfl rfl (.cons rfl rfl rfl rfl (.cons rfl rfl rfl rfl (.cons (by exact rdS hr rfl rfl) rfl rfl rfl (.cons (by exact rdS hr rfl rfl) rfl rfl rfl (.cons rfl rfl rfl rfl (.cons rfl rfl rfl rfl (.nil _)))))))) (by exact rfl) (by exact rfl) (by exact rfl) (by exact (rowsE ⟨rfl, rfl, rfl, rfl, rfl, rfl, rfl, trivial⟩))) ?_
              refine DRun.step rfl (fun τ hN hr => step_moveV rfl (rdN hN (hn rfl)) rfl (by exact rdS hr rfl rfl)) ?_
              refine DRun.lent rfl (fun τ hN hr => call_stepLZ rfl (rdN hN (hn rfl)) rfl ywCo111 (by exact rdS hr rfl rfl) (by exact rdA hr rfl rfl) rfl rfl (.cons rfl (.one (.v _)) (.nil)) hl6 rfl (by exact rdNoRefs hr rfl rfl)) ?_
              refine DRun.step rfl (fun τ hN hr => step_index_fN rfl (rdN hN (hn rfl)) rfl ywSl140 (by exact rdS hr rfl rfl) (by exact rdS hr rfl rfl) (by first | omega | (simp only [List.length_cons, List.length_nil]; omega))) ?_
              refine DRun.step rfl (fun τ hN hr => step_load_f rfl (rdN hN (hn rfl)) rfl ywSc3 (by exact rdS hr rfl rfl) (hn rfl) rfl) ?_
              refine DRun.step rfl (fun τ hN hr => step_field_b rfl (rdN hN (hn rfl)) rfl ywFo74_4 (by exact rdS hr rfl rfl) (by exact rdBne hr rfl (by exact List.cons_ne_nil _ _))) ?_
              refine DRun.last rfl (by exact rfl) (step_store_p (bs := [_, _, _, _, _, _, _, _]) rfl rfl ywCs3 rfl rfl rfl rfl rfl rfl rfl) ?_
              exact hQ.out
            apply E.reg
            · intro Q hQ
              refine AWp.seq (AWp.region ?_)
              refine ARun.step rfl (step_loadS_b rfl (hn rfl) rfl ywSt74 rfl rfl rfl (by decide)) ?_
              refine ARun.step rfl (step_store_p (bs := [_, _, _, _, _, _, _, _]) rfl rfl ywCs74 rfl rfl rfl rfl rfl rfl rfl) ?_
              refine ARun.nil ?_
              exact hQ.out
            refine E.mono (fun Q h => AWp.ret h) ?_
            apply E.ret (i := (_, Ph.mk _ _ _ _ _ _ _ _))
            · refine ⟨.inr rfl, ⟨4, 8, _, _, _, ywSt74, by decide, rfl, rfl, rfl, rfl, (.cons rfl (.agg (.cons (.sc _ _ rfl) (.cons (.sc _ _ rfl) (.cons (.sc _ _ rfl) (.cons (.sc _ _ rfl) (.cons (.sc _ _ rfl) (.cons (.sc _ _ rfl) (.cons (.sc _ _ rfl) (.cons (.sc _ _ rfl) (.nil _)))))))))) (.nil _)), rfl, ?_⟩, (.refl _)⟩
              refine congrArg PV.agg ?_
              dsimp only [Ph.cells]
              all_goals rfl
            · try dsimp only
              all_goals (exact ⟨by omega, by omega⟩)
          · try simp only [nrm] at c5
            apply E.reg
            · intro Q hQ
              refine AWp.seq (AWp.region ?_)
              refine ARun.step rfl (step_eql rfl (hn rfl) rfl rfl rfl) ?_
              refine ARun.step rfl (step_assignV rfl (hn rfl) rfl rfl) ?_
              refine ARun.nil ?_
              exact hQ.out
            refine E.cond rfl (fun c6 => ?_) (fun c6 => ?_)
            · try simp only [nrm] at c6
              obtain ⟨_, k7, ⟨rfl, hk7⟩, hl7⟩ := l41pick b (p + 1) (5) (by first | assumption | omega | decide | (simp only [List.length_append, List.length_cons, List.length_nil, List.length_take, List.length_drop]; omega)) (by first | assumption | omega | decide | (simp only [List.length_append, List.length_cons, List.length_nil, List.length_take, List.length_drop]; omega)) (by first | assumption | omega | decide | (simp only [List.length_append, List.length_cons, List.length_nil, List.length_take, List.length_drop]; omega)) (by first | assumption | omega | decide | (simp only [List.length_append, List.length_cons, List.length_nil, List.length_take, List.length_drop]; omega))
              apply E.reg
              · intro Q hQ
                refine AWp.region ?_
                refine ARun.step rfl (step_buildVT rfl (hn rfl) rfl ywSl140 (ints 3 [-1, 0, 1, 1000, 1001]) (.cons rfl rfl rfl rfl (.cons rfl rfl rfl rfl (.cons rfl rfl rfl rfl (.cons rfl rfl rfl rfl (.cons rfl rfl rfl rfl (.nil _)))))) rfl rfl rfl (rowsE ⟨rfl, rfl, rfl, rfl, rfl, trivial⟩)) ?_
                refine ARun.step rfl (step_moveV rfl (hn rfl) rfl rfl) ?_
                refine ARun.step rfl (call_stepLZ rfl (hn rfl) rfl ywCo111 rfl rfl rfl rfl (.cons rfl (.one (.v _)) (.nil)) hl7 rfl rfl) ?_
                refine ARun.step rfl (step_index_fN rfl (hn rfl) rfl ywSl140 rfl rfl (by first | omega | (simp only [List.length_cons, List.length_nil]; omega))) ?_
                refine ARun.step rfl (step_load_f rfl (hn rfl) rfl ywSc3 rfl (hn rfl) rfl) ?_
                refine ARun.step rfl (step_field_b rfl (hn rfl) rfl ywFo74_5 rfl (by exact List.cons_ne_nil _ _)) ?_
                refine ARun.step rfl (step_store_p (bs := [_, _, _, _, _, _, _, _]) rfl rfl ywCs3 rfl rfl rfl rfl rfl rfl rfl) ?_
                refine ARun.nil ?_
                exact hQ.out
              apply E.reg
              · intro Q hQ
                refine AWp.seq (AWp.region ?_)
                refine ARun.step rfl (step_loadS_b rfl (hn rfl) rfl ywSt74 rfl rfl rfl (by decide)) ?_
                refine ARun.step rfl (step_store_p (bs := [_, _, _, _, _, _, _, _]) rfl rfl ywCs74 rfl rfl rfl rfl rfl rfl rfl) ?_
                refine ARun.nil ?_
                exact hQ.out
              refine E.mono (fun Q h => AWp.ret h) ?_
              apply E.ret (i := (_, Ph.mk _ _ _ _ _ _ _ _))
              · refine ⟨.inr rfl, ⟨4, 8, _, _, _, ywSt74, by decide, rfl, rfl, rfl, rfl, (.cons rfl (.agg (.cons (.sc _ _ rfl) (.cons (.sc _ _ rfl) (.cons (.sc _ _ rfl) (.cons (.sc _ _ rfl) (.cons (.sc _ _ rfl) (.cons (.sc _ _ rfl) (.cons (.sc _ _ rfl) (.cons (.sc _ _ rfl) (.nil _)))))))))) (.nil _)), rfl, ?_⟩, (.refl _)⟩
                refine congrArg PV.agg ?_
                dsimp only [Ph.cells]
                all_goals rfl
              · try dsimp only
                all_goals (exact ⟨by omega, by omega⟩)
            · try simp only [nrm] at c6
              apply E.reg
              · intro Q hQ
                refine AWp.seq (AWp.region ?_)
                refine ARun.step rfl (step_eql rfl (hn rfl) rfl rfl rfl) ?_
                refine ARun.step rfl (step_assignV rfl (hn rfl) rfl rfl) ?_
                refine ARun.nil ?_
                exact hQ.out
              refine E.cond rfl (fun c7 => ?_) (fun c7 => ?_)
              · try simp only [nrm] at c7
                obtain ⟨_, s8, ⟨rfl, hk8⟩, hl8⟩ := l41of b (p + 1) ([⟨#[]⟩, ⟨#[98, 114, 101, 119]⟩, ⟨#[102, 49]⟩, ⟨#[114, 101, 115, 116]⟩, ⟨#[110, 111, 110, 101]⟩]) (by first | assumption | omega | decide | (simp only [List.length_append, List.length_cons, List.length_nil, List.length_take, List.length_drop]; omega)) (by first | assumption | omega | decide | (simp only [List.length_append, List.length_cons, List.length_nil, List.length_take, List.length_drop]; omega)) (by first | assumption | omega | decide | (simp only [List.length_append, List.length_cons, List.length_nil, List.length_take, List.length_drop]; omega)) (by first | assumption | omega | decide | (simp only [List.length_append, List.length_cons, List.length_nil, List.length_take, List.length_drop]; omega))
                apply E.reg
                · intro Q hQ
                  refine AWp.region ?_
                  refine ARun.step rfl (step_moveV rfl (hn rfl) rfl rfl) ?_
                  refine ARun.step rfl (step_buildVT rfl (hn rfl) rfl ywSl22 (strs [⟨#[]⟩, ⟨#[98, 114, 101, 119]⟩, ⟨#[102, 49]⟩, ⟨#[114, 101, 115, 116]⟩, ⟨#[110, 111, 110, 101]⟩]) (.cons rfl rfl rfl rfl (.cons rfl rfl rfl rfl (.cons rfl rfl rfl rfl (.cons rfl rfl rfl rfl (.cons rfl rfl rfl rfl (.nil _)))))) rfl rfl rfl (rowsE ⟨rfl, rfl, rfl, rfl, rfl, trivial⟩)) ?_
                  refine ARun.step rfl (call_stepLZ rfl (hn rfl) rfl ywCo186 rfl rfl rfl rfl (.cons rfl (.one (.v _)) (.nil)) hl8 rfl rfl) ?_
                  refine ARun.step rfl (step_field_b rfl (hn rfl) rfl ywFo74_6 rfl (by exact List.cons_ne_nil _ _)) ?_
                  refine ARun.step rfl (step_store_p (bs := [_, _, _, _, _, _, _, _]) rfl rfl ywCs9 rfl rfl rfl rfl rfl rfl rfl) ?_
                  refine ARun.nil ?_
                  exact hQ.out
                apply E.reg
                · intro Q hQ
                  refine AWp.seq (AWp.region ?_)
                  refine ARun.step rfl (step_loadS_b rfl (hn rfl) rfl ywSt74 rfl rfl rfl (by decide)) ?_
                  refine ARun.step rfl (step_store_p (bs := [_, _, _, _, _, _, _, _]) rfl rfl ywCs74 rfl rfl rfl rfl rfl rfl rfl) ?_
                  refine ARun.nil ?_
                  exact hQ.out
                refine E.mono (fun Q h => AWp.ret h) ?_
                apply E.ret (i := (_, Ph.mk _ _ _ _ _ _ _ _))
                · refine ⟨.inr rfl, ⟨4, 8, _, _, _, ywSt74, by decide, rfl, rfl, rfl, rfl, (.cons rfl (.agg (.cons (.sc _ _ rfl) (.cons (.sc _ _ rfl) (.cons (.sc _ _ rfl) (.cons (.sc _ _ rfl) (.cons (.sc _ _ rfl) (.cons (.sc _ _ rfl) (.cons (.sc _ _ rfl) (.cons (.sc _ _ rfl) (.nil _)))))))))) (.nil _)), rfl, ?_⟩, (.refl _)⟩
                  refine congrArg PV.agg ?_
                  dsimp only [Ph.cells]
                  all_goals rfl
                · try dsimp only
                  all_goals (exact ⟨by omega, by omega⟩)
              · try simp only [nrm] at c7
                obtain ⟨_, s9, ⟨rfl, hk9⟩, hl9⟩ := l41of b (p + 1) ([⟨#[]⟩, ⟨#[98, 114, 101, 119]⟩, ⟨#[102, 49]⟩, ⟨#[114, 101, 115, 116]⟩, ⟨#[110, 111, 110, 101]⟩]) (by first | assumption | omega | decide | (simp only [List.length_append, List.length_cons, List.length_nil, List.length_take, List.length_drop]; omega)) (by first | assumption | omega | decide | (simp only [List.length_append, List.length_cons, List.length_nil, List.length_take, List.length_drop]; omega)) (by first | assumption | omega | decide | (simp only [List.length_append, List.length_cons, List.length_nil, List.length_take, List.length_drop]; omega)) (by first | assumption | omega | decide | (simp only [List.length_append, List.length_cons, List.length_nil, List.length_take, List.length_drop]; omega))
                apply E.reg
                · intro Q hQ
                  refine AWp.region ?_
                  refine ARun.step rfl (step_moveV rfl (hn rfl) rfl rfl) ?_
                  refine ARun.step rfl (step_buildVT rfl (hn rfl) rfl ywSl22 (strs [⟨#[]⟩, ⟨#[98, 114, 101, 119]⟩, ⟨#[102, 49]⟩, ⟨#[114, 101, 115, 116]⟩, ⟨#[110, 111, 110, 101]⟩]) (.cons rfl rfl rfl rfl (.cons rfl rfl rfl rfl (.cons rfl rfl rfl rfl (.cons rfl rfl rfl rfl (.cons rfl rfl rfl rfl (.nil _)))))) rfl rfl rfl (rowsE ⟨rfl, rfl, rfl, rfl, rfl, trivial⟩)) ?_
                  refine ARun.step rfl (call_stepLZ rfl (hn rfl) rfl ywCo186 rfl rfl rfl rfl (.cons rfl (.one (.v _)) (.nil)) hl9 rfl rfl) ?_
                  refine ARun.step rfl (step_field_b rfl (hn rfl) rfl ywFo74_7 rfl (by exact List.cons_ne_nil _ _)) ?_
                  refine ARun.step rfl (step_store_p (bs := [_, _, _, _, _, _, _, _]) rfl rfl ywCs9 rfl rfl rfl rfl rfl rfl rfl) ?_
                  refine ARun.nil ?_
                  exact hQ.out
                apply E.reg
                · intro Q hQ
                  refine AWp.seq (AWp.region ?_)
                  refine ARun.step rfl (step_loadS_b rfl (hn rfl) rfl ywSt74 rfl rfl rfl (by decide)) ?_
                  refine ARun.step rfl (step_store_p (bs := [_, _, _, _, _, _, _, _]) rfl rfl ywCs74 rfl rfl rfl rfl rfl rfl rfl) ?_
                  refine ARun.nil ?_
                  exact hQ.out
                refine E.mono (fun Q h => AWp.ret h) ?_
                apply E.ret (i := (_, Ph.mk _ _ _ _ _ _ _ _))
                · refine ⟨.inr rfl, ⟨4, 8, _, _, _, ywSt74, by decide, rfl, rfl, rfl, rfl, (.cons rfl (.agg (.cons (.sc _ _ rfl) (.cons (.sc _ _ rfl) (.cons (.sc _ _ rfl) (.cons (.sc _ _ rfl) (.cons (.sc _ _ rfl) (.cons (.sc _ _ rfl) (.cons (.sc _ _ rfl) (.cons (.sc _ _ rfl) (.nil _)))))))))) (.nil _)), rfl, ?_⟩, (.refl _)⟩
                  refine congrArg PV.agg ?_
                  dsimp only [Ph.cells]
                  all_goals rfl
                · try dsimp only
                  all_goals (exact ⟨by omega, by omega⟩)
set_option maxHeartbeats 1000000 in
theorem l45Spoil (b : List UInt8) (p : Nat) (l : List Ph) (hb : b.length ≤ 2000) (hp : p ≤ 700000000) (hl1 : 1 ≤ l.length) (hl2 : l.length ≤ 12) : ∃ (q : Nat) (x : List Ph), (p ≤ q ∧ q ≤ p + 1000 ∧ x.length ≤ 13) ∧ LSpec Try.prog 140 138 (rdR 5 b p) (rdR 5 b q) [.one (phs 74 l)] (.one (.fz (phs 74 x))) := by
  suffices key : ∃ i : Nat × List Ph, (p ≤ i.1 ∧ i.1 ≤ p + 1000 ∧ i.2.length ≤ 13) ∧ LSpec Try.prog 140 138 (rdR 5 b p) (rdR 5 b i.1) [.one (phs 74 l)] (.one (.fz (phs 74 i.2))) from (by obtain ⟨i, g, h⟩ := key; exact ⟨i.1, i.2, g, h⟩)
  refine LSpec.ex Try.func140 rfl [4] rfl 65 rfl rfl rfl rfl (fun i : Nat × List Ph => rdR 5 b i.1) (fun i : Nat × List Ph => (.one (.fz (phs 74 i.2)))) (fun i : Nat × List Ph => p ≤ i.1 ∧ i.1 ≤ p + 1000 ∧ i.2.length ≤ 13) (fun i => rfl) (fun i => rfl) ?_
  apply E.reg
  · intro Q hQ
    refine AWp.seq (AWp.region ?_)
    refine ARun.step rfl (step_assignV rfl (hn rfl) rfl rfl) ?_
    refine ARun.nil ?_
    exact hQ.out
  apply E.reg
  · intro Q hQ
    refine AWp.seq (AWp.region ?_)
    refine ARun.step rfl (step_buildSlice rfl (hn rfl) (ps := []) rfl ywSl62 rfl rfl (by simp) (by intro q hq; cases hq) rfl) ?_
    refine ARun.step rfl (step_moveV rfl (hn rfl) rfl rfl) ?_
    refine ARun.step rfl (step_append rfl (hn rfl) rfl ywSl62 rfl rfl rfl (.v _) (fun _ _ => rfl) (by first | omega | (simp only [List.length_cons, List.length_nil]; omega)) (by first | omega | (simp only [List.length_cons, List.length_nil]; omega))) ?_
    refine ARun.step rfl (step_assignV rfl (hn rfl) rfl rfl) ?_
    refine ARun.nil ?_
    exact hQ.out
  refine E.mono (fun Q h => AWp.le (Le.retellArr 9 0 (phs_app 74 l)) h) ?_
  obtain ⟨_, k1, ⟨rfl, hk1⟩, hl1⟩ := l41pick b (p) l.length (by first | assumption | omega | decide | (simp only [List.length_append, List.length_cons, List.length_nil, List.length_take, List.length_drop]; omega)) (by first | assumption | omega | decide | (simp only [List.length_append, List.length_cons, List.length_nil, List.length_take, List.length_drop]; omega)) (by first | assumption | omega | decide | (simp only [List.length_append, List.length_cons, List.length_nil, List.length_take, List.length_drop]; omega)) (by first | assumption | omega | decide | (simp only [List.length_append, List.length_cons, List.length_nil, List.length_take, List.length_drop]; omega))
  apply E.reg
  · intro Q hQ
    refine AWp.seq (AWp.region ?_)
    refine ARun.step rfl (step_moveV rfl (hn rfl) rfl rfl) ?_
    refine ARun.step rfl (step_moveV rfl (hn rfl) rfl rfl) ?_
    refine ARun.step rfl (step_len_r rfl (hn rfl) rfl ywSl62 rfl rfl) ?_
    refine ARun.step rfl (call_stepLZ rfl (hn rfl) rfl ywCo111 rfl rfl rfl rfl (.cons rfl (.one (.v _)) (.nil)) hl1 rfl rfl) ?_
    refine ARun.step rfl (step_assignV rfl (hn rfl) rfl rfl) ?_
    refine ARun.nil ?_
    exact hQ.out
  refine E.mono (fun Q h => AWp.seq h) ?_
  obtain ⟨_, k2, ⟨rfl, hk2⟩, hl2⟩ := l41pick b (p + 1) (6) (by first | assumption | omega | decide | (simp only [List.length_append, List.length_cons, List.length_nil, List.length_take, List.length_drop]; omega)) (by first | assumption | omega | decide | (simp only [List.length_append, List.length_cons, List.length_nil, List.length_take, List.length_drop]; omega)) (by first | assumption | omega | decide | (simp only [List.length_append, List.length_cons, List.length_nil, List.length_take, List.length_drop]; omega)) (by first | assumption | omega | decide | (simp only [List.length_append, List.length_cons, List.length_nil, List.length_take, List.length_drop]; omega))
  apply E.reg
  · intro Q hQ
    refine AWp.seq (AWp.region ?_)
    refine ARun.step rfl (step_moveV rfl (hn rfl) rfl rfl) ?_
    refine ARun.step rfl (call_stepLZ rfl (hn rfl) rfl ywCo111 rfl rfl rfl rfl (.cons rfl (.one (.v _)) (.nil)) hl2 rfl rfl) ?_
    refine ARun.nil ?_
    exact hQ.out
  refine E.mono (fun Q h => AWp.block h) ?_
  apply E.reg
  · intro Q hQ
    refine AWp.seq (AWp.region ?_)
    refine ARun.step rfl (step_eql rfl (hn rfl) rfl rfl rfl) ?_
    refine ARun.step rfl (step_assignV rfl (hn rfl) rfl rfl) ?_
    refine ARun.nil ?_
    exact hQ.out
  refine E.cond rfl (fun c1 => ?_) (fun c1 => ?_)
  · try simp only [nrm] at c1
    apply E.reg
    · intro Q hQ
      refine AWp.region ?_
      refine ARun.step rfl (step_moveV rfl (hn rfl) rfl rfl) ?_
      refine ARun.step rfl (step_moveV rfl (hn rfl) rfl rfl) ?_
      refine ARun.step rfl (step_moveV rfl (hn rfl) rfl rfl) ?_
      refine ARun.step rfl (step_index_rN rfl (hn rfl) rfl ywSl62 rfl rfl rfl (by first | omega | (simp only [List.length_cons, List.length_nil]; omega))) ?_
      refine ARun.step rfl (step_loadS_e rfl (hn rfl) rfl ywSt74 rfl rfl (by omega) (hn rfl) rfl rfl) ?_
      refine ARun.step rfl (step_buildV rfl (hn rfl) rfl ywSl62 (.cons rfl rfl rfl rfl (.nil _)) rfl rfl) ?_
      refine ARun.step rfl (step_append rfl (hn rfl) rfl ywSl62 rfl rfl rfl (.v _) (flatRows_one rfl) (by first | omega | (simp only [List.length_cons, List.length_nil]; omega)) (by first | omega | (simp only [List.length_cons, List.length_nil]; omega))) ?_
      refine ARun.step rfl (step_assignV rfl (hn rfl) rfl rfl) ?_
      refine ARun.nil ?_
      exact hQ.out
    refine E.mono (fun Q h => AWp.le (Le.retellArr 9 0 (phs_cat _ _ (nth l k1) _ rfl)) h) ?_
    apply E.reg
    · intro Q hQ
      refine AWp.seq (AWp.region ?_)
      refine ARun.step rfl (step_moveV rfl (hn rfl) rfl rfl) ?_
      refine ARun.step rfl (step_assignV rfl (hn rfl) rfl rfl) ?_
      refine ARun.nil ?_
      exact hQ.out
    refine E.mono (fun Q h => AWp.le (Le.letGo 9 0 (g := _) rfl (fun _ _ => rfl)) h) ?_
    refine E.mono (fun Q h => AWp.ret h) ?_
    apply E.ret (i := (_, _))
    · refine ⟨?_, (.refl _)⟩
      refine RetIs.frz (.inr rfl) rfl ?_
      rfl
    · try dsimp only
      all_goals (exact ⟨by omega, by omega, (show (l ++ [nth l k1]).length ≤ 13 by simp; omega)⟩)
  · try simp only [nrm] at c1
    apply E.reg
    · intro Q hQ
      refine AWp.seq (AWp.region ?_)
      refine ARun.step rfl (step_eql rfl (hn rfl) rfl rfl rfl) ?_
      refine ARun.step rfl (step_assignV rfl (hn rfl) rfl rfl) ?_
      refine ARun.nil ?_
      exact hQ.out
    refine E.cond rfl (fun c2 => ?_) (fun c2 => ?_)
    · try simp only [nrm] at c2
      apply E.reg
      · intro Q hQ
        refine AWp.region ?_
        refine ARun.step rfl (step_moveV rfl (hn rfl) rfl rfl) ?_
        refine ARun.step rfl (step_moveV rfl (hn rfl) rfl rfl) ?_
        refine ARun.step rfl (step_moveV rfl (hn rfl) rfl rfl) ?_
        refine ARun.step rfl (step_index_rN rfl (hn rfl) rfl ywSl62 rfl rfl rfl (by first | omega | (simp only [List.length_cons, List.length_nil]; omega))) ?_
        refine ARun.step rfl (step_loadS_e rfl (hn rfl) rfl ywSt74 rfl rfl (by omega) (hn rfl) rfl rfl) ?_
        refine ARun.step rfl (step_index_r rfl (hn rfl) rfl ywSl62 rfl rfl rfl (by first | omega | (simp only [List.length_cons, List.length_nil]; omega)) (by first | omega | (simp only [List.length_cons, List.length_nil]; omega))) ?_
        refine ARun.step rfl (step_store_row rfl rfl ywCs74 rfl rfl (by omega) rfl rfl rfl rfl rfl rfl) ?_
        refine ARun.nil ?_
        exact hQ.out
      refine E.mono (fun Q h => AWp.le (Le.retellArr 9 0 (phs_set 74 l 0 (nth l k1) _ rfl)) h) ?_
      apply E.reg
      · intro Q hQ
        refine AWp.seq (AWp.region ?_)
        refine ARun.step rfl (step_moveV rfl (hn rfl) rfl rfl) ?_
        refine ARun.step rfl (step_assignV rfl (hn rfl) rfl rfl) ?_
        refine ARun.nil ?_
        exact hQ.out
      refine E.mono (fun Q h => AWp.le (Le.letGo 9 0 (g := _) rfl (fun _ _ => rfl)) h) ?_
      refine E.mono (fun Q h => AWp.ret h) ?_
      apply E.ret (i := (_, _))
      · refine ⟨?_, (.refl _)⟩
        refine RetIs.frz (.inr rfl) rfl ?_
        rfl
      · try dsimp only
        all_goals (exact ⟨by omega, by omega, by first | omega | (simp only [List.length_set]; omega)⟩)
    · try simp only [nrm] at c2
      apply E.reg
      · intro Q hQ
        refine AWp.seq (AWp.region ?_)
        refine ARun.step rfl (step_eql rfl (hn rfl) rfl rfl rfl) ?_
        refine ARun.step rfl (step_assignV rfl (hn rfl) rfl rfl) ?_
        refine ARun.nil ?_
        exact hQ.out
      refine E.cond rfl (fun c3 => ?_) (fun c3 => ?_)
      · try simp only [nrm] at c3
        obtain ⟨_, k3, ⟨rfl, hk3⟩, hl3⟩ := l41pick b (p + 1 + 1) (2) (by first | assumption | omega | decide | (simp only [List.length_append, List.length_cons, List.length_nil, List.length_take, List.length_drop]; omega)) (by first | assumption | omega | decide | (simp only [List.length_append, List.length_cons, List.length_nil, List.length_take, List.length_drop]; omega)) (by first | assumption | omega | decide | (simp only [List.length_append, List.length_cons, List.length_nil, List.length_take, List.length_drop]; omega)) (by first | assumption | omega | decide | (simp only [List.length_append, List.length_cons, List.length_nil, List.length_take, List.length_drop]; omega))
        apply E.reg
        · intro Q hQ
          refine AWp.seq (AWp.region ?_)
          refine ARun.step rfl (step_moveV rfl (hn rfl) rfl rfl) ?_
          refine ARun.step rfl (call_stepLZ rfl (hn rfl) rfl ywCo111 rfl rfl rfl rfl (.cons rfl (.one (.v _)) (.nil)) hl3 rfl rfl) ?_
          refine ARun.step rfl (step_addN (m := 12) rfl (hn rfl) rfl rfl rfl (by omega)) ?_
          refine ARun.step rfl (step_assignV rfl (hn rfl) rfl rfl) ?_
          refine ARun.nil ?_
          exact hQ.out
        apply E.reg
        · intro Q hQ
          refine AWp.seq (AWp.region ?_)
          refine ARun.step rfl (step_assignV rfl (hn rfl) rfl rfl) ?_
          refine ARun.nil ?_
          exact hQ.out
        refine E.mono (fun Q h => AWp.block h) ?_
        refine E.loop (fun y : Nat × List Ph × Nat => mkAS 65 [(0, ⟨true, .one (.eptr ⟨.arr 1000000 0, []⟩ 0 0)⟩), (5, ⟨true, .one (.ref ⟨.arr 9 0, []⟩)⟩), (7, ⟨true, .one (.v (.int .i64 (12 + k3 : Nat)))⟩), (8, ⟨true, .one (.v (.int .i64 (y.1 : Nat)))⟩)] [] [(9, 0, phs 74 y.2.1), (1000000, 0, ptT 138 (rdR 5 b y.2.2))]) (fun y => y.1 + l.length = y.2.1.length ∧ y.2.1.length ≤ 13 ∧ p ≤ y.2.2 ∧ y.2.2 ≤ p + 3 + 20 * y.1) (fun y => 14 - y.2.1.length) (0, l, p + 1 + 1 + 1) ?_ (Le.forgetR rfl ⟨rfl, rfl, rfl, rfl, trivial⟩ trivial ⟨.refl _, .refl _, trivial⟩) ?_
        · try dsimp only
          exact ⟨by omega, by omega, by omega, by omega⟩
        rintro y ⟨hi2, hlen2, hpa2, hpb2⟩ ih1
        refine E.mono (fun Q h => AWp.seq h) ?_
        apply E.reg
        · intro Q hQ
          refine AWp.seq (AWp.region ?_)
          refine ARun.step rfl (step_moveV rfl (hn rfl) rfl rfl) ?_
          refine ARun.step rfl (step_len_r rfl (hn rfl) rfl ywSl62 rfl rfl) ?_
          refine ARun.step rfl (step_moveV rfl (hn rfl) rfl rfl) ?_
          refine ARun.step rfl (step_lss rfl (hn rfl) rfl rfl rfl) ?_
          refine ARun.nil ?_
          exact hQ.out
        refine E.cond rfl (fun c4 => ?_) (fun c4 => ?_)
        · try simp only [nrm] at c4
          refine E.mono (fun Q h => AWp.skip h) ?_
          refine E.mono (fun Q h => AWp.seq h) ?_
          refine E.mono (fun Q h => AWp.block h) ?_
          obtain ⟨sd, _, hsd, hd⟩ := l43DecE y.1 (by omega)
          obtain ⟨q4, x4, ⟨hqa4, hqb4⟩, hl4⟩ := l45Phase b (y.2.2) (⟨#[122]⟩ ++ sd) [] (by first | assumption | omega | decide | (simp only [List.length_append, List.length_cons, List.length_nil, List.length_take, List.length_drop]; omega)) (by first | assumption | omega | decide | (simp only [List.length_append, List.length_cons, List.length_nil, List.length_take, List.length_drop]; omega)) (by first | assumption | omega | decide | (simp only [List.length_append, List.length_cons, List.length_nil, List.length_take, List.length_drop]; omega))
          apply E.reg
          · intro Q hQ
            refine AWp.region ?_
            refine ARun.step rfl (step_moveV rfl (hn rfl) rfl rfl) ?_
            refine ARun.step rfl (step_moveV rfl (hn rfl) rfl rfl) ?_
            refine ARun.step rfl (step_moveV rfl (hn rfl) rfl rfl) ?_
            refine ARun.step rfl (call_step1 rfl (hn rfl) rfl ywCo176 (.cons rfl (.one (.v _)) (.nil)) hd rfl) ?_
            refine ARun.step rfl (step_sadd rfl (hn rfl) rfl rfl rfl (by have h1 : (⟨#[122]⟩ : Str).size = 1 := rfl; omega)) ?_
            refine ARun.step rfl (step_buildVT rfl (hn rfl) rfl ywSl22 (strs []) (.nil _) rfl rfl rfl rows0) ?_
            refine ARun.step rfl (call_stepLZ rfl (hn rfl) rfl ywCo175 rfl rfl rfl rfl (.cons rfl (.one (.v _)) (.cons rfl (.one (.v _)) (.nil))) hl4 rfl rfl) ?_
            refine ARun.step rfl (step_buildV rfl (hn rfl) rfl ywSl62 (.cons rfl rfl rfl rfl (.nil _)) rfl rfl) ?_
            refine ARun.step rfl (step_append rfl (hn rfl) rfl ywSl62 rfl rfl rfl (.v _) (flatRows_one rfl) (by first | omega | (simp only [List.length_cons, List.length_nil]; omega)) (by first | omega | (simp only [List.length_cons, List.length_nil]; omega))) ?_
            refine ARun.step rfl (step_assignV rfl (hn rfl) rfl rfl) ?_
            refine ARun.nil ?_
            exact hQ.out
          apply E.reg
          · intro Q hQ
            refine AWp.region ?_
            refine ARun.step rfl (step_moveV rfl (hn rfl) rfl rfl) ?_
            refine ARun.step rfl (step_addI rfl (hn rfl) rfl rfl rfl (by first | omega | (simp only [List.length_cons, List.length_nil]; omega)) (by first | omega | (simp only [List.length_cons, List.length_nil]; omega))) ?_
            refine ARun.step rfl (step_assignV rfl (hn rfl) rfl rfl) ?_
            refine ARun.nil ?_
            exact hQ.out
          refine ih1 (y.1 + 1, y.2.1 ++ [x4], q4) _ ?_ ?_ (Le.forgetR rfl ⟨rfl, rfl, rfl, rfl, trivial⟩ trivial ⟨(phs_cat _ _ _ _ rfl), .refl _, trivial⟩)
          · try dsimp only
            simp only [List.length_append, List.length_cons, List.length_nil]; exact ⟨by omega, by omega, by omega, by omega⟩
          · try dsimp only
            simp only [List.length_append, List.length_cons, List.length_nil]; omega
        · try simp only [nrm] at c4
          refine E.mono (fun Q h => AWp.exit h) ?_
          apply E.reg
          · intro Q hQ
            refine AWp.seq (AWp.region ?_)
            refine ARun.step rfl (step_moveV rfl (hn rfl) rfl rfl) ?_
            refine ARun.step rfl (step_assignV rfl (hn rfl) rfl rfl) ?_
            refine ARun.nil ?_
            exact hQ.out
          refine E.mono (fun Q h => AWp.le (Le.letGo 9 0 (g := _) rfl (fun _ _ => rfl)) h) ?_
          refine E.mono (fun Q h => AWp.ret h) ?_
          apply E.ret (i := (_, _))
          · refine ⟨?_, (.refl _)⟩
            refine RetIs.frz (.inr rfl) rfl ?_
            rfl
          · try dsimp only
            all_goals (exact ⟨(show p ≤ y.2.2 by omega), (show y.2.2 ≤ p + 1000 by omega), (show y.2.1.length ≤ 13 by omega)⟩)
      · try simp only [nrm] at c3
        obtain ⟨q5, y5, ⟨hqa5, hqb5⟩, hl5⟩ := l45SpoilPhase b (p + 1 + 1) (nth l k1) (by first | assumption | omega | decide | (simp only [List.length_append, List.length_cons, List.length_nil, List.length_take, List.length_drop]; omega)) (by first | assumption | omega | decide | (simp only [List.length_append, List.length_cons, List.length_nil, List.length_take, List.length_drop]; omega))
        apply E.reg
        · intro Q hQ
          refine AWp.region ?_
          refine ARun.step rfl (step_moveV rfl (hn rfl) rfl rfl) ?_
          refine ARun.step rfl (step_moveV rfl (hn rfl) rfl rfl) ?_
          refine ARun.step rfl (step_moveV rfl (hn rfl) rfl rfl) ?_
          refine ARun.step rfl (step_moveV rfl (hn rfl) rfl rfl) ?_
          refine ARun.step rfl (step_moveV rfl (hn rfl) rfl rfl) ?_
          refine ARun.step rfl (step_index_rN rfl (hn rfl) rfl ywSl62 rfl rfl rfl (by first | omega | (simp only [List.length_cons, List.length_nil]; omega))) ?_
          refine ARun.step rfl (step_loadS_e rfl (hn rfl) rfl ywSt74 rfl rfl (by omega) (hn rfl) rfl rfl) ?_
          refine ARun.step rfl (call_stepLZ rfl (hn rfl) rfl ywCo177 rfl rfl rfl rfl (.cons rfl (.agg (.cons (.v _) (.cons (.v _) (.cons (.v _) (.cons (.v _) (.cons (.v _) (.cons (.v _) (.cons (.v _) (.cons (.v _) .nil))))))))) (.nil)) hl5 rfl rfl) ?_
          refine ARun.step rfl (step_index_rN rfl (hn rfl) rfl ywSl62 rfl rfl rfl (by first | omega | (simp only [List.length_cons, List.length_nil]; omega))) ?_
          refine ARun.step rfl (step_store_row rfl rfl ywCs74 rfl rfl (by omega) rfl rfl rfl rfl rfl rfl) ?_
          refine ARun.nil ?_
          exact hQ.out
        refine E.mono (fun Q h => AWp.le (Le.retellArr 9 0 (phs_set 74 l _ y5 _ rfl)) h) ?_
        apply E.reg
        · intro Q hQ
          refine AWp.seq (AWp.region ?_)
          refine ARun.step rfl (step_moveV rfl (hn rfl) rfl rfl) ?_
          refine ARun.step rfl (step_assignV rfl (hn rfl) rfl rfl) ?_
          refine ARun.nil ?_
          exact hQ.out
        refine E.mono (fun Q h => AWp.le (Le.letGo 9 0 (g := _) rfl (fun _ _ => rfl)) h) ?_
        refine E.mono (fun Q h => AWp.ret h) ?_
        apply E.ret (i := (_, _))
        · refine ⟨?_, (.refl _)⟩
          refine RetIs.frz (.inr rfl) rfl ?_
          rfl
        · try dsimp only
          all_goals (exact ⟨by omega, by omega, by first | omega | (simp only [List.length_set]; omega)⟩)
theorem l45Any (b : List UInt8) (p : Nat) (hb : b.length ≤ 2000) (hp : p ≤ 10000000) : ∃ (q : Nat) (x : List Ph), (p ≤ q ∧ q ≤ p + 3000 ∧ x.length ≤ 13) ∧ LSpec Try.prog 110 138 (rdR 5 b p) (rdR 5 b q) [] (.one (.fz (phs 74 x))) := by
  suffices key : ∃ i : Nat × List Ph, (p ≤ i.1 ∧ i.1 ≤ p + 3000 ∧ i.2.length ≤ 13) ∧ LSpec Try.prog 110 138 (rdR 5 b p) (rdR 5 b i.1) [] (.one (.fz (phs 74 i.2))) from (by obtain ⟨i, g, h⟩ := key; exact ⟨i.1, i.2, g, h⟩)
  refine LSpec.ex Try.func110 rfl [2] rfl 17 rfl rfl rfl rfl (fun i : Nat × List Ph => rdR 5 b i.1) (fun i : Nat × List Ph => (.one (.fz (phs 74 i.2)))) (fun i : Nat × List Ph => p ≤ i.1 ∧ i.1 ≤ p + 3000 ∧ i.2.length ≤ 13) (fun i => rfl) (fun i => rfl) ?_
  apply E.reg
  · intro Q hQ
    refine AWp.seq (AWp.region ?_)
    refine ARun.step rfl (step_assignV rfl (hn rfl) rfl rfl) ?_
    refine ARun.nil ?_
    exact hQ.out
  obtain ⟨q1, x1, ⟨hqa1, hqb1, hxa1, hxb1⟩, hl1⟩ := l45Recipe b (p)  (by first | assumption | omega | decide | (simp only [List.length_append, List.length_cons, List.length_nil, List.length_take, List.length_drop]; omega)) (by first | assumption | omega | decide | (simp only [List.length_append, List.length_cons, List.length_nil, List.length_take, List.length_drop]; omega))
  apply E.reg
  · intro Q hQ
    refine AWp.seq (AWp.region ?_)
    refine ARun.step rfl (step_moveV rfl (hn rfl) rfl rfl) ?_
    refine ARun.step rfl (call_stepLZ rfl (hn rfl) rfl ywCo139 rfl rfl rfl rfl (.nil) hl1 rfl rfl) ?_
    refine ARun.step rfl (step_assignV rfl (hn rfl) rfl rfl) ?_
    refine ARun.nil ?_
    exact hQ.out
  refine E.mono (fun Q h => AWp.seq h) ?_
  obtain ⟨_, k2, ⟨rfl, hk2⟩, hl2⟩ := l41pick b (q1) (24) (by first | assumption | omega | decide | (simp only [List.length_append, List.length_cons, List.length_nil, List.length_take, List.length_drop]; omega)) (by first | assumption | omega | decide | (simp only [List.length_append, List.length_cons, List.length_nil, List.length_take, List.length_drop]; omega)) (by first | assumption | omega | decide | (simp only [List.length_append, List.length_cons, List.length_nil, List.length_take, List.length_drop]; omega)) (by first | assumption | omega | decide | (simp only [List.length_append, List.length_cons, List.length_nil, List.length_take, List.length_drop]; omega))
  apply E.reg
  · intro Q hQ
    refine AWp.seq (AWp.region ?_)
    refine ARun.step rfl (step_moveV rfl (hn rfl) rfl rfl) ?_
    refine ARun.step rfl (call_stepLZ rfl (hn rfl) rfl ywCo111 rfl rfl rfl rfl (.cons rfl (.one (.v _)) (.nil)) hl2 rfl rfl) ?_
    refine ARun.nil ?_
    exact hQ.out
  refine E.mono (fun Q h => AWp.block h) ?_
  apply E.reg
  · intro Q hQ
    refine AWp.seq (AWp.region ?_)
    refine ARun.step rfl (step_eql rfl (hn rfl) rfl rfl rfl) ?_
    refine ARun.step rfl (step_assignV rfl (hn rfl) rfl rfl) ?_
    refine ARun.nil ?_
    exact hQ.out
  refine E.cond rfl (fun c1 => ?_) (fun c1 => ?_)
  · try simp only [nrm] at c1
    obtain ⟨q3, x3, ⟨hqa3, hqb3, hxb3⟩, hl3⟩ := l45Spoil b (q1 + 1) (x1) (by first | assumption | omega | decide | (simp only [List.length_append, List.length_cons, List.length_nil, List.length_take, List.length_drop]; omega)) (by first | assumption | omega | decide | (simp only [List.length_append, List.length_cons, List.length_nil, List.length_take, List.length_drop]; omega)) (by first | assumption | omega | decide | (simp only [List.length_append, List.length_cons, List.length_nil, List.length_take, List.length_drop]; omega)) (by first | assumption | omega | decide | (simp only [List.length_append, List.length_cons, List.length_nil, List.length_take, List.length_drop]; omega))
    apply E.reg
    · intro Q hQ
      refine AWp.seq (AWp.region ?_)
      refine ARun.step rfl (step_moveV rfl (hn rfl) rfl rfl) ?_
      refine ARun.step rfl (step_moveV rfl (hn rfl) rfl rfl) ?_
      refine ARun.step rfl (call_stepLZ rfl (hn rfl) rfl ywCo140 rfl rfl rfl rfl (.cons rfl (.one (.v _)) (.nil)) hl3 rfl rfl) ?_
      refine ARun.step rfl (step_assignV rfl (hn rfl) rfl rfl) ?_
      refine ARun.nil ?_
      exact hQ.out
    refine E.mono (fun Q h => AWp.ret h) ?_
    apply E.ret (i := (_, _))
    · refine ⟨?_, (.refl _)⟩
      refine RetIs.frz (.inr rfl) rfl ?_
      rfl
    · try dsimp only
      all_goals (exact ⟨by omega, by omega, by first | omega | exact Nat.zero_le 13⟩)
  · try simp only [nrm] at c1
    apply E.reg
    · intro Q hQ
      refine AWp.seq (AWp.region ?_)
      refine ARun.step rfl (step_eql rfl (hn rfl) rfl rfl rfl) ?_
      refine ARun.step rfl (step_assignV rfl (hn rfl) rfl rfl) ?_
      refine ARun.nil ?_
      exact hQ.out
    refine E.cond rfl (fun c2 => ?_) (fun c2 => ?_)
    · try simp only [nrm] at c2
      apply E.reg
      · intro Q hQ
        refine AWp.seq (AWp.region ?_)
        refine ARun.step rfl (step_buildVT rfl (hn rfl) rfl ywSl62 (phs 74 []) (.nil _) rfl rfl rfl (rowsE trivial)) ?_
        refine ARun.step rfl (step_assignV rfl (hn rfl) rfl rfl) ?_
        refine ARun.nil ?_
        exact hQ.out
      refine E.mono (fun Q h => AWp.ret h) ?_
      apply E.ret (i := (_, _))
      · refine ⟨?_, (.refl _)⟩
        refine RetIs.frz (.inr rfl) rfl ?_
        rfl
      · try dsimp only
        all_goals (exact ⟨by omega, by omega, by first | omega | exact Nat.zero_le 13⟩)
    · try simp only [nrm] at c2
      refine E.mono (fun Q h => AWp.skip h) ?_
      apply E.reg
      · intro Q hQ
        refine AWp.seq (AWp.region ?_)
        refine ARun.step rfl (step_moveV rfl (hn rfl) rfl rfl) ?_
        refine ARun.step rfl (step_assignV rfl (hn rfl) rfl rfl) ?_
        refine ARun.nil ?_
        exact hQ.out
      refine E.mono (fun Q h => AWp.ret h) ?_
      apply E.ret (i := (_, _))
      · refine ⟨?_, (.refl _)⟩
        refine RetIs.frz (.inr rfl) rfl ?_
        rfl
      · try dsimp only
        all_goals (exact ⟨by omega, by omega, by first | omega | exact Nat.zero_le 13⟩)

end Go.Proofs.Ytkmacjdigkaabaa
