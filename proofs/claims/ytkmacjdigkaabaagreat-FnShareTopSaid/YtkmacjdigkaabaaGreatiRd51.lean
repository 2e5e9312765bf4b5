/- Contracts of functions of the program, each met by its body; conditions stand in each statement. No condition. -/
import Derived.Test.YtkmacjdigkaabaaGreatiBkm
import Derived.Test.YtkmacjdigkaabaaGreatHn
import Derived.Test.YtkmacjdigkaabaaGreatProg
import Derived.KernelRfl
set_option linter.unusedVariables false
set_option linter.unusedSimpArgs false
set_option linter.unnecessarySimpa false
set_option linter.unusedSimpArgs false
set_option maxRecDepth 100000
namespace Go.Proofs.YtkmacjdigkaabaaGreat
open Go Go.Mh
def nms5 : List Str := [⟨#[97, 108, 101]⟩, ⟨#[98]⟩, ⟨#[99, 45, 99]⟩, ⟨#[100, 97, 114, 107]⟩, ⟨#[120, 57]⟩]
def thg5 : List Str := [⟨#[106]⟩, ⟨#[107, 101, 103]⟩, ⟨#[116, 117, 110]⟩, ⟨#[118, 97, 116]⟩, ⟨#[119]⟩]
structure Do where
  kind : Int
  name : Str
  list : List Str
deriving Inhabited
def Do.cells (d : Do) : List T := [.int .i64 d.kind, .str d.name, strs d.list]
def Do.zcells (d : Do) : List T := [.int .i64 d.kind, .str d.name, .fz (strs d.list)]

theorem take_next {l : List Str} {i : Nat} (h : i < l.length) : l.take (i + 1) = l.take i ++ [nth l i] := by
  rw [List.take_add_one, List.getElem?_eq_getElem (l := l) (i := i) h, Option.toList_some, nth_get h]

theorem enterSZ (p : Bk) (s : Str) (l : List Str) (hs : smallBk p) (hl : l.length ≤ 1048576) : ASpec Tryz.prog 18 [.agg (p.cells 105), .one (.str s), .one (strs l)] (.tup [.agg ((enterR p s l).1.zcells 105), .one (.int .i64 (enterR p s l).2)]) := (enterS p s l hs hl).letGo (.tup (.cons (.agg (.cons (.fz (.refl _)) (.cons (.fz (fz_bts _ _)) .nil))) (.cons (.one (.sc _ rfl)) .nil)))

theorem askSZ (p : Bk) (s : Str) (l : List Str) (hs : smallBk p) (hl : l.length ≤ 1048576) : ASpec Tryz.prog 20 [.agg (p.cells 105), .one (.str s), .one (strs l)] (.tup [.agg ((askR p s l).1.zcells 105), .one (.int .i64 (askR p s l).2)]) := (askS p s l hs hl).letGo (.tup (.cons (.agg (.cons (.fz (.refl _)) (.cons (.fz (fz_bts _ _)) .nil))) (.cons (.one (.sc _ rfl)) .nil)))

theorem lessSZ (p : Bk) (s : Str) (l : List Str) (hs : smallBk p) (hl : l.length ≤ 1048576) : ASpec Tryz.prog 22 [.agg (p.cells 105), .one (.str s), .one (strs l)] (.tup [.agg ((lessR p s l).1.zcells 105), .one (.int .i64 (lessR p s l).2)]) := (lessS p s l hs hl).letGo (.tup (.cons (.agg (.cons (.fz (.refl _)) (.cons (.fz (fz_bts _ _)) .nil))) (.cons (.one (.sc _ rfl)) .nil)))

def stepB (p : Bk) (d : Do) : Bk := if d.kind = 1 then (enterR p d.name d.list).1 else if d.kind = 2 then (askR p d.name d.list).1 else if d.kind = 3 then (lessR p d.name d.list).1 else (leaveR p d.name).1
theorem step_le {p : Bk} {d : Do} (h : bkLe p 5) : bkLe (stepB p d) 5 := by
  unfold stepB
  repeat' split
  · exact enter_le h
  · exact ask_le h
  · exact less_le h
  · exact leave_le h

theorem yqFo155_1 : fieldOff Tryz.prog 155 1 = some 1 := by kernel_rfl
theorem yqSc3 : scalarB Tryz.prog 3 = true := by kernel_rfl
theorem yqCs3 : cellsSz Tryz.prog 3 = some (0 + 1) := by kernel_rfl
theorem yqFo155_0 : fieldOff Tryz.prog 155 0 = some 0 := by kernel_rfl
theorem yqSc45 : scalarB Tryz.prog 45 = true := by kernel_rfl
theorem yqSl45 : sliceT Tryz.prog 45 = some ⟨5, 1, 1⟩ := by kernel_rfl
theorem yqSc5 : scalarB Tryz.prog 5 = true := by kernel_rfl
theorem yqUi5 : Tryz.prog.underlying 5 = some (.int .u8) := by kernel_rfl
theorem yqUi3 : Tryz.prog.underlying 3 = some (.int .i64) := by kernel_rfl
theorem yqMo : Tryz.prog.follows .mixedOrders = true := by kernel_rfl
theorem yqSl22 : sliceT Tryz.prog 22 = some ⟨9, 1, 16⟩ := by kernel_rfl
theorem yqCo63 : callOk Tryz.prog 63 = true := by kernel_rfl
theorem yqSc9 : scalarB Tryz.prog 9 = true := by kernel_rfl
theorem yqPl155 : structPl Tryz.prog 155 = some [(0, 1), (1, 1)] := by kernel_rfl
theorem yqZc155 : zeroCs Tryz.prog 155 = some [.nil, .v (.int .i64 0)] := by kernel_rfl
theorem yqZs34 : zeroSz Tryz.prog 34 = some 2 := by kernel_rfl
theorem yqPl34 : structPl Tryz.prog 34 = some [(0, 1), (1, 1)] := by kernel_rfl
theorem yqZc34 : zeroCs Tryz.prog 34 = some [.nil, .nil] := by kernel_rfl
theorem yqCs34 : cellsSz Tryz.prog 34 = some (1 + 1) := by kernel_rfl
theorem yqFo34_0 : fieldOff Tryz.prog 34 0 = some 0 := by kernel_rfl
theorem yqSc22 : scalarB Tryz.prog 22 = true := by kernel_rfl
theorem yqCs22 : cellsSz Tryz.prog 22 = some (0 + 1) := by kernel_rfl
theorem yqSt34 : structSz Tryz.prog 34 = some 2 := by kernel_rfl
theorem yqZs50 : zeroSz Tryz.prog 50 = some 3 := by kernel_rfl
theorem yqCo136 : callOk Tryz.prog 136 = true := by kernel_rfl
theorem yqCo135 : callOk Tryz.prog 135 = true := by kernel_rfl
theorem yqPl50 : structPl Tryz.prog 50 = some [(0, 1), (1, 1), (2, 1)] := by kernel_rfl
theorem yqZc50 : zeroCs Tryz.prog 50 = some [.v (.int .i64 0), .v (.str ⟨#[]⟩), .nil] := by kernel_rfl
theorem yqCs50 : cellsSz Tryz.prog 50 = some (2 + 1) := by kernel_rfl
theorem yqFo50_1 : fieldOff Tryz.prog 50 1 = some 1 := by kernel_rfl
theorem yqCo78 : callOk Tryz.prog 78 = true := by kernel_rfl
theorem yqFo50_0 : fieldOff Tryz.prog 50 0 = some 0 := by kernel_rfl
theorem yqCs9 : cellsSz Tryz.prog 9 = some (0 + 1) := by kernel_rfl
theorem yqCo137 : callOk Tryz.prog 137 = true := by kernel_rfl
theorem yqFo50_2 : fieldOff Tryz.prog 50 2 = some 2 := by kernel_rfl
theorem yqSt50 : structSz Tryz.prog 50 = some 3 := by kernel_rfl
theorem yqFo34_1 : fieldOff Tryz.prog 34 1 = some 1 := by kernel_rfl
theorem yqSc32 : scalarB Tryz.prog 32 = true := by kernel_rfl
theorem yqSl32 : sliceT Tryz.prog 32 = some ⟨105, 3, 64⟩ := by kernel_rfl
theorem yqFo105_2 : fieldOff Tryz.prog 105 2 = some 2 := by kernel_rfl
theorem yqFo105_0 : fieldOff Tryz.prog 105 0 = some 0 := by kernel_rfl
theorem yqCo18 : callOk Tryz.prog 18 = true := by kernel_rfl
theorem yqCo20 : callOk Tryz.prog 20 = true := by kernel_rfl
theorem yqCo22 : callOk Tryz.prog 22 = true := by kernel_rfl
theorem yqCo24 : callOk Tryz.prog 24 = true := by kernel_rfl
theorem l51pick (b : List UInt8) (p n : Nat) (hb : b.length ≤ 2000) (hp : p ≤ 1000000000) (h1 : 1 ≤ n) (h2 : n ≤ 1000000000) : ∃ (q : Nat) (k : Nat), (q = p + 1 ∧ k < n) ∧ LSpec Tryz.prog 63 155 (rdR 5 b p) (rdR 5 b q) [.one (.int .i64 (n : Nat))] (.one (.int .i64 (k : Nat))) := by
  suffices key : ∃ i : Nat × Nat, (i.1 = p + 1 ∧ i.2 < n) ∧ LSpec Tryz.prog 63 155 (rdR 5 b p) (rdR 5 b i.1) [.one (.int .i64 (n : Nat))] (.one (.int .i64 (i.2 : Nat))) from (by obtain ⟨i, g, h⟩ := key; exact ⟨i.1, i.2, g, h⟩)
  refine LSpec.ex Tryz.func63 rfl [4] rfl 99 rfl rfl rfl rfl (fun i : Nat × Nat => rdR 5 b i.1) (fun i : Nat × Nat => (.one (.int .i64 (i.2 : Nat)))) (fun i : Nat × Nat => i.1 = p + 1 ∧ i.2 < n) (fun i => rfl) (fun i => rfl) ?_
  apply E.reg
  · intro Q hQ
    refine AWp.seq (AWp.region ?_)
    refine ARun.step rfl (step_assignV rfl (hn rfl) rfl rfl) ?_
    refine ARun.nil ?_
    exact hQ.out
  apply E.reg
  · intro Q hQ
    refine AWp.seq (AWp.region ?_)
    refine ARun.step rfl (step_moveV rfl (hn rfl) rfl rfl) ?_
    refine ARun.step rfl (step_moveV rfl (hn rfl) rfl rfl) ?_
    refine ARun.step rfl (step_nilE rfl (hn rfl) rfl rfl rfl) ?_
    refine ARun.step rfl (step_field_e rfl (hn rfl) rfl yqFo155_1 rfl rfl) ?_
    refine ARun.step rfl (step_load_e rfl (hn rfl) rfl yqSc3 rfl rfl (by omega) (hn rfl) rfl) ?_
    refine ARun.step rfl (step_inc rfl (hn rfl) rfl rfl rfl (by omega)) ?_
    refine ARun.step rfl (step_nilE rfl (hn rfl) rfl rfl rfl) ?_
    refine ARun.step rfl (step_field_e rfl (hn rfl) rfl yqFo155_1 rfl rfl) ?_
    refine ARun.step rfl (step_store_L rfl rfl yqCs3 rfl rfl rfl rfl rfl) ?_
    refine ARun.nil ?_
    exact hQ.out
  refine E.mono (fun Q h => AWp.seq h) ?_
  apply E.reg
  · intro Q hQ
    refine AWp.seq (AWp.region ?_)
    refine ARun.step rfl (step_moveV rfl (hn rfl) rfl rfl) ?_
    refine ARun.step rfl (step_lss rfl (hn rfl) rfl rfl rfl) ?_
    refine ARun.step rfl (step_moveV rfl (hn rfl) rfl rfl) ?_
    refine guardS rfl rfl rfl rfl (hn rfl) (fun g1 g2 => step_moveV rfl (hn rfl) rfl rfl) ?_
    refine guardS rfl rfl rfl rfl (hn rfl) (fun g1 g2 => step_nilE rfl (hn rfl) rfl (ev_true rfl (by exact flag2 g1 g2)) rfl) ?_
    refine guardS rfl rfl rfl rfl (hn rfl) (fun g1 g2 => step_field_e rfl (hn rfl) rfl yqFo155_0 (ev_true rfl (by exact flag2 g1 g2)) rfl) ?_
    refine guardS rfl rfl rfl rfl (hn rfl) (fun g1 g2 => step_load_e rfl (hn rfl) rfl yqSc45 (ev_true rfl (by exact flag2 g1 g2)) rfl (by first | omega | (have := of_decide_eq_true g2; omega) | (have := of_decide_eq_false g2; omega) | (simp only [nrm] at g2; omega) | (simp only [nrm, Bool.true_and] at g1 g2; omega)) (hn rfl) rfl) ?_
    refine guardS rfl rfl rfl rfl (hn rfl) (fun g1 g2 => step_len_f rfl (hn rfl) rfl yqSl45 (ev_true rfl (by exact flag2 g1 g2))) ?_
    refine guardS rfl rfl rfl rfl (hn rfl) (fun g1 g2 => step_eql rfl (hn rfl) rfl (ev_true rfl (by exact flag2 g1 g2)) rfl) ?_
    refine ARun.step rfl (step_or rfl (hn rfl) rfl rfl rfl (fun h => (by exact flag1 h))) ?_
    refine ARun.nil ?_
    exact hQ.out
  refine E.cond rfl (fun c1 => ?_) (fun c1 => ?_)
  · try simp only [nrm] at c1
    apply E.reg
    · intro Q hQ
      refine AWp.seq (AWp.region ?_)
      refine ARun.step rfl (step_assignV rfl (hn rfl) rfl rfl) ?_
      refine ARun.nil ?_
      exact hQ.out
    refine E.mono (fun Q h => AWp.ret h) ?_
    apply E.ret (i := (_, _))
    · refine ⟨?_, (.refl _)⟩
      refine RetIs.sc (.inr rfl) rfl rfl ?_
      refine congrArg (T.int _) ?_
      rfl
    · try dsimp only
      all_goals (exact ⟨rfl, by omega⟩)
  · try simp only [nrm] at c1
    have hpos : 0 < b.length := by omega
    refine E.mono (fun Q h => AWp.skip h) ?_
    apply E.reg
    · intro Q hQ
      refine AWp.seq (AWp.region ?_)
      refine ARun.step rfl (step_moveV rfl (hn rfl) rfl rfl) ?_
      refine ARun.step rfl (step_nilE rfl (hn rfl) rfl rfl rfl) ?_
      refine ARun.step rfl (step_field_e rfl (hn rfl) rfl yqFo155_1 rfl rfl) ?_
      refine ARun.step rfl (step_load_e rfl (hn rfl) rfl yqSc3 rfl rfl (by omega) (hn rfl) rfl) ?_
      refine ARun.step rfl (step_decN rfl (hn rfl) rfl rfl rfl (by omega) (by omega)) ?_
      refine ARun.step rfl (step_assignV rfl (hn rfl) rfl rfl) ?_
      refine ARun.nil ?_
      exact hQ.out
    refine E.mono (fun Q h => AWp.seq h) ?_
    refine E.mono (fun Q h => AWp.le (Le.slotInt 5 rfl (show ((p + 1 - 1 : Nat) : Int) = (p : Nat) from by omega)) h) ?_
    apply E.reg
    · intro Q hQ
      refine AWp.seq (AWp.region ?_)
      refine ARun.step rfl (step_moveV rfl (hn rfl) rfl rfl) ?_
      refine ARun.step rfl (step_moveV rfl (hn rfl) rfl rfl) ?_
      refine ARun.step rfl (step_nilE rfl (hn rfl) rfl rfl rfl) ?_
      refine ARun.step rfl (step_field_e rfl (hn rfl) rfl yqFo155_0 rfl rfl) ?_
      refine ARun.step rfl (step_load_e rfl (hn rfl) rfl yqSc45 rfl rfl (by omega) (hn rfl) rfl) ?_
      refine ARun.step rfl (step_len_f rfl (hn rfl) rfl yqSl45 rfl) ?_
      refine ARun.step rfl (step_lss rfl (hn rfl) rfl rfl rfl) ?_
      refine ARun.nil ?_
      exact hQ.out
    refine E.cond rfl (fun c2 => ?_) (fun c2 => ?_)
    · try simp only [nrm] at c2
      have hb0 : p < b.length := by omega
      have hb1 := bt_lt b p
      apply E.reg
      · intro Q hQ
        refine AWp.seq (AWp.region ?_)
        refine ARun.step rfl (step_moveV rfl (hn rfl) rfl rfl) ?_
        refine ARun.step rfl (step_nilE rfl (hn rfl) rfl rfl rfl) ?_
        refine ARun.step rfl (step_field_e rfl (hn rfl) rfl yqFo155_0 rfl rfl) ?_
        refine ARun.step rfl (step_load_e rfl (hn rfl) rfl yqSc45 rfl rfl (by omega) (hn rfl) rfl) ?_
        refine ARun.step rfl (step_moveV rfl (hn rfl) rfl rfl) ?_
        refine ARun.step rfl (step_index_fN rfl (hn rfl) rfl yqSl45 rfl rfl (by first | omega | (simp only [List.length_cons, List.length_nil]; omega))) ?_
        refine ARun.step rfl (step_load_f rfl (hn rfl) rfl yqSc5 rfl (hn rfl) rfl) ?_
        refine ARun.step rfl (step_convN rfl (hn rfl) rfl ⟨_, yqUi5⟩ yqUi3 rfl (by omega)) ?_
        refine ARun.step rfl (step_moveV rfl (hn rfl) rfl rfl) ?_
        refine ARun.step rfl (step_remN rfl (hn rfl) rfl rfl rfl (by omega)) ?_
        refine ARun.step rfl (step_assignV rfl (hn rfl) rfl rfl) ?_
        refine ARun.nil ?_
        exact hQ.out
      refine E.mono (fun Q h => AWp.ret h) ?_
      apply E.ret (i := (_, _))
      · refine ⟨?_, (.refl _)⟩
        refine RetIs.sc (.inr rfl) rfl rfl ?_
        refine congrArg (T.int _) ?_
        rfl
      · try dsimp only
        all_goals (exact ⟨rfl, Nat.mod_lt _ h1⟩)
    · try simp only [nrm] at c2
      have hm1 := Nat.mod_lt p hpos
      have hm2 := Nat.mod_lt (p * 7 + 3) hpos
      have hb1 := bt_lt b (p % b.length)
      have hb2 := bt_lt b ((p * 7 + 3) % b.length)
      have hd := Nat.div_le_self p b.length
      refine E.mono (fun Q h => AWp.skip h) ?_
      apply E.reg
      · intro Q hQ
        refine AWp.seq (AWp.draw [⟨[.s 0], [.s 47], false⟩, ⟨[.s 47, .a 1000000 0], [.s 48], false⟩, ⟨[.s 48, .a 1000000 0], [.s 49], false⟩, ⟨[.s 49, .a 1000000 0], [.s 50], false⟩, ⟨[.s 5], [.s 51], false⟩, ⟨[.s 0], [.s 52], false⟩, ⟨[.s 52, .a 1000000 0], [.s 53], false⟩, ⟨[.s 53, .a 1000000 0], [.s 54], false⟩, ⟨[.s 54, .a 1000000 0], [.s 55], false⟩, ⟨[.s 55], [.s 56], false⟩, ⟨[.s 51, .s 56], [.s 57], false⟩, ⟨[.s 50, .s 57], [.s 58], false⟩, ⟨[.s 58], [.s 59], false⟩, ⟨[.s 59], [.s 60], false⟩, ⟨[.s 60], [.s 61], false⟩, ⟨[.s 0], [.s 62], false⟩, ⟨[.s 62, .a 1000000 0], [.s 63], false⟩, ⟨[.s 63, .a 1000000 0], [.s 64], false⟩, ⟨[.s 64, .a 1000000 0], [.s 65], false⟩, ⟨[.s 5], [.s 66], false⟩, ⟨[.s 66], [.s 67], false⟩, ⟨[.s 67], [.s 68], false⟩, ⟨[.s 0], [.s 69], false⟩, ⟨[.s 69, .a 1000000 0], [.s 70], false⟩, ⟨[.s 70, .a 1000000 0], [.s 71], false⟩, ⟨[.s 71, .a 1000000 0], [.s 72], false⟩, ⟨[.s 72], [.s 73], false⟩, ⟨[.s 68, .s 73], [.s 74], false⟩, ⟨[.s 65, .s 74], [.s 75], false⟩, ⟨[.s 75], [.s 76], false⟩, ⟨[.s 76], [.s 77], false⟩, ⟨[.s 77], [.s 78], false⟩, ⟨[.s 61, .s 78], [.s 79], false⟩, ⟨[.s 5], [.s 80], false⟩, ⟨[.s 80], [.s 81], false⟩, ⟨[.s 79, .s 81], [.s 82], false⟩, ⟨[.s 5], [.s 83], false⟩, ⟨[.s 0], [.s 84], false⟩, ⟨[.s 84, .a 1000000 0], [.s 85], false⟩, ⟨[.s 85, .a 1000000 0], [.s 86], false⟩, ⟨[.s 86, .a 1000000 0], [.s 87], false⟩, ⟨[.s 87], [.s 88], false⟩, ⟨[.s 83, .s 88], [.s 89], false⟩, ⟨[.s 89], [.s 90], false⟩, ⟨[.s 82, .s 90], [.s 91], false⟩, ⟨[], [], true⟩] yqMo (by kernel_rfl) ?_)
        refine DRun.step rfl (fun τ hN hr => step_moveV rfl (rdN hN (hn rfl)) rfl (by exact rdS hr rfl rfl)) ?_
        refine DRun.step rfl (fun τ hN hr => step_nilE rfl (rdN hN (hn rfl)) rfl (by exact rdS hr rfl rfl) (by exact rdA hr rfl rfl)) ?_
        refine DRun.step rfl (fun τ hN hr => step_field_e rfl (rdN hN (hn rfl)) rfl yqFo155_0 (by exact rdS hr rfl rfl) (by exact rdA hr rfl rfl)) ?_
        refine DRun.step rfl (fun τ hN hr => step_load_e rfl (rdN hN (hn rfl)) rfl yqSc45 (by exact rdS hr rfl rfl) (by exact rdA hr rfl rfl) (by omega) (hn rfl) rfl) ?_
        refine DRun.step rfl (fun τ hN hr => step_moveV rfl (rdN hN (hn rfl)) rfl (by exact rdS hr rfl rfl)) ?_
        refine DRun.step rfl (fun τ hN hr => step_moveV rfl (rdN hN (hn rfl)) rfl (by exact rdS hr rfl rfl)) ?_
        refine DRun.step rfl (fun τ hN hr => step_nilE rfl (rdN hN (hn rfl)) rfl (by exact rdS hr rfl rfl) (by exact rdA hr rfl rfl)) ?_
        refine DRun.step rfl (fun τ hN hr => step_field_e rfl (rdN hN (hn rfl)) rfl yqFo155_0 (by exact rdS hr rfl rfl) (by exact rdA hr rfl rfl)) ?_
        refine DRun.step rfl (fun τ hN hr => step_load_e rfl (rdN hN (hn rfl)) rfl yqSc45 (by exact rdS hr rfl rfl) (by exact rdA hr rfl rfl) (by omega) (hn rfl) rfl) ?_
        refine DRun.step rfl (fun τ hN hr => step_len_f rfl (rdN hN (hn rfl)) rfl yqSl45 (by exact rdS hr rfl rfl)) ?_
        refine DRun.step rfl (fun τ hN hr => step_remN rfl (rdN hN (hn rfl)) rfl (by exact rdS hr rfl rfl) (by exact rdS hr rfl rfl) hpos) ?_
        refine DRun.step rfl (fun τ hN hr => step_index_fN rfl (rdN hN (hn rfl)) rfl yqSl45 (by exact rdS hr rfl rfl) (by exact rdS hr rfl rfl) (by first | omega | (simp only [List.length_cons, List.length_nil]; omega))) ?_
        refine DRun.step rfl (fun τ hN hr => step_load_f rfl (rdN hN (hn rfl)) rfl yqSc5 (by exact rdS hr rfl rfl) (hn rfl) rfl) ?_
        refine DRun.step rfl (fun τ hN hr => step_convN rfl (rdN hN (hn rfl)) rfl ⟨_, yqUi5⟩ yqUi3 (by exact rdS hr rfl rfl) (by omega)) ?_
        refine DRun.step rfl (fun τ hN hr => step_mulN (n := 131) rfl (rdN hN (hn rfl)) rfl (by exact rdS hr rfl rfl) rfl (by omega)) ?_
        refine DRun.step rfl (fun τ hN hr => step_moveV rfl (rdN hN (hn rfl)) rfl (by exact rdS hr rfl rfl)) ?_
        refine DRun.step rfl (fun τ hN hr => step_nilE rfl (rdN hN (hn rfl)) rfl (by exact rdS hr rfl rfl) (by exact rdA hr rfl rfl)) ?_
        refine DRun.step rfl (fun τ hN hr => step_field_e rfl (rdN hN (hn rfl)) rfl yqFo155_0 (by exact rdS hr rfl rfl) (by exact rdA hr rfl rfl)) ?_
        refine DRun.step rfl (fun τ hN hr => step_load_e rfl (rdN hN (hn rfl)) rfl yqSc45 (by exact rdS hr rfl rfl) (by exact rdA hr rfl rfl) (by omega) (hn rfl) rfl) ?_
        refine DRun.step rfl (fun τ hN hr => step_moveV rfl (rdN hN (hn rfl)) rfl (by exact rdS hr rfl rfl)) ?_
        refine DRun.step rfl (fun τ hN hr => step_mulN (n := 7) rfl (rdN hN (hn rfl)) rfl (by exact rdS hr rfl rfl) rfl (by omega)) ?_
        refine DRun.step rfl (fun τ hN hr => step_addN (n := 3) rfl (rdN hN (hn rfl)) rfl (by exact rdS hr rfl rfl) rfl (by omega)) ?_
        refine DRun.step rfl (fun τ hN hr => step_moveV rfl (rdN hN (hn rfl)) rfl (by exact rdS hr rfl rfl)) ?_
        refine DRun.step rfl (fun τ hN hr => step_nilE rfl (rdN hN (hn rfl)) rfl (by exact rdS hr rfl rfl) (by exact rdA hr rfl rfl)) ?_
        refine DRun.step rfl (fun τ hN hr => step_field_e rfl (rdN hN (hn rfl)) rfl yqFo155_0 (by exact rdS hr rfl rfl) (by exact rdA hr rfl rfl)) ?_
        refine DRun.step rfl (fun τ hN hr => step_load_e rfl (rdN hN (hn rfl)) rfl yqSc45 (by exact rdS hr rfl rfl) (by exact rdA hr rfl rfl) (by omega) (hn rfl) rfl) ?_
        refine DRun.step rfl (fun τ hN hr => step_len_f rfl (rdN hN (hn rfl)) rfl yqSl45 (by exact rdS hr rfl rfl)) ?_
        refine DRun.step rfl (fun τ hN hr => step_remN rfl (rdN hN (hn rfl)) rfl (by exact rdS hr rfl rfl) (by exact rdS hr rfl rfl) hpos) ?_
        refine DRun.step rfl (fun τ hN hr => step_index_fN rfl (rdN hN (hn rfl)) rfl yqSl45 (by exact rdS hr rfl rfl) (by exact rdS hr rfl rfl) (by first | omega | (simp only [List.length_cons, List.length_nil]; omega))) ?_
        refine DRun.step rfl (fun τ hN hr => step_load_f rfl (rdN hN (hn rfl)) rfl yqSc5 (by exact rdS hr rfl rfl) (hn rfl) rfl) ?_
        refine DRun.step rfl (fun τ hN hr => step_convN rfl (rdN hN (hn rfl)) rfl ⟨_, yqUi5⟩ yqUi3 (by exact rdS hr rfl rfl) (by omega)) ?_
        refine DRun.step rfl (fun τ hN hr => step_mulN (n := 1117) rfl (rdN hN (hn rfl)) rfl (by exact rdS hr rfl rfl) rfl (by omega)) ?_
        refine DRun.step rfl (fun τ hN hr => step_addN rfl (rdN hN (hn rfl)) rfl (by exact rdS hr rfl rfl) (by exact rdS hr rfl rfl) (by omega)) ?_
        refine DRun.step rfl (fun τ hN hr => step_moveV rfl (rdN hN (hn rfl)) rfl (by exact rdS hr rfl rfl)) ?_
        refine DRun.step rfl (fun τ hN hr => step_mulN (n := 29) rfl (rdN hN (hn rfl)) rfl (by exact rdS hr rfl rfl) rfl (by omega)) ?_
        refine DRun.step rfl (fun τ hN hr => step_addN rfl (rdN hN (hn rfl)) rfl (by exact rdS hr rfl rfl) (by exact rdS hr rfl rfl) (by omega)) ?_
        refine DRun.step rfl (fun τ hN hr => step_moveV rfl (rdN hN (hn rfl)) rfl (by exact rdS hr rfl rfl)) ?_
        refine DRun.step rfl (fun τ hN hr => step_moveV rfl (rdN hN (hn rfl)) rfl (by exact rdS hr rfl rfl)) ?_
        refine DRun.step rfl (fun τ hN hr => step_nilE rfl (rdN hN (hn rfl)) rfl (by exact rdS hr rfl rfl) (by exact rdA hr rfl rfl)) ?_
        refine DRun.step rfl (fun τ hN hr => step_field_e rfl (rdN hN (hn rfl)) rfl yqFo155_0 (by exact rdS hr rfl rfl) (by exact rdA hr rfl rfl)) ?_
        refine DRun.step rfl (fun τ hN hr => step_load_e rfl (rdN hN (hn rfl)) rfl yqSc45 (by exact rdS hr rfl rfl) (by exact rdA hr rfl rfl) (by omega) (hn rfl) rfl) ?_
        refine DRun.step rfl (fun τ hN hr => step_len_f rfl (rdN hN (hn rfl)) rfl yqSl45 (by exact rdS hr rfl rfl)) ?_
        refine DRun.step rfl (fun τ hN hr => step_quoN rfl (rdN hN (hn rfl)) rfl (by exact rdS hr rfl rfl) (by exact rdS hr rfl rfl) hpos (by omega)) ?_
        refine DRun.step rfl (fun τ hN hr => step_mulN (n := 53) rfl (rdN hN (hn rfl)) rfl (by exact rdS hr rfl rfl) rfl (by omega)) ?_
        refine DRun.step rfl (fun τ hN hr => step_addN rfl (rdN hN (hn rfl)) rfl (by exact rdS hr rfl rfl) (by exact rdS hr rfl rfl) (by omega)) ?_
        refine DRun.lastS rfl (step_assignV rfl (hn rfl) rfl rfl) ?_
        exact hQ.out
      apply E.reg
      · intro Q hQ
        refine AWp.seq (AWp.region ?_)
        refine ARun.step rfl (step_moveV rfl (hn rfl) rfl rfl) ?_
        refine ARun.step rfl (step_moveV rfl (hn rfl) rfl rfl) ?_
        refine ARun.step rfl (step_quoN (n := 64) rfl (hn rfl) rfl rfl rfl (by decide) (by omega)) ?_
        refine ARun.step rfl (step_xorN rfl (hn rfl) rfl rfl rfl (by omega) (by omega)) ?_
        refine ARun.step rfl (step_assignV rfl (hn rfl) rfl rfl) ?_
        refine ARun.nil ?_
        exact hQ.out
      apply E.reg
      · intro Q hQ
        refine AWp.seq (AWp.region ?_)
        refine ARun.step rfl (step_moveV rfl (hn rfl) rfl rfl) ?_
        refine ARun.step rfl (step_moveV rfl (hn rfl) rfl rfl) ?_
        refine ARun.step rfl (step_remN rfl (hn rfl) rfl rfl rfl (by omega)) ?_
        refine ARun.step rfl (step_assignV rfl (hn rfl) rfl rfl) ?_
        refine ARun.nil ?_
        exact hQ.out
      refine E.mono (fun Q h => AWp.ret h) ?_
      apply E.ret (i := (_, _))
      · refine ⟨?_, (.refl _)⟩
        refine RetIs.sc (.inr rfl) rfl rfl ?_
        refine congrArg (T.int _) ?_
        rfl
      · try dsimp only
        all_goals (exact ⟨rfl, Nat.mod_lt _ h1⟩)
theorem l51pick_if (c : Prop) [Decidable c] (b : List UInt8) (p n : Nat) (hb : b.length ≤ 2000) (hp : p ≤ 1000000000) (h1 : 1 ≤ n) (h2 : n ≤ 1000000000) :
    ∃ (q k : Nat), (p ≤ q ∧ q ≤ p + 1 ∧ k < n) ∧ (c → LSpec Tryz.prog 63 155 (rdR 5 b p) (rdR 5 b q) [.one (.int .i64 (n : Nat))] (.one (.int .i64 (k : Nat)))) ∧ (¬ c → q = p) := by
  by_cases h : c
  · obtain ⟨q, k, ⟨rfl, hk⟩, hs⟩ := l51pick b p n hb hp h1 h2
    exact ⟨_, k, ⟨by omega, by omega, hk⟩, fun _ => hs, fun h' => absurd h h'⟩
  · exact ⟨p, 0, ⟨by omega, by omega, by omega⟩, fun h' => absurd h' h, fun _ => rfl⟩
theorem l51of (b : List UInt8) (p : Nat) (l : List Str) (hb : b.length ≤ 2000) (hp : p ≤ 1000000000) (hl : 1 ≤ l.length) (hl2 : l.length ≤ 1000000000) : ∃ (q : Nat) (s : Str), (q = p + 1 ∧ s ∈ l) ∧ LSpec Tryz.prog 135 155 (rdR 5 b p) (rdR 5 b q) [.one (strs l)] (.one (.str s)) := by
  suffices key : ∃ i : Nat × Str, (i.1 = p + 1 ∧ i.2 ∈ l) ∧ LSpec Tryz.prog 135 155 (rdR 5 b p) (rdR 5 b i.1) [.one (strs l)] (.one (.str i.2)) from (by obtain ⟨i, g, h⟩ := key; exact ⟨i.1, i.2, g, h⟩)
  refine LSpec.ex Tryz.func135 rfl [4] rfl 12 rfl rfl rfl rfl (fun i : Nat × Str => rdR 5 b i.1) (fun i : Nat × Str => (.one (.str i.2))) (fun i : Nat × Str => i.1 = p + 1 ∧ i.2 ∈ l) (fun i => rfl) (fun i => rfl) ?_
  apply E.reg
  · intro Q hQ
    refine AWp.seq (AWp.region ?_)
    refine ARun.step rfl (step_assignV rfl (hn rfl) rfl rfl) ?_
    refine ARun.nil ?_
    exact hQ.out
  obtain ⟨q, k, ⟨rfl, hk⟩, hs⟩ := l51pick b p l.length hb hp hl hl2
  apply E.reg
  · intro Q hQ
    refine AWp.seq (AWp.region ?_)
    refine ARun.step rfl (step_moveV rfl (hn rfl) rfl rfl) ?_
    refine ARun.step rfl (step_moveV rfl (hn rfl) rfl rfl) ?_
    refine ARun.step rfl (step_moveV rfl (hn rfl) rfl rfl) ?_
    refine ARun.step rfl (step_len_f rfl (hn rfl) rfl yqSl22 rfl) ?_
    refine ARun.step rfl (call_stepLZ rfl (hn rfl) rfl yqCo63 rfl rfl rfl rfl (.cons rfl (.one (.v _)) (.nil)) hs rfl rfl) ?_
    refine ARun.step rfl (step_index_fN rfl (hn rfl) rfl yqSl22 rfl rfl (by first | omega | (simp only [List.length_cons, List.length_nil]; omega))) ?_
    refine ARun.step rfl (step_load_f rfl (hn rfl) rfl yqSc9 rfl (hn rfl) rfl) ?_
    refine ARun.step rfl (step_assignV rfl (hn rfl) rfl rfl) ?_
    refine ARun.nil ?_
    exact hQ.out
  refine E.mono (fun Q h => AWp.ret h) ?_
  apply E.ret (i := (_, _))
  · refine ⟨?_, (.refl _)⟩
    refine RetIs.sc (.inr rfl) rfl rfl ?_
    refine congrArg T.str ?_
    rfl
  · try dsimp only
    all_goals (exact ⟨rfl, nth_mem hk⟩)
theorem l51Open (b : List UInt8) (hb : b.length ≤ 2097152) : OSpec Tryz.prog 61 [.one (bytesT 5 b)] 155 (rdR 5 (b.take 2000) 0) := by
  refine OSpec.body Tryz.func61 rfl 2 rfl 11 rfl rfl rfl ?_
  refine AWp.seq (AWp.region ?_)
  refine ARun.step rfl (step_assignV rfl (hn rfl) rfl rfl) ?_
  refine ARun.nil ?_
  refine AWp.seq ?_
  refine AWp.seq (AWp.region ?_)
  refine ARun.step rfl (step_moveV rfl (hn rfl) rfl rfl) ?_
  refine ARun.step rfl (step_len_f rfl (hn rfl) rfl yqSl45 rfl) ?_
  refine ARun.step rfl (step_gtr rfl (hn rfl) rfl rfl rfl) ?_
  refine ARun.nil ?_
  refine AWp.cond rfl (fun c1 => ?_) (fun c1 => ?_)
  · try simp only [nrm] at c1
    refine AWp.region ?_
    refine ARun.step rfl (step_moveV rfl (hn rfl) rfl rfl) ?_
    refine ARun.step rfl (step_sliceF rfl (hn rfl) rfl yqSl45 (bytesT 5 (b.take 2000)) rfl (.dflt _) (.val (j := 2000) _ rfl) rfl (by rw [List.length_take]; omega) (by omega) (bytes_take b 2000)) ?_
    refine ARun.step rfl (step_assignV rfl (hn rfl) rfl rfl) ?_
    refine ARun.nil ?_
    refine AWp.seq (AWp.region ?_)
    refine ARun.step rfl (step_moveV rfl (hn rfl) rfl rfl) ?_
    refine ARun.step rfl (step_build rfl (hn rfl) rfl yqPl155 yqZc155 (.cons rfl rfl rfl rfl (.nil)) rfl) ?_
    refine ARun.step rfl (step_boxE (r := [.fz (bytesT 5 _), .int .i64 ((0 : Nat) : Int)]) rfl (hn rfl) rfl rfl rfl) ?_
    refine ARun.step rfl (step_assignV rfl (hn rfl) rfl rfl) ?_
    refine ARun.nil ?_
    refine AWp.ret ?_
    refine ⟨.inr rfl, 10, rfl, rfl, rfl⟩
  · try simp only [nrm] at c1
    rw [List.take_of_length_le (show b.length ≤ 2000 by omega)]
    refine AWp.skip ?_
    refine AWp.seq (AWp.region ?_)
    refine ARun.step rfl (step_moveV rfl (hn rfl) rfl rfl) ?_
    refine ARun.step rfl (step_build rfl (hn rfl) rfl yqPl155 yqZc155 (.cons rfl rfl rfl rfl (.nil)) rfl) ?_
    refine ARun.step rfl (step_boxE (r := [.fz (bytesT 5 _), .int .i64 ((0 : Nat) : Int)]) rfl (hn rfl) rfl rfl rfl) ?_
    refine ARun.step rfl (step_assignV rfl (hn rfl) rfl rfl) ?_
    refine ARun.nil ?_
    refine AWp.ret ?_
    refine ⟨.inr rfl, 10, rfl, rfl, rfl⟩
theorem l55Names   : ASpec Tryz.prog 136 [] (.one (.fz (strs nms5))) := by
  refine ASpec.body Tryz.func136 rfl [0] rfl 2 rfl rfl rfl ?_
  refine AWp.seq (AWp.region ?_)
  refine ARun.step rfl (step_assignV rfl (hn rfl) rfl rfl) ?_
  refine ARun.nil ?_
  refine AWp.seq (AWp.region ?_)
  refine ARun.step rfl (step_buildVT rfl (hn rfl) rfl yqSl22 (strs nms5) (.cons rfl rfl rfl rfl (.cons rfl rfl rfl rfl (.cons rfl rfl rfl rfl (.cons rfl rfl rfl rfl (.cons rfl rfl rfl rfl (.nil _)))))) rfl rfl rfl (rowsE ⟨rfl, rfl, rfl, rfl, rfl, trivial⟩)) ?_
  refine ARun.step rfl (step_assignV rfl (hn rfl) rfl rfl) ?_
  refine ARun.nil ?_
  refine AWp.ret ?_
  refine RetIs.frz (.inr rfl) rfl ?_
  rfl
theorem l55Some (b : List UInt8) (p : Nat) (l : List Str) (n : Nat) (hb : b.length ≤ 2000) (hp : p ≤ 900000000) (hl : l.length ≤ 1000) (hn1 : 1 ≤ n) (hn2 : n ≤ 1000) : ∃ (q : Nat) (x : List Str), (p ≤ q ∧ q ≤ p + l.length ∧ x.Sublist l ∧ x.length ≤ l.length) ∧ LSpec Tryz.prog 137 155 (rdR 5 b p) (rdR 5 b q) [.one (strs l), .one (.int .i64 (n : Nat))] (.one (strs x)) := by
  suffices key : ∃ i : Nat × List Str, (p ≤ i.1 ∧ i.1 ≤ p + l.length ∧ i.2.Sublist l ∧ i.2.length ≤ l.length) ∧ LSpec Tryz.prog 137 155 (rdR 5 b p) (rdR 5 b i.1) [.one (strs l), .one (.int .i64 (n : Nat))] (.one (strs i.2)) from (by obtain ⟨i, g, h⟩ := key; exact ⟨i.1, i.2, g, h⟩)
  refine LSpec.ex Tryz.func137 rfl [6] rfl 28 rfl rfl rfl rfl (fun i : Nat × List Str => rdR 5 b i.1) (fun i : Nat × List Str => (.one (strs i.2))) (fun i : Nat × List Str => p ≤ i.1 ∧ i.1 ≤ p + l.length ∧ i.2.Sublist l ∧ i.2.length ≤ l.length) (fun i => rfl) (fun i => rfl) ?_
  apply E.reg
  · intro Q hQ
    refine AWp.seq (AWp.region ?_)
    refine ARun.step rfl (step_assignV rfl (hn rfl) rfl rfl) ?_
    refine ARun.nil ?_
    exact hQ.out
  apply E.reg
  · intro Q hQ
    refine AWp.seq (AWp.region ?_)
    refine ARun.step rfl (step_build0 rfl (hn rfl) rfl yqSl22) ?_
    refine ARun.step rfl (step_assignV rfl (hn rfl) rfl rfl) ?_
    refine ARun.nil ?_
    exact hQ.out
  refine E.mono (fun Q h => AWp.seq h) ?_
  apply E.reg
  · intro Q hQ
    refine AWp.seq (AWp.region ?_)
    refine ARun.step rfl (step_assignV rfl (hn rfl) rfl rfl) ?_
    refine ARun.nil ?_
    exact hQ.out
  refine E.mono (fun Q h => AWp.block h) ?_
  refine E.loop (fun x : Nat × List Str × Nat => mkAS 28 [(0, ⟨true, .one (.eptr ⟨.arr 1000000 0, []⟩ 0 0)⟩), (1, ⟨true, .one (.v (strs l))⟩), (2, ⟨true, .one (.v (.int .i64 (n : Nat)))⟩), (7, ⟨true, .one (.ref ⟨.arr 9 0, []⟩)⟩), (8, ⟨true, .one (.v (.int .i64 (x.1 : Nat)))⟩)] [] [(9, 0, strs x.2.1), (1000000, 0, ptT 155 (rdR 5 b x.2.2))]) (fun x => x.1 ≤ l.length ∧ x.2.1.Sublist (l.take x.1) ∧ p ≤ x.2.2 ∧ x.2.2 ≤ p + x.1) (fun x => l.length - x.1) (0, [], p) ?_ (Le.forgetR rfl ⟨rfl, rfl, rfl, rfl, rfl, trivial⟩ trivial ⟨.refl _, .refl _, trivial⟩) ?_
  · try dsimp only
    exact ⟨by omega, List.nil_sublist _, by omega, by omega⟩
  rintro x ⟨hi, hs, hpa, hpb⟩ ih1
  have hsl := hs.length_le
  rw [List.length_take] at hsl
  refine E.mono (fun Q h => AWp.seq h) ?_
  apply E.reg
  · intro Q hQ
    refine AWp.seq (AWp.region ?_)
    refine ARun.step rfl (step_moveV rfl (hn rfl) rfl rfl) ?_
    refine ARun.step rfl (step_moveV rfl (hn rfl) rfl rfl) ?_
    refine ARun.step rfl (step_len_f rfl (hn rfl) rfl yqSl22 rfl) ?_
    refine ARun.step rfl (step_lss rfl (hn rfl) rfl rfl rfl) ?_
    refine ARun.nil ?_
    exact hQ.out
  refine E.cond rfl (fun c1 => ?_) (fun c1 => ?_)
  · try simp only [nrm] at c1
    refine E.mono (fun Q h => AWp.skip h) ?_
    refine E.mono (fun Q h => AWp.seq h) ?_
    refine E.mono (fun Q h => AWp.block h) ?_
    obtain ⟨_, k1, ⟨rfl, hk1⟩, hl1⟩ := l51pick b (x.2.2) (n) (by first | assumption | omega | decide | (simp only [List.length_append, List.length_cons, List.length_nil, List.length_take, List.length_drop]; omega)) (by first | assumption | omega | decide | (simp only [List.length_append, List.length_cons, List.length_nil, List.length_take, List.length_drop]; omega)) (by first | assumption | omega | decide | (simp only [List.length_append, List.length_cons, List.length_nil, List.length_take, List.length_drop]; omega)) (by first | assumption | omega | decide | (simp only [List.length_append, List.length_cons, List.length_nil, List.length_take, List.length_drop]; omega))
    apply E.reg
    · intro Q hQ
      refine AWp.seq (AWp.region ?_)
      refine ARun.step rfl (step_moveV rfl (hn rfl) rfl rfl) ?_
      refine ARun.step rfl (step_moveV rfl (hn rfl) rfl rfl) ?_
      refine ARun.step rfl (call_stepLZ rfl (hn rfl) rfl yqCo63 rfl rfl rfl rfl (.cons rfl (.one (.v _)) (.nil)) hl1 rfl rfl) ?_
      refine ARun.step rfl (step_eql rfl (hn rfl) rfl rfl rfl) ?_
      refine ARun.nil ?_
      exact hQ.out
    refine E.cond rfl (fun c2 => ?_) (fun c2 => ?_)
    · try simp only [nrm] at c2
      apply E.reg
      · intro Q hQ
        refine AWp.region ?_
        refine ARun.step rfl (step_moveV rfl (hn rfl) rfl rfl) ?_
        refine ARun.step rfl (step_moveV rfl (hn rfl) rfl rfl) ?_
        refine ARun.step rfl (step_moveV rfl (hn rfl) rfl rfl) ?_
        refine ARun.step rfl (step_index_fN rfl (hn rfl) rfl yqSl22 rfl rfl (by first | omega | (simp only [List.length_cons, List.length_nil]; omega))) ?_
        refine ARun.step rfl (step_load_f rfl (hn rfl) rfl yqSc9 rfl (hn rfl) rfl) ?_
        refine ARun.step rfl (step_buildVT rfl (hn rfl) rfl yqSl22 (strs [_]) (.cons rfl rfl rfl rfl (.nil _)) rfl rfl rfl (rows1 rfl)) ?_
        refine ARun.step rfl (step_append_strs rfl (hn rfl) rfl yqSl22 rfl rfl rfl (.v _) (by first | omega | (simp only [List.length_cons, List.length_nil, List.length_append, List.length_take, List.length_drop]; omega)) (by first | omega | (simp only [List.length_cons, List.length_nil, List.length_append, List.length_take, List.length_drop]; omega))) ?_
        refine ARun.step rfl (step_assignV rfl (hn rfl) rfl rfl) ?_
        refine ARun.nil ?_
        exact hQ.out
      apply E.reg
      · intro Q hQ
        refine AWp.region ?_
        refine ARun.step rfl (step_moveV rfl (hn rfl) rfl rfl) ?_
        refine ARun.step rfl (step_addI rfl (hn rfl) rfl rfl rfl (by first | omega | (simp only [List.length_cons, List.length_nil]; omega)) (by first | omega | (simp only [List.length_cons, List.length_nil]; omega))) ?_
        refine ARun.step rfl (step_assignV rfl (hn rfl) rfl rfl) ?_
        refine ARun.nil ?_
        exact hQ.out
      refine ih1 (x.1 + 1, _, x.2.2 + 1) _ ?_ ?_ (Le.forgetR rfl ⟨rfl, rfl, rfl, rfl, rfl, trivial⟩ trivial ⟨.refl _, .refl _, trivial⟩)
      · try dsimp only
        refine ⟨by omega, ?_, by omega, by omega⟩
        rw [take_next (show x.1 < l.length by omega)]
        first
          | exact hs.append (List.Sublist.refl _)
          | exact hs.trans (List.sublist_append_left _ _)
      · try dsimp only
        omega
    · try simp only [nrm] at c2
      refine E.mono (fun Q h => AWp.skip h) ?_
      apply E.reg
      · intro Q hQ
        refine AWp.region ?_
        refine ARun.step rfl (step_moveV rfl (hn rfl) rfl rfl) ?_
        refine ARun.step rfl (step_addI rfl (hn rfl) rfl rfl rfl (by first | omega | (simp only [List.length_cons, List.length_nil]; omega)) (by first | omega | (simp only [List.length_cons, List.length_nil]; omega))) ?_
        refine ARun.step rfl (step_assignV rfl (hn rfl) rfl rfl) ?_
        refine ARun.nil ?_
        exact hQ.out
      refine ih1 (x.1 + 1, _, x.2.2 + 1) _ ?_ ?_ (Le.forgetR rfl ⟨rfl, rfl, rfl, rfl, rfl, trivial⟩ trivial ⟨.refl _, .refl _, trivial⟩)
      · try dsimp only
        refine ⟨by omega, ?_, by omega, by omega⟩
        rw [take_next (show x.1 < l.length by omega)]
        first
          | exact hs.append (List.Sublist.refl _)
          | exact hs.trans (List.sublist_append_left _ _)
      · try dsimp only
        omega
  · try simp only [nrm] at c1
    refine E.mono (fun Q h => AWp.exit h) ?_
    apply E.reg
    · intro Q hQ
      refine AWp.seq (AWp.region ?_)
      refine ARun.step rfl (step_moveV rfl (hn rfl) rfl rfl) ?_
      refine ARun.step rfl (step_assignV rfl (hn rfl) rfl rfl) ?_
      refine ARun.nil ?_
      exact hQ.out
    refine E.mono (fun Q h => AWp.ret h) ?_
    apply E.ret (i := (_, _))
    · refine ⟨?_, (.refl _)⟩
      refine RetIs.ref (.inr rfl) rfl rfl ?_
      rfl
    · try dsimp only
      all_goals (exact ⟨(show p ≤ x.2.2 by omega), (show x.2.2 ≤ p + l.length by omega), (show x.2.1.Sublist l from hs.trans (List.take_sublist _ _)), (show x.2.1.length ≤ l.length by omega)⟩)
theorem l55Base (b : List UInt8) (p : Nat) (hb : b.length ≤ 2000) (hp : p ≤ 900000000) : ∃ (q : Nat) (x : List Str), (p ≤ q ∧ q ≤ p + 5 ∧ x.Sublist thg5 ∧ x.length ≤ 5) ∧ LSpec Tryz.prog 62 155 (rdR 5 b p) (rdR 5 b q) [] (.agg [.fz (strs x), .nl]) := by
  suffices key : ∃ i : Nat × List Str, (p ≤ i.1 ∧ i.1 ≤ p + 5 ∧ i.2.Sublist thg5 ∧ i.2.length ≤ 5) ∧ LSpec Tryz.prog 62 155 (rdR 5 b p) (rdR 5 b i.1) [] (.agg [.fz (strs i.2), .nl]) from (by obtain ⟨i, g, h⟩ := key; exact ⟨i.1, i.2, g, h⟩)
  refine LSpec.exC Tryz.func62 rfl 2 34 [] rfl rfl 27 rfl rfl rfl rfl (fun i : Nat × List Str => rdR 5 b i.1) (fun i : Nat × List Str => (.agg [.fz (strs i.2), .nl])) (fun i : Nat × List Str => p ≤ i.1 ∧ i.1 ≤ p + 5 ∧ i.2.Sublist thg5 ∧ i.2.length ≤ 5) (fun i => rfl) (fun i => rfl) ?_
  have h5 : thg5.length = 5 := rfl
  apply E.reg
  · intro Q hQ
    refine AWp.seq (AWp.region ?_)
    refine ARun.step rfl (step_alloc_p rfl (hn rfl) rfl yqZs34) ?_
    refine ARun.nil ?_
    exact hQ.out
  apply E.reg
  · intro Q hQ
    refine AWp.seq (AWp.region ?_)
    refine ARun.step rfl (step_build rfl (hn rfl) rfl yqPl34 yqZc34 (.nil) rfl) ?_
    refine ARun.step rfl (step_alloc_p rfl (hn rfl) rfl yqZs34) ?_
    refine ARun.step rfl (step_store_p (bs := [_, _]) rfl rfl yqCs34 rfl rfl rfl rfl rfl rfl rfl) ?_
    refine ARun.nil ?_
    exact hQ.out
  apply E.reg
  · intro Q hQ
    refine AWp.seq (AWp.region ?_)
    refine ARun.step rfl (step_buildVT rfl (hn rfl) rfl yqSl22 (strs thg5) (.cons rfl rfl rfl rfl (.cons rfl rfl rfl rfl (.cons rfl rfl rfl rfl (.cons rfl rfl rfl rfl (.cons rfl rfl rfl rfl (.nil _)))))) rfl rfl rfl (rowsE ⟨rfl, rfl, rfl, rfl, rfl, trivial⟩)) ?_
    refine ARun.step rfl (step_assignV rfl (hn rfl) rfl rfl) ?_
    refine ARun.nil ?_
    exact hQ.out
  refine E.mono (fun Q h => AWp.seq h) ?_
  apply E.reg
  · intro Q hQ
    refine AWp.seq (AWp.region ?_)
    refine ARun.step rfl (step_assignV rfl (hn rfl) rfl rfl) ?_
    refine ARun.nil ?_
    exact hQ.out
  refine E.mono (fun Q h => AWp.block h) ?_
  refine E.mono (fun Q h => AWp.le (Le.nilRefB 3 0 24 9 1 (fun i => [.str (nth [] i)]) _ rfl rfl rfl) h) ?_
  refine E.loop (fun x : Nat × List Str × Nat => mkAS 27 [(0, ⟨true, .one (.eptr ⟨.arr 1000000 0, []⟩ 0 0)⟩), (2, ⟨true, .one (.bptr 2 0)⟩), (3, ⟨true, .one (.bptr 3 0)⟩), (4, ⟨true, .one (.v (strs thg5))⟩), (5, ⟨true, .one (.v (.int .i64 (x.1 : Nat)))⟩)] [(2, [.any, .any]), (3, [.ref ⟨.arr 24 0, []⟩, .nil])] [(24, 0, strs x.2.1), (1000000, 0, ptT 155 (rdR 5 b x.2.2))]) (fun x => x.1 ≤ 5 ∧ x.2.1.Sublist (thg5.take x.1) ∧ p ≤ x.2.2 ∧ x.2.2 ≤ p + x.1) (fun x => 5 - x.1) (0, [], p) ?_ (Le.forgetR rfl ⟨rfl, rfl, rfl, rfl, rfl, trivial⟩ ⟨rfl, rfl, trivial⟩ ⟨.refl _, .refl _, trivial⟩) ?_
  · try dsimp only
    exact ⟨by omega, List.nil_sublist _, by omega, by omega⟩
  rintro x ⟨hi, hs, hpa, hpb⟩ ih1
  have hsl := hs.length_le
  rw [List.length_take] at hsl
  refine E.mono (fun Q h => AWp.seq h) ?_
  apply E.reg
  · intro Q hQ
    refine AWp.seq (AWp.region ?_)
    refine ARun.step rfl (step_moveV rfl (hn rfl) rfl rfl) ?_
    refine ARun.step rfl (step_moveV rfl (hn rfl) rfl rfl) ?_
    refine ARun.step rfl (step_len_f rfl (hn rfl) rfl yqSl22 rfl) ?_
    refine ARun.step rfl (step_lss rfl (hn rfl) rfl rfl rfl) ?_
    refine ARun.nil ?_
    exact hQ.out
  refine E.cond rfl (fun c1 => ?_) (fun c1 => ?_)
  · try simp only [nrm] at c1
    refine E.mono (fun Q h => AWp.skip h) ?_
    refine E.mono (fun Q h => AWp.seq h) ?_
    refine E.mono (fun Q h => AWp.block h) ?_
    obtain ⟨_, k1, ⟨rfl, hk1⟩, hl1⟩ := l51pick b (x.2.2) (5) (by first | assumption | omega | decide | (simp only [List.length_append, List.length_cons, List.length_nil, List.length_take, List.length_drop]; omega)) (by first | assumption | omega | decide | (simp only [List.length_append, List.length_cons, List.length_nil, List.length_take, List.length_drop]; omega)) (by first | assumption | omega | decide | (simp only [List.length_append, List.length_cons, List.length_nil, List.length_take, List.length_drop]; omega)) (by first | assumption | omega | decide | (simp only [List.length_append, List.length_cons, List.length_nil, List.length_take, List.length_drop]; omega))
    apply E.reg
    · intro Q hQ
      refine AWp.seq (AWp.region ?_)
      refine ARun.step rfl (step_moveV rfl (hn rfl) rfl rfl) ?_
      refine ARun.step rfl (call_stepLZ rfl (hn rfl) rfl yqCo63 rfl rfl rfl rfl (.cons rfl (.one (.v _)) (.nil)) hl1 rfl rfl) ?_
      refine ARun.step rfl (step_gtr rfl (hn rfl) rfl rfl rfl) ?_
      refine ARun.nil ?_
      exact hQ.out
    refine E.cond rfl (fun c2 => ?_) (fun c2 => ?_)
    · try simp only [nrm] at c2
      apply E.reg
      · intro Q hQ
        refine AWp.drawM [⟨⟨[.s 3, .b 3], [.s 17], false⟩, none, []⟩, ⟨⟨[.s 17, .b 3], [.s 18], false⟩, none, []⟩, ⟨⟨[.s 4], [.s 19], false⟩, none, []⟩, ⟨⟨[.s 5], [.s 20], false⟩, none, []⟩, ⟨⟨[.s 19, .s 20], [.s 21], false⟩, none, []⟩, ⟨⟨[.s 21], [.s 22], false⟩, none, []⟩, ⟨⟨[.s 22], [.s 23], false⟩, none, []⟩, ⟨⟨[], [], true⟩, none, []⟩, ⟨⟨[], [], true⟩, none, []⟩, ⟨⟨[], [], true⟩, none, []⟩] yqMo rfl rfl (Le.forgetR (n := 27) (sl := [(0, _), (2, _), (3, _), (4, _), (5, _), (8, _), (9, _), (10, _), (11, _), (14, _), (15, _), (16, _)]) (bl := [(2, _), (3, _)]) (al := [(24, 0, _), (1000000, 0, _)]) rfl ⟨rfl, rfl, rfl, rfl, rfl, rfl, rfl, rfl, rfl, rfl, rfl, rfl, trivial⟩ ⟨rfl, rfl, trivial⟩ ⟨.refl _, .refl _, trivial⟩) rfl ?_
        refine FRun.slot rfl (fun τ hN hr => step_field_b rfl (rdN hN (hn rfl)) rfl yqFo34_0 (by exact rdS hr rfl rfl) (by exact rdBne hr rfl (by exact List.cons_ne_nil _ _))) (by exact rfl) ?_
        refine FRun.slot rfl (fun τ hN hr => step_load_b rfl (rdN hN (hn rfl)) rfl yqSc22 (by exact rdS hr rfl rfl) (by exact rdBget hr rfl rfl)) (by exact rfl) ?_
        refine FRun.slot rfl (fun τ hN hr => step_moveV rfl (rdN hN (hn rfl)) rfl (by exact rdS hr rfl rfl)) (by exact rfl) ?_
        refine FRun.slot rfl (fun τ hN hr => step_moveV rfl (rdN hN (hn rfl)) rfl (by exact rdS hr rfl rfl)) (by exact rfl) ?_
        refine FRun.slot rfl (fun τ hN hr => step_index_fN rfl (rdN hN (hn rfl)) rfl yqSl22 (by exact rdS hr rfl rfl) (by exact rdS hr rfl rfl) (by first | omega | (simp only [List.length_cons, List.length_nil]; omega))) (by exact rfl) ?_
        refine FRun.slot rfl (fun τ hN hr => step_load_f rfl (rdN hN (hn rfl)) rfl yqSc9 (by exact rdS hr rfl rfl) (hn rfl) rfl) (by exact rfl) ?_
        refine FRun.slot rfl (fun τ hN hr => step_buildVT rfl (rdN hN (hn rfl)) rfl yqSl22 (strs [_]) ((by exact .cons (by exact rdS hr rfl rfl) rfl rfl rfl (.nil _))) (by exact rfl) (by exact rfl) (by exact rfl) (by exact (rows1 rfl))) (by exact rfl) ?_
        refine FRun.whole rfl (step_append_strs rfl (hn rfl) rfl yqSl22 rfl rfl rfl (.v _) (by first | omega | (simp only [List.length_cons, List.length_nil, List.length_append, List.length_take, List.length_drop]; omega)) (by first | omega | (simp only [List.length_cons, List.length_nil, List.length_append, List.length_take, List.length_drop]; omega))) (by exact rfl) ?_
        refine FRun.whole rfl (step_field_b rfl (hn rfl) rfl yqFo34_0 rfl (by exact List.cons_ne_nil _ _)) (by exact rfl) ?_
        refine FRun.whole rfl (step_store_r rfl rfl yqCs22 rfl rfl rfl rfl rfl rfl rfl) (by exact rfl) ?_
        refine FRun.nil ?_
        exact hQ.out
      apply E.reg
      · intro Q hQ
        refine AWp.region ?_
        refine ARun.step rfl (step_moveV rfl (hn rfl) rfl rfl) ?_
        refine ARun.step rfl (step_addI rfl (hn rfl) rfl rfl rfl (by first | omega | (simp only [List.length_cons, List.length_nil]; omega)) (by first | omega | (simp only [List.length_cons, List.length_nil]; omega))) ?_
        refine ARun.step rfl (step_assignV rfl (hn rfl) rfl rfl) ?_
        refine ARun.nil ?_
        exact hQ.out
      refine ih1 (x.1 + 1, _, x.2.2 + 1) _ ?_ ?_ (Le.forgetR rfl ⟨rfl, rfl, rfl, rfl, rfl, trivial⟩ ⟨rfl, rfl, trivial⟩ ⟨.refl _, .refl _, trivial⟩)
      · try dsimp only
        refine ⟨by omega, ?_, by omega, by omega⟩
        rw [take_next (show x.1 < thg5.length by omega)]
        first
          | exact hs.append (List.Sublist.refl _)
          | exact hs.trans (List.sublist_append_left _ _)
      · try dsimp only
        omega
    · try simp only [nrm] at c2
      refine E.mono (fun Q h => AWp.skip h) ?_
      apply E.reg
      · intro Q hQ
        refine AWp.region ?_
        refine ARun.step rfl (step_moveV rfl (hn rfl) rfl rfl) ?_
        refine ARun.step rfl (step_addI rfl (hn rfl) rfl rfl rfl (by first | omega | (simp only [List.length_cons, List.length_nil]; omega)) (by first | omega | (simp only [List.length_cons, List.length_nil]; omega))) ?_
        refine ARun.step rfl (step_assignV rfl (hn rfl) rfl rfl) ?_
        refine ARun.nil ?_
        exact hQ.out
      refine ih1 (x.1 + 1, _, x.2.2 + 1) _ ?_ ?_ (Le.forgetR rfl ⟨rfl, rfl, rfl, rfl, rfl, trivial⟩ ⟨rfl, rfl, trivial⟩ ⟨.refl _, .refl _, trivial⟩)
      · try dsimp only
        refine ⟨by omega, ?_, by omega, by omega⟩
        rw [take_next (show x.1 < thg5.length by omega)]
        first
          | exact hs.append (List.Sublist.refl _)
          | exact hs.trans (List.sublist_append_left _ _)
      · try dsimp only
        omega
  · try simp only [nrm] at c1
    refine E.mono (fun Q h => AWp.exit h) ?_
    refine E.mono (fun Q h => AWp.le (Le.letGo 24 0 (g := _) rfl (fun _ _ => rfl)) h) ?_
    apply E.reg
    · intro Q hQ
      refine AWp.seq (AWp.region ?_)
      refine ARun.step rfl (step_loadS_b rfl (hn rfl) rfl yqSt34 rfl rfl rfl (by decide)) ?_
      refine ARun.step rfl (step_store_p (bs := [_, _]) rfl rfl yqCs34 rfl rfl rfl rfl rfl rfl rfl) ?_
      refine ARun.nil ?_
      exact hQ.out
    refine E.mono (fun Q h => AWp.ret h) ?_
    apply E.ret (i := (_, _))
    · refine ⟨.inr rfl, ⟨2, 2, _, _, _, yqSt34, by decide, rfl, rfl, rfl, rfl, (.cons rfl (.agg (.cons (.frz _ _ _ _ _) (.cons (.nl _) (.nil _)))) (.nil _)), rfl, ?_⟩, (.refl _)⟩
      refine congrArg PV.agg ?_
      rfl
    · try dsimp only
      all_goals (exact ⟨(show p ≤ x.2.2 by omega), (show x.2.2 ≤ p + 5 by omega), (show x.2.1.Sublist thg5 from hs.trans (List.take_sublist _ _)), (show x.2.1.length ≤ 5 by omega)⟩)
set_option maxHeartbeats 1000000 in
theorem l55Does (b : List UInt8) (p : Nat) (k : Bk) (hb : b.length ≤ 2000) (hp : p ≤ 800000000) (hk : bkLe k 6) : ∃ (q : Nat) (d : Do), (p ≤ q ∧ q ≤ p + 20 ∧ 1 ≤ d.kind ∧ d.kind ≤ 4 ∧ d.list.length ≤ 10) ∧ LSpec Tryz.prog 64 155 (rdR 5 b p) (rdR 5 b q) [.agg (k.cells 105)] (.agg d.zcells) := by
  suffices key : ∃ i : Nat × Do, (p ≤ i.1 ∧ i.1 ≤ p + 20 ∧ 1 ≤ i.2.kind ∧ i.2.kind ≤ 4 ∧ i.2.list.length ≤ 10) ∧ LSpec Tryz.prog 64 155 (rdR 5 b p) (rdR 5 b i.1) [.agg (k.cells 105)] (.agg i.2.zcells) from (by obtain ⟨i, g, h⟩ := key; exact ⟨i.1, i.2, g, h⟩)
  refine LSpec.exC Tryz.func64 rfl 4 50 [] rfl rfl 95 rfl rfl rfl rfl (fun i : Nat × Do => rdR 5 b i.1) (fun i : Nat × Do => (.agg i.2.zcells)) (fun i : Nat × Do => p ≤ i.1 ∧ i.1 ≤ p + 20 ∧ 1 ≤ i.2.kind ∧ i.2.kind ≤ 4 ∧ i.2.list.length ≤ 10) (fun i => rfl) (fun i => rfl) ?_
  have hkt := hk.1
  have hkl := hk.2.1
  apply E.reg
  · intro Q hQ
    refine AWp.seq (AWp.region ?_)
    refine ARun.step rfl (step_box_p (m := 1) rfl (hn rfl) rfl rfl rfl rfl rfl) ?_
    refine ARun.step rfl (step_alloc_p rfl (hn rfl) rfl yqZs50) ?_
    refine ARun.nil ?_
    exact hQ.out
  obtain ⟨_, s1, ⟨rfl, hk1⟩, hl1⟩ := l51of b (p) nms5 (by first | assumption | omega | decide | (simp only [List.length_append, List.length_cons, List.length_nil, List.length_take, List.length_drop]; omega)) (by first | assumption | omega | decide | (simp only [List.length_append, List.length_cons, List.length_nil, List.length_take, List.length_drop]; omega)) (by first | assumption | omega | decide | (simp only [List.length_append, List.length_cons, List.length_nil, List.length_take, List.length_drop]; omega)) (by first | assumption | omega | decide | (simp only [List.length_append, List.length_cons, List.length_nil, List.length_take, List.length_drop]; omega))
  apply E.reg
  · intro Q hQ
    refine AWp.seq (AWp.region ?_)
    refine ARun.step rfl (step_moveV rfl (hn rfl) rfl rfl) ?_
    refine ARun.step rfl (call_stepZ rfl (hn rfl) rfl yqCo136 (.nil) (l55Names ) rfl rfl) ?_
    refine ARun.step rfl (call_stepLZ rfl (hn rfl) rfl yqCo135 rfl rfl rfl rfl (.cons rfl (.one (.v _)) (.nil)) hl1 rfl rfl) ?_
    refine ARun.step rfl (step_build rfl (hn rfl) rfl yqPl50 yqZc50 (.cons rfl rfl rfl rfl (.cons rfl rfl rfl rfl (.nil))) rfl) ?_
    refine ARun.step rfl (step_alloc_p rfl (hn rfl) rfl yqZs50) ?_
    refine ARun.step rfl (step_store_p (bs := [_, _, _]) rfl rfl yqCs50 rfl rfl rfl rfl rfl rfl rfl) ?_
    refine ARun.nil ?_
    exact hQ.out
  refine E.join (fun x : Str × Nat => mkAS 95 [(0, ⟨true, .one (.eptr ⟨.arr 1000000 0, []⟩ 0 0)⟩), (3, ⟨true, .one (.bptr 3 0)⟩), (4, ⟨true, .one (.bptr 4 0)⟩), (5, ⟨true, .one (.bptr 5 0)⟩)] [(3, ((k.cells 105)).map C.v), (4, [.any, .any, .any]), (5, [.v (.int .i64 2), .v (.str x.1), .nil])] [(1000000, 0, ptT 155 (rdR 5 b x.2))]) (fun x => p ≤ x.2 ∧ x.2 ≤ p + 3) ?_ ?_
  · rintro x ⟨hja, hjb⟩
    have hix := idxB_lt k x.1
    apply E.reg
    · intro Q hQ
      refine AWp.seq (AWp.region ?_)
      refine ARun.step rfl (step_loadS_b rfl (hn rfl) rfl yqSt34 rfl rfl rfl (by decide)) ?_
      refine ARun.step rfl (step_field_b rfl (hn rfl) rfl yqFo50_1 rfl (by exact List.cons_ne_nil _ _)) ?_
      refine ARun.step rfl (step_load_b rfl (hn rfl) rfl yqSc9 rfl rfl) ?_
      refine ARun.step rfl (call_step1 rfl (hn rfl) rfl yqCo78 (.cons rfl (.agg (.cons (.v _) (.cons (.v _) .nil))) (.cons rfl (.one (.v _)) (.nil))) (l51At _ _) rfl) ?_
      refine ARun.step rfl (step_assignV rfl (hn rfl) rfl rfl) ?_
      refine ARun.nil ?_
      exact hQ.out
    apply E.reg
    · intro Q hQ
      refine AWp.seq (AWp.region ?_)
      refine ARun.step rfl (step_field_b rfl (hn rfl) rfl yqFo34_0 rfl (by exact List.cons_ne_nil _ _)) ?_
      refine ARun.step rfl (step_load_b rfl (hn rfl) rfl yqSc22 rfl rfl) ?_
      refine ARun.step rfl (step_assignV rfl (hn rfl) rfl rfl) ?_
      refine ARun.nil ?_
      exact hQ.out
    refine E.join (fun y : List Str => mkAS 95 [(0, ⟨true, .one (.eptr ⟨.arr 1000000 0, []⟩ 0 0)⟩), (3, ⟨true, .one (.bptr 3 0)⟩), (4, ⟨true, .one (.bptr 4 0)⟩), (5, ⟨true, .one (.bptr 5 0)⟩), (7, ⟨true, .one (.v (strs y))⟩)] [(3, ((k.cells 105)).map C.v), (4, [.any, .any, .any]), (5, [.v (.int .i64 2), .v (.str x.1), .nil])] [(1000000, 0, ptT 155 (rdR 5 b x.2))]) (fun y => y.length ≤ 6) ?_ ?_
    · rintro y hy
      refine E.mono (fun Q h => AWp.seq h) ?_
      obtain ⟨_, k2, ⟨rfl, hk2⟩, hl2⟩ := l51pick b (x.2) (9) (by first | assumption | omega | decide | (simp only [List.length_append, List.length_cons, List.length_nil, List.length_take, List.length_drop]; omega)) (by first | assumption | omega | decide | (simp only [List.length_append, List.length_cons, List.length_nil, List.length_take, List.length_drop]; omega)) (by first | assumption | omega | decide | (simp only [List.length_append, List.length_cons, List.length_nil, List.length_take, List.length_drop]; omega)) (by first | assumption | omega | decide | (simp only [List.length_append, List.length_cons, List.length_nil, List.length_take, List.length_drop]; omega))
      apply E.reg
      · intro Q hQ
        refine AWp.seq (AWp.region ?_)
        refine ARun.step rfl (step_moveV rfl (hn rfl) rfl rfl) ?_
        refine ARun.step rfl (call_stepLZ rfl (hn rfl) rfl yqCo63 rfl rfl rfl rfl (.cons rfl (.one (.v _)) (.nil)) hl2 rfl rfl) ?_
        refine ARun.nil ?_
        exact hQ.out
      refine E.mono (fun Q h => AWp.block h) ?_
      refine E.join (fun v : Bool => mkAS 95 [(0, ⟨true, .one (.eptr ⟨.arr 1000000 0, []⟩ 0 0)⟩), (3, ⟨true, .one (.bptr 3 0)⟩), (4, ⟨true, .one (.bptr 4 0)⟩), (5, ⟨true, .one (.bptr 5 0)⟩), (7, ⟨true, .one (.v (strs y))⟩), (47, ⟨true, .one (.v (.int .i64 (k2 : Nat)))⟩), (52, ⟨true, .one (.v (.bool v))⟩)] [(3, ((k.cells 105)).map C.v), (4, [.any, .any, .any]), (5, [.v (.int .i64 2), .v (.str x.1), .nil])] [(1000000, 0, ptT 155 (rdR 5 b (x.2 + 1)))]) (fun v => True) ?_ ?_
      · rintro v hv
        refine E.cond rfl (fun c1 => ?_) (fun c1 => ?_)
        · try simp only [nrm] at c1
          apply E.reg
          · intro Q hQ
            refine AWp.seq (AWp.region ?_)
            refine ARun.step rfl (step_field_b rfl (hn rfl) rfl yqFo50_0 rfl (by exact List.cons_ne_nil _ _)) ?_
            refine ARun.step rfl (step_store_p (bs := [_, _, _]) rfl rfl yqCs3 rfl rfl rfl rfl rfl rfl rfl) ?_
            refine ARun.nil ?_
            exact hQ.out
          obtain ⟨_, s3, ⟨rfl, hk3⟩, hl3⟩ := l51of b (x.2 + 1) nms5 (by first | assumption | omega | decide | (simp only [List.length_append, List.length_cons, List.length_nil, List.length_take, List.length_drop]; omega)) (by first | assumption | omega | decide | (simp only [List.length_append, List.length_cons, List.length_nil, List.length_take, List.length_drop]; omega)) (by first | assumption | omega | decide | (simp only [List.length_append, List.length_cons, List.length_nil, List.length_take, List.length_drop]; omega)) (by first | assumption | omega | decide | (simp only [List.length_append, List.length_cons, List.length_nil, List.length_take, List.length_drop]; omega))
          apply E.reg
          · intro Q hQ
            refine AWp.seq (AWp.region ?_)
            refine ARun.step rfl (step_moveV rfl (hn rfl) rfl rfl) ?_
            refine ARun.step rfl (call_stepZ rfl (hn rfl) rfl yqCo136 (.nil) (l55Names ) rfl rfl) ?_
            refine ARun.step rfl (call_stepLZ rfl (hn rfl) rfl yqCo135 rfl rfl rfl rfl (.cons rfl (.one (.v _)) (.nil)) hl3 rfl rfl) ?_
            refine ARun.step rfl (step_field_b rfl (hn rfl) rfl yqFo50_1 rfl (by exact List.cons_ne_nil _ _)) ?_
            refine ARun.step rfl (step_store_p (bs := [_, _, _]) rfl rfl yqCs9 rfl rfl rfl rfl rfl rfl rfl) ?_
            refine ARun.nil ?_
            exact hQ.out
          obtain ⟨q4, x4, ⟨hqa4, hqb4, hsub4, hsl4⟩, hl4⟩ := l55Some b (x.2 + 1 + 1) (k.things) (2) (by first | assumption | omega | decide | (simp only [List.length_append, List.length_cons, List.length_nil, List.length_take, List.length_drop]; omega)) (by first | assumption | omega | decide | (simp only [List.length_append, List.length_cons, List.length_nil, List.length_take, List.length_drop]; omega)) (by first | assumption | omega | decide | (simp only [List.length_append, List.length_cons, List.length_nil, List.length_take, List.length_drop]; omega)) (by first | assumption | omega | decide | (simp only [List.length_append, List.length_cons, List.length_nil, List.length_take, List.length_drop]; omega)) (by first | assumption | omega | decide | (simp only [List.length_append, List.length_cons, List.length_nil, List.length_take, List.length_drop]; omega))
          apply E.reg
          · intro Q hQ
            refine AWp.region ?_
            refine ARun.step rfl (step_moveV rfl (hn rfl) rfl rfl) ?_
            refine ARun.step rfl (step_field_b rfl (hn rfl) rfl yqFo34_0 rfl (by exact List.cons_ne_nil _ _)) ?_
            refine ARun.step rfl (step_load_b rfl (hn rfl) rfl yqSc22 rfl rfl) ?_
            refine ARun.step rfl (call_stepL rfl (hn rfl) rfl yqCo137 rfl rfl rfl rfl rfl (.cons rfl (.one (.v _)) (.cons rfl (.one (.v _)) (.nil))) (hl4) rfl rfl) ?_
            refine ARun.step rfl (step_field_b rfl (hn rfl) rfl yqFo50_2 rfl (by exact List.cons_ne_nil _ _)) ?_
            refine ARun.step rfl (step_store_r rfl rfl yqCs22 rfl rfl rfl rfl rfl rfl rfl) ?_
            refine ARun.nil ?_
            exact hQ.out
          refine E.mono (fun Q h => AWp.seq h) ?_
          obtain ⟨_, k5, ⟨rfl, hk5⟩, hl5⟩ := l51pick b (q4) (24) (by first | assumption | omega | decide | (simp only [List.length_append, List.length_cons, List.length_nil, List.length_take, List.length_drop]; omega)) (by first | assumption | omega | decide | (simp only [List.length_append, List.length_cons, List.length_nil, List.length_take, List.length_drop]; omega)) (by first | assumption | omega | decide | (simp only [List.length_append, List.length_cons, List.length_nil, List.length_take, List.length_drop]; omega)) (by first | assumption | omega | decide | (simp only [List.length_append, List.length_cons, List.length_nil, List.length_take, List.length_drop]; omega))
          apply E.reg
          · intro Q hQ
            refine AWp.seq (AWp.region ?_)
            refine ARun.step rfl (step_moveV rfl (hn rfl) rfl rfl) ?_
            refine ARun.step rfl (call_stepLZ rfl (hn rfl) rfl yqCo63 rfl rfl rfl rfl (.cons rfl (.one (.v _)) (.nil)) hl5 rfl rfl) ?_
            refine ARun.nil ?_
            exact hQ.out
          refine E.mono (fun Q h => AWp.block h) ?_
          apply E.reg
          · intro Q hQ
            refine AWp.seq (AWp.region ?_)
            refine ARun.step rfl (step_eql rfl (hn rfl) rfl rfl rfl) ?_
            refine ARun.step rfl (step_assignV rfl (hn rfl) rfl rfl) ?_
            refine ARun.nil ?_
            exact hQ.out
          refine E.cond rfl (fun c2 => ?_) (fun c2 => ?_)
          · try simp only [nrm] at c2
            obtain ⟨_, s6, ⟨rfl, hk6⟩, hl6⟩ := l51of b (q4 + 1) ([⟨#[]⟩, ⟨#[97]⟩, ⟨#[122, 122]⟩, ⟨#[116, 117, 110]⟩]) (by first | assumption | omega | decide | (simp only [List.length_append, List.length_cons, List.length_nil, List.length_take, List.length_drop]; omega)) (by first | assumption | omega | decide | (simp only [List.length_append, List.length_cons, List.length_nil, List.length_take, List.length_drop]; omega)) (by first | assumption | omega | decide | (simp only [List.length_append, List.length_cons, List.length_nil, List.length_take, List.length_drop]; omega)) (by first | assumption | omega | decide | (simp only [List.length_append, List.length_cons, List.length_nil, List.length_take, List.length_drop]; omega))
            apply E.reg
            · intro Q hQ
              refine AWp.drawM [⟨⟨[.s 5, .b 5], [.s 80], false⟩, none, []⟩, ⟨⟨[.s 80, .b 5], [.s 81], false⟩, none, []⟩, ⟨⟨[.s 0], [.s 82], false⟩, none, []⟩, ⟨⟨[], [.s 83], false⟩, none, []⟩, ⟨⟨[.s 83, .s 82, .a 1000000 0], [.s 84, .a 1000000 0], false⟩, none, []⟩, ⟨⟨[.s 84], [.s 85], false⟩, none, []⟩, ⟨⟨[], [], true⟩, none, []⟩, ⟨⟨[], [], true⟩, none, []⟩, ⟨⟨[], [], true⟩, none, []⟩] yqMo rfl rfl (Le.forgetR (n := 95) (sl := [(0, _), (3, _), (4, _), (5, _), (7, _), (47, _), (52, _), (56, _), (57, _), (58, _), (59, _), (60, _), (61, _), (62, _), (63, _), (64, _), (65, _), (76, _), (77, _), (78, _), (79, _)]) (bl := [(3, _), (4, _), (5, _)]) (al := [(64, 0, _), (1000000, 0, _)]) rfl ⟨rfl, rfl, rfl, rfl, rfl, rfl, rfl, rfl, rfl, rfl, rfl, rfl, rfl, rfl, rfl, rfl, rfl, rfl, rfl, rfl, rfl, trivial⟩ ⟨rfl, rfl, rfl, trivial⟩ ⟨.refl _, .refl _, trivial⟩) rfl ?_
              refine FRun.slot rfl (fun τ hN hr => step_field_b rfl (rdN hN (hn rfl)) rfl yqFo50_2 (by exact rdS hr rfl rfl) (by exact rdBne hr rfl (by exact List.cons_ne_nil _ _))) (by exact rfl) ?_
              refine FRun.slot rfl (fun τ hN hr => step_load_b rfl (rdN hN (hn rfl)) rfl yqSc22 (by exact rdS hr rfl rfl) (by exact rdBget hr rfl rfl)) (by exact rfl) ?_
              refine FRun.slot rfl (fun τ hN hr => step_moveV rfl (rdN hN (hn rfl)) rfl (by exact rdS hr rfl rfl)) (by exact rfl) ?_
              refine FRun.slot rfl (fun τ hN hr => step_buildVT rfl (rdN hN (hn rfl)) rfl yqSl22 (strs [⟨#[]⟩, ⟨#[97]⟩, ⟨#[122, 122]⟩, ⟨#[116, 117, 110]⟩]) (by exact .cons rfl rfl rfl rfl (.cons rfl rfl rfl rfl (.cons rfl rfl rfl rfl (.cons rfl rfl rfl rfl (.nil _))))) (by exact rfl) (by exact rfl) (by exact rfl) (by exact (rowsE ⟨rfl, rfl, rfl, rfl, trivial⟩))) (by exact rfl) ?_
              refine FRun.lent rfl (fun τ hN hr => call_stepLZ rfl (rdN hN (hn rfl)) rfl yqCo135 (by exact rdS hr rfl rfl) (by exact rdA hr rfl rfl) rfl rfl (.cons (by exact rdS hr rfl rfl) (.one (.v _)) (.nil)) hl6 rfl (by exact rdNoRefs hr rfl rfl)) (by exact rfl) ?_
              refine FRun.slot rfl (fun τ hN hr => step_buildVT rfl (rdN hN (hn rfl)) rfl yqSl22 (strs [(s6)]) ((by exact .cons (by exact rdS hr rfl rfl) rfl rfl rfl (.nil _))) (by exact rfl) (by exact rfl) (by exact rfl) (by exact (rows1 rfl))) (by exact rfl) ?_
              refine FRun.whole rfl (step_append_strs rfl (hn rfl) rfl yqSl22 rfl rfl rfl (.v _) (by first | omega | (simp only [List.length_cons, List.length_nil, List.length_append, List.length_take, List.length_drop]; omega)) (by first | omega | (simp only [List.length_cons, List.length_nil, List.length_append, List.length_take, List.length_drop]; omega))) (by exact rfl) ?_
              refine FRun.whole rfl (step_field_b rfl (hn rfl) rfl yqFo50_2 rfl (by exact List.cons_ne_nil _ _)) (by exact rfl) ?_
              refine FRun.whole rfl (step_store_r rfl rfl yqCs22 rfl rfl rfl rfl rfl rfl rfl) (by exact rfl) ?_
              refine FRun.nil ?_
              exact hQ.out
            apply E.reg
            · intro Q hQ
              refine AWp.seq (AWp.region ?_)
              refine ARun.step rfl (step_loadS_b rfl (hn rfl) rfl yqSt50 rfl rfl rfl (by decide)) ?_
              refine ARun.step rfl (step_store_r rfl rfl yqCs50 rfl rfl rfl rfl rfl rfl rfl) ?_
              refine ARun.nil ?_
              exact hQ.out
            refine E.mono (fun Q h => AWp.le (Le.letGo 64 0 (g := _) rfl (fun _ _ => rfl)) h) ?_
            refine E.mono (fun Q h => AWp.ret h) ?_
            apply E.ret (i := (_, Do.mk _ _ _))
            · refine ⟨.inr rfl, ⟨4, 3, _, _, _, yqSt50, by decide, rfl, rfl, rfl, rfl, (.cons rfl (.agg (.cons (.sc _ _ rfl) (.cons (.sc _ _ rfl) (.cons (.frz _ _ _ _ _) (.nil _))))) (.nil _)), rfl, ?_⟩, (.refl _)⟩
              refine congrArg PV.agg ?_
              rfl
            · try dsimp only
              all_goals (refine ⟨by omega, by omega, by decide, by decide, ?_⟩)
              all_goals (try simp only [List.length_append, List.length_cons, List.length_nil])
              all_goals (omega)
          · try simp only [nrm] at c2
            apply E.reg
            · intro Q hQ
              refine AWp.seq (AWp.region ?_)
              refine ARun.step rfl (step_eql rfl (hn rfl) rfl rfl rfl) ?_
              refine ARun.step rfl (step_assignV rfl (hn rfl) rfl rfl) ?_
              refine ARun.nil ?_
              exact hQ.out
            refine E.cond rfl (fun c3 => ?_) (fun c3 => ?_)
            · try simp only [nrm] at c3
              obtain ⟨_, s7, ⟨rfl, hk7⟩, hl7⟩ := l51of b (q4 + 1) ([⟨#[]⟩, ⟨#[65]⟩, ⟨#[122, 122]⟩]) (by first | assumption | omega | decide | (simp only [List.length_append, List.length_cons, List.length_nil, List.length_take, List.length_drop]; omega)) (by first | assumption | omega | decide | (simp only [List.length_append, List.length_cons, List.length_nil, List.length_take, List.length_drop]; omega)) (by first | assumption | omega | decide | (simp only [List.length_append, List.length_cons, List.length_nil, List.length_take, List.length_drop]; omega)) (by first | assumption | omega | decide | (simp only [List.length_append, List.length_cons, List.length_nil, List.length_take, List.length_drop]; omega))
              apply E.reg
              · intro Q hQ
                refine AWp.region ?_
                refine ARun.step rfl (step_moveV rfl (hn rfl) rfl rfl) ?_
                refine ARun.step rfl (step_buildVT rfl (hn rfl) rfl yqSl22 (strs [⟨#[]⟩, ⟨#[65]⟩, ⟨#[122, 122]⟩]) (.cons rfl rfl rfl rfl (.cons rfl rfl rfl rfl (.cons rfl rfl rfl rfl (.nil _)))) rfl rfl rfl (rowsE ⟨rfl, rfl, rfl, trivial⟩)) ?_
                refine ARun.step rfl (call_stepLZ rfl (hn rfl) rfl yqCo135 rfl rfl rfl rfl (.cons rfl (.one (.v _)) (.nil)) hl7 rfl rfl) ?_
                refine ARun.step rfl (step_field_b rfl (hn rfl) rfl yqFo50_1 rfl (by exact List.cons_ne_nil _ _)) ?_
                refine ARun.step rfl (step_store_p (bs := [_, _, _]) rfl rfl yqCs9 rfl rfl rfl rfl rfl rfl rfl) ?_
                refine ARun.nil ?_
                exact hQ.out
              apply E.reg
              · intro Q hQ
                refine AWp.seq (AWp.region ?_)
                refine ARun.step rfl (step_loadS_b rfl (hn rfl) rfl yqSt50 rfl rfl rfl (by decide)) ?_
                refine ARun.step rfl (step_store_r rfl rfl yqCs50 rfl rfl rfl rfl rfl rfl rfl) ?_
                refine ARun.nil ?_
                exact hQ.out
              refine E.mono (fun Q h => AWp.le (Le.letGo 64 0 (g := _) rfl (fun _ _ => rfl)) h) ?_
              refine E.mono (fun Q h => AWp.ret h) ?_
              apply E.ret (i := (_, Do.mk _ _ _))
              · refine ⟨.inr rfl, ⟨4, 3, _, _, _, yqSt50, by decide, rfl, rfl, rfl, rfl, (.cons rfl (.agg (.cons (.sc _ _ rfl) (.cons (.sc _ _ rfl) (.cons (.frz _ _ _ _ _) (.nil _))))) (.nil _)), rfl, ?_⟩, (.refl _)⟩
                refine congrArg PV.agg ?_
                rfl
              · try dsimp only
                all_goals (refine ⟨by omega, by omega, by decide, by decide, ?_⟩)
                all_goals (try simp only [List.length_append, List.length_cons, List.length_nil])
                all_goals (omega)
            · try simp only [nrm] at c3
              refine E.mono (fun Q h => AWp.skip h) ?_
              apply E.reg
              · intro Q hQ
                refine AWp.seq (AWp.region ?_)
                refine ARun.step rfl (step_loadS_b rfl (hn rfl) rfl yqSt50 rfl rfl rfl (by decide)) ?_
                refine ARun.step rfl (step_store_r rfl rfl yqCs50 rfl rfl rfl rfl rfl rfl rfl) ?_
                refine ARun.nil ?_
                exact hQ.out
              refine E.mono (fun Q h => AWp.le (Le.letGo 64 0 (g := _) rfl (fun _ _ => rfl)) h) ?_
              refine E.mono (fun Q h => AWp.ret h) ?_
              apply E.ret (i := (_, Do.mk _ _ _))
              · refine ⟨.inr rfl, ⟨4, 3, _, _, _, yqSt50, by decide, rfl, rfl, rfl, rfl, (.cons rfl (.agg (.cons (.sc _ _ rfl) (.cons (.sc _ _ rfl) (.cons (.frz _ _ _ _ _) (.nil _))))) (.nil _)), rfl, ?_⟩, (.refl _)⟩
                refine congrArg PV.agg ?_
                rfl
              · try dsimp only
                all_goals (refine ⟨by omega, by omega, by decide, by decide, ?_⟩)
                all_goals (try simp only [List.length_append, List.length_cons, List.length_nil])
                all_goals (omega)
        · try simp only [nrm] at c1
          apply E.reg
          · intro Q hQ
            refine AWp.seq (AWp.region ?_)
            refine ARun.step rfl (step_eql rfl (hn rfl) rfl rfl rfl) ?_
            refine ARun.step rfl (step_assignV rfl (hn rfl) rfl rfl) ?_
            refine ARun.nil ?_
            exact hQ.out
          refine E.cond rfl (fun c4 => ?_) (fun c4 => ?_)
          · try simp only [nrm] at c4
            apply E.reg
            · intro Q hQ
              refine AWp.seq (AWp.region ?_)
              refine ARun.step rfl (step_field_b rfl (hn rfl) rfl yqFo50_0 rfl (by exact List.cons_ne_nil _ _)) ?_
              refine ARun.step rfl (step_store_p (bs := [_, _, _]) rfl rfl yqCs3 rfl rfl rfl rfl rfl rfl rfl) ?_
              refine ARun.nil ?_
              exact hQ.out
            obtain ⟨q8, x8, ⟨hqa8, hqb8, hsub8, hsl8⟩, hl8⟩ := l55Some b (x.2 + 1) (y) (2) (by first | assumption | omega | decide | (simp only [List.length_append, List.length_cons, List.length_nil, List.length_take, List.length_drop]; omega)) (by first | assumption | omega | decide | (simp only [List.length_append, List.length_cons, List.length_nil, List.length_take, List.length_drop]; omega)) (by first | assumption | omega | decide | (simp only [List.length_append, List.length_cons, List.length_nil, List.length_take, List.length_drop]; omega)) (by first | assumption | omega | decide | (simp only [List.length_append, List.length_cons, List.length_nil, List.length_take, List.length_drop]; omega)) (by first | assumption | omega | decide | (simp only [List.length_append, List.length_cons, List.length_nil, List.length_take, List.length_drop]; omega))
            apply E.reg
            · intro Q hQ
              refine AWp.region ?_
              refine ARun.step rfl (step_moveV rfl (hn rfl) rfl rfl) ?_
              refine ARun.step rfl (step_moveV rfl (hn rfl) rfl rfl) ?_
              refine ARun.step rfl (call_stepL rfl (hn rfl) rfl yqCo137 rfl rfl rfl rfl rfl (.cons rfl (.one (.v _)) (.cons rfl (.one (.v _)) (.nil))) (hl8) rfl rfl) ?_
              refine ARun.step rfl (step_field_b rfl (hn rfl) rfl yqFo50_2 rfl (by exact List.cons_ne_nil _ _)) ?_
              refine ARun.step rfl (step_store_r rfl rfl yqCs22 rfl rfl rfl rfl rfl rfl rfl) ?_
              refine ARun.nil ?_
              exact hQ.out
            refine E.mono (fun Q h => AWp.seq h) ?_
            obtain ⟨_, k9, ⟨rfl, hk9⟩, hl9⟩ := l51pick b (q8) (24) (by first | assumption | omega | decide | (simp only [List.length_append, List.length_cons, List.length_nil, List.length_take, List.length_drop]; omega)) (by first | assumption | omega | decide | (simp only [List.length_append, List.length_cons, List.length_nil, List.length_take, List.length_drop]; omega)) (by first | assumption | omega | decide | (simp only [List.length_append, List.length_cons, List.length_nil, List.length_take, List.length_drop]; omega)) (by first | assumption | omega | decide | (simp only [List.length_append, List.length_cons, List.length_nil, List.length_take, List.length_drop]; omega))
            apply E.reg
            · intro Q hQ
              refine AWp.seq (AWp.region ?_)
              refine ARun.step rfl (step_moveV rfl (hn rfl) rfl rfl) ?_
              refine ARun.step rfl (call_stepLZ rfl (hn rfl) rfl yqCo63 rfl rfl rfl rfl (.cons rfl (.one (.v _)) (.nil)) hl9 rfl rfl) ?_
              refine ARun.nil ?_
              exact hQ.out
            refine E.mono (fun Q h => AWp.block h) ?_
            apply E.reg
            · intro Q hQ
              refine AWp.seq (AWp.region ?_)
              refine ARun.step rfl (step_eql rfl (hn rfl) rfl rfl rfl) ?_
              refine ARun.step rfl (step_assignV rfl (hn rfl) rfl rfl) ?_
              refine ARun.nil ?_
              exact hQ.out
            refine E.cond rfl (fun c5 => ?_) (fun c5 => ?_)
            · try simp only [nrm] at c5
              obtain ⟨_, s10, ⟨rfl, hk10⟩, hl10⟩ := l51of b (q8 + 1) ([⟨#[]⟩, ⟨#[97]⟩, ⟨#[122, 122]⟩, ⟨#[116, 117, 110]⟩]) (by first | assumption | omega | decide | (simp only [List.length_append, List.length_cons, List.length_nil, List.length_take, List.length_drop]; omega)) (by first | assumption | omega | decide | (simp only [List.length_append, List.length_cons, List.length_nil, List.length_take, List.length_drop]; omega)) (by first | assumption | omega | decide | (simp only [List.length_append, List.length_cons, List.length_nil, List.length_take, List.length_drop]; omega)) (by first | assumption | omega | decide | (simp only [List.length_append, List.length_cons, List.length_nil, List.length_take, List.length_drop]; omega))
              apply E.reg
              · intro Q hQ
                refine AWp.drawM [⟨⟨[.s 5, .b 5], [.s 80], false⟩, none, []⟩, ⟨⟨[.s 80, .b 5], [.s 81], false⟩, none, []⟩, ⟨⟨[.s 0], [.s 82], false⟩, none, []⟩, ⟨⟨[], [.s 83], false⟩, none, []⟩, ⟨⟨[.s 83, .s 82, .a 1000000 0], [.s 84, .a 1000000 0], false⟩, none, []⟩, ⟨⟨[.s 84], [.s 85], false⟩, none, []⟩, ⟨⟨[], [], true⟩, none, []⟩, ⟨⟨[], [], true⟩, none, []⟩, ⟨⟨[], [], true⟩, none, []⟩] yqMo rfl rfl (Le.forgetR (n := 95) (sl := [(0, _), (3, _), (4, _), (5, _), (7, _), (47, _), (52, _), (66, _), (67, _), (68, _), (69, _), (70, _), (71, _), (72, _), (76, _), (77, _), (78, _), (79, _)]) (bl := [(3, _), (4, _), (5, _)]) (al := [(71, 0, _), (1000000, 0, _)]) rfl ⟨rfl, rfl, rfl, rfl, rfl, rfl, rfl, rfl, rfl, rfl, rfl, rfl, rfl, rfl, rfl, rfl, rfl, rfl, trivial⟩ ⟨rfl, rfl, rfl, trivial⟩ ⟨.refl _, .refl _, trivial⟩) rfl ?_
                refine FRun.slot rfl (fun τ hN hr => step_field_b rfl (rdN hN (hn rfl)) rfl yqFo50_2 (by exact rdS hr rfl rfl) (by exact rdBne hr rfl (by exact List.cons_ne_nil _ _))) (by exact rfl) ?_
                refine FRun.slot rfl (fun τ hN hr => step_load_b rfl (rdN hN (hn rfl)) rfl yqSc22 (by exact rdS hr rfl rfl) (by exact rdBget hr rfl rfl)) (by exact rfl) ?_
                refine FRun.slot rfl (fun τ hN hr => step_moveV rfl (rdN hN (hn rfl)) rfl (by exact rdS hr rfl rfl)) (by exact rfl) ?_
                refine FRun.slot rfl (fun τ hN hr => step_buildVT rfl (rdN hN (hn rfl)) rfl yqSl22 (strs [⟨#[]⟩, ⟨#[97]⟩, ⟨#[122, 122]⟩, ⟨#[116, 117, 110]⟩]) (by exact .cons rfl rfl rfl rfl (.cons rfl rfl rfl rfl (.cons rfl rfl rfl rfl (.cons rfl rfl rfl rfl (.nil _))))) (by exact rfl) (by exact rfl) (by exact rfl) (by exact (rowsE ⟨rfl, rfl, rfl, rfl, trivial⟩))) (by exact rfl) ?_
                refine FRun.lent rfl (fun τ hN hr => call_stepLZ rfl (rdN hN (hn rfl)) rfl yqCo135 (by exact rdS hr rfl rfl) (by exact rdA hr rfl rfl) rfl rfl (.cons (by exact rdS hr rfl rfl) (.one (.v _)) (.nil)) hl10 rfl (by exact rdNoRefs hr rfl rfl)) (by exact rfl) ?_
                refine FRun.slot rfl (fun τ hN hr => step_buildVT rfl (rdN hN (hn rfl)) rfl yqSl22 (strs [(s10)]) ((by exact .cons (by exact rdS hr rfl rfl) rfl rfl rfl (.nil _))) (by exact rfl) (by exact rfl) (by exact rfl) (by exact (rows1 rfl))) (by exact rfl) ?_
                refine FRun.whole rfl (step_append_strs rfl (hn rfl) rfl yqSl22 rfl rfl rfl (.v _) (by first | omega | (simp only [List.length_cons, List.length_nil, List.length_append, List.length_take, List.length_drop]; omega)) (by first | omega | (simp only [List.length_cons, List.length_nil, List.length_append, List.length_take, List.length_drop]; omega))) (by exact rfl) ?_
                refine FRun.whole rfl (step_field_b rfl (hn rfl) rfl yqFo50_2 rfl (by exact List.cons_ne_nil _ _)) (by exact rfl) ?_
                refine FRun.whole rfl (step_store_r rfl rfl yqCs22 rfl rfl rfl rfl rfl rfl rfl) (by exact rfl) ?_
                refine FRun.nil ?_
                exact hQ.out
              apply E.reg
              · intro Q hQ
                refine AWp.seq (AWp.region ?_)
                refine ARun.step rfl (step_loadS_b rfl (hn rfl) rfl yqSt50 rfl rfl rfl (by decide)) ?_
                refine ARun.step rfl (step_store_r rfl rfl yqCs50 rfl rfl rfl rfl rfl rfl rfl) ?_
                refine ARun.nil ?_
                exact hQ.out
              refine E.mono (fun Q h => AWp.le (Le.letGo 71 0 (g := _) rfl (fun _ _ => rfl)) h) ?_
              refine E.mono (fun Q h => AWp.ret h) ?_
              apply E.ret (i := (_, Do.mk _ _ _))
              · refine ⟨.inr rfl, ⟨4, 3, _, _, _, yqSt50, by decide, rfl, rfl, rfl, rfl, (.cons rfl (.agg (.cons (.sc _ _ rfl) (.cons (.sc _ _ rfl) (.cons (.frz _ _ _ _ _) (.nil _))))) (.nil _)), rfl, ?_⟩, (.refl _)⟩
                refine congrArg PV.agg ?_
                rfl
              · try dsimp only
                all_goals (refine ⟨by omega, by omega, by decide, by decide, ?_⟩)
                all_goals (try simp only [List.length_append, List.length_cons, List.length_nil])
                all_goals (omega)
            · try simp only [nrm] at c5
              apply E.reg
              · intro Q hQ
                refine AWp.seq (AWp.region ?_)
                refine ARun.step rfl (step_eql rfl (hn rfl) rfl rfl rfl) ?_
                refine ARun.step rfl (step_assignV rfl (hn rfl) rfl rfl) ?_
                refine ARun.nil ?_
                exact hQ.out
              refine E.cond rfl (fun c6 => ?_) (fun c6 => ?_)
              · try simp only [nrm] at c6
                obtain ⟨_, s11, ⟨rfl, hk11⟩, hl11⟩ := l51of b (q8 + 1) ([⟨#[]⟩, ⟨#[65]⟩, ⟨#[122, 122]⟩]) (by first | assumption | omega | decide | (simp only [List.length_append, List.length_cons, List.length_nil, List.length_take, List.length_drop]; omega)) (by first | assumption | omega | decide | (simp only [List.length_append, List.length_cons, List.length_nil, List.length_take, List.length_drop]; omega)) (by first | assumption | omega | decide | (simp only [List.length_append, List.length_cons, List.length_nil, List.length_take, List.length_drop]; omega)) (by first | assumption | omega | decide | (simp only [List.length_append, List.length_cons, List.length_nil, List.length_take, List.length_drop]; omega))
                apply E.reg
                · intro Q hQ
                  refine AWp.region ?_
                  refine ARun.step rfl (step_moveV rfl (hn rfl) rfl rfl) ?_
                  refine ARun.step rfl (step_buildVT rfl (hn rfl) rfl yqSl22 (strs [⟨#[]⟩, ⟨#[65]⟩, ⟨#[122, 122]⟩]) (.cons rfl rfl rfl rfl (.cons rfl rfl rfl rfl (.cons rfl rfl rfl rfl (.nil _)))) rfl rfl rfl (rowsE ⟨rfl, rfl, rfl, trivial⟩)) ?_
                  refine ARun.step rfl (call_stepLZ rfl (hn rfl) rfl yqCo135 rfl rfl rfl rfl (.cons rfl (.one (.v _)) (.nil)) hl11 rfl rfl) ?_
                  refine ARun.step rfl (step_field_b rfl (hn rfl) rfl yqFo50_1 rfl (by exact List.cons_ne_nil _ _)) ?_
                  refine ARun.step rfl (step_store_p (bs := [_, _, _]) rfl rfl yqCs9 rfl rfl rfl rfl rfl rfl rfl) ?_
                  refine ARun.nil ?_
                  exact hQ.out
                apply E.reg
                · intro Q hQ
                  refine AWp.seq (AWp.region ?_)
                  refine ARun.step rfl (step_loadS_b rfl (hn rfl) rfl yqSt50 rfl rfl rfl (by decide)) ?_
                  refine ARun.step rfl (step_store_r rfl rfl yqCs50 rfl rfl rfl rfl rfl rfl rfl) ?_
                  refine ARun.nil ?_
                  exact hQ.out
                refine E.mono (fun Q h => AWp.le (Le.letGo 71 0 (g := _) rfl (fun _ _ => rfl)) h) ?_
                refine E.mono (fun Q h => AWp.ret h) ?_
                apply E.ret (i := (_, Do.mk _ _ _))
                · refine ⟨.inr rfl, ⟨4, 3, _, _, _, yqSt50, by decide, rfl, rfl, rfl, rfl, (.cons rfl (.agg (.cons (.sc _ _ rfl) (.cons (.sc _ _ rfl) (.cons (.frz _ _ _ _ _) (.nil _))))) (.nil _)), rfl, ?_⟩, (.refl _)⟩
                  refine congrArg PV.agg ?_
                  rfl
                · try dsimp only
                  all_goals (refine ⟨by omega, by omega, by decide, by decide, ?_⟩)
                  all_goals (try simp only [List.length_append, List.length_cons, List.length_nil])
                  all_goals (omega)
              · try simp only [nrm] at c6
                refine E.mono (fun Q h => AWp.skip h) ?_
                apply E.reg
                · intro Q hQ
                  refine AWp.seq (AWp.region ?_)
                  refine ARun.step rfl (step_loadS_b rfl (hn rfl) rfl yqSt50 rfl rfl rfl (by decide)) ?_
                  refine ARun.step rfl (step_store_r rfl rfl yqCs50 rfl rfl rfl rfl rfl rfl rfl) ?_
                  refine ARun.nil ?_
                  exact hQ.out
                refine E.mono (fun Q h => AWp.le (Le.letGo 71 0 (g := _) rfl (fun _ _ => rfl)) h) ?_
                refine E.mono (fun Q h => AWp.ret h) ?_
                apply E.ret (i := (_, Do.mk _ _ _))
                · refine ⟨.inr rfl, ⟨4, 3, _, _, _, yqSt50, by decide, rfl, rfl, rfl, rfl, (.cons rfl (.agg (.cons (.sc _ _ rfl) (.cons (.sc _ _ rfl) (.cons (.frz _ _ _ _ _) (.nil _))))) (.nil _)), rfl, ?_⟩, (.refl _)⟩
                  refine congrArg PV.agg ?_
                  rfl
                · try dsimp only
                  all_goals (refine ⟨by omega, by omega, by decide, by decide, ?_⟩)
                  all_goals (try simp only [List.length_append, List.length_cons, List.length_nil])
                  all_goals (omega)
          · try simp only [nrm] at c4
            apply E.reg
            · intro Q hQ
              refine AWp.seq (AWp.region ?_)
              refine ARun.step rfl (step_eql rfl (hn rfl) rfl rfl rfl) ?_
              refine ARun.step rfl (step_assignV rfl (hn rfl) rfl rfl) ?_
              refine ARun.nil ?_
              exact hQ.out
            refine E.cond rfl (fun c7 => ?_) (fun c7 => ?_)
            · try simp only [nrm] at c7
              apply E.reg
              · intro Q hQ
                refine AWp.region ?_
                refine ARun.step rfl (step_field_b rfl (hn rfl) rfl yqFo50_0 rfl (by exact List.cons_ne_nil _ _)) ?_
                refine ARun.step rfl (step_store_p (bs := [_, _, _]) rfl rfl yqCs3 rfl rfl rfl rfl rfl rfl rfl) ?_
                refine ARun.nil ?_
                exact hQ.out
              refine E.mono (fun Q h => AWp.seq h) ?_
              obtain ⟨_, k12, ⟨rfl, hk12⟩, hl12⟩ := l51pick b (x.2 + 1) (24) (by first | assumption | omega | decide | (simp only [List.length_append, List.length_cons, List.length_nil, List.length_take, List.length_drop]; omega)) (by first | assumption | omega | decide | (simp only [List.length_append, List.length_cons, List.length_nil, List.length_take, List.length_drop]; omega)) (by first | assumption | omega | decide | (simp only [List.length_append, List.length_cons, List.length_nil, List.length_take, List.length_drop]; omega)) (by first | assumption | omega | decide | (simp only [List.length_append, List.length_cons, List.length_nil, List.length_take, List.length_drop]; omega))
              apply E.reg
              · intro Q hQ
                refine AWp.seq (AWp.region ?_)
                refine ARun.step rfl (step_moveV rfl (hn rfl) rfl rfl) ?_
                refine ARun.step rfl (call_stepLZ rfl (hn rfl) rfl yqCo63 rfl rfl rfl rfl (.cons rfl (.one (.v _)) (.nil)) hl12 rfl rfl) ?_
                refine ARun.nil ?_
                exact hQ.out
              refine E.mono (fun Q h => AWp.block h) ?_
              apply E.reg
              · intro Q hQ
                refine AWp.seq (AWp.region ?_)
                refine ARun.step rfl (step_eql rfl (hn rfl) rfl rfl rfl) ?_
                refine ARun.step rfl (step_assignV rfl (hn rfl) rfl rfl) ?_
                refine ARun.nil ?_
                exact hQ.out
              refine E.cond rfl (fun c8 => ?_) (fun c8 => ?_)
              · try simp only [nrm] at c8
                obtain ⟨_, s13, ⟨rfl, hk13⟩, hl13⟩ := l51of b (x.2 + 1 + 1) ([⟨#[]⟩, ⟨#[97]⟩, ⟨#[122, 122]⟩, ⟨#[116, 117, 110]⟩]) (by first | assumption | omega | decide | (simp only [List.length_append, List.length_cons, List.length_nil, List.length_take, List.length_drop]; omega)) (by first | assumption | omega | decide | (simp only [List.length_append, List.length_cons, List.length_nil, List.length_take, List.length_drop]; omega)) (by first | assumption | omega | decide | (simp only [List.length_append, List.length_cons, List.length_nil, List.length_take, List.length_drop]; omega)) (by first | assumption | omega | decide | (simp only [List.length_append, List.length_cons, List.length_nil, List.length_take, List.length_drop]; omega))
                apply E.reg
                · intro Q hQ
                  refine AWp.drawM [⟨⟨[.s 5, .b 5], [.s 80], false⟩, none, []⟩, ⟨⟨[.s 80, .b 5], [.s 81], false⟩, none, []⟩, ⟨⟨[.s 0], [.s 82], false⟩, none, []⟩, ⟨⟨[], [.s 83], false⟩, none, []⟩, ⟨⟨[.s 83, .s 82, .a 1000000 0], [.s 84, .a 1000000 0], false⟩, none, []⟩, ⟨⟨[.s 84], [.s 85], false⟩, none, []⟩, ⟨⟨[], [], true⟩, none, []⟩, ⟨⟨[], [], true⟩, none, []⟩, ⟨⟨[], [], true⟩, none, []⟩] yqMo rfl rfl (Le.forgetR (n := 95) (sl := [(0, _), (3, _), (4, _), (5, _), (7, _), (47, _), (52, _), (66, _), (67, _), (73, _), (74, _), (75, _), (76, _), (77, _), (78, _), (79, _)]) (bl := [(3, _), (4, _), (5, _)]) (al := [(1000000, 0, _)]) rfl ⟨rfl, rfl, rfl, rfl, rfl, rfl, rfl, rfl, rfl, rfl, rfl, rfl, rfl, rfl, rfl, rfl, trivial⟩ ⟨rfl, rfl, rfl, trivial⟩ ⟨.refl _, trivial⟩) rfl ?_
                  refine FRun.slot rfl (fun τ hN hr => step_field_b rfl (rdN hN (hn rfl)) rfl yqFo50_2 (by exact rdS hr rfl rfl) (by exact rdBne hr rfl (by exact List.cons_ne_nil _ _))) (by exact rfl) ?_
                  refine FRun.slot rfl (fun τ hN hr => step_load_b rfl (rdN hN (hn rfl)) rfl yqSc22 (by exact rdS hr rfl rfl) (by exact rdBget hr rfl rfl)) (by exact rfl) ?_
                  refine FRun.slot rfl (fun τ hN hr => step_moveV rfl (rdN hN (hn rfl)) rfl (by exact rdS hr rfl rfl)) (by exact rfl) ?_
                  refine FRun.slot rfl (fun τ hN hr => step_buildVT rfl (rdN hN (hn rfl)) rfl yqSl22 (strs [⟨#[]⟩, ⟨#[97]⟩, ⟨#[122, 122]⟩, ⟨#[116, 117, 110]⟩]) (by exact .cons rfl rfl rfl rfl (.cons rfl rfl rfl rfl (.cons rfl rfl rfl rfl (.cons rfl rfl rfl rfl (.nil _))))) (by exact rfl) (by exact rfl) (by exact rfl) (by exact (rowsE ⟨rfl, rfl, rfl, rfl, trivial⟩))) (by exact rfl) ?_
                  refine FRun.lent rfl (fun τ hN hr => call_stepLZ rfl (rdN hN (hn rfl)) rfl yqCo135 (by exact rdS hr rfl rfl) (by exact rdA hr rfl rfl) rfl rfl (.cons (by exact rdS hr rfl rfl) (.one (.v _)) (.nil)) hl13 rfl (by exact rdNoRefs hr rfl rfl)) (by exact rfl) ?_
                  refine FRun.slot rfl (fun τ hN hr => step_buildVT rfl (rdN hN (hn rfl)) rfl yqSl22 (strs [(s13)]) ((by exact .cons (by exact rdS hr rfl rfl) rfl rfl rfl (.nil _))) (by exact rfl) (by exact rfl) (by exact rfl) (by exact (rows1 rfl))) (by exact rfl) ?_
                  refine FRun.whole rfl (step_appendNil rfl (hn rfl) rfl yqSl22 rfl rfl (.v _) (fun _ _ => rfl) (by first | omega | (simp only [List.length_cons, List.length_nil]; omega)) (by first | omega | (simp only [List.length_cons, List.length_nil]; omega))) (by exact rfl) ?_
                  refine FRun.whole rfl (step_field_b rfl (hn rfl) rfl yqFo50_2 rfl (by exact List.cons_ne_nil _ _)) (by exact rfl) ?_
                  refine FRun.whole rfl (step_store_r rfl rfl yqCs22 rfl rfl rfl rfl rfl rfl rfl) (by exact rfl) ?_
                  refine FRun.nil ?_
                  exact hQ.out
                apply E.reg
                · intro Q hQ
                  refine AWp.seq (AWp.region ?_)
                  refine ARun.step rfl (step_loadS_b rfl (hn rfl) rfl yqSt50 rfl rfl rfl (by decide)) ?_
                  refine ARun.step rfl (step_store_r rfl rfl yqCs50 rfl rfl rfl rfl rfl rfl rfl) ?_
                  refine ARun.nil ?_
                  exact hQ.out
                refine E.mono (fun Q h => AWp.le (Le.letGo 86 0 (g := _) rfl (fun _ _ => rfl)) h) ?_
                refine E.mono (fun Q h => AWp.ret h) ?_
                apply E.ret (i := (_, Do.mk _ _ _))
                · refine ⟨.inr rfl, ⟨4, 3, _, _, _, yqSt50, by decide, rfl, rfl, rfl, rfl, (.cons rfl (.agg (.cons (.sc _ _ rfl) (.cons (.sc _ _ rfl) (.cons (.frz _ _ _ _ _) (.nil _))))) (.nil _)), rfl, ?_⟩, (.refl _)⟩
                  refine congrArg PV.agg ?_
                  rfl
                · try dsimp only
                  all_goals (refine ⟨by omega, by omega, by decide, by decide, ?_⟩)
                  all_goals (try simp only [List.length_append, List.length_cons, List.length_nil])
                  all_goals (omega)
              · try simp only [nrm] at c8
                apply E.reg
                · intro Q hQ
                  refine AWp.seq (AWp.region ?_)
                  refine ARun.step rfl (step_eql rfl (hn rfl) rfl rfl rfl) ?_
                  refine ARun.step rfl (step_assignV rfl (hn rfl) rfl rfl) ?_
                  refine ARun.nil ?_
                  exact hQ.out
                refine E.cond rfl (fun c9 => ?_) (fun c9 => ?_)
                · try simp only [nrm] at c9
                  obtain ⟨_, s14, ⟨rfl, hk14⟩, hl14⟩ := l51of b (x.2 + 1 + 1) ([⟨#[]⟩, ⟨#[65]⟩, ⟨#[122, 122]⟩]) (by first | assumption | omega | decide | (simp only [List.length_append, List.length_cons, List.length_nil, List.length_take, List.length_drop]; omega)) (by first | assumption | omega | decide | (simp only [List.length_append, List.length_cons, List.length_nil, List.length_take, List.length_drop]; omega)) (by first | assumption | omega | decide | (simp only [List.length_append, List.length_cons, List.length_nil, List.length_take, List.length_drop]; omega)) (by first | assumption | omega | decide | (simp only [List.length_append, List.length_cons, List.length_nil, List.length_take, List.length_drop]; omega))
                  apply E.reg
                  · intro Q hQ
                    refine AWp.region ?_
                    refine ARun.step rfl (step_moveV rfl (hn rfl) rfl rfl) ?_
                    refine ARun.step rfl (step_buildVT rfl (hn rfl) rfl yqSl22 (strs [⟨#[]⟩, ⟨#[65]⟩, ⟨#[122, 122]⟩]) (.cons rfl rfl rfl rfl (.cons rfl rfl rfl rfl (.cons rfl rfl rfl rfl (.nil _)))) rfl rfl rfl (rowsE ⟨rfl, rfl, rfl, trivial⟩)) ?_
                    refine ARun.step rfl (call_stepLZ rfl (hn rfl) rfl yqCo135 rfl rfl rfl rfl (.cons rfl (.one (.v _)) (.nil)) hl14 rfl rfl) ?_
                    refine ARun.step rfl (step_field_b rfl (hn rfl) rfl yqFo50_1 rfl (by exact List.cons_ne_nil _ _)) ?_
                    refine ARun.step rfl (step_store_p (bs := [_, _, _]) rfl rfl yqCs9 rfl rfl rfl rfl rfl rfl rfl) ?_
                    refine ARun.nil ?_
                    exact hQ.out
                  apply E.reg
                  · intro Q hQ
                    refine AWp.seq (AWp.region ?_)
                    refine ARun.step rfl (step_loadS_b rfl (hn rfl) rfl yqSt50 rfl rfl rfl (by decide)) ?_
                    refine ARun.step rfl (step_store_p (bs := [_, _, _]) rfl rfl yqCs50 rfl rfl rfl rfl rfl rfl rfl) ?_
                    refine ARun.nil ?_
                    exact hQ.out
                  refine E.mono (fun Q h => AWp.le (Le.reBox 4 rfl (.cons (.refl _) (.cons (.refl _) (.cons (.sl 9 1 (fun i => [.str (nth [] i)])) .nil)))) h) ?_
                  refine E.mono (fun Q h => AWp.ret h) ?_
                  apply E.ret (i := (_, Do.mk _ _ []))
                  · refine ⟨.inr rfl, ⟨4, 3, _, _, _, yqSt50, by decide, rfl, rfl, rfl, rfl, (.cons rfl (.agg (.cons (.sc _ _ rfl) (.cons (.sc _ _ rfl) (.cons (.frz _ _ _ _ _) (.nil _))))) (.nil _)), rfl, ?_⟩, (.refl _)⟩
                    refine congrArg PV.agg ?_
                    rfl
                  · try dsimp only
                    all_goals (refine ⟨by omega, by omega, by decide, by decide, ?_⟩)
                    all_goals (try simp only [List.length_append, List.length_cons, List.length_nil])
                    all_goals (omega)
                · try simp only [nrm] at c9
                  refine E.mono (fun Q h => AWp.skip h) ?_
                  apply E.reg
                  · intro Q hQ
                    refine AWp.seq (AWp.region ?_)
                    refine ARun.step rfl (step_loadS_b rfl (hn rfl) rfl yqSt50 rfl rfl rfl (by decide)) ?_
                    refine ARun.step rfl (step_store_p (bs := [_, _, _]) rfl rfl yqCs50 rfl rfl rfl rfl rfl rfl rfl) ?_
                    refine ARun.nil ?_
                    exact hQ.out
                  refine E.mono (fun Q h => AWp.le (Le.reBox 4 rfl (.cons (.refl _) (.cons (.refl _) (.cons (.sl 9 1 (fun i => [.str (nth [] i)])) .nil)))) h) ?_
                  refine E.mono (fun Q h => AWp.ret h) ?_
                  apply E.ret (i := (_, Do.mk _ _ []))
                  · refine ⟨.inr rfl, ⟨4, 3, _, _, _, yqSt50, by decide, rfl, rfl, rfl, rfl, (.cons rfl (.agg (.cons (.sc _ _ rfl) (.cons (.sc _ _ rfl) (.cons (.frz _ _ _ _ _) (.nil _))))) (.nil _)), rfl, ?_⟩, (.refl _)⟩
                    refine congrArg PV.agg ?_
                    rfl
                  · try dsimp only
                    all_goals (refine ⟨by omega, by omega, by decide, by decide, ?_⟩)
                    all_goals (try simp only [List.length_append, List.length_cons, List.length_nil])
                    all_goals (omega)
            · try simp only [nrm] at c7
              obtain ⟨q15, x15, ⟨hqa15, hqb15, hsub15, hsl15⟩, hl15⟩ := l55Some b (x.2 + 1) (y) (2) (by first | assumption | omega | decide | (simp only [List.length_append, List.length_cons, List.length_nil, List.length_take, List.length_drop]; omega)) (by first | assumption | omega | decide | (simp only [List.length_append, List.length_cons, List.length_nil, List.length_take, List.length_drop]; omega)) (by first | assumption | omega | decide | (simp only [List.length_append, List.length_cons, List.length_nil, List.length_take, List.length_drop]; omega)) (by first | assumption | omega | decide | (simp only [List.length_append, List.length_cons, List.length_nil, List.length_take, List.length_drop]; omega)) (by first | assumption | omega | decide | (simp only [List.length_append, List.length_cons, List.length_nil, List.length_take, List.length_drop]; omega))
              apply E.reg
              · intro Q hQ
                refine AWp.region ?_
                refine ARun.step rfl (step_moveV rfl (hn rfl) rfl rfl) ?_
                refine ARun.step rfl (step_moveV rfl (hn rfl) rfl rfl) ?_
                refine ARun.step rfl (call_stepL rfl (hn rfl) rfl yqCo137 rfl rfl rfl rfl rfl (.cons rfl (.one (.v _)) (.cons rfl (.one (.v _)) (.nil))) (hl15) rfl rfl) ?_
                refine ARun.step rfl (step_field_b rfl (hn rfl) rfl yqFo50_2 rfl (by exact List.cons_ne_nil _ _)) ?_
                refine ARun.step rfl (step_store_r rfl rfl yqCs22 rfl rfl rfl rfl rfl rfl rfl) ?_
                refine ARun.nil ?_
                exact hQ.out
              refine E.mono (fun Q h => AWp.seq h) ?_
              obtain ⟨_, k16, ⟨rfl, hk16⟩, hl16⟩ := l51pick b (q15) (24) (by first | assumption | omega | decide | (simp only [List.length_append, List.length_cons, List.length_nil, List.length_take, List.length_drop]; omega)) (by first | assumption | omega | decide | (simp only [List.length_append, List.length_cons, List.length_nil, List.length_take, List.length_drop]; omega)) (by first | assumption | omega | decide | (simp only [List.length_append, List.length_cons, List.length_nil, List.length_take, List.length_drop]; omega)) (by first | assumption | omega | decide | (simp only [List.length_append, List.length_cons, List.length_nil, List.length_take, List.length_drop]; omega))
              apply E.reg
              · intro Q hQ
                refine AWp.seq (AWp.region ?_)
                refine ARun.step rfl (step_moveV rfl (hn rfl) rfl rfl) ?_
                refine ARun.step rfl (call_stepLZ rfl (hn rfl) rfl yqCo63 rfl rfl rfl rfl (.cons rfl (.one (.v _)) (.nil)) hl16 rfl rfl) ?_
                refine ARun.nil ?_
                exact hQ.out
              refine E.mono (fun Q h => AWp.block h) ?_
              apply E.reg
              · intro Q hQ
                refine AWp.seq (AWp.region ?_)
                refine ARun.step rfl (step_eql rfl (hn rfl) rfl rfl rfl) ?_
                refine ARun.step rfl (step_assignV rfl (hn rfl) rfl rfl) ?_
                refine ARun.nil ?_
                exact hQ.out
              refine E.cond rfl (fun c10 => ?_) (fun c10 => ?_)
              · try simp only [nrm] at c10
                obtain ⟨_, s17, ⟨rfl, hk17⟩, hl17⟩ := l51of b (q15 + 1) ([⟨#[]⟩, ⟨#[97]⟩, ⟨#[122, 122]⟩, ⟨#[116, 117, 110]⟩]) (by first | assumption | omega | decide | (simp only [List.length_append, List.length_cons, List.length_nil, List.length_take, List.length_drop]; omega)) (by first | assumption | omega | decide | (simp only [List.length_append, List.length_cons, List.length_nil, List.length_take, List.length_drop]; omega)) (by first | assumption | omega | decide | (simp only [List.length_append, List.length_cons, List.length_nil, List.length_take, List.length_drop]; omega)) (by first | assumption | omega | decide | (simp only [List.length_append, List.length_cons, List.length_nil, List.length_take, List.length_drop]; omega))
                apply E.reg
                · intro Q hQ
                  refine AWp.drawM [⟨⟨[.s 5, .b 5], [.s 80], false⟩, none, []⟩, ⟨⟨[.s 80, .b 5], [.s 81], false⟩, none, []⟩, ⟨⟨[.s 0], [.s 82], false⟩, none, []⟩, ⟨⟨[], [.s 83], false⟩, none, []⟩, ⟨⟨[.s 83, .s 82, .a 1000000 0], [.s 84, .a 1000000 0], false⟩, none, []⟩, ⟨⟨[.s 84], [.s 85], false⟩, none, []⟩, ⟨⟨[], [], true⟩, none, []⟩, ⟨⟨[], [], true⟩, none, []⟩, ⟨⟨[], [], true⟩, none, []⟩] yqMo rfl rfl (Le.forgetR (n := 95) (sl := [(0, _), (3, _), (4, _), (5, _), (7, _), (47, _), (48, _), (49, _), (50, _), (51, _), (52, _), (66, _), (67, _), (73, _), (74, _), (76, _), (77, _), (78, _), (79, _)]) (bl := [(3, _), (4, _), (5, _)]) (al := [(50, 0, _), (1000000, 0, _)]) rfl ⟨rfl, rfl, rfl, rfl, rfl, rfl, rfl, rfl, rfl, rfl, rfl, rfl, rfl, rfl, rfl, rfl, rfl, rfl, rfl, trivial⟩ ⟨rfl, rfl, rfl, trivial⟩ ⟨.refl _, .refl _, trivial⟩) rfl ?_
                  refine FRun.slot rfl (fun τ hN hr => step_field_b rfl (rdN hN (hn rfl)) rfl yqFo50_2 (by exact rdS hr rfl rfl) (by exact rdBne hr rfl (by exact List.cons_ne_nil _ _))) (by exact rfl) ?_
                  refine FRun.slot rfl (fun τ hN hr => step_load_b rfl (rdN hN (hn rfl)) rfl yqSc22 (by exact rdS hr rfl rfl) (by exact rdBget hr rfl rfl)) (by exact rfl) ?_
                  refine FRun.slot rfl (fun τ hN hr => step_moveV rfl (rdN hN (hn rfl)) rfl (by exact rdS hr rfl rfl)) (by exact rfl) ?_
                  refine FRun.slot rfl (fun τ hN hr => step_buildVT rfl (rdN hN (hn rfl)) rfl yqSl22 (strs [⟨#[]⟩, ⟨#[97]⟩, ⟨#[122, 122]⟩, ⟨#[116, 117, 110]⟩]) (by exact .cons rfl rfl rfl rfl (.cons rfl rfl rfl rfl (.cons rfl rfl rfl rfl (.cons rfl rfl rfl rfl (.nil _))))) (by exact rfl) (by exact rfl) (by exact rfl) (by exact (rowsE ⟨rfl, rfl, rfl, rfl, trivial⟩))) (by exact rfl) ?_
                  refine FRun.lent rfl (fun τ hN hr => call_stepLZ rfl (rdN hN (hn rfl)) rfl yqCo135 (by exact rdS hr rfl rfl) (by exact rdA hr rfl rfl) rfl rfl (.cons (by exact rdS hr rfl rfl) (.one (.v _)) (.nil)) hl17 rfl (by exact rdNoRefs hr rfl rfl)) (by exact rfl) ?_
                  refine FRun.slot rfl (fun τ hN hr => step_buildVT rfl (rdN hN (hn rfl)) rfl yqSl22 (strs [(s17)]) ((by exact .cons (by exact rdS hr rfl rfl) rfl rfl rfl (.nil _))) (by exact rfl) (by exact rfl) (by exact rfl) (by exact (rows1 rfl))) (by exact rfl) ?_
                  refine FRun.whole rfl (step_append_strs rfl (hn rfl) rfl yqSl22 rfl rfl rfl (.v _) (by first | omega | (simp only [List.length_cons, List.length_nil, List.length_append, List.length_take, List.length_drop]; omega)) (by first | omega | (simp only [List.length_cons, List.length_nil, List.length_append, List.length_take, List.length_drop]; omega))) (by exact rfl) ?_
                  refine FRun.whole rfl (step_field_b rfl (hn rfl) rfl yqFo50_2 rfl (by exact List.cons_ne_nil _ _)) (by exact rfl) ?_
                  refine FRun.whole rfl (step_store_r rfl rfl yqCs22 rfl rfl rfl rfl rfl rfl rfl) (by exact rfl) ?_
                  refine FRun.nil ?_
                  exact hQ.out
                apply E.reg
                · intro Q hQ
                  refine AWp.seq (AWp.region ?_)
                  refine ARun.step rfl (step_loadS_b rfl (hn rfl) rfl yqSt50 rfl rfl rfl (by decide)) ?_
                  refine ARun.step rfl (step_store_r rfl rfl yqCs50 rfl rfl rfl rfl rfl rfl rfl) ?_
                  refine ARun.nil ?_
                  exact hQ.out
                refine E.mono (fun Q h => AWp.le (Le.letGo 50 0 (g := _) rfl (fun _ _ => rfl)) h) ?_
                refine E.mono (fun Q h => AWp.ret h) ?_
                apply E.ret (i := (_, Do.mk _ _ _))
                · refine ⟨.inr rfl, ⟨4, 3, _, _, _, yqSt50, by decide, rfl, rfl, rfl, rfl, (.cons rfl (.agg (.cons (.sc _ _ rfl) (.cons (.sc _ _ rfl) (.cons (.frz _ _ _ _ _) (.nil _))))) (.nil _)), rfl, ?_⟩, (.refl _)⟩
                  refine congrArg PV.agg ?_
                  rfl
                · try dsimp only
                  all_goals (refine ⟨by omega, by omega, by decide, by decide, ?_⟩)
                  all_goals (try simp only [List.length_append, List.length_cons, List.length_nil])
                  all_goals (omega)
              · try simp only [nrm] at c10
                apply E.reg
                · intro Q hQ
                  refine AWp.seq (AWp.region ?_)
                  refine ARun.step rfl (step_eql rfl (hn rfl) rfl rfl rfl) ?_
                  refine ARun.step rfl (step_assignV rfl (hn rfl) rfl rfl) ?_
                  refine ARun.nil ?_
                  exact hQ.out
                refine E.cond rfl (fun c11 => ?_) (fun c11 => ?_)
                · try simp only [nrm] at c11
                  obtain ⟨_, s18, ⟨rfl, hk18⟩, hl18⟩ := l51of b (q15 + 1) ([⟨#[]⟩, ⟨#[65]⟩, ⟨#[122, 122]⟩]) (by first | assumption | omega | decide | (simp only [List.length_append, List.length_cons, List.length_nil, List.length_take, List.length_drop]; omega)) (by first | assumption | omega | decide | (simp only [List.length_append, List.length_cons, List.length_nil, List.length_take, List.length_drop]; omega)) (by first | assumption | omega | decide | (simp only [List.length_append, List.length_cons, List.length_nil, List.length_take, List.length_drop]; omega)) (by first | assumption | omega | decide | (simp only [List.length_append, List.length_cons, List.length_nil, List.length_take, List.length_drop]; omega))
                  apply E.reg
                  · intro Q hQ
                    refine AWp.region ?_
                    refine ARun.step rfl (step_moveV rfl (hn rfl) rfl rfl) ?_
                    refine ARun.step rfl (step_buildVT rfl (hn rfl) rfl yqSl22 (strs [⟨#[]⟩, ⟨#[65]⟩, ⟨#[122, 122]⟩]) (.cons rfl rfl rfl rfl (.cons rfl rfl rfl rfl (.cons rfl rfl rfl rfl (.nil _)))) rfl rfl rfl (rowsE ⟨rfl, rfl, rfl, trivial⟩)) ?_
                    refine ARun.step rfl (call_stepLZ rfl (hn rfl) rfl yqCo135 rfl rfl rfl rfl (.cons rfl (.one (.v _)) (.nil)) hl18 rfl rfl) ?_
                    refine ARun.step rfl (step_field_b rfl (hn rfl) rfl yqFo50_1 rfl (by exact List.cons_ne_nil _ _)) ?_
                    refine ARun.step rfl (step_store_p (bs := [_, _, _]) rfl rfl yqCs9 rfl rfl rfl rfl rfl rfl rfl) ?_
                    refine ARun.nil ?_
                    exact hQ.out
                  apply E.reg
                  · intro Q hQ
                    refine AWp.seq (AWp.region ?_)
                    refine ARun.step rfl (step_loadS_b rfl (hn rfl) rfl yqSt50 rfl rfl rfl (by decide)) ?_
                    refine ARun.step rfl (step_store_r rfl rfl yqCs50 rfl rfl rfl rfl rfl rfl rfl) ?_
                    refine ARun.nil ?_
                    exact hQ.out
                  refine E.mono (fun Q h => AWp.le (Le.letGo 50 0 (g := _) rfl (fun _ _ => rfl)) h) ?_
                  refine E.mono (fun Q h => AWp.ret h) ?_
                  apply E.ret (i := (_, Do.mk _ _ _))
                  · refine ⟨.inr rfl, ⟨4, 3, _, _, _, yqSt50, by decide, rfl, rfl, rfl, rfl, (.cons rfl (.agg (.cons (.sc _ _ rfl) (.cons (.sc _ _ rfl) (.cons (.frz _ _ _ _ _) (.nil _))))) (.nil _)), rfl, ?_⟩, (.refl _)⟩
                    refine congrArg PV.agg ?_
                    rfl
                  · try dsimp only
                    all_goals (refine ⟨by omega, by omega, by decide, by decide, ?_⟩)
                    all_goals (try simp only [List.length_append, List.length_cons, List.length_nil])
                    all_goals (omega)
                · try simp only [nrm] at c11
                  refine E.mono (fun Q h => AWp.skip h) ?_
                  apply E.reg
                  · intro Q hQ
                    refine AWp.seq (AWp.region ?_)
                    refine ARun.step rfl (step_loadS_b rfl (hn rfl) rfl yqSt50 rfl rfl rfl (by decide)) ?_
                    refine ARun.step rfl (step_store_r rfl rfl yqCs50 rfl rfl rfl rfl rfl rfl rfl) ?_
                    refine ARun.nil ?_
                    exact hQ.out
                  refine E.mono (fun Q h => AWp.le (Le.letGo 50 0 (g := _) rfl (fun _ _ => rfl)) h) ?_
                  refine E.mono (fun Q h => AWp.ret h) ?_
                  apply E.ret (i := (_, Do.mk _ _ _))
                  · refine ⟨.inr rfl, ⟨4, 3, _, _, _, yqSt50, by decide, rfl, rfl, rfl, rfl, (.cons rfl (.agg (.cons (.sc _ _ rfl) (.cons (.sc _ _ rfl) (.cons (.frz _ _ _ _ _) (.nil _))))) (.nil _)), rfl, ?_⟩, (.refl _)⟩
                    refine congrArg PV.agg ?_
                    rfl
                  · try dsimp only
                    all_goals (refine ⟨by omega, by omega, by decide, by decide, ?_⟩)
                    all_goals (try simp only [List.length_append, List.length_cons, List.length_nil])
                    all_goals (omega)
      · intro jh2
        apply E.reg
        · intro Q hQ
          refine AWp.seq (AWp.region ?_)
          refine ARun.step rfl (step_eql rfl (hn rfl) rfl rfl rfl) ?_
          refine ARun.step rfl (step_assignV rfl (hn rfl) rfl rfl) ?_
          refine ARun.nil ?_
          exact hQ.out
        refine E.cond rfl (fun c12 => ?_) (fun c12 => ?_)
        · try simp only [nrm] at c12
          refine E.mono (fun Q h => AWp.skip h) ?_
          refine jh2 (_) _ ?_ (Le.forgetR rfl ⟨rfl, rfl, rfl, rfl, rfl, rfl, rfl, trivial⟩ ⟨rfl, rfl, rfl, trivial⟩ ⟨.refl _, trivial⟩)
          try dsimp only
          try trivial
        · try simp only [nrm] at c12
          apply E.reg
          · intro Q hQ
            refine AWp.seq (AWp.region ?_)
            refine ARun.step rfl (step_eql rfl (hn rfl) rfl rfl rfl) ?_
            refine ARun.step rfl (step_assignV rfl (hn rfl) rfl rfl) ?_
            refine ARun.nil ?_
            exact hQ.out
          refine E.cond rfl (fun c13 => ?_) (fun c13 => ?_)
          · try simp only [nrm] at c13
            refine E.mono (fun Q h => AWp.skip h) ?_
            refine jh2 (_) _ ?_ (Le.forgetR rfl ⟨rfl, rfl, rfl, rfl, rfl, rfl, rfl, trivial⟩ ⟨rfl, rfl, rfl, trivial⟩ ⟨.refl _, trivial⟩)
            try dsimp only
            try trivial
          · try simp only [nrm] at c13
            apply E.reg
            · intro Q hQ
              refine AWp.region ?_
              refine ARun.step rfl (step_eql rfl (hn rfl) rfl rfl rfl) ?_
              refine ARun.step rfl (step_assignV rfl (hn rfl) rfl rfl) ?_
              refine ARun.nil ?_
              exact hQ.out
            refine jh2 (_) _ ?_ (Le.forgetR rfl ⟨rfl, rfl, rfl, rfl, rfl, rfl, rfl, trivial⟩ ⟨rfl, rfl, rfl, trivial⟩ ⟨.refl _, trivial⟩)
            try dsimp only
            try trivial
    · intro jh1
      apply E.reg
      · intro Q hQ
        refine AWp.seq (AWp.region ?_)
        refine ARun.step rfl (step_moveV rfl (hn rfl) rfl rfl) ?_
        refine ARun.step rfl (step_geq rfl (hn rfl) rfl rfl rfl) ?_
        refine ARun.nil ?_
        exact hQ.out
      refine E.cond rfl (fun c14 => ?_) (fun c14 => ?_)
      · try simp only [nrm] at c14
        apply E.reg
        · intro Q hQ
          refine AWp.region ?_
          refine ARun.step rfl (step_field_b rfl (hn rfl) rfl yqFo34_1 rfl (by exact List.cons_ne_nil _ _)) ?_
          refine ARun.step rfl (step_load_b rfl (hn rfl) rfl yqSc32 rfl rfl) ?_
          refine ARun.step rfl (step_moveV rfl (hn rfl) rfl rfl) ?_
          refine ARun.step rfl (step_index_f rfl (hn rfl) rfl yqSl32 rfl rfl (by first | omega | (simp only [List.length_cons, List.length_nil]; omega)) (by first | omega | (simp only [List.length_cons, List.length_nil]; omega))) ?_
          refine ARun.step rfl (step_field_f rfl (hn rfl) rfl yqFo105_2 rfl) ?_
          refine ARun.step rfl (step_load_f rfl (hn rfl) rfl yqSc22 rfl (hn rfl) rfl) ?_
          refine ARun.step rfl (step_assignV rfl (hn rfl) rfl rfl) ?_
          refine ARun.nil ?_
          exact hQ.out
        refine jh1 (_) _ ?_ (Le.forgetR rfl ⟨rfl, rfl, rfl, rfl, rfl, trivial⟩ ⟨rfl, rfl, rfl, trivial⟩ ⟨.refl _, trivial⟩)
        try dsimp only
        exact (hk.2.2 _ (nth_memA (by omega))).2
      · try simp only [nrm] at c14
        refine E.mono (fun Q h => AWp.skip h) ?_
        refine jh1 (_) _ ?_ (Le.forgetR rfl ⟨rfl, rfl, rfl, rfl, rfl, trivial⟩ ⟨rfl, rfl, rfl, trivial⟩ ⟨.refl _, trivial⟩)
        try dsimp only
        exact hk.1
  · intro jh0
    obtain ⟨q19, k19, ⟨ha19, hb19, hc19⟩, hl19, hz19⟩ := l51pick_if (0 < k.bs.length) b (p + 1) (8) (by first | assumption | omega | decide | (simp only [List.length_append, List.length_cons, List.length_nil, List.length_take, List.length_drop]; omega)) (by first | assumption | omega | decide | (simp only [List.length_append, List.length_cons, List.length_nil, List.length_take, List.length_drop]; omega)) (by first | assumption | omega | decide | (simp only [List.length_append, List.length_cons, List.length_nil, List.length_take, List.length_drop]; omega)) (by first | assumption | omega | decide | (simp only [List.length_append, List.length_cons, List.length_nil, List.length_take, List.length_drop]; omega))
    apply E.reg
    · intro Q hQ
      refine AWp.seq (AWp.region ?_)
      refine ARun.step rfl (step_field_b rfl (hn rfl) rfl yqFo34_1 rfl (by exact List.cons_ne_nil _ _)) ?_
      refine ARun.step rfl (step_load_b rfl (hn rfl) rfl yqSc32 rfl rfl) ?_
      refine ARun.step rfl (step_len_f rfl (hn rfl) rfl yqSl32 rfl) ?_
      refine ARun.step rfl (step_gtr rfl (hn rfl) rfl rfl rfl) ?_
      refine ARun.step rfl (step_moveV rfl (hn rfl) rfl rfl) ?_
      refine guardS rfl rfl rfl rfl (hn rfl) (fun g1 g2 => step_moveV rfl (hn rfl) rfl rfl) ?_
      refine guardL rfl rfl rfl rfl (hn rfl) (fun g1 g2 => call_stepLZ rfl (hn rfl) rfl yqCo63 (ev_true rfl (by exact flag2 g1 g2)) rfl rfl rfl (.cons rfl (.one (.v _)) (.nil)) (hl19 (by first | (have := of_decide_eq_true g2; omega) | simpa using g2)) rfl rfl) (fun h => by rw [hz19 (by intro hc; first | (simp only [nrm, Bool.true_and] at h; omega) | (simp [hc] at h; done))]; exact rfl) ?_
      refine guardS rfl rfl rfl rfl (hn rfl) (fun g1 g2 => step_gtr rfl (hn rfl) rfl (ev_true rfl (by exact flag2 g1 g2)) rfl) ?_
      refine ARun.step rfl (step_and rfl (hn rfl) rfl rfl rfl (fun h => (by exact flag1 h))) ?_
      refine ARun.nil ?_
      exact hQ.out
    refine E.cond rfl (fun c15 => ?_) (fun c15 => ?_)
    · try simp only [nrm] at c15
      obtain ⟨_, k20, ⟨rfl, hk20⟩, hl20⟩ := l51pick b (q19) ((k.bs).length) (by first | assumption | omega | decide | (simp only [List.length_append, List.length_cons, List.length_nil, List.length_take, List.length_drop]; omega)) (by first | assumption | omega | decide | (simp only [List.length_append, List.length_cons, List.length_nil, List.length_take, List.length_drop]; omega)) (by first | assumption | omega | decide | (simp only [List.length_append, List.length_cons, List.length_nil, List.length_take, List.length_drop]; omega)) (by first | assumption | omega | decide | (simp only [List.length_append, List.length_cons, List.length_nil, List.length_take, List.length_drop]; omega))
      apply E.reg
      · intro Q hQ
        refine AWp.drawM [⟨⟨[.s 3, .b 3], [.s 21], false⟩, none, []⟩, ⟨⟨[.s 21, .b 3], [.s 22], false⟩, none, []⟩, ⟨⟨[.s 0], [.s 23], false⟩, none, []⟩, ⟨⟨[.s 3, .b 3], [.s 24], false⟩, none, []⟩, ⟨⟨[.s 24, .b 3], [.s 25], false⟩, none, []⟩, ⟨⟨[.s 25], [.s 26], false⟩, none, []⟩, ⟨⟨[.s 26, .s 23, .a 1000000 0], [.s 27, .a 1000000 0], false⟩, none, []⟩, ⟨⟨[], [], true⟩, none, []⟩, ⟨⟨[], [], true⟩, none, []⟩, ⟨⟨[], [], true⟩, none, []⟩, ⟨⟨[], [], true⟩, none, []⟩, ⟨⟨[], [], true⟩, none, []⟩] yqMo rfl rfl (Le.forgetR (n := 95) (sl := [(0, _), (1, _), (3, _), (4, _), (5, _), (8, _), (9, _), (10, _), (11, _), (12, _), (13, _), (14, _), (15, _), (16, _), (20, _)]) (bl := [(3, _), (4, _), (5, _)]) (al := [(1000000, 0, _)]) rfl ⟨rfl, rfl, rfl, rfl, rfl, rfl, rfl, rfl, rfl, rfl, rfl, rfl, rfl, rfl, rfl, trivial⟩ ⟨rfl, rfl, rfl, trivial⟩ ⟨.refl _, trivial⟩) rfl ?_
        refine FRun.slot rfl (fun τ hN hr => step_field_b rfl (rdN hN (hn rfl)) rfl yqFo34_1 (by exact rdS hr rfl rfl) (by exact rdBne hr rfl (by exact List.cons_ne_nil _ _))) (by exact rfl) ?_
        refine FRun.slot rfl (fun τ hN hr => step_load_b rfl (rdN hN (hn rfl)) rfl yqSc32 (by exact rdS hr rfl rfl) (by exact rdBget hr rfl rfl)) (by exact rfl) ?_
        refine FRun.slot rfl (fun τ hN hr => step_moveV rfl (rdN hN (hn rfl)) rfl (by exact rdS hr rfl rfl)) (by exact rfl) ?_
        refine FRun.slot rfl (fun τ hN hr => step_field_b rfl (rdN hN (hn rfl)) rfl yqFo34_1 (by exact rdS hr rfl rfl) (by exact rdBne hr rfl (by exact List.cons_ne_nil _ _))) (by exact rfl) ?_
        refine FRun.slot rfl (fun τ hN hr => step_load_b rfl (rdN hN (hn rfl)) rfl yqSc32 (by exact rdS hr rfl rfl) (by exact rdBget hr rfl rfl)) (by exact rfl) ?_
        refine FRun.slot rfl (fun τ hN hr => step_len_f rfl (rdN hN (hn rfl)) rfl yqSl32 (by exact rdS hr rfl rfl)) (by exact rfl) ?_
        refine FRun.lent rfl (fun τ hN hr => call_stepLZ rfl (rdN hN (hn rfl)) rfl yqCo63 (by exact rdS hr rfl rfl) (by exact rdA hr rfl rfl) rfl rfl (.cons (by exact rdS hr rfl rfl) (.one (.v _)) (.nil)) hl20 rfl (by exact rdNoRefs hr rfl rfl)) (by exact rfl) ?_
        refine FRun.whole rfl (step_index_fN rfl (hn rfl) rfl yqSl32 rfl rfl (by first | omega | (simp only [List.length_cons, List.length_nil]; omega))) (by exact rfl) ?_
        refine FRun.whole rfl (step_field_f rfl (hn rfl) rfl yqFo105_0 rfl) (by exact rfl) ?_
        refine FRun.whole rfl (step_load_f rfl (hn rfl) rfl yqSc9 rfl (hn rfl) rfl) (by exact rfl) ?_
        refine FRun.whole rfl (step_field_b rfl (hn rfl) rfl yqFo50_1 rfl (by exact List.cons_ne_nil _ _)) (by exact rfl) ?_
        refine FRun.whole rfl (step_store_p (bs := [_, _, _]) rfl rfl yqCs9 rfl rfl rfl rfl rfl rfl rfl) (by exact rfl) ?_
        refine FRun.nil ?_
        exact hQ.out
      refine jh0 ((_, q19 + 1)) _ ?_ (Le.forgetR rfl ⟨rfl, rfl, rfl, rfl, trivial⟩ ⟨rfl, rfl, rfl, trivial⟩ ⟨.refl _, trivial⟩)
      try dsimp only
      exact ⟨by omega, by omega⟩
    · try simp only [nrm] at c15
      refine E.mono (fun Q h => AWp.skip h) ?_
      refine jh0 ((_, q19)) _ ?_ (Le.forgetR rfl ⟨rfl, rfl, rfl, rfl, trivial⟩ ⟨rfl, rfl, rfl, trivial⟩ ⟨.refl _, trivial⟩)
      try dsimp only
      exact ⟨by omega, by omega⟩
theorem l55Step (p : Bk) (d : Do) (hp : bkLe p 5) (hd : d.list.length ≤ 10) : ASpec Tryz.prog 65 [.agg (p.cells 105), .agg d.cells] (.agg ((stepB p d).zcells 105)) := by
  refine ASpec.bodyC Tryz.func65 rfl 4 34 [] rfl rfl 48 rfl rfl rfl ?_
  have hps := hp.small (by omega)
  refine AWp.seq (AWp.region ?_)
  refine ARun.step rfl (step_box_p (m := 1) rfl (hn rfl) rfl rfl rfl rfl rfl) ?_
  refine ARun.step rfl (step_box_p (m := 2) rfl (hn rfl) rfl rfl rfl rfl rfl) ?_
  refine ARun.step rfl (step_alloc_p rfl (hn rfl) rfl yqZs34) ?_
  refine ARun.nil ?_
  refine AWp.seq ?_
  refine AWp.seq (AWp.region ?_)
  refine ARun.step rfl (step_field_b rfl (hn rfl) rfl yqFo50_0 rfl (by exact List.cons_ne_nil _ _)) ?_
  refine ARun.step rfl (step_load_b rfl (hn rfl) rfl yqSc3 rfl rfl) ?_
  refine ARun.nil ?_
  refine AWp.block ?_
  refine AWp.seq (AWp.region ?_)
  refine ARun.step rfl (step_eql rfl (hn rfl) rfl rfl rfl) ?_
  refine ARun.step rfl (step_assignV rfl (hn rfl) rfl rfl) ?_
  refine ARun.nil ?_
  refine AWp.cond rfl (fun c1 => ?_) (fun c1 => ?_)
  · try simp only [nrm] at c1
    refine AWp.region ?_
    refine ARun.step rfl (step_loadS_b rfl (hn rfl) rfl yqSt34 rfl rfl rfl (by decide)) ?_
    refine ARun.step rfl (step_field_b rfl (hn rfl) rfl yqFo50_1 rfl (by exact List.cons_ne_nil _ _)) ?_
    refine ARun.step rfl (step_load_b rfl (hn rfl) rfl yqSc9 rfl rfl) ?_
    refine ARun.step rfl (step_field_b rfl (hn rfl) rfl yqFo50_2 rfl (by exact List.cons_ne_nil _ _)) ?_
    refine ARun.step rfl (step_load_b rfl (hn rfl) rfl yqSc22 rfl rfl) ?_
    refine ARun.step rfl (call_stepZ rfl (hn rfl) rfl yqCo18 (.cons rfl (.agg (.cons (.v _) (.cons (.v _) .nil))) (.cons rfl (.one (.v _)) (.cons rfl (.one (.v _)) (.nil)))) (enterSZ p d.name d.list hps (by omega)) rfl rfl) ?_
    refine ARun.step rfl (step_moveV rfl (hn rfl) rfl rfl) ?_
    refine ARun.step rfl (step_extract rfl (hn rfl) rfl rfl rfl (by intro l h; cases h)) ?_
    refine ARun.step rfl (step_extract rfl (hn rfl) rfl rfl rfl (by intro l h; cases h)) ?_
    refine ARun.step rfl (step_store_p rfl rfl yqCs34 rfl rfl rfl rfl rfl rfl rfl) ?_
    refine ARun.nil ?_
    refine AWp.seq (AWp.region ?_)
    refine ARun.step rfl (step_loadS_b rfl (hn rfl) rfl yqSt34 rfl rfl rfl (by decide)) ?_
    refine ARun.step rfl (step_store_p rfl rfl yqCs34 rfl rfl rfl rfl rfl rfl rfl) ?_
    refine ARun.nil ?_
    refine AWp.ret ?_
    refine ⟨.inr rfl, 4, 2, _, _, _, yqSt34, by decide, rfl, rfl, rfl, rfl, (.cons rfl (.agg (.cons (.frz _ _ _ _ _) (.cons (.frz _ _ _ _ _) (.nil _)))) (.nil _)), rfl, ?_⟩
    refine congrArg PV.agg ?_
    rw [stepB, if_pos c1]
    rfl
  · try simp only [nrm] at c1
    refine AWp.seq (AWp.region ?_)
    refine ARun.step rfl (step_eql rfl (hn rfl) rfl rfl rfl) ?_
    refine ARun.step rfl (step_assignV rfl (hn rfl) rfl rfl) ?_
    refine ARun.nil ?_
    refine AWp.cond rfl (fun c2 => ?_) (fun c2 => ?_)
    · try simp only [nrm] at c2
      refine AWp.region ?_
      refine ARun.step rfl (step_loadS_b rfl (hn rfl) rfl yqSt34 rfl rfl rfl (by decide)) ?_
      refine ARun.step rfl (step_field_b rfl (hn rfl) rfl yqFo50_1 rfl (by exact List.cons_ne_nil _ _)) ?_
      refine ARun.step rfl (step_load_b rfl (hn rfl) rfl yqSc9 rfl rfl) ?_
      refine ARun.step rfl (step_field_b rfl (hn rfl) rfl yqFo50_2 rfl (by exact List.cons_ne_nil _ _)) ?_
      refine ARun.step rfl (step_load_b rfl (hn rfl) rfl yqSc22 rfl rfl) ?_
      refine ARun.step rfl (call_stepZ rfl (hn rfl) rfl yqCo20 (.cons rfl (.agg (.cons (.v _) (.cons (.v _) .nil))) (.cons rfl (.one (.v _)) (.cons rfl (.one (.v _)) (.nil)))) (askSZ p d.name d.list hps (by omega)) rfl rfl) ?_
      refine ARun.step rfl (step_moveV rfl (hn rfl) rfl rfl) ?_
      refine ARun.step rfl (step_extract rfl (hn rfl) rfl rfl rfl (by intro l h; cases h)) ?_
      refine ARun.step rfl (step_extract rfl (hn rfl) rfl rfl rfl (by intro l h; cases h)) ?_
      refine ARun.step rfl (step_store_p rfl rfl yqCs34 rfl rfl rfl rfl rfl rfl rfl) ?_
      refine ARun.nil ?_
      refine AWp.seq (AWp.region ?_)
      refine ARun.step rfl (step_loadS_b rfl (hn rfl) rfl yqSt34 rfl rfl rfl (by decide)) ?_
      refine ARun.step rfl (step_store_p rfl rfl yqCs34 rfl rfl rfl rfl rfl rfl rfl) ?_
      refine ARun.nil ?_
      refine AWp.ret ?_
      refine ⟨.inr rfl, 4, 2, _, _, _, yqSt34, by decide, rfl, rfl, rfl, rfl, (.cons rfl (.agg (.cons (.frz _ _ _ _ _) (.cons (.frz _ _ _ _ _) (.nil _)))) (.nil _)), rfl, ?_⟩
      refine congrArg PV.agg ?_
      rw [stepB, if_neg c1, if_pos c2]
      rfl
    · try simp only [nrm] at c2
      refine AWp.seq (AWp.region ?_)
      refine ARun.step rfl (step_eql rfl (hn rfl) rfl rfl rfl) ?_
      refine ARun.step rfl (step_assignV rfl (hn rfl) rfl rfl) ?_
      refine ARun.nil ?_
      refine AWp.cond rfl (fun c3 => ?_) (fun c3 => ?_)
      · try simp only [nrm] at c3
        refine AWp.region ?_
        refine ARun.step rfl (step_loadS_b rfl (hn rfl) rfl yqSt34 rfl rfl rfl (by decide)) ?_
        refine ARun.step rfl (step_field_b rfl (hn rfl) rfl yqFo50_1 rfl (by exact List.cons_ne_nil _ _)) ?_
        refine ARun.step rfl (step_load_b rfl (hn rfl) rfl yqSc9 rfl rfl) ?_
        refine ARun.step rfl (step_field_b rfl (hn rfl) rfl yqFo50_2 rfl (by exact List.cons_ne_nil _ _)) ?_
        refine ARun.step rfl (step_load_b rfl (hn rfl) rfl yqSc22 rfl rfl) ?_
        refine ARun.step rfl (call_stepZ rfl (hn rfl) rfl yqCo22 (.cons rfl (.agg (.cons (.v _) (.cons (.v _) .nil))) (.cons rfl (.one (.v _)) (.cons rfl (.one (.v _)) (.nil)))) (lessSZ p d.name d.list hps (by omega)) rfl rfl) ?_
        refine ARun.step rfl (step_moveV rfl (hn rfl) rfl rfl) ?_
        refine ARun.step rfl (step_extract rfl (hn rfl) rfl rfl rfl (by intro l h; cases h)) ?_
        refine ARun.step rfl (step_extract rfl (hn rfl) rfl rfl rfl (by intro l h; cases h)) ?_
        refine ARun.step rfl (step_store_p rfl rfl yqCs34 rfl rfl rfl rfl rfl rfl rfl) ?_
        refine ARun.nil ?_
        refine AWp.seq (AWp.region ?_)
        refine ARun.step rfl (step_loadS_b rfl (hn rfl) rfl yqSt34 rfl rfl rfl (by decide)) ?_
        refine ARun.step rfl (step_store_p rfl rfl yqCs34 rfl rfl rfl rfl rfl rfl rfl) ?_
        refine ARun.nil ?_
        refine AWp.ret ?_
        refine ⟨.inr rfl, 4, 2, _, _, _, yqSt34, by decide, rfl, rfl, rfl, rfl, (.cons rfl (.agg (.cons (.frz _ _ _ _ _) (.cons (.frz _ _ _ _ _) (.nil _)))) (.nil _)), rfl, ?_⟩
        refine congrArg PV.agg ?_
        rw [stepB, if_neg c1, if_neg c2, if_pos c3]
        rfl
      · try simp only [nrm] at c3
        refine AWp.region ?_
        refine ARun.step rfl (step_loadS_b rfl (hn rfl) rfl yqSt34 rfl rfl rfl (by decide)) ?_
        refine ARun.step rfl (step_field_b rfl (hn rfl) rfl yqFo50_1 rfl (by exact List.cons_ne_nil _ _)) ?_
        refine ARun.step rfl (step_load_b rfl (hn rfl) rfl yqSc9 rfl rfl) ?_
        refine ARun.step rfl (call_stepZ rfl (hn rfl) rfl yqCo24 (.cons rfl (.agg (.cons (.v _) (.cons (.v _) .nil))) (.cons rfl (.one (.v _)) (.nil))) (leaveSZ p d.name hps) rfl rfl) ?_
        refine ARun.step rfl (step_moveV rfl (hn rfl) rfl rfl) ?_
        refine ARun.step rfl (step_extract rfl (hn rfl) rfl rfl rfl (by intro l h; cases h)) ?_
        refine ARun.step rfl (step_extract rfl (hn rfl) rfl rfl rfl (by intro l h; cases h)) ?_
        refine ARun.step rfl (step_store_p rfl rfl yqCs34 rfl rfl rfl rfl rfl rfl rfl) ?_
        refine ARun.nil ?_
        refine AWp.seq (AWp.region ?_)
        refine ARun.step rfl (step_loadS_b rfl (hn rfl) rfl yqSt34 rfl rfl rfl (by decide)) ?_
        refine ARun.step rfl (step_store_p rfl rfl yqCs34 rfl rfl rfl rfl rfl rfl rfl) ?_
        refine ARun.nil ?_
        refine AWp.ret ?_
        refine ⟨.inr rfl, 4, 2, _, _, _, yqSt34, by decide, rfl, rfl, rfl, rfl, (.cons rfl (.agg (.cons (.frz _ _ _ _ _) (.cons (.frz _ _ _ _ _) (.nil _)))) (.nil _)), rfl, ?_⟩
        refine congrArg PV.agg ?_
        rw [stepB, if_neg c1, if_neg c2, if_neg c3]
        rfl

end Go.Proofs.YtkmacjdigkaabaaGreat
