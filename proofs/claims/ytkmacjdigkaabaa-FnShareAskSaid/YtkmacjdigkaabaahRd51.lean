/- Contracts of functions of the program, each met by its body; conditions stand in each statement. No condition. -/
import Derived.Test.YtkmacjdigkaabaahBank
import Derived.Test.YtkmacjdigkaabaaHn
import Derived.Test.YtkmacjdigkaabaaProg
import Derived.KernelRfl
set_option linter.unusedVariables false
set_option linter.unusedSimpArgs false
set_option linter.unnecessarySimpa false
set_option linter.unusedSimpArgs false
set_option maxRecDepth 100000
namespace Go.Proofs.Ytkmacjdigkaabaa
open Go Go.Mh
def nms5 : List Str := [⟨#[97, 108, 101]⟩, ⟨#[98]⟩, ⟨#[99, 45, 99]⟩, ⟨#[100, 97, 114, 107]⟩, ⟨#[120, 57]⟩]
def thg5 : List Str := [⟨#[106]⟩, ⟨#[107, 101, 103]⟩, ⟨#[116, 117, 110]⟩, ⟨#[118, 97, 116]⟩, ⟨#[119]⟩]
structure Do where
  kind : Int
  name : Str
  list : List Str
deriving Inhabited
def Do.cells (d : Do) : List T := [.int .i64 d.kind, .str d.name, strs d.list]
def Do.zcells (d : Do) : List T := [.int .i64 d.kind, .str d.name, .fz (strs d.list)]

theorem take_next {l : List Str} {i : Nat} (h : i < l.length) : l.take (i + 1) = l.take i ++ [nth l i] := by
  rw [List.take_add_one, List.getElem?_eq_getElem (l := l) (i := i) h, Option.toList_some, nth_get h]

theorem enterSZ (p : Bk) (s : Str) (l : List Str) (hs : smallBk p) (hl : l.length ≤ 1048576) : ASpec Try.prog 19 [.agg (p.cells 48), .one (.str s), .one (strs l)] (.tup [.agg ((enterR p s l).1.zcells 48), .one (.int .i64 (enterR p s l).2)]) := (enterS p s l hs hl).letGo (.tup (.cons (.agg (.cons (.fz (.refl _)) (.cons (.fz (fz_bts _ _)) .nil))) (.cons (.one (.sc _ rfl)) .nil)))

theorem askSZ (p : Bk) (s : Str) (l : List Str) (hs : smallBk p) (hl : l.length ≤ 1048576) : ASpec Try.prog 49 [.agg (p.cells 48), .one (.str s), .one (strs l)] (.tup [.agg ((askR p s l).1.zcells 48), .one (.int .i64 (askR p s l).2)]) := (askS p s l hs hl).letGo (.tup (.cons (.agg (.cons (.fz (.refl _)) (.cons (.fz (fz_bts _ _)) .nil))) (.cons (.one (.sc _ rfl)) .nil)))

theorem lessSZ (p : Bk) (s : Str) (l : List Str) (hs : smallBk p) (hl : l.length ≤ 1048576) : ASpec Try.prog 54 [.agg (p.cells 48), .one (.str s), .one (strs l)] (.tup [.agg ((lessR p s l).1.zcells 48), .one (.int .i64 (lessR p s l).2)]) := (lessS p s l hs hl).letGo (.tup (.cons (.agg (.cons (.fz (.refl _)) (.cons (.fz (fz_bts _ _)) .nil))) (.cons (.one (.sc _ rfl)) .nil)))

def stepB (p : Bk) (d : Do) : Bk := if d.kind = 1 then (enterR p d.name d.list).1 else if d.kind = 2 then (askR p d.name d.list).1 else if d.kind = 3 then (lessR p d.name d.list).1 else (leaveR p d.name).1
theorem step_le {p : Bk} {d : Do} (h : bkLe p 5) : bkLe (stepB p d) 5 := by
  unfold stepB
  repeat' split
  · exact enter_le h
  · exact ask_le h
  · exact less_le h
  · exact leave_le h

theorem bts_add {e : Nat} {l : List Bt} {x : Bt} {g : Nat → List T} (h : g 0 = x.zcells) : Eqv (.sl e 3 (l.length + 1) (catF l.length (fun i => (nth l i).zcells) g)) (bts e (l ++ [x])) := by
  unfold bts
  rw [List.length_append, List.length_cons, List.length_nil]
  refine .rows fun i hi => ?_
  simp only [catF]
  split
  · rename_i h1; rw [nth_append_left h1]
  · rename_i h1
    have : i = l.length := by omega
    subst this
    rw [nth_append_right (Nat.le_refl _), Nat.sub_self, h]; rfl
theorem mem_add {P : Bt → Prop} {l : List Bt} {x : Bt} (h : ∀ b ∈ l, P b) (hx : P x) : ∀ b ∈ l ++ [x], P b := fun b hb => by
  rcases List.mem_append.1 hb with h1 | h1
  · exact h b h1
  · rw [List.mem_singleton.1 h1]; exact hx

theorem tel_add {e : Nat} {l : List Bt} {s : Str} {g : Nat → List T} (h : g 0 = [.str s, .nl, .nl]) : Tel (.sl e 3 (l.length + 1) (catF l.length (fun i => (nth l i).zcells) g)) (bts e (l ++ [⟨s, [], []⟩])) := by
  unfold bts
  rw [List.length_append, List.length_cons, List.length_nil]
  refine .rows (fun j hj => ?_) (fun j k hj => ?_)
  · simp only [catF]; split
    · rfl
    · rw [show j - l.length = 0 by omega, h]; rfl
  · simp only [catF]; split
    · rename_i h1; rw [nth_append_left h1]; exact .refl _
    · rename_i h1
      obtain rfl : j = l.length := by omega
      rw [nth_append_right (Nat.le_refl _), Nat.sub_self, h]
      match k with
      | 0 => exact .refl _
      | 1 => exact .nlz _ _ _
      | 2 => exact .nlz _ _ _
      | _ + 3 => exact .refl _
theorem nth_set {l : List Bt} {k : Nat} (hk : k < l.length) (x : Bt) (j : Nat) : nth (l.set k x) j = if j = k then x else nth l j := by
  unfold nth
  rw [List.getD_eq_getElem?_getD, List.getElem?_set]
  by_cases e : k = j
  · subst e; rw [if_pos rfl, if_pos rfl, if_pos hk]; rfl
  · rw [if_neg e, if_neg (fun e' => e e'.symm), List.getD_eq_getElem?_getD]
theorem set_eqvN {e : Nat} {l : List Bt} {k : Nat} (hk : k < l.length) (s : Str) : Eqv (.sl e 3 l.length (setRow (fun i => (nth l i).zcells) k 0 (.str s))) (bts e (l.set k ⟨s, (nth l k).has, (nth l k).needs⟩)) := by
  unfold bts
  rw [List.length_set]
  refine .rows fun j hj => ?_
  rw [nth_set hk]
  by_cases h : j = k
  · subst h; rw [if_pos rfl, Mh.setRow_self]; rfl
  · rw [if_neg h, Mh.setRow_other _ _ _ _ h]
theorem set_eqvO {e : Nat} {l : List Bt} {k c : Nat} (hk : k < l.length) {x : T} {b' : Bt} (h : ((nth l k).cells.set c .dead).set c x = b'.cells) : Eqv (.sl e 3 l.length (setRow (setRow (fun i => (nth l i).cells) k c .dead) k c x)) (btsO e (l.set k b')) := by
  unfold btsO
  rw [List.length_set]
  refine .rows fun j hj => ?_
  rw [nth_set hk]
  by_cases e : j = k
  · subst e; rw [if_pos rfl, Mh.setRow_self, Mh.setRow_self]; exact h
  · rw [if_neg e, Mh.setRow_other _ _ _ _ e, Mh.setRow_other _ _ _ _ e]
theorem set_le {t : List Str} {bs : List Bt} {n k : Nat} {b' : Bt} (h : bkLe ⟨t, bs⟩ n) (h1 : b'.has.length ≤ n) (h2 : b'.needs.length ≤ n) : bkLe ⟨t, bs.set k b'⟩ n :=
  ⟨h.1, by show (bs.set k b').length ≤ n; rw [List.length_set]; exact h.2.1, fun b hb => by
    rcases List.mem_or_eq_of_mem_set hb with h3 | h3
    · exact h.2.2 b h3
    · rw [h3]; exact ⟨h1, h2⟩⟩
theorem add_le {t : List Str} {bs : List Bt} {n : Nat} {b' : Bt} (h : bkLe ⟨t, bs⟩ n) (h0 : bs.length < n) (h1 : b'.has.length ≤ n) (h2 : b'.needs.length ≤ n) : bkLe ⟨t, bs ++ [b']⟩ n :=
  ⟨h.1, by show (bs ++ [b']).length ≤ n; simp; omega, mem_add h.2.2 ⟨h1, h2⟩⟩

theorem yqFo132_1 : fieldOff Try.prog 132 1 = some 1 := by kernel_rfl
theorem yqSc3 : scalarB Try.prog 3 = true := by kernel_rfl
theorem yqCs3 : cellsSz Try.prog 3 = some (0 + 1) := by kernel_rfl
theorem yqFo132_0 : fieldOff Try.prog 132 0 = some 0 := by kernel_rfl
theorem yqSc41 : scalarB Try.prog 41 = true := by kernel_rfl
theorem yqSl41 : sliceT Try.prog 41 = some ⟨5, 1, 1⟩ := by kernel_rfl
theorem yqSc5 : scalarB Try.prog 5 = true := by kernel_rfl
theorem yqUi5 : Try.prog.underlying 5 = some (.int .u8) := by kernel_rfl
theorem yqUi3 : Try.prog.underlying 3 = some (.int .i64) := by kernel_rfl
theorem yqMo : Try.prog.follows .mixedOrders = true := by kernel_rfl
theorem yqSl22 : sliceT Try.prog 22 = some ⟨9, 1, 16⟩ := by kernel_rfl
theorem yqCo102 : callOk Try.prog 102 = true := by kernel_rfl
theorem yqSc9 : scalarB Try.prog 9 = true := by kernel_rfl
theorem yqPl132 : structPl Try.prog 132 = some [(0, 1), (1, 1)] := by kernel_rfl
theorem yqZc132 : zeroCs Try.prog 132 = some [.nil, .v (.int .i64 0)] := by kernel_rfl
theorem yqZs29 : zeroSz Try.prog 29 = some 2 := by kernel_rfl
theorem yqPl29 : structPl Try.prog 29 = some [(0, 1), (1, 1)] := by kernel_rfl
theorem yqZc29 : zeroCs Try.prog 29 = some [.nil, .nil] := by kernel_rfl
theorem yqCs29 : cellsSz Try.prog 29 = some (1 + 1) := by kernel_rfl
theorem yqFo29_0 : fieldOff Try.prog 29 0 = some 0 := by kernel_rfl
theorem yqSc22 : scalarB Try.prog 22 = true := by kernel_rfl
theorem yqCs22 : cellsSz Try.prog 22 = some (0 + 1) := by kernel_rfl
theorem yqSt29 : structSz Try.prog 29 = some 2 := by kernel_rfl
theorem yqZs135 : zeroSz Try.prog 135 = some 3 := by kernel_rfl
theorem yqCo172 : callOk Try.prog 172 = true := by kernel_rfl
theorem yqCo103 : callOk Try.prog 103 = true := by kernel_rfl
theorem yqPl135 : structPl Try.prog 135 = some [(0, 1), (1, 1), (2, 1)] := by kernel_rfl
theorem yqZc135 : zeroCs Try.prog 135 = some [.v (.int .i64 0), .v (.str ⟨#[]⟩), .nil] := by kernel_rfl
theorem yqCs135 : cellsSz Try.prog 135 = some (2 + 1) := by kernel_rfl
theorem yqFo135_1 : fieldOff Try.prog 135 1 = some 1 := by kernel_rfl
theorem yqCo70 : callOk Try.prog 70 = true := by kernel_rfl
theorem yqFo135_0 : fieldOff Try.prog 135 0 = some 0 := by kernel_rfl
theorem yqCs9 : cellsSz Try.prog 9 = some (0 + 1) := by kernel_rfl
theorem yqCo108 : callOk Try.prog 108 = true := by kernel_rfl
theorem yqFo135_2 : fieldOff Try.prog 135 2 = some 2 := by kernel_rfl
theorem yqSt135 : structSz Try.prog 135 = some 3 := by kernel_rfl
theorem yqFo29_1 : fieldOff Try.prog 29 1 = some 1 := by kernel_rfl
theorem yqSc27 : scalarB Try.prog 27 = true := by kernel_rfl
theorem yqSl27 : sliceT Try.prog 27 = some ⟨48, 3, 64⟩ := by kernel_rfl
theorem yqFo48_2 : fieldOff Try.prog 48 2 = some 2 := by kernel_rfl
theorem yqFo48_0 : fieldOff Try.prog 48 0 = some 0 := by kernel_rfl
theorem yqCo19 : callOk Try.prog 19 = true := by kernel_rfl
theorem yqCo49 : callOk Try.prog 49 = true := by kernel_rfl
theorem yqCo54 : callOk Try.prog 54 = true := by kernel_rfl
theorem yqCo12 : callOk Try.prog 12 = true := by kernel_rfl
theorem yqPl48 : structPl Try.prog 48 = some [(0, 1), (1, 1), (2, 1)] := by kernel_rfl
theorem yqZc48 : zeroCs Try.prog 48 = some [.v (.str ⟨#[]⟩), .nil, .nil] := by kernel_rfl
theorem yqZs48 : zeroSz Try.prog 48 = some 3 := by kernel_rfl
theorem yqCs48 : cellsSz Try.prog 48 = some (2 + 1) := by kernel_rfl
theorem yqCo92 : callOk Try.prog 92 = true := by kernel_rfl
theorem yqFo48_1 : fieldOff Try.prog 48 1 = some 1 := by kernel_rfl
theorem yqSt48 : structSz Try.prog 48 = some 3 := by kernel_rfl
theorem yqCs27 : cellsSz Try.prog 27 = some (0 + 1) := by kernel_rfl
theorem yqCo167 : callOk Try.prog 167 = true := by kernel_rfl
theorem yqCo168 : callOk Try.prog 168 = true := by kernel_rfl
theorem yqCo137 : callOk Try.prog 137 = true := by kernel_rfl
theorem yqCo169 : callOk Try.prog 169 = true := by kernel_rfl
theorem yqUl41 : Try.prog.underlying 41 = some (.slice 5) := by kernel_rfl
theorem yqUs9 : Try.prog.underlying 9 = some .string := by kernel_rfl
theorem yqCo176 : callOk Try.prog 176 = true := by kernel_rfl
theorem yqCo69 : callOk Try.prog 69 = true := by kernel_rfl
theorem yqCo170 : callOk Try.prog 170 = true := by kernel_rfl
theorem yqCo134 : callOk Try.prog 134 = true := by kernel_rfl
theorem yqCo135 : callOk Try.prog 135 = true := by kernel_rfl
theorem yqCo88 : callOk Try.prog 88 = true := by kernel_rfl
theorem yqCo89 : callOk Try.prog 89 = true := by kernel_rfl
theorem l51pick (b : List UInt8) (p n : Nat) (hb : b.length ≤ 2000) (hp : p ≤ 1000000000) (h1 : 1 ≤ n) (h2 : n ≤ 1000000000) : ∃ (q : Nat) (k : Nat), (q = p + 1 ∧ k < n) ∧ LSpec Try.prog 102 132 (rdR 5 b p) (rdR 5 b q) [.one (.int .i64 (n : Nat))] (.one (.int .i64 (k : Nat))) := by
  suffices key : ∃ i : Nat × Nat, (i.1 = p + 1 ∧ i.2 < n) ∧ LSpec Try.prog 102 132 (rdR 5 b p) (rdR 5 b i.1) [.one (.int .i64 (n : Nat))] (.one (.int .i64 (i.2 : Nat))) from (by obtain ⟨i, g, h⟩ := key; exact ⟨i.1, i.2, g, h⟩)
  refine LSpec.ex Try.func102 rfl [4] rfl 99 rfl rfl rfl rfl (fun i : Nat × Nat => rdR 5 b i.1) (fun i : Nat × Nat => (.one (.int .i64 (i.2 : Nat)))) (fun i : Nat × Nat => i.1 = p + 1 ∧ i.2 < n) (fun i => rfl) (fun i => rfl) ?_
  apply E.reg
  · intro Q hQ
    refine AWp.seq (AWp.region ?_)
    refine ARun.step rfl (step_assignV rfl (hn rfl) rfl rfl) ?_
    refine ARun.nil ?_
    exact hQ.out
  apply E.reg
  · intro Q hQ
    refine AWp.seq (AWp.region ?_)
    refine ARun.step rfl (step_moveV rfl (hn rfl) rfl rfl) ?_
    refine ARun.step rfl (step_moveV rfl (hn rfl) rfl rfl) ?_
    refine ARun.step rfl (step_nilE rfl (hn rfl) rfl rfl rfl) ?_
    refine ARun.step rfl (step_field_e rfl (hn rfl) rfl yqFo132_1 rfl rfl) ?_
    refine ARun.step rfl (step_load_e rfl (hn rfl) rfl yqSc3 rfl rfl (by omega) (hn rfl) rfl) ?_
    refine ARun.step rfl (step_inc rfl (hn rfl) rfl rfl rfl (by omega)) ?_
    refine ARun.step rfl (step_nilE rfl (hn rfl) rfl rfl rfl) ?_
    refine ARun.step rfl (step_field_e rfl (hn rfl) rfl yqFo132_1 rfl rfl) ?_
    refine ARun.step rfl (step_store_L rfl rfl yqCs3 rfl rfl rfl rfl rfl) ?_
    refine ARun.nil ?_
    exact hQ.out
  refine E.mono (fun Q h => AWp.seq h) ?_
  apply E.reg
  · intro Q hQ
    refine AWp.seq (AWp.region ?_)
    refine ARun.step rfl (step_moveV rfl (hn rfl) rfl rfl) ?_
    refine ARun.step rfl (step_lss rfl (hn rfl) rfl rfl rfl) ?_
    refine ARun.step rfl (step_moveV rfl (hn rfl) rfl rfl) ?_
    refine guardS rfl rfl rfl rfl (hn rfl) (fun g1 g2 => step_moveV rfl (hn rfl) rfl rfl) ?_
    refine guardS rfl rfl rfl rfl (hn rfl) (fun g1 g2 => step_nilE rfl (hn rfl) rfl (ev_true rfl (by exact flag2 g1 g2)) rfl) ?_
    refine guardS rfl rfl rfl rfl (hn rfl) (fun g1 g2 => step_field_e rfl (hn rfl) rfl yqFo132_0 (ev_true rfl (by exact flag2 g1 g2)) rfl) ?_
    refine guardS rfl rfl rfl rfl (hn rfl) (fun g1 g2 => step_load_e rfl (hn rfl) rfl yqSc41 (ev_true rfl (by exact flag2 g1 g2)) rfl (by first | omega | (have := of_decide_eq_true g2; omega) | (have := of_decide_eq_false g2; omega) | (simp only [nrm] at g2; omega) | (simp only [nrm, Bool.true_and] at g1 g2; omega)) (hn rfl) rfl) ?_
    refine guardS rfl rfl rfl rfl (hn rfl) (fun g1 g2 => step_len_f rfl (hn rfl) rfl yqSl41 (ev_true rfl (by exact flag2 g1 g2))) ?_
    refine guardS rfl rfl rfl rfl (hn rfl) (fun g1 g2 => step_eql rfl (hn rfl) rfl (ev_true rfl (by exact flag2 g1 g2)) rfl) ?_
    refine ARun.step rfl (step_or rfl (hn rfl) rfl rfl rfl (fun h => (by exact flag1 h))) ?_
    refine ARun.nil ?_
    exact hQ.out
  refine E.cond rfl (fun c1 => ?_) (fun c1 => ?_)
  · try simp only [nrm] at c1
    apply E.reg
    · intro Q hQ
      refine AWp.seq (AWp.region ?_)
      refine ARun.step rfl (step_assignV rfl (hn rfl) rfl rfl) ?_
      refine ARun.nil ?_
      exact hQ.out
    refine E.mono (fun Q h => AWp.ret h) ?_
    apply E.ret (i := (_, _))
    · refine ⟨?_, (.refl _)⟩
      refine RetIs.sc (.inr rfl) rfl rfl ?_
      refine congrArg (T.int _) ?_
      rfl
    · try dsimp only
      all_goals (exact ⟨rfl, by omega⟩)
  · try simp only [nrm] at c1
    have hpos : 0 < b.length := by omega
    refine E.mono (fun Q h => AWp.skip h) ?_
    apply E.reg
    · intro Q hQ
      refine AWp.seq (AWp.region ?_)
      refine ARun.step rfl (step_moveV rfl (hn rfl) rfl rfl) ?_
      refine ARun.step rfl (step_nilE rfl (hn rfl) rfl rfl rfl) ?_
      refine ARun.step rfl (step_field_e rfl (hn rfl) rfl yqFo132_1 rfl rfl) ?_
      refine ARun.step rfl (step_load_e rfl (hn rfl) rfl yqSc3 rfl rfl (by omega) (hn rfl) rfl) ?_
      refine ARun.step rfl (step_decN rfl (hn rfl) rfl rfl rfl (by omega) (by omega)) ?_
      refine ARun.step rfl (step_assignV rfl (hn rfl) rfl rfl) ?_
      refine ARun.nil ?_
      exact hQ.out
    refine E.mono (fun Q h => AWp.seq h) ?_
    refine E.mono (fun Q h => AWp.le (Le.slotInt 5 rfl (show ((p + 1 - 1 : Nat) : Int) = (p : Nat) from by omega)) h) ?_
    apply E.reg
    · intro Q hQ
      refine AWp.seq (AWp.region ?_)
      refine ARun.step rfl (step_moveV rfl (hn rfl) rfl rfl) ?_
      refine ARun.step rfl (step_moveV rfl (hn rfl) rfl rfl) ?_
      refine ARun.step rfl (step_nilE rfl (hn rfl) rfl rfl rfl) ?_
      refine ARun.step rfl (step_field_e rfl (hn rfl) rfl yqFo132_0 rfl rfl) ?_
      refine ARun.step rfl (step_load_e rfl (hn rfl) rfl yqSc41 rfl rfl (by omega) (hn rfl) rfl) ?_
      refine ARun.step rfl (step_len_f rfl (hn rfl) rfl yqSl41 rfl) ?_
      refine ARun.step rfl (step_lss rfl (hn rfl) rfl rfl rfl) ?_
      refine ARun.nil ?_
      exact hQ.out
    refine E.cond rfl (fun c2 => ?_) (fun c2 => ?_)
    · try simp only [nrm] at c2
      have hb0 : p < b.length := by omega
      have hb1 := bt_lt b p
      apply E.reg
      · intro Q hQ
        refine AWp.seq (AWp.region ?_)
        refine ARun.step rfl (step_moveV rfl (hn rfl) rfl rfl) ?_
        refine ARun.step rfl (step_nilE rfl (hn rfl) rfl rfl rfl) ?_
        refine ARun.step rfl (step_field_e rfl (hn rfl) rfl yqFo132_0 rfl rfl) ?_
        refine ARun.step rfl (step_load_e rfl (hn rfl) rfl yqSc41 rfl rfl (by omega) (hn rfl) rfl) ?_
        refine ARun.step rfl (step_moveV rfl (hn rfl) rfl rfl) ?_
        refine ARun.step rfl (step_index_fN rfl (hn rfl) rfl yqSl41 rfl rfl (by first | omega | (simp only [List.length_cons, List.length_nil]; omega))) ?_
        refine ARun.step rfl (step_load_f rfl (hn rfl) rfl yqSc5 rfl (hn rfl) rfl) ?_
        refine ARun.step rfl (step_convN rfl (hn rfl) rfl ⟨_, yqUi5⟩ yqUi3 rfl (by omega)) ?_
        refine ARun.step rfl (step_moveV rfl (hn rfl) rfl rfl) ?_
        refine ARun.step rfl (step_remN rfl (hn rfl) rfl rfl rfl (by omega)) ?_
        refine ARun.step rfl (step_assignV rfl (hn rfl) rfl rfl) ?_
        refine ARun.nil ?_
        exact hQ.out
      refine E.mono (fun Q h => AWp.ret h) ?_
      apply E.ret (i := (_, _))
      · refine ⟨?_, (.refl _)⟩
        refine RetIs.sc (.inr rfl) rfl rfl ?_
        refine congrArg (T.int _) ?_
        rfl
      · try dsimp only
        all_goals (exact ⟨rfl, Nat.mod_lt _ h1⟩)
    · try simp only [nrm] at c2
      have hm1 := Nat.mod_lt p hpos
      have hm2 := Nat.mod_lt (p * 7 + 3) hpos
      have hb1 := bt_lt b (p % b.length)
      have hb2 := bt_lt b ((p * 7 + 3) % b.length)
      have hd := Nat.div_le_self p b.length
      refine E.mono (fun Q h => AWp.skip h) ?_
      apply E.reg
      · intro Q hQ
        refine AWp.seq (AWp.draw [⟨[.s 0], [.s 47], false⟩, ⟨[.s 47, .a 1000000 0], [.s 48], false⟩, ⟨[.s 48, .a 1000000 0], [.s 49], false⟩, ⟨[.s 49, .a 1000000 0], [.s 50], false⟩, ⟨[.s 5], [.s 51], false⟩, ⟨[.s 0], [.s 52], false⟩, ⟨[.s 52, .a 1000000 0], [.s 53], false⟩, ⟨[.s 53, .a 1000000 0], [.s 54], false⟩, ⟨[.s 54, .a 1000000 0], [.s 55], false⟩, ⟨[.s 55], [.s 56], false⟩, ⟨[.s 51, .s 56], [.s 57], false⟩, ⟨[.s 50, .s 57], [.s 58], false⟩, ⟨[.s 58], [.s 59], false⟩, ⟨[.s 59], [.s 60], false⟩, ⟨[.s 60], [.s 61], false⟩, ⟨[.s 0], [.s 62], false⟩, ⟨[.s 62, .a 1000000 0], [.s 63], false⟩, ⟨[.s 63, .a 1000000 0], [.s 64], false⟩, ⟨[.s 64, .a 1000000 0], [.s 65], false⟩, ⟨[.s 5], [.s 66], false⟩, ⟨[.s 66], [.s 67], false⟩, ⟨[.s 67], [.s 68], false⟩, ⟨[.s 0], [.s 69], false⟩, ⟨[.s 69, .a 1000000 0], [.s 70], false⟩, ⟨[.s 70, .a 1000000 0], [.s 71], false⟩, ⟨[.s 71, .a 1000000 0], [.s 72], false⟩, ⟨[.s 72], [.s 73], false⟩, ⟨[.s 68, .s 73], [.s 74], false⟩, ⟨[.s 65, .s 74], [.s 75], false⟩, ⟨[.s 75], [.s 76], false⟩, ⟨[.s 76], [.s 77], false⟩, ⟨[.s 77], [.s 78], false⟩, ⟨[.s 61, .s 78], [.s 79], false⟩, ⟨[.s 5], [.s 80], false⟩, ⟨[.s 80], [.s 81], false⟩, ⟨[.s 79, .s 81], [.s 82], false⟩, ⟨[.s 5], [.s 83], false⟩, ⟨[.s 0], [.s 84], false⟩, ⟨[.s 84, .a 1000000 0], [.s 85], false⟩, ⟨[.s 85, .a 1000000 0], [.s 86], false⟩, ⟨[.s 86, .a 1000000 0], [.s 87], false⟩, ⟨[.s 87], [.s 88], false⟩, ⟨[.s 83, .s 88], [.s 89], false⟩, ⟨[.s 89], [.s 90], false⟩, ⟨[.s 82, .s 90], [.s 91], false⟩, ⟨[], [], true⟩] yqMo (by kernel_rfl) ?_)
        refine DRun.step rfl (fun τ hN hr => step_moveV rfl (rdN hN (hn rfl)) rfl (by exact rdS hr rfl rfl)) ?_
        refine DRun.step rfl (fun τ hN hr => step_nilE rfl (rdN hN (hn rfl)) rfl (by exact rdS hr rfl rfl) (by exact rdA hr rfl rfl)) ?_
        refine DRun.step rfl (fun τ hN hr => step_field_e rfl (rdN hN (hn rfl)) rfl yqFo132_0 (by exact rdS hr rfl rfl) (by exact rdA hr rfl rfl)) ?_
        refine DRun.step rfl (fun τ hN hr => step_load_e rfl (rdN hN (hn rfl)) rfl yqSc41 (by exact rdS hr rfl rfl) (by exact rdA hr rfl rfl) (by omega) (hn rfl) rfl) ?_
        refine DRun.step rfl (fun τ hN hr => step_moveV rfl (rdN hN (hn rfl)) rfl (by exact rdS hr rfl rfl)) ?_
        refine DRun.step rfl (fun τ hN hr => step_moveV rfl (rdN hN (hn rfl)) rfl (by exact rdS hr rfl rfl)) ?_
        refine DRun.step rfl (fun τ hN hr => step_nilE rfl (rdN hN (hn rfl)) rfl (by exact rdS hr rfl rfl) (by exact rdA hr rfl rfl)) ?_
        refine DRun.step rfl (fun τ hN hr => step_field_e rfl (rdN hN (hn rfl)) rfl yqFo132_0 (by exact rdS hr rfl rfl) (by exact rdA hr rfl rfl)) ?_
        refine DRun.step rfl (fun τ hN hr => step_load_e rfl (rdN hN (hn rfl)) rfl yqSc41 (by exact rdS hr rfl rfl) (by exact rdA hr rfl rfl) (by omega) (hn rfl) rfl) ?_
        refine DRun.step rfl (fun τ hN hr => step_len_f rfl (rdN hN (hn rfl)) rfl yqSl41 (by exact rdS hr rfl rfl)) ?_
        refine DRun.step rfl (fun τ hN hr => step_remN rfl (rdN hN (hn rfl)) rfl (by exact rdS hr rfl rfl) (by exact rdS hr rfl rfl) hpos) ?_
        refine DRun.step rfl (fun τ hN hr => step_index_fN rfl (rdN hN (hn rfl)) rfl yqSl41 (by exact rdS hr rfl rfl) (by exact rdS hr rfl rfl) (by first | omega | (simp only [List.length_cons, List.length_nil]; omega))) ?_
        refine DRun.step rfl (fun τ hN hr => step_load_f rfl (rdN hN (hn rfl)) rfl yqSc5 (by exact rdS hr rfl rfl) (hn rfl) rfl) ?_
        refine DRun.step rfl (fun τ hN hr => step_convN rfl (rdN hN (hn rfl)) rfl ⟨_, yqUi5⟩ yqUi3 (by exact rdS hr rfl rfl) (by omega)) ?_
        refine DRun.step rfl (fun τ hN hr => step_mulN (n := 131) rfl (rdN hN (hn rfl)) rfl (by exact rdS hr rfl rfl) rfl (by omega)) ?_
        refine DRun.step rfl (fun τ hN hr => step_moveV rfl (rdN hN (hn rfl)) rfl (by exact rdS hr rfl rfl)) ?_
        refine DRun.step rfl (fun τ hN hr => step_nilE rfl (rdN hN (hn rfl)) rfl (by exact rdS hr rfl rfl) (by exact rdA hr rfl rfl)) ?_
        refine DRun.step rfl (fun τ hN hr => step_field_e rfl (rdN hN (hn rfl)) rfl yqFo132_0 (by exact rdS hr rfl rfl) (by exact rdA hr rfl rfl)) ?_
        refine DRun.step rfl (fun τ hN hr => step_load_e rfl (rdN hN (hn rfl)) rfl yqSc41 (by exact rdS hr rfl rfl) (by exact rdA hr rfl rfl) (by omega) (hn rfl) rfl) ?_
        refine DRun.step rfl (fun τ hN hr => step_moveV rfl (rdN hN (hn rfl)) rfl (by exact rdS hr rfl rfl)) ?_
        refine DRun.step rfl (fun τ hN hr => step_mulN (n := 7) rfl (rdN hN (hn rfl)) rfl (by exact rdS hr rfl rfl) rfl (by omega)) ?_
        refine DRun.step rfl (fun τ hN hr => step_addN (n := 3) rfl (rdN hN (hn rfl)) rfl (by exact rdS hr rfl rfl) rfl (by omega)) ?_
        refine DRun.step rfl (fun τ hN hr => step_moveV rfl (rdN hN (hn rfl)) rfl (by exact rdS hr rfl rfl)) ?_
        refine DRun.step rfl (fun τ hN hr => step_nilE rfl (rdN hN (hn rfl)) rfl (by exact rdS hr rfl rfl) (by exact rdA hr rfl rfl)) ?_
        refine DRun.step rfl (fun τ hN hr => step_field_e rfl (rdN hN (hn rfl)) rfl yqFo132_0 (by exact rdS hr rfl rfl) (by exact rdA hr rfl rfl)) ?_
        refine DRun.step rfl (fun τ hN hr => step_load_e rfl (rdN hN (hn rfl)) rfl yqSc41 (by exact rdS hr rfl rfl) (by exact rdA hr rfl rfl) (by omega) (hn rfl) rfl) ?_
        refine DRun.step rfl (fun τ hN hr => step_len_f rfl (rdN hN (hn rfl)) rfl yqSl41 (by exact rdS hr rfl rfl)) ?_
        refine DRun.step rfl (fun τ hN hr => step_remN rfl (rdN hN (hn rfl)) rfl (by exact rdS hr rfl rfl) (by exact rdS hr rfl rfl) hpos) ?_
        refine DRun.step rfl (fun τ hN hr => step_index_fN rfl (rdN hN (hn rfl)) rfl yqSl41 (by exact rdS hr rfl rfl) (by exact rdS hr rfl rfl) (by first | omega | (simp only [List.length_cons, List.length_nil]; omega))) ?_
        refine DRun.step rfl (fun τ hN hr => step_load_f rfl (rdN hN (hn rfl)) rfl yqSc5 (by exact rdS hr rfl rfl) (hn rfl) rfl) ?_
        refine DRun.step rfl (fun τ hN hr => step_convN rfl (rdN hN (hn rfl)) rfl ⟨_, yqUi5⟩ yqUi3 (by exact rdS hr rfl rfl) (by omega)) ?_
        refine DRun.step rfl (fun τ hN hr => step_mulN (n := 1117) rfl (rdN hN (hn rfl)) rfl (by exact rdS hr rfl rfl) rfl (by omega)) ?_
        refine DRun.step rfl (fun τ hN hr => step_addN rfl (rdN hN (hn rfl)) rfl (by exact rdS hr rfl rfl) (by exact rdS hr rfl rfl) (by omega)) ?_
        refine DRun.step rfl (fun τ hN hr => step_moveV rfl (rdN hN (hn rfl)) rfl (by exact rdS hr rfl rfl)) ?_
        refine DRun.step rfl (fun τ hN hr => step_mulN (n := 29) rfl (rdN hN (hn rfl)) rfl (by exact rdS hr rfl rfl) rfl (by omega)) ?_
        refine DRun.step rfl (fun τ hN hr => step_addN rfl (rdN hN (hn rfl)) rfl (by exact rdS hr rfl rfl) (by exact rdS hr rfl rfl) (by omega)) ?_
        refine DRun.step rfl (fun τ hN hr => step_moveV rfl (rdN hN (hn rfl)) rfl (by exact rdS hr rfl rfl)) ?_
        refine DRun.step rfl (fun τ hN hr => step_moveV rfl (rdN hN (hn rfl)) rfl (by exact rdS hr rfl rfl)) ?_
        refine DRun.step rfl (fun τ hN hr => step_nilE rfl (rdN hN (hn rfl)) rfl (by exact rdS hr rfl rfl) (by exact rdA hr rfl rfl)) ?_
        refine DRun.step rfl (fun τ hN hr => step_field_e rfl (rdN hN (hn rfl)) rfl yqFo132_0 (by exact rdS hr rfl rfl) (by exact rdA hr rfl rfl)) ?_
        refine DRun.step rfl (fun τ hN hr => step_load_e rfl (rdN hN (hn rfl)) rfl yqSc41 (by exact rdS hr rfl rfl) (by exact rdA hr rfl rfl) (by omega) (hn rfl) rfl) ?_
        refine DRun.step rfl (fun τ hN hr => step_len_f rfl (rdN hN (hn rfl)) rfl yqSl41 (by exact rdS hr rfl rfl)) ?_
        refine DRun.step rfl (fun τ hN hr => step_quoN rfl (rdN hN (hn rfl)) rfl (by exact rdS hr rfl rfl) (by exact rdS hr rfl rfl) hpos (by omega)) ?_
        refine DRun.step rfl (fun τ hN hr => step_mulN (n := 53) rfl (rdN hN (hn rfl)) rfl (by exact rdS hr rfl rfl) rfl (by omega)) ?_
        refine DRun.step rfl (fun τ hN hr => step_addN rfl (rdN hN (hn rfl)) rfl (by exact rdS hr rfl rfl) (by exact rdS hr rfl rfl) (by omega)) ?_
        refine DRun.lastS rfl (step_assignV rfl (hn rfl) rfl rfl) ?_
        exact hQ.out
      apply E.reg
      · intro Q hQ
        refine AWp.seq (AWp.region ?_)
        refine ARun.step rfl (step_moveV rfl (hn rfl) rfl rfl) ?_
        refine ARun.step rfl (step_moveV rfl (hn rfl) rfl rfl) ?_
        refine ARun.step rfl (step_quoN (n := 64) rfl (hn rfl) rfl rfl rfl (by decide) (by omega)) ?_
        refine ARun.step rfl (step_xorN rfl (hn rfl) rfl rfl rfl (by omega) (by omega)) ?_
        refine ARun.step rfl (step_assignV rfl (hn rfl) rfl rfl) ?_
        refine ARun.nil ?_
        exact hQ.out
      apply E.reg
      · intro Q hQ
        refine AWp.seq (AWp.region ?_)
        refine ARun.step rfl (step_moveV rfl (hn rfl) rfl rfl) ?_
        refine ARun.step rfl (step_moveV rfl (hn rfl) rfl rfl) ?_
        refine ARun.step rfl (step_remN rfl (hn rfl) rfl rfl rfl (by omega)) ?_
        refine ARun.step rfl (step_assignV rfl (hn rfl) rfl rfl) ?_
        refine ARun.nil ?_
        exact hQ.out
      refine E.mono (fun Q h => AWp.ret h) ?_
      apply E.ret (i := (_, _))
      · refine ⟨?_, (.refl _)⟩
        refine RetIs.sc (.inr rfl) rfl rfl ?_
        refine congrArg (T.int _) ?_
        rfl
      · try dsimp only
        all_goals (exact ⟨rfl, Nat.mod_lt _ h1⟩)
theorem l51pick_if (c : Prop) [Decidable c] (b : List UInt8) (p n : Nat) (hb : b.length ≤ 2000) (hp : p ≤ 1000000000) (h1 : 1 ≤ n) (h2 : n ≤ 1000000000) :
    ∃ (q k : Nat), (p ≤ q ∧ q ≤ p + 1 ∧ k < n) ∧ (c → LSpec Try.prog 102 132 (rdR 5 b p) (rdR 5 b q) [.one (.int .i64 (n : Nat))] (.one (.int .i64 (k : Nat)))) ∧ (¬ c → q = p) := by
  by_cases h : c
  · obtain ⟨q, k, ⟨rfl, hk⟩, hs⟩ := l51pick b p n hb hp h1 h2
    exact ⟨_, k, ⟨by omega, by omega, hk⟩, fun _ => hs, fun h' => absurd h h'⟩
  · exact ⟨p, 0, ⟨by omega, by omega, by omega⟩, fun h' => absurd h' h, fun _ => rfl⟩
theorem l51of (b : List UInt8) (p : Nat) (l : List Str) (hb : b.length ≤ 2000) (hp : p ≤ 1000000000) (hl : 1 ≤ l.length) (hl2 : l.length ≤ 1000000000) : ∃ (q : Nat) (s : Str), (q = p + 1 ∧ s ∈ l) ∧ LSpec Try.prog 103 132 (rdR 5 b p) (rdR 5 b q) [.one (strs l)] (.one (.str s)) := by
  suffices key : ∃ i : Nat × Str, (i.1 = p + 1 ∧ i.2 ∈ l) ∧ LSpec Try.prog 103 132 (rdR 5 b p) (rdR 5 b i.1) [.one (strs l)] (.one (.str i.2)) from (by obtain ⟨i, g, h⟩ := key; exact ⟨i.1, i.2, g, h⟩)
  refine LSpec.ex Try.func103 rfl [4] rfl 12 rfl rfl rfl rfl (fun i : Nat × Str => rdR 5 b i.1) (fun i : Nat × Str => (.one (.str i.2))) (fun i : Nat × Str => i.1 = p + 1 ∧ i.2 ∈ l) (fun i => rfl) (fun i => rfl) ?_
  apply E.reg
  · intro Q hQ
    refine AWp.seq (AWp.region ?_)
    refine ARun.step rfl (step_assignV rfl (hn rfl) rfl rfl) ?_
    refine ARun.nil ?_
    exact hQ.out
  obtain ⟨q, k, ⟨rfl, hk⟩, hs⟩ := l51pick b p l.length hb hp hl hl2
  apply E.reg
  · intro Q hQ
    refine AWp.seq (AWp.region ?_)
    refine ARun.step rfl (step_moveV rfl (hn rfl) rfl rfl) ?_
    refine ARun.step rfl (step_moveV rfl (hn rfl) rfl rfl) ?_
    refine ARun.step rfl (step_moveV rfl (hn rfl) rfl rfl) ?_
    refine ARun.step rfl (step_len_f rfl (hn rfl) rfl yqSl22 rfl) ?_
    refine ARun.step rfl (call_stepLZ rfl (hn rfl) rfl yqCo102 rfl rfl rfl rfl (.cons rfl (.one (.v _)) (.nil)) hs rfl rfl) ?_
    refine ARun.step rfl (step_index_fN rfl (hn rfl) rfl yqSl22 rfl rfl (by first | omega | (simp only [List.length_cons, List.length_nil]; omega))) ?_
    refine ARun.step rfl (step_load_f rfl (hn rfl) rfl yqSc9 rfl (hn rfl) rfl) ?_
    refine ARun.step rfl (step_assignV rfl (hn rfl) rfl rfl) ?_
    refine ARun.nil ?_
    exact hQ.out
  refine E.mono (fun Q h => AWp.ret h) ?_
  apply E.ret (i := (_, _))
  · refine ⟨?_, (.refl _)⟩
    refine RetIs.sc (.inr rfl) rfl rfl ?_
    refine congrArg T.str ?_
    rfl
  · try dsimp only
    all_goals (exact ⟨rfl, nth_mem hk⟩)
theorem l51Open (b : List UInt8) (hb : b.length ≤ 2097152) : OSpec Try.prog 88 [.one (bytesT 5 b)] 132 (rdR 5 (b.take 2000) 0) := by
  refine OSpec.body Try.func88 rfl 2 rfl 11 rfl rfl rfl ?_
  refine AWp.seq (AWp.region ?_)
  refine ARun.step rfl (step_assignV rfl (hn rfl) rfl rfl) ?_
  refine ARun.nil ?_
  refine AWp.seq ?_
  refine AWp.seq (AWp.region ?_)
  refine ARun.step rfl (step_moveV rfl (hn rfl) rfl rfl) ?_
  refine ARun.step rfl (step_len_f rfl (hn rfl) rfl yqSl41 rfl) ?_
  refine ARun.step rfl (step_gtr rfl (hn rfl) rfl rfl rfl) ?_
  refine ARun.nil ?_
  refine AWp.cond rfl (fun c1 => ?_) (fun c1 => ?_)
  · try simp only [nrm] at c1
    refine AWp.region ?_
    refine ARun.step rfl (step_moveV rfl (hn rfl) rfl rfl) ?_
    refine ARun.step rfl (step_sliceF rfl (hn rfl) rfl yqSl41 (bytesT 5 (b.take 2000)) rfl (.dflt _) (.val (j := 2000) _ rfl) rfl (by rw [List.length_take]; omega) (by omega) (bytes_take b 2000)) ?_
    refine ARun.step rfl (step_assignV rfl (hn rfl) rfl rfl) ?_
    refine ARun.nil ?_
    refine AWp.seq (AWp.region ?_)
    refine ARun.step rfl (step_moveV rfl (hn rfl) rfl rfl) ?_
    refine ARun.step rfl (step_build rfl (hn rfl) rfl yqPl132 yqZc132 (.cons rfl rfl rfl rfl (.nil)) rfl) ?_
    refine ARun.step rfl (step_boxE (r := [.fz (bytesT 5 _), .int .i64 ((0 : Nat) : Int)]) rfl (hn rfl) rfl rfl rfl) ?_
    refine ARun.step rfl (step_assignV rfl (hn rfl) rfl rfl) ?_
    refine ARun.nil ?_
    refine AWp.ret ?_
    refine ⟨.inr rfl, 10, rfl, rfl, rfl⟩
  · try simp only [nrm] at c1
    rw [List.take_of_length_le (show b.length ≤ 2000 by omega)]
    refine AWp.skip ?_
    refine AWp.seq (AWp.region ?_)
    refine ARun.step rfl (step_moveV rfl (hn rfl) rfl rfl) ?_
    refine ARun.step rfl (step_build rfl (hn rfl) rfl yqPl132 yqZc132 (.cons rfl rfl rfl rfl (.nil)) rfl) ?_
    refine ARun.step rfl (step_boxE (r := [.fz (bytesT 5 _), .int .i64 ((0 : Nat) : Int)]) rfl (hn rfl) rfl rfl rfl) ?_
    refine ARun.step rfl (step_assignV rfl (hn rfl) rfl rfl) ?_
    refine ARun.nil ?_
    refine AWp.ret ?_
    refine ⟨.inr rfl, 10, rfl, rfl, rfl⟩
theorem l55Names   : ASpec Try.prog 172 [] (.one (.fz (strs nms5))) := by
  refine ASpec.body Try.func172 rfl [0] rfl 2 rfl rfl rfl ?_
  refine AWp.seq (AWp.region ?_)
  refine ARun.step rfl (step_assignV rfl (hn rfl) rfl rfl) ?_
  refine ARun.nil ?_
  refine AWp.seq (AWp.region ?_)
  refine ARun.step rfl (step_buildVT rfl (hn rfl) rfl yqSl22 (strs nms5) (.cons rfl rfl rfl rfl (.cons rfl rfl rfl rfl (.cons rfl rfl rfl rfl (.cons rfl rfl rfl rfl (.cons rfl rfl rfl rfl (.nil _)))))) rfl rfl rfl (rowsE ⟨rfl, rfl, rfl, rfl, rfl, trivial⟩)) ?_
  refine ARun.step rfl (step_assignV rfl (hn rfl) rfl rfl) ?_
  refine ARun.nil ?_
  refine AWp.ret ?_
  refine RetIs.frz (.inr rfl) rfl ?_
  rfl
theorem l55Some (b : List UInt8) (p : Nat) (l : List Str) (n : Nat) (hb : b.length ≤ 2000) (hp : p ≤ 900000000) (hl : l.length ≤ 1000) (hn1 : 1 ≤ n) (hn2 : n ≤ 1000) : ∃ (q : Nat) (x : List Str), (p ≤ q ∧ q ≤ p + l.length ∧ x.Sublist l ∧ x.length ≤ l.length) ∧ LSpec Try.prog 108 132 (rdR 5 b p) (rdR 5 b q) [.one (strs l), .one (.int .i64 (n : Nat))] (.one (strs x)) := by
  suffices key : ∃ i : Nat × List Str, (p ≤ i.1 ∧ i.1 ≤ p + l.length ∧ i.2.Sublist l ∧ i.2.length ≤ l.length) ∧ LSpec Try.prog 108 132 (rdR 5 b p) (rdR 5 b i.1) [.one (strs l), .one (.int .i64 (n : Nat))] (.one (strs i.2)) from (by obtain ⟨i, g, h⟩ := key; exact ⟨i.1, i.2, g, h⟩)
  refine LSpec.ex Try.func108 rfl [6] rfl 28 rfl rfl rfl rfl (fun i : Nat × List Str => rdR 5 b i.1) (fun i : Nat × List Str => (.one (strs i.2))) (fun i : Nat × List Str => p ≤ i.1 ∧ i.1 ≤ p + l.length ∧ i.2.Sublist l ∧ i.2.length ≤ l.length) (fun i => rfl) (fun i => rfl) ?_
  apply E.reg
  · intro Q hQ
    refine AWp.seq (AWp.region ?_)
    refine ARun.step rfl (step_assignV rfl (hn rfl) rfl rfl) ?_
    refine ARun.nil ?_
    exact hQ.out
  apply E.reg
  · intro Q hQ
    refine AWp.seq (AWp.region ?_)
    refine ARun.step rfl (step_build0 rfl (hn rfl) rfl yqSl22) ?_
    refine ARun.step rfl (step_assignV rfl (hn rfl) rfl rfl) ?_
    refine ARun.nil ?_
    exact hQ.out
  refine E.mono (fun Q h => AWp.seq h) ?_
  apply E.reg
  · intro Q hQ
    refine AWp.seq (AWp.region ?_)
    refine ARun.step rfl (step_assignV rfl (hn rfl) rfl rfl) ?_
    refine ARun.nil ?_
    exact hQ.out
  refine E.mono (fun Q h => AWp.block h) ?_
  refine E.loop (fun x : Nat × List Str × Nat => mkAS 28 [(0, ⟨true, .one (.eptr ⟨.arr 1000000 0, []⟩ 0 0)⟩), (1, ⟨true, .one (.v (strs l))⟩), (2, ⟨true, .one (.v (.int .i64 (n : Nat)))⟩), (7, ⟨true, .one (.ref ⟨.arr 9 0, []⟩)⟩), (8, ⟨true, .one (.v (.int .i64 (x.1 : Nat)))⟩)] [] [(9, 0, strs x.2.1), (1000000, 0, ptT 132 (rdR 5 b x.2.2))]) (fun x => x.1 ≤ l.length ∧ x.2.1.Sublist (l.take x.1) ∧ p ≤ x.2.2 ∧ x.2.2 ≤ p + x.1) (fun x => l.length - x.1) (0, [], p) ?_ (Le.forgetR rfl ⟨rfl, rfl, rfl, rfl, rfl, trivial⟩ trivial ⟨.refl _, .refl _, trivial⟩) ?_
  · try dsimp only
    exact ⟨by omega, List.nil_sublist _, by omega, by omega⟩
  rintro x ⟨hi, hs, hpa, hpb⟩ ih1
  have hsl := hs.length_le
  rw [List.length_take] at hsl
  refine E.mono (fun Q h => AWp.seq h) ?_
  apply E.reg
  · intro Q hQ
    refine AWp.seq (AWp.region ?_)
    refine ARun.step rfl (step_moveV rfl (hn rfl) rfl rfl) ?_
    refine ARun.step rfl (step_moveV rfl (hn rfl) rfl rfl) ?_
    refine ARun.step rfl (step_len_f rfl (hn rfl) rfl yqSl22 rfl) ?_
    refine ARun.step rfl (step_lss rfl (hn rfl) rfl rfl rfl) ?_
    refine ARun.nil ?_
    exact hQ.out
  refine E.cond rfl (fun c1 => ?_) (fun c1 => ?_)
  · try simp only [nrm] at c1
    refine E.mono (fun Q h => AWp.skip h) ?_
    refine E.mono (fun Q h => AWp.seq h) ?_
    refine E.mono (fun Q h => AWp.block h) ?_
    obtain ⟨_, k1, ⟨rfl, hk1⟩, hl1⟩ := l51pick b (x.2.2) (n) (by first | assumption | omega | decide | (simp only [List.length_append, List.length_cons, List.length_nil, List.length_take, List.length_drop]; omega)) (by first | assumption | omega | decide | (simp only [List.length_append, List.length_cons, List.length_nil, List.length_take, List.length_drop]; omega)) (by first | assumption | omega | decide | (simp only [List.length_append, List.length_cons, List.length_nil, List.length_take, List.length_drop]; omega)) (by first | assumption | omega | decide | (simp only [List.length_append, List.length_cons, List.length_nil, List.length_take, List.length_drop]; omega))
    apply E.reg
    · intro Q hQ
      refine AWp.seq (AWp.region ?_)
      refine ARun.step rfl (step_moveV rfl (hn rfl) rfl rfl) ?_
      refine ARun.step rfl (step_moveV rfl (hn rfl) rfl rfl) ?_
      refine ARun.step rfl (call_stepLZ rfl (hn rfl) rfl yqCo102 rfl rfl rfl rfl (.cons rfl (.one (.v _)) (.nil)) hl1 rfl rfl) ?_
      refine ARun.step rfl (step_eql rfl (hn rfl) rfl rfl rfl) ?_
      refine ARun.nil ?_
      exact hQ.out
    refine E.cond rfl (fun c2 => ?_) (fun c2 => ?_)
    · try simp only [nrm] at c2
      apply E.reg
      · intro Q hQ
        refine AWp.region ?_
        refine ARun.step rfl (step_moveV rfl (hn rfl) rfl rfl) ?_
        refine ARun.step rfl (step_moveV rfl (hn rfl) rfl rfl) ?_
        refine ARun.step rfl (step_moveV rfl (hn rfl) rfl rfl) ?_
        refine ARun.step rfl (step_index_fN rfl (hn rfl) rfl yqSl22 rfl rfl (by first | omega | (simp only [List.length_cons, List.length_nil]; omega))) ?_
        refine ARun.step rfl (step_load_f rfl (hn rfl) rfl yqSc9 rfl (hn rfl) rfl) ?_
        refine ARun.step rfl (step_buildVT rfl (hn rfl) rfl yqSl22 (strs [_]) (.cons rfl rfl rfl rfl (.nil _)) rfl rfl rfl (rows1 rfl)) ?_
        refine ARun.step rfl (step_append_strs rfl (hn rfl) rfl yqSl22 rfl rfl rfl (.v _) (by first | omega | (simp only [List.length_cons, List.length_nil, List.length_append, List.length_take, List.length_drop]; omega)) (by first | omega | (simp only [List.length_cons, List.length_nil, List.length_append, List.length_take, List.length_drop]; omega))) ?_
        refine ARun.step rfl (step_assignV rfl (hn rfl) rfl rfl) ?_
        refine ARun.nil ?_
        exact hQ.out
      apply E.reg
      · intro Q hQ
        refine AWp.region ?_
        refine ARun.step rfl (step_moveV rfl (hn rfl) rfl rfl) ?_
        refine ARun.step rfl (step_addI rfl (hn rfl) rfl rfl rfl (by first | omega | (simp only [List.length_cons, List.length_nil]; omega)) (by first | omega | (simp only [List.length_cons, List.length_nil]; omega))) ?_
        refine ARun.step rfl (step_assignV rfl (hn rfl) rfl rfl) ?_
        refine ARun.nil ?_
        exact hQ.out
      refine ih1 (x.1 + 1, _, x.2.2 + 1) _ ?_ ?_ (Le.forgetR rfl ⟨rfl, rfl, rfl, rfl, rfl, trivial⟩ trivial ⟨.refl _, .refl _, trivial⟩)
      · try dsimp only
        refine ⟨by omega, ?_, by omega, by omega⟩
        rw [take_next (show x.1 < l.length by omega)]
        first
          | exact hs.append (List.Sublist.refl _)
          | exact hs.trans (List.sublist_append_left _ _)
      · try dsimp only
        omega
    · try simp only [nrm] at c2
      refine E.mono (fun Q h => AWp.skip h) ?_
      apply E.reg
      · intro Q hQ
        refine AWp.region ?_
        refine ARun.step rfl (step_moveV rfl (hn rfl) rfl rfl) ?_
        refine ARun.step rfl (step_addI rfl (hn rfl) rfl rfl rfl (by first | omega | (simp only [List.length_cons, List.length_nil]; omega)) (by first | omega | (simp only [List.length_cons, List.length_nil]; omega))) ?_
        refine ARun.step rfl (step_assignV rfl (hn rfl) rfl rfl) ?_
        refine ARun.nil ?_
        exact hQ.out
      refine ih1 (x.1 + 1, _, x.2.2 + 1) _ ?_ ?_ (Le.forgetR rfl ⟨rfl, rfl, rfl, rfl, rfl, trivial⟩ trivial ⟨.refl _, .refl _, trivial⟩)
      · try dsimp only
        refine ⟨by omega, ?_, by omega, by omega⟩
        rw [take_next (show x.1 < l.length by omega)]
        first
          | exact hs.append (List.Sublist.refl _)
          | exact hs.trans (List.sublist_append_left _ _)
      · try dsimp only
        omega
  · try simp only [nrm] at c1
    refine E.mono (fun Q h => AWp.exit h) ?_
    apply E.reg
    · intro Q hQ
      refine AWp.seq (AWp.region ?_)
      refine ARun.step rfl (step_moveV rfl (hn rfl) rfl rfl) ?_
      refine ARun.step rfl (step_assignV rfl (hn rfl) rfl rfl) ?_
      refine ARun.nil ?_
      exact hQ.out
    refine E.mono (fun Q h => AWp.ret h) ?_
    apply E.ret (i := (_, _))
    · refine ⟨?_, (.refl _)⟩
      refine RetIs.ref (.inr rfl) rfl rfl ?_
      rfl
    · try dsimp only
      all_goals (exact ⟨(show p ≤ x.2.2 by omega), (show x.2.2 ≤ p + l.length by omega), (show x.2.1.Sublist l from hs.trans (List.take_sublist _ _)), (show x.2.1.length ≤ l.length by omega)⟩)
theorem l55Base (b : List UInt8) (p : Nat) (hb : b.length ≤ 2000) (hp : p ≤ 900000000) : ∃ (q : Nat) (x : List Str), (p ≤ q ∧ q ≤ p + 5 ∧ x.Sublist thg5 ∧ x.length ≤ 5) ∧ LSpec Try.prog 167 132 (rdR 5 b p) (rdR 5 b q) [] (.agg [.fz (strs x), .nl]) := by
  suffices key : ∃ i : Nat × List Str, (p ≤ i.1 ∧ i.1 ≤ p + 5 ∧ i.2.Sublist thg5 ∧ i.2.length ≤ 5) ∧ LSpec Try.prog 167 132 (rdR 5 b p) (rdR 5 b i.1) [] (.agg [.fz (strs i.2), .nl]) from (by obtain ⟨i, g, h⟩ := key; exact ⟨i.1, i.2, g, h⟩)
  refine LSpec.exC Try.func167 rfl 2 29 [] rfl rfl 27 rfl rfl rfl rfl (fun i : Nat × List Str => rdR 5 b i.1) (fun i : Nat × List Str => (.agg [.fz (strs i.2), .nl])) (fun i : Nat × List Str => p ≤ i.1 ∧ i.1 ≤ p + 5 ∧ i.2.Sublist thg5 ∧ i.2.length ≤ 5) (fun i => rfl) (fun i => rfl) ?_
  have h5 : thg5.length = 5 := rfl
  apply E.reg
  · intro Q hQ
    refine AWp.seq (AWp.region ?_)
    refine ARun.step rfl (step_alloc_p rfl (hn rfl) rfl yqZs29) ?_
    refine ARun.nil ?_
    exact hQ.out
  apply E.reg
  · intro Q hQ
    refine AWp.seq (AWp.region ?_)
    refine ARun.step rfl (step_build rfl (hn rfl) rfl yqPl29 yqZc29 (.nil) rfl) ?_
    refine ARun.step rfl (step_alloc_p rfl (hn rfl) rfl yqZs29) ?_
    refine ARun.step rfl (step_store_p (bs := [_, _]) rfl rfl yqCs29 rfl rfl rfl rfl rfl rfl rfl) ?_
    refine ARun.nil ?_
    exact hQ.out
  apply E.reg
  · intro Q hQ
    refine AWp.seq (AWp.region ?_)
    refine ARun.step rfl (step_buildVT rfl (hn rfl) rfl yqSl22 (strs thg5) (.cons rfl rfl rfl rfl (.cons rfl rfl rfl rfl (.cons rfl rfl rfl rfl (.cons rfl rfl rfl rfl (.cons rfl rfl rfl rfl (.nil _)))))) rfl rfl rfl (rowsE ⟨rfl, rfl, rfl, rfl, rfl, trivial⟩)) ?_
    refine ARun.step rfl (step_assignV rfl (hn rfl) rfl rfl) ?_
    refine ARun.nil ?_
    exact hQ.out
  refine E.mono (fun Q h => AWp.seq h) ?_
  apply E.reg
  · intro Q hQ
    refine AWp.seq (AWp.region ?_)
    refine ARun.step rfl (step_assignV rfl (hn rfl) rfl rfl) ?_
    refine ARun.nil ?_
    exact hQ.out
  refine E.mono (fun Q h => AWp.block h) ?_
  refine E.mono (fun Q h => AWp.le (Le.nilRefB 3 0 24 9 1 (fun i => [.str (nth [] i)]) _ rfl rfl rfl) h) ?_
  refine E.loop (fun x : Nat × List Str × Nat => mkAS 27 [(0, ⟨true, .one (.eptr ⟨.arr 1000000 0, []⟩ 0 0)⟩), (2, ⟨true, .one (.bptr 2 0)⟩), (3, ⟨true, .one (.bptr 3 0)⟩), (4, ⟨true, .one (.v (strs thg5))⟩), (5, ⟨true, .one (.v (.int .i64 (x.1 : Nat)))⟩)] [(2, [.any, .any]), (3, [.ref ⟨.arr 24 0, []⟩, .nil])] [(24, 0, strs x.2.1), (1000000, 0, ptT 132 (rdR 5 b x.2.2))]) (fun x => x.1 ≤ 5 ∧ x.2.1.Sublist (thg5.take x.1) ∧ p ≤ x.2.2 ∧ x.2.2 ≤ p + x.1) (fun x => 5 - x.1) (0, [], p) ?_ (Le.forgetR rfl ⟨rfl, rfl, rfl, rfl, rfl, trivial⟩ ⟨rfl, rfl, trivial⟩ ⟨.refl _, .refl _, trivial⟩) ?_
  · try dsimp only
    exact ⟨by omega, List.nil_sublist _, by omega, by omega⟩
  rintro x ⟨hi, hs, hpa, hpb⟩ ih1
  have hsl := hs.length_le
  rw [List.length_take] at hsl
  refine E.mono (fun Q h => AWp.seq h) ?_
  apply E.reg
  · intro Q hQ
    refine AWp.seq (AWp.region ?_)
    refine ARun.step rfl (step_moveV rfl (hn rfl) rfl rfl) ?_
    refine ARun.step rfl (step_moveV rfl (hn rfl) rfl rfl) ?_
    refine ARun.step rfl (step_len_f rfl (hn rfl) rfl yqSl22 rfl) ?_
    refine ARun.step rfl (step_lss rfl (hn rfl) rfl rfl rfl) ?_
    refine ARun.nil ?_
    exact hQ.out
  refine E.cond rfl (fun c1 => ?_) (fun c1 => ?_)
  · try simp only [nrm] at c1
    refine E.mono (fun Q h => AWp.skip h) ?_
    refine E.mono (fun Q h => AWp.seq h) ?_
    refine E.mono (fun Q h => AWp.block h) ?_
    obtain ⟨_, k1, ⟨rfl, hk1⟩, hl1⟩ := l51pick b (x.2.2) (5) (by first | assumption | omega | decide | (simp only [List.length_append, List.length_cons, List.length_nil, List.length_take, List.length_drop]; omega)) (by first | assumption | omega | decide | (simp only [List.length_append, List.length_cons, List.length_nil, List.length_take, List.length_drop]; omega)) (by first | assumption | omega | decide | (simp only [List.length_append, List.length_cons, List.length_nil, List.length_take, List.length_drop]; omega)) (by first | assumption | omega | decide | (simp only [List.length_append, List.length_cons, List.length_nil, List.length_take, List.length_drop]; omega))
    apply E.reg
    · intro Q hQ
      refine AWp.seq (AWp.region ?_)
      refine ARun.step rfl (step_moveV rfl (hn rfl) rfl rfl) ?_
      refine ARun.step rfl (call_stepLZ rfl (hn rfl) rfl yqCo102 rfl rfl rfl rfl (.cons rfl (.one (.v _)) (.nil)) hl1 rfl rfl) ?_
      refine ARun.step rfl (step_gtr rfl (hn rfl) rfl rfl rfl) ?_
      refine ARun.nil ?_
      exact hQ.out
    refine E.cond rfl (fun c2 => ?_) (fun c2 => ?_)
    · try simp only [nrm] at c2
      apply E.reg
      · intro Q hQ
        refine AWp.drawM [⟨⟨[.s 3, .b 3], [.s 17], false⟩, none, []⟩, ⟨⟨[.s 17, .b 3], [.s 18], false⟩, none, []⟩, ⟨⟨[.s 4], [.s 19], false⟩, none, []⟩, ⟨⟨[.s 5], [.s 20], false⟩, none, []⟩, ⟨⟨[.s 19, .s 20], [.s 21], false⟩, none, []⟩, ⟨⟨[.s 21], [.s 22], false⟩, none, []⟩, ⟨⟨[.s 22], [.s 23], false⟩, none, []⟩, ⟨⟨[], [], true⟩, none, []⟩, ⟨⟨[], [], true⟩, none, []⟩, ⟨⟨[], [], true⟩, none, []⟩] yqMo rfl rfl (Le.forgetR (n := 27) (sl := [(0, _), (2, _), (3, _), (4, _), (5, _), (8, _), (9, _), (10, _), (11, _), (14, _), (15, _), (16, _)]) (bl := [(2, _), (3, _)]) (al := [(24, 0, _), (1000000, 0, _)]) rfl ⟨rfl, rfl, rfl, rfl, rfl, rfl, rfl, rfl, rfl, rfl, rfl, rfl, trivial⟩ ⟨rfl, rfl, trivial⟩ ⟨.refl _, .refl _, trivial⟩) rfl ?_
        refine FRun.slot rfl (fun τ hN hr => step_field_b rfl (rdN hN (hn rfl)) rfl yqFo29_0 (by exact rdS hr rfl rfl) (by exact rdBne hr rfl (by exact List.cons_ne_nil _ _))) (by exact rfl) ?_
        refine FRun.slot rfl (fun τ hN hr => step_load_b rfl (rdN hN (hn rfl)) rfl yqSc22 (by exact rdS hr rfl rfl) (by exact rdBget hr rfl rfl)) (by exact rfl) ?_
        refine FRun.slot rfl (fun τ hN hr => step_moveV rfl (rdN hN (hn rfl)) rfl (by exact rdS hr rfl rfl)) (by exact rfl) ?_
        refine FRun.slot rfl (fun τ hN hr => step_moveV rfl (rdN hN (hn rfl)) rfl (by exact rdS hr rfl rfl)) (by exact rfl) ?_
        refine FRun.slot rfl (fun τ hN hr => step_index_fN rfl (rdN hN (hn rfl)) rfl yqSl22 (by exact rdS hr rfl rfl) (by exact rdS hr rfl rfl) (by first | omega | (simp only [List.length_cons, List.length_nil]; omega))) (by exact rfl) ?_
        refine FRun.slot rfl (fun τ hN hr => step_load_f rfl (rdN hN (hn rfl)) rfl yqSc9 (by exact rdS hr rfl rfl) (hn rfl) rfl) (by exact rfl) ?_
        refine FRun.slot rfl (fun τ hN hr => step_buildVT rfl (rdN hN (hn rfl)) rfl yqSl22 (strs [_]) ((by exact .cons (by exact rdS hr rfl rfl) rfl rfl rfl (.nil _))) (by exact rfl) (by exact rfl) (by exact rfl) (by exact (rows1 rfl))) (by exact rfl) ?_
        refine FRun.whole rfl (step_append_strs rfl (hn rfl) rfl yqSl22 rfl rfl rfl (.v _) (by first | omega | (simp only [List.length_cons, List.length_nil, List.length_append, List.length_take, List.length_drop]; omega)) (by first | omega | (simp only [List.length_cons, List.length_nil, List.length_append, List.length_take, List.length_drop]; omega))) (by exact rfl) ?_
        refine FRun.whole rfl (step_field_b rfl (hn rfl) rfl yqFo29_0 rfl (by exact List.cons_ne_nil _ _)) (by exact rfl) ?_
        refine FRun.whole rfl (step_store_r rfl rfl yqCs22 rfl rfl rfl rfl rfl rfl rfl) (by exact rfl) ?_
        refine FRun.nil ?_
        exact hQ.out
      apply E.reg
      · intro Q hQ
        refine AWp.region ?_
        refine ARun.step rfl (step_moveV rfl (hn rfl) rfl rfl) ?_
        refine ARun.step rfl (step_addI rfl (hn rfl) rfl rfl rfl (by first | omega | (simp only [List.length_cons, List.length_nil]; omega)) (by first | omega | (simp only [List.length_cons, List.length_nil]; omega))) ?_
        refine ARun.step rfl (step_assignV rfl (hn rfl) rfl rfl) ?_
        refine ARun.nil ?_
        exact hQ.out
      refine ih1 (x.1 + 1, _, x.2.2 + 1) _ ?_ ?_ (Le.forgetR rfl ⟨rfl, rfl, rfl, rfl, rfl, trivial⟩ ⟨rfl, rfl, trivial⟩ ⟨.refl _, .refl _, trivial⟩)
      · try dsimp only
        refine ⟨by omega, ?_, by omega, by omega⟩
        rw [take_next (show x.1 < thg5.length by omega)]
        first
          | exact hs.append (List.Sublist.refl _)
          | exact hs.trans (List.sublist_append_left _ _)
      · try dsimp only
        omega
    · try simp only [nrm] at c2
      refine E.mono (fun Q h => AWp.skip h) ?_
      apply E.reg
      · intro Q hQ
        refine AWp.region ?_
        refine ARun.step rfl (step_moveV rfl (hn rfl) rfl rfl) ?_
        refine ARun.step rfl (step_addI rfl (hn rfl) rfl rfl rfl (by first | omega | (simp only [List.length_cons, List.length_nil]; omega)) (by first | omega | (simp only [List.length_cons, List.length_nil]; omega))) ?_
        refine ARun.step rfl (step_assignV rfl (hn rfl) rfl rfl) ?_
        refine ARun.nil ?_
        exact hQ.out
      refine ih1 (x.1 + 1, _, x.2.2 + 1) _ ?_ ?_ (Le.forgetR rfl ⟨rfl, rfl, rfl, rfl, rfl, trivial⟩ ⟨rfl, rfl, trivial⟩ ⟨.refl _, .refl _, trivial⟩)
      · try dsimp only
        refine ⟨by omega, ?_, by omega, by omega⟩
        rw [take_next (show x.1 < thg5.length by omega)]
        first
          | exact hs.append (List.Sublist.refl _)
          | exact hs.trans (List.sublist_append_left _ _)
      · try dsimp only
        omega
  · try simp only [nrm] at c1
    refine E.mono (fun Q h => AWp.exit h) ?_
    refine E.mono (fun Q h => AWp.le (Le.letGo 24 0 (g := _) rfl (fun _ _ => rfl)) h) ?_
    apply E.reg
    · intro Q hQ
      refine AWp.seq (AWp.region ?_)
      refine ARun.step rfl (step_loadS_b rfl (hn rfl) rfl yqSt29 rfl rfl rfl (by decide)) ?_
      refine ARun.step rfl (step_store_p (bs := [_, _]) rfl rfl yqCs29 rfl rfl rfl rfl rfl rfl rfl) ?_
      refine ARun.nil ?_
      exact hQ.out
    refine E.mono (fun Q h => AWp.ret h) ?_
    apply E.ret (i := (_, _))
    · refine ⟨.inr rfl, ⟨2, 2, _, _, _, yqSt29, by decide, rfl, rfl, rfl, rfl, (.cons rfl (.agg (.cons (.frz _ _ _ _ _) (.cons (.nl _) (.nil _)))) (.nil _)), rfl, ?_⟩, (.refl _)⟩
      refine congrArg PV.agg ?_
      rfl
    · try dsimp only
      all_goals (exact ⟨(show p ≤ x.2.2 by omega), (show x.2.2 ≤ p + 5 by omega), (show x.2.1.Sublist thg5 from hs.trans (List.take_sublist _ _)), (show x.2.1.length ≤ 5 by omega)⟩)
set_option maxHeartbeats 1000000 in
theorem l55Does (b : List UInt8) (p : Nat) (k : Bk) (hb : b.length ≤ 2000) (hp : p ≤ 800000000) (hk : bkLe k 6) : ∃ (q : Nat) (d : Do), (p ≤ q ∧ q ≤ p + 20 ∧ 1 ≤ d.kind ∧ d.kind ≤ 4 ∧ d.list.length ≤ 10) ∧ LSpec Try.prog 137 132 (rdR 5 b p) (rdR 5 b q) [.agg (k.cells 48)] (.agg d.zcells) := by
  suffices key : ∃ i : Nat × Do, (p ≤ i.1 ∧ i.1 ≤ p + 20 ∧ 1 ≤ i.2.kind ∧ i.2.kind ≤ 4 ∧ i.2.list.length ≤ 10) ∧ LSpec Try.prog 137 132 (rdR 5 b p) (rdR 5 b i.1) [.agg (k.cells 48)] (.agg i.2.zcells) from (by obtain ⟨i, g, h⟩ := key; exact ⟨i.1, i.2, g, h⟩)
  refine LSpec.exC Try.func137 rfl 4 135 [] rfl rfl 95 rfl rfl rfl rfl (fun i : Nat × Do => rdR 5 b i.1) (fun i : Nat × Do => (.agg i.2.zcells)) (fun i : Nat × Do => p ≤ i.1 ∧ i.1 ≤ p + 20 ∧ 1 ≤ i.2.kind ∧ i.2.kind ≤ 4 ∧ i.2.list.length ≤ 10) (fun i => rfl) (fun i => rfl) ?_
  have hkt := hk.1
  have hkl := hk.2.1
  apply E.reg
  · intro Q hQ
    refine AWp.seq (AWp.region ?_)
    refine ARun.step rfl (step_box_p (m := 1) rfl (hn rfl) rfl rfl rfl rfl rfl) ?_
    refine ARun.step rfl (step_alloc_p rfl (hn rfl) rfl yqZs135) ?_
    refine ARun.nil ?_
    exact hQ.out
  obtain ⟨_, s1, ⟨rfl, hk1⟩, hl1⟩ := l51of b (p) nms5 (by first | assumption | omega | decide | (simp only [List.length_append, List.length_cons, List.length_nil, List.length_take, List.length_drop]; omega)) (by first | assumption | omega | decide | (simp only [List.length_append, List.length_cons, List.length_nil, List.length_take, List.length_drop]; omega)) (by first | assumption | omega | decide | (simp only [List.length_append, List.length_cons, List.length_nil, List.length_take, List.length_drop]; omega)) (by first | assumption | omega | decide | (simp only [List.length_append, List.length_cons, List.length_nil, List.length_take, List.length_drop]; omega))
  apply E.reg
  · intro Q hQ
    refine AWp.seq (AWp.region ?_)
    refine ARun.step rfl (step_moveV rfl (hn rfl) rfl rfl) ?_
    refine ARun.step rfl (call_stepZ rfl (hn rfl) rfl yqCo172 (.nil) (l55Names ) rfl rfl) ?_
    refine ARun.step rfl (call_stepLZ rfl (hn rfl) rfl yqCo103 rfl rfl rfl rfl (.cons rfl (.one (.v _)) (.nil)) hl1 rfl rfl) ?_
    refine ARun.step rfl (step_build rfl (hn rfl) rfl yqPl135 yqZc135 (.cons rfl rfl rfl rfl (.cons rfl rfl rfl rfl (.nil))) rfl) ?_
    refine ARun.step rfl (step_alloc_p rfl (hn rfl) rfl yqZs135) ?_
    refine ARun.step rfl (step_store_p (bs := [_, _, _]) rfl rfl yqCs135 rfl rfl rfl rfl rfl rfl rfl) ?_
    refine ARun.nil ?_
    exact hQ.out
  refine E.join (fun x : Str × Nat => mkAS 95 [(0, ⟨true, .one (.eptr ⟨.arr 1000000 0, []⟩ 0 0)⟩), (3, ⟨true, .one (.bptr 3 0)⟩), (4, ⟨true, .one (.bptr 4 0)⟩), (5, ⟨true, .one (.bptr 5 0)⟩)] [(3, ((k.cells 48)).map C.v), (4, [.any, .any, .any]), (5, [.v (.int .i64 2), .v (.str x.1), .nil])] [(1000000, 0, ptT 132 (rdR 5 b x.2))]) (fun x => p ≤ x.2 ∧ x.2 ≤ p + 3) ?_ ?_
  · rintro x ⟨hja, hjb⟩
    have hix := idxB_lt k x.1
    apply E.reg
    · intro Q hQ
      refine AWp.seq (AWp.region ?_)
      refine ARun.step rfl (step_loadS_b rfl (hn rfl) rfl yqSt29 rfl rfl rfl (by decide)) ?_
      refine ARun.step rfl (step_field_b rfl (hn rfl) rfl yqFo135_1 rfl (by exact List.cons_ne_nil _ _)) ?_
      refine ARun.step rfl (step_load_b rfl (hn rfl) rfl yqSc9 rfl rfl) ?_
      refine ARun.step rfl (call_step1 rfl (hn rfl) rfl yqCo70 (.cons rfl (.agg (.cons (.v _) (.cons (.v _) .nil))) (.cons rfl (.one (.v _)) (.nil))) (l51At _ _) rfl) ?_
      refine ARun.step rfl (step_assignV rfl (hn rfl) rfl rfl) ?_
      refine ARun.nil ?_
      exact hQ.out
    apply E.reg
    · intro Q hQ
      refine AWp.seq (AWp.region ?_)
      refine ARun.step rfl (step_field_b rfl (hn rfl) rfl yqFo29_0 rfl (by exact List.cons_ne_nil _ _)) ?_
      refine ARun.step rfl (step_load_b rfl (hn rfl) rfl yqSc22 rfl rfl) ?_
      refine ARun.step rfl (step_assignV rfl (hn rfl) rfl rfl) ?_
      refine ARun.nil ?_
      exact hQ.out
    refine E.join (fun y : List Str => mkAS 95 [(0, ⟨true, .one (.eptr ⟨.arr 1000000 0, []⟩ 0 0)⟩), (3, ⟨true, .one (.bptr 3 0)⟩), (4, ⟨true, .one (.bptr 4 0)⟩), (5, ⟨true, .one (.bptr 5 0)⟩), (7, ⟨true, .one (.v (strs y))⟩)] [(3, ((k.cells 48)).map C.v), (4, [.any, .any, .any]), (5, [.v (.int .i64 2), .v (.str x.1), .nil])] [(1000000, 0, ptT 132 (rdR 5 b x.2))]) (fun y => y.length ≤ 6) ?_ ?_
    · rintro y hy
      refine E.mono (fun Q h => AWp.seq h) ?_
      obtain ⟨_, k2, ⟨rfl, hk2⟩, hl2⟩ := l51pick b (x.2) (9) (by first | assumption | omega | decide | (simp only [List.length_append, List.length_cons, List.length_nil, List.length_take, List.length_drop]; omega)) (by first | assumption | omega | decide | (simp only [List.length_append, List.length_cons, List.length_nil, List.length_take, List.length_drop]; omega)) (by first | assumption | omega | decide | (simp only [List.length_append, List.length_cons, List.length_nil, List.length_take, List.length_drop]; omega)) (by first | assumption | omega | decide | (simp only [List.length_append, List.length_cons, List.length_nil, List.length_take, List.length_drop]; omega))
      apply E.reg
      · intro Q hQ
        refine AWp.seq (AWp.region ?_)
        refine ARun.step rfl (step_moveV rfl (hn rfl) rfl rfl) ?_
        refine ARun.step rfl (call_stepLZ rfl (hn rfl) rfl yqCo102 rfl rfl rfl rfl (.cons rfl (.one (.v _)) (.nil)) hl2 rfl rfl) ?_
        refine ARun.nil ?_
        exact hQ.out
      refine E.mono (fun Q h => AWp.block h) ?_
      refine E.join (fun v : Bool => mkAS 95 [(0, ⟨true, .one (.eptr ⟨.arr 1000000 0, []⟩ 0 0)⟩), (3, ⟨true, .one (.bptr 3 0)⟩), (4, ⟨true, .one (.bptr 4 0)⟩), (5, ⟨true, .one (.bptr 5 0)⟩), (7, ⟨true, .one (.v (strs y))⟩), (47, ⟨true, .one (.v (.int .i64 (k2 : Nat)))⟩), (52, ⟨true, .one (.v (.bool v))⟩)] [(3, ((k.cells 48)).map C.v), (4, [.any, .any, .any]), (5, [.v (.int .i64 2), .v (.str x.1), .nil])] [(1000000, 0, ptT 132 (rdR 5 b (x.2 + 1)))]) (fun v => True) ?_ ?_
      · rintro v hv
        refine E.cond rfl (fun c1 => ?_) (fun c1 => ?_)
        · try simp only [nrm] at c1
          apply E.reg
          · intro Q hQ
            refine AWp.seq (AWp.region ?_)
            refine ARun.step rfl (step_field_b rfl (hn rfl) rfl yqFo135_0 rfl (by exact List.cons_ne_nil _ _)) ?_
            refine ARun.step rfl (step_store_p (bs := [_, _, _]) rfl rfl yqCs3 rfl rfl rfl rfl rfl rfl rfl) ?_
            refine ARun.nil ?_
            exact hQ.out
          obtain ⟨_, s3, ⟨rfl, hk3⟩, hl3⟩ := l51of b (x.2 + 1) nms5 (by first | assumption | omega | decide | (simp only [List.length_append, List.length_cons, List.length_nil, List.length_take, List.length_drop]; omega)) (by first | assumption | omega | decide | (simp only [List.length_append, List.length_cons, List.length_nil, List.length_take, List.length_drop]; omega)) (by first | assumption | omega | decide | (simp only [List.length_append, List.length_cons, List.length_nil, List.length_take, List.length_drop]; omega)) (by first | assumption | omega | decide | (simp only [List.length_append, List.length_cons, List.length_nil, List.length_take, List.length_drop]; omega))
          apply E.reg
          · intro Q hQ
            refine AWp.seq (AWp.region ?_)
            refine ARun.step rfl (step_moveV rfl (hn rfl) rfl rfl) ?_
            refine ARun.step rfl (call_stepZ rfl (hn rfl) rfl yqCo172 (.nil) (l55Names ) rfl rfl) ?_
            refine ARun.step rfl (call_stepLZ rfl (hn rfl) rfl yqCo103 rfl rfl rfl rfl (.cons rfl (.one (.v _)) (.nil)) hl3 rfl rfl) ?_
            refine ARun.step rfl (step_field_b rfl (hn rfl) rfl yqFo135_1 rfl (by exact List.cons_ne_nil _ _)) ?_
            refine ARun.step rfl (step_store_p (bs := [_, _, _]) rfl rfl yqCs9 rfl rfl rfl rfl rfl rfl rfl) ?_
            refine ARun.nil ?_
            exact hQ.out
          obtain ⟨q4, x4, ⟨hqa4, hqb4, hsub4, hsl4⟩, hl4⟩ := l55Some b (x.2 + 1 + 1) (k.things) (2) (by first | assumption | omega | decide | (simp only [List.length_append, List.length_cons, List.length_nil, List.length_take, List.length_drop]; omega)) (by first | assumption | omega | decide | (simp only [List.length_append, List.length_cons, List.length_nil, List.length_take, List.length_drop]; omega)) (by first | assumption | omega | decide | (simp only [List.length_append, List.length_cons, List.length_nil, List.length_take, List.length_drop]; omega)) (by first | assumption | omega | decide | (simp only [List.length_append, List.length_cons, List.length_nil, List.length_take, List.length_drop]; omega)) (by first | assumption | omega | decide | (simp only [List.length_append, List.length_cons, List.length_nil, List.length_take, List.length_drop]; omega))
          apply E.reg
          · intro Q hQ
            refine AWp.region ?_
            refine ARun.step rfl (step_moveV rfl (hn rfl) rfl rfl) ?_
            refine ARun.step rfl (step_field_b rfl (hn rfl) rfl yqFo29_0 rfl (by exact List.cons_ne_nil _ _)) ?_
            refine ARun.step rfl (step_load_b rfl (hn rfl) rfl yqSc22 rfl rfl) ?_
            refine ARun.step rfl (call_stepL rfl (hn rfl) rfl yqCo108 rfl rfl rfl rfl rfl (.cons rfl (.one (.v _)) (.cons rfl (.one (.v _)) (.nil))) (hl4) rfl rfl) ?_
            refine ARun.step rfl (step_field_b rfl (hn rfl) rfl yqFo135_2 rfl (by exact List.cons_ne_nil _ _)) ?_
            refine ARun.step rfl (step_store_r rfl rfl yqCs22 rfl rfl rfl rfl rfl rfl rfl) ?_
            refine ARun.nil ?_
            exact hQ.out
          refine E.mono (fun Q h => AWp.seq h) ?_
          obtain ⟨_, k5, ⟨rfl, hk5⟩, hl5⟩ := l51pick b (q4) (24) (by first | assumption | omega | decide | (simp only [List.length_append, List.length_cons, List.length_nil, List.length_take, List.length_drop]; omega)) (by first | assumption | omega | decide | (simp only [List.length_append, List.length_cons, List.length_nil, List.length_take, List.length_drop]; omega)) (by first | assumption | omega | decide | (simp only [List.length_append, List.length_cons, List.length_nil, List.length_take, List.length_drop]; omega)) (by first | assumption | omega | decide | (simp only [List.length_append, List.length_cons, List.length_nil, List.length_take, List.length_drop]; omega))
          apply E.reg
          · intro Q hQ
            refine AWp.seq (AWp.region ?_)
            refine ARun.step rfl (step_moveV rfl (hn rfl) rfl rfl) ?_
            refine ARun.step rfl (call_stepLZ rfl (hn rfl) rfl yqCo102 rfl rfl rfl rfl (.cons rfl (.one (.v _)) (.nil)) hl5 rfl rfl) ?_
            refine ARun.nil ?_
            exact hQ.out
          refine E.mono (fun Q h => AWp.block h) ?_
          apply E.reg
          · intro Q hQ
            refine AWp.seq (AWp.region ?_)
            refine ARun.step rfl (step_eql rfl (hn rfl) rfl rfl rfl) ?_
            refine ARun.step rfl (step_assignV rfl (hn rfl) rfl rfl) ?_
            refine ARun.nil ?_
            exact hQ.out
          refine E.cond rfl (fun c2 => ?_) (fun c2 => ?_)
          · try simp only [nrm] at c2
            obtain ⟨_, s6, ⟨rfl, hk6⟩, hl6⟩ := l51of b (q4 + 1) ([⟨#[]⟩, ⟨#[97]⟩, ⟨#[122, 122]⟩, ⟨#[116, 117, 110]⟩]) (by first | assumption | omega | decide | (simp only [List.length_append, List.length_cons, List.length_nil, List.length_take, List.length_drop]; omega)) (by first | assumption | omega | decide | (simp only [List.length_append, List.length_cons, List.length_nil, List.length_take, List.length_drop]; omega)) (by first | assumption | omega | decide | (simp only [List.length_append, List.length_cons, List.length_nil, List.length_take, List.length_drop]; omega)) (by first | assumption | omega | decide | (simp only [List.length_append, List.length_cons, List.length_nil, List.length_take, List.length_drop]; omega))
            apply E.reg
            · intro Q hQ
              refine AWp.drawM [⟨⟨[.s 5, .b 5], [.s 80], false⟩, none, []⟩, ⟨⟨[.s 80, .b 5], [.s 81], false⟩, none, []⟩, ⟨⟨[.s 0], [.s 82], false⟩, none, []⟩, ⟨⟨[], [.s 83], false⟩, none, []⟩, ⟨⟨[.s 83, .s 82, .a 1000000 0], [.s 84, .a 1000000 0], false⟩, none, []⟩, ⟨⟨[.s 84], [.s 85], false⟩, none, []⟩, ⟨⟨[], [], true⟩, none, []⟩, ⟨⟨[], [], true⟩, none, []⟩, ⟨⟨[], [], true⟩, none, []⟩] yqMo rfl rfl (Le.forgetR (n := 95) (sl := [(0, _), (3, _), (4, _), (5, _), (7, _), (47, _), (52, _), (56, _), (57, _), (58, _), (59, _), (60, _), (61, _), (62, _), (63, _), (64, _), (65, _), (76, _), (77, _), (78, _), (79, _)]) (bl := [(3, _), (4, _), (5, _)]) (al := [(64, 0, _), (1000000, 0, _)]) rfl ⟨rfl, rfl, rfl, rfl, rfl, rfl, rfl, rfl, rfl, rfl, rfl, rfl, rfl, rfl, rfl, rfl, rfl, rfl, rfl, rfl, rfl, trivial⟩ ⟨rfl, rfl, rfl, trivial⟩ ⟨.refl _, .refl _, trivial⟩) rfl ?_
              refine FRun.slot rfl (fun τ hN hr => step_field_b rfl (rdN hN (hn rfl)) rfl yqFo135_2 (by exact rdS hr rfl rfl) (by exact rdBne hr rfl (by exact List.cons_ne_nil _ _))) (by exact rfl) ?_
              refine FRun.slot rfl (fun τ hN hr => step_load_b rfl (rdN hN (hn rfl)) rfl yqSc22 (by exact rdS hr rfl rfl) (by exact rdBget hr rfl rfl)) (by exact rfl) ?_
              refine FRun.slot rfl (fun τ hN hr => step_moveV rfl (rdN hN (hn rfl)) rfl (by exact rdS hr rfl rfl)) (by exact rfl) ?_
              refine FRun.slot rfl (fun τ hN hr => step_buildVT rfl (rdN hN (hn rfl)) rfl yqSl22 (strs [⟨#[]⟩, ⟨#[97]⟩, ⟨#[122, 122]⟩, ⟨#[116, 117, 110]⟩]) (by exact .cons rfl rfl rfl rfl (.cons rfl rfl rfl rfl (.cons rfl rfl rfl rfl (.cons rfl rfl rfl rfl (.nil _))))) (by exact rfl) (by exact rfl) (by exact rfl) (by exact (rowsE ⟨rfl, rfl, rfl, rfl, trivial⟩))) (by exact rfl) ?_
              refine FRun.lent rfl (fun τ hN hr => call_stepLZ rfl (rdN hN (hn rfl)) rfl yqCo103 (by exact rdS hr rfl rfl) (by exact rdA hr rfl rfl) rfl rfl (.cons (by exact rdS hr rfl rfl) (.one (.v _)) (.nil)) hl6 rfl (by exact rdNoRefs hr rfl rfl)) (by exact rfl) ?_
              refine FRun.slot rfl (fun τ hN hr => step_buildVT rfl (rdN hN (hn rfl)) rfl yqSl22 (strs [(s6)]) ((by exact .cons (by exact rdS hr rfl rfl) rfl rfl rfl (.nil _))) (by exact rfl) (by exact rfl) (by exact rfl) (by exact (rows1 rfl))) (by exact rfl) ?_
              refine FRun.whole rfl (step_append_strs rfl (hn rfl) rfl yqSl22 rfl rfl rfl (.v _) (by first | omega | (simp only [List.length_cons, List.length_nil, List.length_append, List.length_take, List.length_drop]; omega)) (by first | omega | (simp only [List.length_cons, List.length_nil, List.length_append, List.length_take, List.length_drop]; omega))) (by exact rfl) ?_
              refine FRun.whole rfl (step_field_b rfl (hn rfl) rfl yqFo135_2 rfl (by exact List.cons_ne_nil _ _)) (by exact rfl) ?_
              refine FRun.whole rfl (step_store_r rfl rfl yqCs22 rfl rfl rfl rfl rfl rfl rfl) (by exact rfl) ?_
              refine FRun.nil ?_
              exact hQ.out
            apply E.reg
            · intro Q hQ
              refine AWp.seq (AWp.region ?_)
              refine ARun.step rfl (step_loadS_b rfl (hn rfl) rfl yqSt135 rfl rfl rfl (by decide)) ?_
              refine ARun.step rfl (step_store_r rfl rfl yqCs135 rfl rfl rfl rfl rfl rfl rfl) ?_
              refine ARun.nil ?_
              exact hQ.out
            refine E.mono (fun Q h => AWp.le (Le.letGo 64 0 (g := _) rfl (fun _ _ => rfl)) h) ?_
            refine E.mono (fun Q h => AWp.ret h) ?_
            apply E.ret (i := (_, Do.mk _ _ _))
            · refine ⟨.inr rfl, ⟨4, 3, _, _, _, yqSt135, by decide, rfl, rfl, rfl, rfl, (.cons rfl (.agg (.cons (.sc _ _ rfl) (.cons (.sc _ _ rfl) (.cons (.frz _ _ _ _ _) (.nil _))))) (.nil _)), rfl, ?_⟩, (.refl _)⟩
              refine congrArg PV.agg ?_
              rfl
            · try dsimp only
              all_goals (refine ⟨by omega, by omega, by decide, by decide, ?_⟩)
              all_goals (try simp only [List.length_append, List.length_cons, List.length_nil])
              all_goals (omega)
          · try simp only [nrm] at c2
            apply E.reg
            · intro Q hQ
              refine AWp.seq (AWp.region ?_)
              refine ARun.step rfl (step_eql rfl (hn rfl) rfl rfl rfl) ?_
              refine ARun.step rfl (step_assignV rfl (hn rfl) rfl rfl) ?_
              refine ARun.nil ?_
              exact hQ.out
            refine E.cond rfl (fun c3 => ?_) (fun c3 => ?_)
            · try simp only [nrm] at c3
              obtain ⟨_, s7, ⟨rfl, hk7⟩, hl7⟩ := l51of b (q4 + 1) ([⟨#[]⟩, ⟨#[65]⟩, ⟨#[122, 122]⟩]) (by first | assumption | omega | decide | (simp only [List.length_append, List.length_cons, List.length_nil, List.length_take, List.length_drop]; omega)) (by first | assumption | omega | decide | (simp only [List.length_append, List.length_cons, List.length_nil, List.length_take, List.length_drop]; omega)) (by first | assumption | omega | decide | (simp only [List.length_append, List.length_cons, List.length_nil, List.length_take, List.length_drop]; omega)) (by first | assumption | omega | decide | (simp only [List.length_append, List.length_cons, List.length_nil, List.length_take, List.length_drop]; omega))
              apply E.reg
              · intro Q hQ
                refine AWp.region ?_
                refine ARun.step rfl (step_moveV rfl (hn rfl) rfl rfl) ?_
                refine ARun.step rfl (step_buildVT rfl (hn rfl) rfl yqSl22 (strs [⟨#[]⟩, ⟨#[65]⟩, ⟨#[122, 122]⟩]) (.cons rfl rfl rfl rfl (.cons rfl rfl rfl rfl (.cons rfl rfl rfl rfl (.nil _)))) rfl rfl rfl (rowsE ⟨rfl, rfl, rfl, trivial⟩)) ?_
                refine ARun.step rfl (call_stepLZ rfl (hn rfl) rfl yqCo103 rfl rfl rfl rfl (.cons rfl (.one (.v _)) (.nil)) hl7 rfl rfl) ?_
                refine ARun.step rfl (step_field_b rfl (hn rfl) rfl yqFo135_1 rfl (by exact List.cons_ne_nil _ _)) ?_
                refine ARun.step rfl (step_store_p (bs := [_, _, _]) rfl rfl yqCs9 rfl rfl rfl rfl rfl rfl rfl) ?_
                refine ARun.nil ?_
                exact hQ.out
              apply E.reg
              · intro Q hQ
                refine AWp.seq (AWp.region ?_)
                refine ARun.step rfl (step_loadS_b rfl (hn rfl) rfl yqSt135 rfl rfl rfl (by decide)) ?_
                refine ARun.step rfl (step_store_r rfl rfl yqCs135 rfl rfl rfl rfl rfl rfl rfl) ?_
                refine ARun.nil ?_
                exact hQ.out
              refine E.mono (fun Q h => AWp.le (Le.letGo 64 0 (g := _) rfl (fun _ _ => rfl)) h) ?_
              refine E.mono (fun Q h => AWp.ret h) ?_
              apply E.ret (i := (_, Do.mk _ _ _))
              · refine ⟨.inr rfl, ⟨4, 3, _, _, _, yqSt135, by decide, rfl, rfl, rfl, rfl, (.cons rfl (.agg (.cons (.sc _ _ rfl) (.cons (.sc _ _ rfl) (.cons (.frz _ _ _ _ _) (.nil _))))) (.nil _)), rfl, ?_⟩, (.refl _)⟩
                refine congrArg PV.agg ?_
                rfl
              · try dsimp only
                all_goals (refine ⟨by omega, by omega, by decide, by decide, ?_⟩)
                all_goals (try simp only [List.length_append, List.length_cons, List.length_nil])
                all_goals (omega)
            · try simp only [nrm] at c3
              refine E.mono (fun Q h => AWp.skip h) ?_
              apply E.reg
              · intro Q hQ
                refine AWp.seq (AWp.region ?_)
                refine ARun.step rfl (step_loadS_b rfl (hn rfl) rfl yqSt135 rfl rfl rfl (by decide)) ?_
                refine ARun.step rfl (step_store_r rfl rfl yqCs135 rfl rfl rfl rfl rfl rfl rfl) ?_
                refine ARun.nil ?_
                exact hQ.out
              refine E.mono (fun Q h => AWp.le (Le.letGo 64 0 (g := _) rfl (fun _ _ => rfl)) h) ?_
              refine E.mono (fun Q h => AWp.ret h) ?_
              apply E.ret (i := (_, Do.mk _ _ _))
              · refine ⟨.inr rfl, ⟨4, 3, _, _, _, yqSt135, by decide, rfl, rfl, rfl, rfl, (.cons rfl (.agg (.cons (.sc _ _ rfl) (.cons (.sc _ _ rfl) (.cons (.frz _ _ _ _ _) (.nil _))))) (.nil _)), rfl, ?_⟩, (.refl _)⟩
                refine congrArg PV.agg ?_
                rfl
              · try dsimp only
                all_goals (refine ⟨by omega, by omega, by decide, by decide, ?_⟩)
                all_goals (try simp only [List.length_append, List.length_cons, List.length_nil])
                all_goals (omega)
        · try simp only [nrm] at c1
          apply E.reg
          · intro Q hQ
            refine AWp.seq (AWp.region ?_)
            refine ARun.step rfl (step_eql rfl (hn rfl) rfl rfl rfl) ?_
            refine ARun.step rfl (step_assignV rfl (hn rfl) rfl rfl) ?_
            refine ARun.nil ?_
            exact hQ.out
          refine E.cond rfl (fun c4 => ?_) (fun c4 => ?_)
          · try simp only [nrm] at c4
            apply E.reg
            · intro Q hQ
              refine AWp.seq (AWp.region ?_)
              refine ARun.step rfl (step_field_b rfl (hn rfl) rfl yqFo135_0 rfl (by exact List.cons_ne_nil _ _)) ?_
              refine ARun.step rfl (step_store_p (bs := [_, _, _]) rfl rfl yqCs3 rfl rfl rfl rfl rfl rfl rfl) ?_
              refine ARun.nil ?_
              exact hQ.out
            obtain ⟨q8, x8, ⟨hqa8, hqb8, hsub8, hsl8⟩, hl8⟩ := l55Some b (x.2 + 1) (y) (2) (by first | assumption | omega | decide | (simp only [List.length_append, List.length_cons, List.length_nil, List.length_take, List.length_drop]; omega)) (by first | assumption | omega | decide | (simp only [List.length_append, List.length_cons, List.length_nil, List.length_take, List.length_drop]; omega)) (by first | assumption | omega | decide | (simp only [List.length_append, List.length_cons, List.length_nil, List.length_take, List.length_drop]; omega)) (by first | assumption | omega | decide | (simp only [List.length_append, List.length_cons, List.length_nil, List.length_take, List.length_drop]; omega)) (by first | assumption | omega | decide | (simp only [List.length_append, List.length_cons, List.length_nil, List.length_take, List.length_drop]; omega))
            apply E.reg
            · intro Q hQ
              refine AWp.region ?_
              refine ARun.step rfl (step_moveV rfl (hn rfl) rfl rfl) ?_
              refine ARun.step rfl (step_moveV rfl (hn rfl) rfl rfl) ?_
              refine ARun.step rfl (call_stepL rfl (hn rfl) rfl yqCo108 rfl rfl rfl rfl rfl (.cons rfl (.one (.v _)) (.cons rfl (.one (.v _)) (.nil))) (hl8) rfl rfl) ?_
              refine ARun.step rfl (step_field_b rfl (hn rfl) rfl yqFo135_2 rfl (by exact List.cons_ne_nil _ _)) ?_
              refine ARun.step rfl (step_store_r rfl rfl yqCs22 rfl rfl rfl rfl rfl rfl rfl) ?_
              refine ARun.nil ?_
              exact hQ.out
            refine E.mono (fun Q h => AWp.seq h) ?_
            obtain ⟨_, k9, ⟨rfl, hk9⟩, hl9⟩ := l51pick b (q8) (24) (by first | assumption | omega | decide | (simp only [List.length_append, List.length_cons, List.length_nil, List.length_take, List.length_drop]; omega)) (by first | assumption | omega | decide | (simp only [List.length_append, List.length_cons, List.length_nil, List.length_take, List.length_drop]; omega)) (by first | assumption | omega | decide | (simp only [List.length_append, List.length_cons, List.length_nil, List.length_take, List.length_drop]; omega)) (by first | assumption | omega | decide | (simp only [List.length_append, List.length_cons, List.length_nil, List.length_take, List.length_drop]; omega))
            apply E.reg
            · intro Q hQ
              refine AWp.seq (AWp.region ?_)
              refine ARun.step rfl (step_moveV rfl (hn rfl) rfl rfl) ?_
              refine ARun.step rfl (call_stepLZ rfl (hn rfl) rfl yqCo102 rfl rfl rfl rfl (.cons rfl (.one (.v _)) (.nil)) hl9 rfl rfl) ?_
              refine ARun.nil ?_
              exact hQ.out
            refine E.mono (fun Q h => AWp.block h) ?_
            apply E.reg
            · intro Q hQ
              refine AWp.seq (AWp.region ?_)
              refine ARun.step rfl (step_eql rfl (hn rfl) rfl rfl rfl) ?_
              refine ARun.step rfl (step_assignV rfl (hn rfl) rfl rfl) ?_
              refine ARun.nil ?_
              exact hQ.out
            refine E.cond rfl (fun c5 => ?_) (fun c5 => ?_)
            · try simp only [nrm] at c5
              obtain ⟨_, s10, ⟨rfl, hk10⟩, hl10⟩ := l51of b (q8 + 1) ([⟨#[]⟩, ⟨#[97]⟩, ⟨#[122, 122]⟩, ⟨#[116, 117, 110]⟩]) (by first | assumption | omega | decide | (simp only [List.length_append, List.length_cons, List.length_nil, List.length_take, List.length_drop]; omega)) (by first | assumption | omega | decide | (simp only [List.length_append, List.length_cons, List.length_nil, List.length_take, List.length_drop]; omega)) (by first | assumption | omega | decide | (simp only [List.length_append, List.length_cons, List.length_nil, List.length_take, List.length_drop]; omega)) (by first | assumption | omega | decide | (simp only [List.length_append, List.length_cons, List.length_nil, List.length_take, List.length_drop]; omega))
              apply E.reg
              · intro Q hQ
                refine AWp.drawM [⟨⟨[.s 5, .b 5], [.s 80], false⟩, none, []⟩, ⟨⟨[.s 80, .b 5], [.s 81], false⟩, none, []⟩, ⟨⟨[.s 0], [.s 82], false⟩, none, []⟩, ⟨⟨[], [.s 83], false⟩, none, []⟩, ⟨⟨[.s 83, .s 82, .a 1000000 0], [.s 84, .a 1000000 0], false⟩, none, []⟩, ⟨⟨[.s 84], [.s 85], false⟩, none, []⟩, ⟨⟨[], [], true⟩, none, []⟩, ⟨⟨[], [], true⟩, none, []⟩, ⟨⟨[], [], true⟩, none, []⟩] yqMo rfl rfl (Le.forgetR (n := 95) (sl := [(0, _), (3, _), (4, _), (5, _), (7, _), (47, _), (52, _), (66, _), (67, _), (68, _), (69, _), (70, _), (71, _), (72, _), (76, _), (77, _), (78, _), (79, _)]) (bl := [(3, _), (4, _), (5, _)]) (al := [(71, 0, _), (1000000, 0, _)]) rfl ⟨rfl, rfl, rfl, rfl, rfl, rfl, rfl, rfl, rfl, rfl, rfl, rfl, rfl, rfl, rfl, rfl, rfl, rfl, trivial⟩ ⟨rfl, rfl, rfl, trivial⟩ ⟨.refl _, .refl _, trivial⟩) rfl ?_
                refine FRun.slot rfl (fun τ hN hr => step_field_b rfl (rdN hN (hn rfl)) rfl yqFo135_2 (by exact rdS hr rfl rfl) (by exact rdBne hr rfl (by exact List.cons_ne_nil _ _))) (by exact rfl) ?_
                refine FRun.slot rfl (fun τ hN hr => step_load_b rfl (rdN hN (hn rfl)) rfl yqSc22 (by exact rdS hr rfl rfl) (by exact rdBget hr rfl rfl)) (by exact rfl) ?_
                refine FRun.slot rfl (fun τ hN hr => step_moveV rfl (rdN hN (hn rfl)) rfl (by exact rdS hr rfl rfl)) (by exact rfl) ?_
                refine FRun.slot rfl (fun τ hN hr => step_buildVT rfl (rdN hN (hn rfl)) rfl yqSl22 (strs [⟨#[]⟩, ⟨#[97]⟩, ⟨#[122, 122]⟩, ⟨#[116, 117, 110]⟩]) (by exact .cons rfl rfl rfl rfl (.cons rfl rfl rfl rfl (.cons rfl rfl rfl rfl (.cons rfl rfl rfl rfl (.nil _))))) (by exact rfl) (by exact rfl) (by exact rfl) (by exact (rowsE ⟨rfl, rfl, rfl, rfl, trivial⟩))) (by exact rfl) ?_
                refine FRun.lent rfl (fun τ hN hr => call_stepLZ rfl (rdN hN (hn rfl)) rfl yqCo103 (by exact rdS hr rfl rfl) (by exact rdA hr rfl rfl) rfl rfl (.cons (by exact rdS hr rfl rfl) (.one (.v _)) (.nil)) hl10 rfl (by exact rdNoRefs hr rfl rfl)) (by exact rfl) ?_
                refine FRun.slot rfl (fun τ hN hr => step_buildVT rfl (rdN hN (hn rfl)) rfl yqSl22 (strs [(s10)]) ((by exact .cons (by exact rdS hr rfl rfl) rfl rfl rfl (.nil _))) (by exact rfl) (by exact rfl) (by exact rfl) (by exact (rows1 rfl))) (by exact rfl) ?_
                refine FRun.whole rfl (step_append_strs rfl (hn rfl) rfl yqSl22 rfl rfl rfl (.v _) (by first | omega | (simp only [List.length_cons, List.length_nil, List.length_append, List.length_take, List.length_drop]; omega)) (by first | omega | (simp only [List.length_cons, List.length_nil, List.length_append, List.length_take, List.length_drop]; omega))) (by exact rfl) ?_
                refine FRun.whole rfl (step_field_b rfl (hn rfl) rfl yqFo135_2 rfl (by exact List.cons_ne_nil _ _)) (by exact rfl) ?_
                refine FRun.whole rfl (step_store_r rfl rfl yqCs22 rfl rfl rfl rfl rfl rfl rfl) (by exact rfl) ?_
                refine FRun.nil ?_
                exact hQ.out
              apply E.reg
              · intro Q hQ
                refine AWp.seq (AWp.region ?_)
                refine ARun.step rfl (step_loadS_b rfl (hn rfl) rfl yqSt135 rfl rfl rfl (by decide)) ?_
                refine ARun.step rfl (step_store_r rfl rfl yqCs135 rfl rfl rfl rfl rfl rfl rfl) ?_
                refine ARun.nil ?_
                exact hQ.out
              refine E.mono (fun Q h => AWp.le (Le.letGo 71 0 (g := _) rfl (fun _ _ => rfl)) h) ?_
              refine E.mono (fun Q h => AWp.ret h) ?_
              apply E.ret (i := (_, Do.mk _ _ _))
              · refine ⟨.inr rfl, ⟨4, 3, _, _, _, yqSt135, by decide, rfl, rfl, rfl, rfl, (.cons rfl (.agg (.cons (.sc _ _ rfl) (.cons (.sc _ _ rfl) (.cons (.frz _ _ _ _ _) (.nil _))))) (.nil _)), rfl, ?_⟩, (.refl _)⟩
                refine congrArg PV.agg ?_
                rfl
              · try dsimp only
                all_goals (refine ⟨by omega, by omega, by decide, by decide, ?_⟩)
                all_goals (try simp only [List.length_append, List.length_cons, List.length_nil])
                all_goals (omega)
            · try simp only [nrm] at c5
              apply E.reg
              · intro Q hQ
                refine AWp.seq (AWp.region ?_)
                refine ARun.step rfl (step_eql rfl (hn rfl) rfl rfl rfl) ?_
                refine ARun.step rfl (step_assignV rfl (hn rfl) rfl rfl) ?_
                refine ARun.nil ?_
                exact hQ.out
              refine E.cond rfl (fun c6 => ?_) (fun c6 => ?_)
              · try simp only [nrm] at c6
                obtain ⟨_, s11, ⟨rfl, hk11⟩, hl11⟩ := l51of b (q8 + 1) ([⟨#[]⟩, ⟨#[65]⟩, ⟨#[122, 122]⟩]) (by first | assumption | omega | decide | (simp only [List.length_append, List.length_cons, List.length_nil, List.length_take, List.length_drop]; omega)) (by first | assumption | omega | decide | (simp only [List.length_append, List.length_cons, List.length_nil, List.length_take, List.length_drop]; omega)) (by first | assumption | omega | decide | (simp only [List.length_append, List.length_cons, List.length_nil, List.length_take, List.length_drop]; omega)) (by first | assumption | omega | decide | (simp only [List.length_append, List.length_cons, List.length_nil, List.length_take, List.length_drop]; omega))
                apply E.reg
                · intro Q hQ
                  refine AWp.region ?_
                  refine ARun.step rfl (step_moveV rfl (hn rfl) rfl rfl) ?_
                  refine ARun.step rfl (step_buildVT rfl (hn rfl) rfl yqSl22 (strs [⟨#[]⟩, ⟨#[65]⟩, ⟨#[122, 122]⟩]) (.cons rfl rfl rfl rfl (.cons rfl rfl rfl rfl (.cons rfl rfl rfl rfl (.nil _)))) rfl rfl rfl (rowsE ⟨rfl, rfl, rfl, trivial⟩)) ?_
                  refine ARun.step rfl (call_stepLZ rfl (hn rfl) rfl yqCo103 rfl rfl rfl rfl (.cons rfl (.one (.v _)) (.nil)) hl11 rfl rfl) ?_
                  refine ARun.step rfl (step_field_b rfl (hn rfl) rfl yqFo135_1 rfl (by exact List.cons_ne_nil _ _)) ?_
                  refine ARun.step rfl (step_store_p (bs := [_, _, _]) rfl rfl yqCs9 rfl rfl rfl rfl rfl rfl rfl) ?_
                  refine ARun.nil ?_
                  exact hQ.out
                apply E.reg
                · intro Q hQ
                  refine AWp.seq (AWp.region ?_)
                  refine ARun.step rfl (step_loadS_b rfl (hn rfl) rfl yqSt135 rfl rfl rfl (by decide)) ?_
                  refine ARun.step rfl (step_store_r rfl rfl yqCs135 rfl rfl rfl rfl rfl rfl rfl) ?_
                  refine ARun.nil ?_
                  exact hQ.out
                refine E.mono (fun Q h => AWp.le (Le.letGo 71 0 (g := _) rfl (fun _ _ => rfl)) h) ?_
                refine E.mono (fun Q h => AWp.ret h) ?_
                apply E.ret (i := (_, Do.mk _ _ _))
                · refine ⟨.inr rfl, ⟨4, 3, _, _, _, yqSt135, by decide, rfl, rfl, rfl, rfl, (.cons rfl (.agg (.cons (.sc _ _ rfl) (.cons (.sc _ _ rfl) (.cons (.frz _ _ _ _ _) (.nil _))))) (.nil _)), rfl, ?_⟩, (.refl _)⟩
                  refine congrArg PV.agg ?_
                  rfl
                · try dsimp only
                  all_goals (refine ⟨by omega, by omega, by decide, by decide, ?_⟩)
                  all_goals (try simp only [List.length_append, List.length_cons, List.length_nil])
                  all_goals (omega)
              · try simp only [nrm] at c6
                refine E.mono (fun Q h => AWp.skip h) ?_
                apply E.reg
                · intro Q hQ
                  refine AWp.seq (AWp.region ?_)
                  refine ARun.step rfl (step_loadS_b rfl (hn rfl) rfl yqSt135 rfl rfl rfl (by decide)) ?_
                  refine ARun.step rfl (step_store_r rfl rfl yqCs135 rfl rfl rfl rfl rfl rfl rfl) ?_
                  refine ARun.nil ?_
                  exact hQ.out
                refine E.mono (fun Q h => AWp.le (Le.letGo 71 0 (g := _) rfl (fun _ _ => rfl)) h) ?_
                refine E.mono (fun Q h => AWp.ret h) ?_
                apply E.ret (i := (_, Do.mk _ _ _))
                · refine ⟨.inr rfl, ⟨4, 3, _, _, _, yqSt135, by decide, rfl, rfl, rfl, rfl, (.cons rfl (.agg (.cons (.sc _ _ rfl) (.cons (.sc _ _ rfl) (.cons (.frz _ _ _ _ _) (.nil _))))) (.nil _)), rfl, ?_⟩, (.refl _)⟩
                  refine congrArg PV.agg ?_
                  rfl
                · try dsimp only
                  all_goals (refine ⟨by omega, by omega, by decide, by decide, ?_⟩)
                  all_goals (try simp only [List.length_append, List.length_cons, List.length_nil])
                  all_goals (omega)
          · try simp only [nrm] at c4
            apply E.reg
            · intro Q hQ
              refine AWp.seq (AWp.region ?_)
              refine ARun.step rfl (step_eql rfl (hn rfl) rfl rfl rfl) ?_
              refine ARun.step rfl (step_assignV rfl (hn rfl) rfl rfl) ?_
              refine ARun.nil ?_
              exact hQ.out
            refine E.cond rfl (fun c7 => ?_) (fun c7 => ?_)
            · try simp only [nrm] at c7
              apply E.reg
              · intro Q hQ
                refine AWp.region ?_
                refine ARun.step rfl (step_field_b rfl (hn rfl) rfl yqFo135_0 rfl (by exact List.cons_ne_nil _ _)) ?_
                refine ARun.step rfl (step_store_p (bs := [_, _, _]) rfl rfl yqCs3 rfl rfl rfl rfl rfl rfl rfl) ?_
                refine ARun.nil ?_
                exact hQ.out
              refine E.mono (fun Q h => AWp.seq h) ?_
              obtain ⟨_, k12, ⟨rfl, hk12⟩, hl12⟩ := l51pick b (x.2 + 1) (24) (by first | assumption | omega | decide | (simp only [List.length_append, List.length_cons, List.length_nil, List.length_take, List.length_drop]; omega)) (by first | assumption | omega | decide | (simp only [List.length_append, List.length_cons, List.length_nil, List.length_take, List.length_drop]; omega)) (by first | assumption | omega | decide | (simp only [List.length_append, List.length_cons, List.length_nil, List.length_take, List.length_drop]; omega)) (by first | assumption | omega | decide | (simp only [List.length_append, List.length_cons, List.length_nil, List.length_take, List.length_drop]; omega))
              apply E.reg
              · intro Q hQ
                refine AWp.seq (AWp.region ?_)
                refine ARun.step rfl (step_moveV rfl (hn rfl) rfl rfl) ?_
                refine ARun.step rfl (call_stepLZ rfl (hn rfl) rfl yqCo102 rfl rfl rfl rfl (.cons rfl (.one (.v _)) (.nil)) hl12 rfl rfl) ?_
                refine ARun.nil ?_
                exact hQ.out
              refine E.mono (fun Q h => AWp.block h) ?_
              apply E.reg
              · intro Q hQ
                refine AWp.seq (AWp.region ?_)
                refine ARun.step rfl (step_eql rfl (hn rfl) rfl rfl rfl) ?_
                refine ARun.step rfl (step_assignV rfl (hn rfl) rfl rfl) ?_
                refine ARun.nil ?_
                exact hQ.out
              refine E.cond rfl (fun c8 => ?_) (fun c8 => ?_)
              · try simp only [nrm] at c8
                obtain ⟨_, s13, ⟨rfl, hk13⟩, hl13⟩ := l51of b (x.2 + 1 + 1) ([⟨#[]⟩, ⟨#[97]⟩, ⟨#[122, 122]⟩, ⟨#[116, 117, 110]⟩]) (by first | assumption | omega | decide | (simp only [List.length_append, List.length_cons, List.length_nil, List.length_take, List.length_drop]; omega)) (by first | assumption | omega | decide | (simp only [List.length_append, List.length_cons, List.length_nil, List.length_take, List.length_drop]; omega)) (by first | assumption | omega | decide | (simp only [List.length_append, List.length_cons, List.length_nil, List.length_take, List.length_drop]; omega)) (by first | assumption | omega | decide | (simp only [List.length_append, List.length_cons, List.length_nil, List.length_take, List.length_drop]; omega))
                apply E.reg
                · intro Q hQ
                  refine AWp.drawM [⟨⟨[.s 5, .b 5], [.s 80], false⟩, none, []⟩, ⟨⟨[.s 80, .b 5], [.s 81], false⟩, none, []⟩, ⟨⟨[.s 0], [.s 82], false⟩, none, []⟩, ⟨⟨[], [.s 83], false⟩, none, []⟩, ⟨⟨[.s 83, .s 82, .a 1000000 0], [.s 84, .a 1000000 0], false⟩, none, []⟩, ⟨⟨[.s 84], [.s 85], false⟩, none, []⟩, ⟨⟨[], [], true⟩, none, []⟩, ⟨⟨[], [], true⟩, none, []⟩, ⟨⟨[], [], true⟩, none, []⟩] yqMo rfl rfl (Le.forgetR (n := 95) (sl := [(0, _), (3, _), (4, _), (5, _), (7, _), (47, _), (52, _), (66, _), (67, _), (73, _), (74, _), (75, _), (76, _), (77, _), (78, _), (79, _)]) (bl := [(3, _), (4, _), (5, _)]) (al := [(1000000, 0, _)]) rfl ⟨rfl, rfl, rfl, rfl, rfl, rfl, rfl, rfl, rfl, rfl, rfl, rfl, rfl, rfl, rfl, rfl, trivial⟩ ⟨rfl, rfl, rfl, trivial⟩ ⟨.refl _, trivial⟩) rfl ?_
                  refine FRun.slot rfl (fun τ hN hr => step_field_b rfl (rdN hN (hn rfl)) rfl yqFo135_2 (by exact rdS hr rfl rfl) (by exact rdBne hr rfl (by exact List.cons_ne_nil _ _))) (by exact rfl) ?_
                  refine FRun.slot rfl (fun τ hN hr => step_load_b rfl (rdN hN (hn rfl)) rfl yqSc22 (by exact rdS hr rfl rfl) (by exact rdBget hr rfl rfl)) (by exact rfl) ?_
                  refine FRun.slot rfl (fun τ hN hr => step_moveV rfl (rdN hN (hn rfl)) rfl (by exact rdS hr rfl rfl)) (by exact rfl) ?_
                  refine FRun.slot rfl (fun τ hN hr => step_buildVT rfl (rdN hN (hn rfl)) rfl yqSl22 (strs [⟨#[]⟩, ⟨#[97]⟩, ⟨#[122, 122]⟩, ⟨#[116, 117, 110]⟩]) (by exact .cons rfl rfl rfl rfl (.cons rfl rfl rfl rfl (.cons rfl rfl rfl rfl (.cons rfl rfl rfl rfl (.nil _))))) (by exact rfl) (by exact rfl) (by exact rfl) (by exact (rowsE ⟨rfl, rfl, rfl, rfl, trivial⟩))) (by exact rfl) ?_
                  refine FRun.lent rfl (fun τ hN hr => call_stepLZ rfl (rdN hN (hn rfl)) rfl yqCo103 (by exact rdS hr rfl rfl) (by exact rdA hr rfl rfl) rfl rfl (.cons (by exact rdS hr rfl rfl) (.one (.v _)) (.nil)) hl13 rfl (by exact rdNoRefs hr rfl rfl)) (by exact rfl) ?_
                  refine FRun.slot rfl (fun τ hN hr => step_buildVT rfl (rdN hN (hn rfl)) rfl yqSl22 (strs [(s13)]) ((by exact .cons (by exact rdS hr rfl rfl) rfl rfl rfl (.nil _))) (by exact rfl) (by exact rfl) (by exact rfl) (by exact (rows1 rfl))) (by exact rfl) ?_
                  refine FRun.whole rfl (step_appendNil rfl (hn rfl) rfl yqSl22 rfl rfl (.v _) (fun _ _ => rfl) (by first | omega | (simp only [List.length_cons, List.length_nil]; omega)) (by first | omega | (simp only [List.length_cons, List.length_nil]; omega))) (by exact rfl) ?_
                  refine FRun.whole rfl (step_field_b rfl (hn rfl) rfl yqFo135_2 rfl (by exact List.cons_ne_nil _ _)) (by exact rfl) ?_
                  refine FRun.whole rfl (step_store_r rfl rfl yqCs22 rfl rfl rfl rfl rfl rfl rfl) (by exact rfl) ?_
                  refine FRun.nil ?_
                  exact hQ.out
                apply E.reg
                · intro Q hQ
                  refine AWp.seq (AWp.region ?_)
                  refine ARun.step rfl (step_loadS_b rfl (hn rfl) rfl yqSt135 rfl rfl rfl (by decide)) ?_
                  refine ARun.step rfl (step_store_r rfl rfl yqCs135 rfl rfl rfl rfl rfl rfl rfl) ?_
                  refine ARun.nil ?_
                  exact hQ.out
                refine E.mono (fun Q h => AWp.le (Le.letGo 86 0 (g := _) rfl (fun _ _ => rfl)) h) ?_
                refine E.mono (fun Q h => AWp.ret h) ?_
                apply E.ret (i := (_, Do.mk _ _ _))
                · refine ⟨.inr rfl, ⟨4, 3, _, _, _, yqSt135, by decide, rfl, rfl, rfl, rfl, (.cons rfl (.agg (.cons (.sc _ _ rfl) (.cons (.sc _ _ rfl) (.cons (.frz _ _ _ _ _) (.nil _))))) (.nil _)), rfl, ?_⟩, (.refl _)⟩
                  refine congrArg PV.agg ?_
                  rfl
                · try dsimp only
                  all_goals (refine ⟨by omega, by omega, by decide, by decide, ?_⟩)
                  all_goals (try simp only [List.length_append, List.length_cons, List.length_nil])
                  all_goals (omega)
              · try simp only [nrm] at c8
                apply E.reg
                · intro Q hQ
                  refine AWp.seq (AWp.region ?_)
                  refine ARun.step rfl (step_eql rfl (hn rfl) rfl rfl rfl) ?_
                  refine ARun.step rfl (step_assignV rfl (hn rfl) rfl rfl) ?_
                  refine ARun.nil ?_
                  exact hQ.out
                refine E.cond rfl (fun c9 => ?_) (fun c9 => ?_)
                · try simp only [nrm] at c9
                  obtain ⟨_, s14, ⟨rfl, hk14⟩, hl14⟩ := l51of b (x.2 + 1 + 1) ([⟨#[]⟩, ⟨#[65]⟩, ⟨#[122, 122]⟩]) (by first | assumption | omega | decide | (simp only [List.length_append, List.length_cons, List.length_nil, List.length_take, List.length_drop]; omega)) (by first | assumption | omega | decide | (simp only [List.length_append, List.length_cons, List.length_nil, List.length_take, List.length_drop]; omega)) (by first | assumption | omega | decide | (simp only [List.length_append, List.length_cons, List.length_nil, List.length_take, List.length_drop]; omega)) (by first | assumption | omega | decide | (simp only [List.length_append, List.length_cons, List.length_nil, List.length_take, List.length_drop]; omega))
                  apply E.reg
                  · intro Q hQ
                    refine AWp.region ?_
                    refine ARun.step rfl (step_moveV rfl (hn rfl) rfl rfl) ?_
                    refine ARun.step rfl (step_buildVT rfl (hn rfl) rfl yqSl22 (strs [⟨#[]⟩, ⟨#[65]⟩, ⟨#[122, 122]⟩]) (.cons rfl rfl rfl rfl (.cons rfl rfl rfl rfl (.cons rfl rfl rfl rfl (.nil _)))) rfl rfl rfl (rowsE ⟨rfl, rfl, rfl, trivial⟩)) ?_
                    refine ARun.step rfl (call_stepLZ rfl (hn rfl) rfl yqCo103 rfl rfl rfl rfl (.cons rfl (.one (.v _)) (.nil)) hl14 rfl rfl) ?_
                    refine ARun.step rfl (step_field_b rfl (hn rfl) rfl yqFo135_1 rfl (by exact List.cons_ne_nil _ _)) ?_
                    refine ARun.step rfl (step_store_p (bs := [_, _, _]) rfl rfl yqCs9 rfl rfl rfl rfl rfl rfl rfl) ?_
                    refine ARun.nil ?_
                    exact hQ.out
                  apply E.reg
                  · intro Q hQ
                    refine AWp.seq (AWp.region ?_)
                    refine ARun.step rfl (step_loadS_b rfl (hn rfl) rfl yqSt135 rfl rfl rfl (by decide)) ?_
                    refine ARun.step rfl (step_store_p (bs := [_, _, _]) rfl rfl yqCs135 rfl rfl rfl rfl rfl rfl rfl) ?_
                    refine ARun.nil ?_
                    exact hQ.out
                  refine E.mono (fun Q h => AWp.le (Le.reBox 4 rfl (.cons (.refl _) (.cons (.refl _) (.cons (.sl 9 1 (fun i => [.str (nth [] i)])) .nil)))) h) ?_
                  refine E.mono (fun Q h => AWp.ret h) ?_
                  apply E.ret (i := (_, Do.mk _ _ []))
                  · refine ⟨.inr rfl, ⟨4, 3, _, _, _, yqSt135, by decide, rfl, rfl, rfl, rfl, (.cons rfl (.agg (.cons (.sc _ _ rfl) (.cons (.sc _ _ rfl) (.cons (.frz _ _ _ _ _) (.nil _))))) (.nil _)), rfl, ?_⟩, (.refl _)⟩
                    refine congrArg PV.agg ?_
                    rfl
                  · try dsimp only
                    all_goals (refine ⟨by omega, by omega, by decide, by decide, ?_⟩)
                    all_goals (try simp only [List.length_append, List.length_cons, List.length_nil])
                    all_goals (omega)
                · try simp only [nrm] at c9
                  refine E.mono (fun Q h => AWp.skip h) ?_
                  apply E.reg
                  · intro Q hQ
                    refine AWp.seq (AWp.region ?_)
                    refine ARun.step rfl (step_loadS_b rfl (hn rfl) rfl yqSt135 rfl rfl rfl (by decide)) ?_
                    refine ARun.step rfl (step_store_p (bs := [_, _, _]) rfl rfl yqCs135 rfl rfl rfl rfl rfl rfl rfl) ?_
                    refine ARun.nil ?_
                    exact hQ.out
                  refine E.mono (fun Q h => AWp.le (Le.reBox 4 rfl (.cons (.refl _) (.cons (.refl _) (.cons (.sl 9 1 (fun i => [.str (nth [] i)])) .nil)))) h) ?_
                  refine E.mono (fun Q h => AWp.ret h) ?_
                  apply E.ret (i := (_, Do.mk _ _ []))
                  · refine ⟨.inr rfl, ⟨4, 3, _, _, _, yqSt135, by decide, rfl, rfl, rfl, rfl, (.cons rfl (.agg (.cons (.sc _ _ rfl) (.cons (.sc _ _ rfl) (.cons (.frz _ _ _ _ _) (.nil _))))) (.nil _)), rfl, ?_⟩, (.refl _)⟩
                    refine congrArg PV.agg ?_
                    rfl
                  · try dsimp only
                    all_goals (refine ⟨by omega, by omega, by decide, by decide, ?_⟩)
                    all_goals (try simp only [List.length_append, List.length_cons, List.length_nil])
                    all_goals (omega)
            · try simp only [nrm] at c7
              obtain ⟨q15, x15, ⟨hqa15, hqb15, hsub15, hsl15⟩, hl15⟩ := l55Some b (x.2 + 1) (y) (2) (by first | assumption | omega | decide | (simp only [List.length_append, List.length_cons, List.length_nil, List.length_take, List.length_drop]; omega)) (by first | assumption | omega | decide | (simp only [List.length_append, List.length_cons, List.length_nil, List.length_take, List.length_drop]; omega)) (by first | assumption | omega | decide | (simp only [List.length_append, List.length_cons, List.length_nil, List.length_take, List.length_drop]; omega)) (by first | assumption | omega | decide | (simp only [List.length_append, List.length_cons, List.length_nil, List.length_take, List.length_drop]; omega)) (by first | assumption | omega | decide | (simp only [List.length_append, List.length_cons, List.length_nil, List.length_take, List.length_drop]; omega))
              apply E.reg
              · intro Q hQ
                refine AWp.region ?_
                refine ARun.step rfl (step_moveV rfl (hn rfl) rfl rfl) ?_
                refine ARun.step rfl (step_moveV rfl (hn rfl) rfl rfl) ?_
                refine ARun.step rfl (call_stepL rfl (hn rfl) rfl yqCo108 rfl rfl rfl rfl rfl (.cons rfl (.one (.v _)) (.cons rfl (.one (.v _)) (.nil))) (hl15) rfl rfl) ?_
                refine ARun.step rfl (step_field_b rfl (hn rfl) rfl yqFo135_2 rfl (by exact List.cons_ne_nil _ _)) ?_
                refine ARun.step rfl (step_store_r rfl rfl yqCs22 rfl rfl rfl rfl rfl rfl rfl) ?_
                refine ARun.nil ?_
                exact hQ.out
              refine E.mono (fun Q h => AWp.seq h) ?_
              obtain ⟨_, k16, ⟨rfl, hk16⟩, hl16⟩ := l51pick b (q15) (24) (by first | assumption | omega | decide | (simp only [List.length_append, List.length_cons, List.length_nil, List.length_take, List.length_drop]; omega)) (by first | assumption | omega | decide | (simp only [List.length_append, List.length_cons, List.length_nil, List.length_take, List.length_drop]; omega)) (by first | assumption | omega | decide | (simp only [List.length_append, List.length_cons, List.length_nil, List.length_take, List.length_drop]; omega)) (by first | assumption | omega | decide | (simp only [List.length_append, List.length_cons, List.length_nil, List.length_take, List.length_drop]; omega))
              apply E.reg
              · intro Q hQ
                refine AWp.seq (AWp.region ?_)
                refine ARun.step rfl (step_moveV rfl (hn rfl) rfl rfl) ?_
                refine ARun.step rfl (call_stepLZ rfl (hn rfl) rfl yqCo102 rfl rfl rfl rfl (.cons rfl (.one (.v _)) (.nil)) hl16 rfl rfl) ?_
                refine ARun.nil ?_
                exact hQ.out
              refine E.mono (fun Q h => AWp.block h) ?_
              apply E.reg
              · intro Q hQ
                refine AWp.seq (AWp.region ?_)
                refine ARun.step rfl (step_eql rfl (hn rfl) rfl rfl rfl) ?_
                refine ARun.step rfl (step_assignV rfl (hn rfl) rfl rfl) ?_
                refine ARun.nil ?_
                exact hQ.out
              refine E.cond rfl (fun c10 => ?_) (fun c10 => ?_)
              · try simp only [nrm] at c10
                obtain ⟨_, s17, ⟨rfl, hk17⟩, hl17⟩ := l51of b (q15 + 1) ([⟨#[]⟩, ⟨#[97]⟩, ⟨#[122, 122]⟩, ⟨#[116, 117, 110]⟩]) (by first | assumption | omega | decide | (simp only [List.length_append, List.length_cons, List.length_nil, List.length_take, List.length_drop]; omega)) (by first | assumption | omega | decide | (simp only [List.length_append, List.length_cons, List.length_nil, List.length_take, List.length_drop]; omega)) (by first | assumption | omega | decide | (simp only [List.length_append, List.length_cons, List.length_nil, List.length_take, List.length_drop]; omega)) (by first | assumption | omega | decide | (simp only [List.length_append, List.length_cons, List.length_nil, List.length_take, List.length_drop]; omega))
                apply E.reg
                · intro Q hQ
                  refine AWp.drawM [⟨⟨[.s 5, .b 5], [.s 80], false⟩, none, []⟩, ⟨⟨[.s 80, .b 5], [.s 81], false⟩, none, []⟩, ⟨⟨[.s 0], [.s 82], false⟩, none, []⟩, ⟨⟨[], [.s 83], false⟩, none, []⟩, ⟨⟨[.s 83, .s 82, .a 1000000 0], [.s 84, .a 1000000 0], false⟩, none, []⟩, ⟨⟨[.s 84], [.s 85], false⟩, none, []⟩, ⟨⟨[], [], true⟩, none, []⟩, ⟨⟨[], [], true⟩, none, []⟩, ⟨⟨[], [], true⟩, none, []⟩] yqMo rfl rfl (Le.forgetR (n := 95) (sl := [(0, _), (3, _), (4, _), (5, _), (7, _), (47, _), (48, _), (49, _), (50, _), (51, _), (52, _), (66, _), (67, _), (73, _), (74, _), (76, _), (77, _), (78, _), (79, _)]) (bl := [(3, _), (4, _), (5, _)]) (al := [(50, 0, _), (1000000, 0, _)]) rfl ⟨rfl, rfl, rfl, rfl, rfl, rfl, rfl, rfl, rfl, rfl, rfl, rfl, rfl, rfl, rfl, rfl, rfl, rfl, rfl, trivial⟩ ⟨rfl, rfl, rfl, trivial⟩ ⟨.refl _, .refl _, trivial⟩) rfl ?_
                  refine FRun.slot rfl (fun τ hN hr => step_field_b rfl (rdN hN (hn rfl)) rfl yqFo135_2 (by exact rdS hr rfl rfl) (by exact rdBne hr rfl (by exact List.cons_ne_nil _ _))) (by exact rfl) ?_
                  refine FRun.slot rfl (fun τ hN hr => step_load_b rfl (rdN hN (hn rfl)) rfl yqSc22 (by exact rdS hr rfl rfl) (by exact rdBget hr rfl rfl)) (by exact rfl) ?_
                  refine FRun.slot rfl (fun τ hN hr => step_moveV rfl (rdN hN (hn rfl)) rfl (by exact rdS hr rfl rfl)) (by exact rfl) ?_
                  refine FRun.slot rfl (fun τ hN hr => step_buildVT rfl (rdN hN (hn rfl)) rfl yqSl22 (strs [⟨#[]⟩, ⟨#[97]⟩, ⟨#[122, 122]⟩, ⟨#[116, 117, 110]⟩]) (by exact .cons rfl rfl rfl rfl (.cons rfl rfl rfl rfl (.cons rfl rfl rfl rfl (.cons rfl rfl rfl rfl (.nil _))))) (by exact rfl) (by exact rfl) (by exact rfl) (by exact (rowsE ⟨rfl, rfl, rfl, rfl, trivial⟩))) (by exact rfl) ?_
                  refine FRun.lent rfl (fun τ hN hr => call_stepLZ rfl (rdN hN (hn rfl)) rfl yqCo103 (by exact rdS hr rfl rfl) (by exact rdA hr rfl rfl) rfl rfl (.cons (by exact rdS hr rfl rfl) (.one (.v _)) (.nil)) hl17 rfl (by exact rdNoRefs hr rfl rfl)) (by exact rfl) ?_
                  refine FRun.slot rfl (fun τ hN hr => step_buildVT rfl (rdN hN (hn rfl)) rfl yqSl22 (strs [(s17)]) ((by exact .cons (by exact rdS hr rfl rfl) rfl rfl rfl (.nil _))) (by exact rfl) (by exact rfl) (by exact rfl) (by exact (rows1 rfl))) (by exact rfl) ?_
                  refine FRun.whole rfl (step_append_strs rfl (hn rfl) rfl yqSl22 rfl rfl rfl (.v _) (by first | omega | (simp only [List.length_cons, List.length_nil, List.length_append, List.length_take, List.length_drop]; omega)) (by first | omega | (simp only [List.length_cons, List.length_nil, List.length_append, List.length_take, List.length_drop]; omega))) (by exact rfl) ?_
                  refine FRun.whole rfl (step_field_b rfl (hn rfl) rfl yqFo135_2 rfl (by exact List.cons_ne_nil _ _)) (by exact rfl) ?_
                  refine FRun.whole rfl (step_store_r rfl rfl yqCs22 rfl rfl rfl rfl rfl rfl rfl) (by exact rfl) ?_
                  refine FRun.nil ?_
                  exact hQ.out
                apply E.reg
                · intro Q hQ
                  refine AWp.seq (AWp.region ?_)
                  refine ARun.step rfl (step_loadS_b rfl (hn rfl) rfl yqSt135 rfl rfl rfl (by decide)) ?_
                  refine ARun.step rfl (step_store_r rfl rfl yqCs135 rfl rfl rfl rfl rfl rfl rfl) ?_
                  refine ARun.nil ?_
                  exact hQ.out
                refine E.mono (fun Q h => AWp.le (Le.letGo 50 0 (g := _) rfl (fun _ _ => rfl)) h) ?_
                refine E.mono (fun Q h => AWp.ret h) ?_
                apply E.ret (i := (_, Do.mk _ _ _))
                · refine ⟨.inr rfl, ⟨4, 3, _, _, _, yqSt135, by decide, rfl, rfl, rfl, rfl, (.cons rfl (.agg (.cons (.sc _ _ rfl) (.cons (.sc _ _ rfl) (.cons (.frz _ _ _ _ _) (.nil _))))) (.nil _)), rfl, ?_⟩, (.refl _)⟩
                  refine congrArg PV.agg ?_
                  rfl
                · try dsimp only
                  all_goals (refine ⟨by omega, by omega, by decide, by decide, ?_⟩)
                  all_goals (try simp only [List.length_append, List.length_cons, List.length_nil])
                  all_goals (omega)
              · try simp only [nrm] at c10
                apply E.reg
                · intro Q hQ
                  refine AWp.seq (AWp.region ?_)
                  refine ARun.step rfl (step_eql rfl (hn rfl) rfl rfl rfl) ?_
                  refine ARun.step rfl (step_assignV rfl (hn rfl) rfl rfl) ?_
                  refine ARun.nil ?_
                  exact hQ.out
                refine E.cond rfl (fun c11 => ?_) (fun c11 => ?_)
                · try simp only [nrm] at c11
                  obtain ⟨_, s18, ⟨rfl, hk18⟩, hl18⟩ := l51of b (q15 + 1) ([⟨#[]⟩, ⟨#[65]⟩, ⟨#[122, 122]⟩]) (by first | assumption | omega | decide | (simp only [List.length_append, List.length_cons, List.length_nil, List.length_take, List.length_drop]; omega)) (by first | assumption | omega | decide | (simp only [List.length_append, List.length_cons, List.length_nil, List.length_take, List.length_drop]; omega)) (by first | assumption | omega | decide | (simp only [List.length_append, List.length_cons, List.length_nil, List.length_take, List.length_drop]; omega)) (by first | assumption | omega | decide | (simp only [List.length_append, List.length_cons, List.length_nil, List.length_take, List.length_drop]; omega))
                  apply E.reg
                  · intro Q hQ
                    refine AWp.region ?_
                    refine ARun.step rfl (step_moveV rfl (hn rfl) rfl rfl) ?_
                    refine ARun.step rfl (step_buildVT rfl (hn rfl) rfl yqSl22 (strs [⟨#[]⟩, ⟨#[65]⟩, ⟨#[122, 122]⟩]) (.cons rfl rfl rfl rfl (.cons rfl rfl rfl rfl (.cons rfl rfl rfl rfl (.nil _)))) rfl rfl rfl (rowsE ⟨rfl, rfl, rfl, trivial⟩)) ?_
                    refine ARun.step rfl (call_stepLZ rfl (hn rfl) rfl yqCo103 rfl rfl rfl rfl (.cons rfl (.one (.v _)) (.nil)) hl18 rfl rfl) ?_
                    refine ARun.step rfl (step_field_b rfl (hn rfl) rfl yqFo135_1 rfl (by exact List.cons_ne_nil _ _)) ?_
                    refine ARun.step rfl (step_store_p (bs := [_, _, _]) rfl rfl yqCs9 rfl rfl rfl rfl rfl rfl rfl) ?_
                    refine ARun.nil ?_
                    exact hQ.out
                  apply E.reg
                  · intro Q hQ
                    refine AWp.seq (AWp.region ?_)
                    refine ARun.step rfl (step_loadS_b rfl (hn rfl) rfl yqSt135 rfl rfl rfl (by decide)) ?_
                    refine ARun.step rfl (step_store_r rfl rfl yqCs135 rfl rfl rfl rfl rfl rfl rfl) ?_
                    refine ARun.nil ?_
                    exact hQ.out
                  refine E.mono (fun Q h => AWp.le (Le.letGo 50 0 (g := _) rfl (fun _ _ => rfl)) h) ?_
                  refine E.mono (fun Q h => AWp.ret h) ?_
                  apply E.ret (i := (_, Do.mk _ _ _))
                  · refine ⟨.inr rfl, ⟨4, 3, _, _, _, yqSt135, by decide, rfl, rfl, rfl, rfl, (.cons rfl (.agg (.cons (.sc _ _ rfl) (.cons (.sc _ _ rfl) (.cons (.frz _ _ _ _ _) (.nil _))))) (.nil _)), rfl, ?_⟩, (.refl _)⟩
                    refine congrArg PV.agg ?_
                    rfl
                  · try dsimp only
                    all_goals (refine ⟨by omega, by omega, by decide, by decide, ?_⟩)
                    all_goals (try simp only [List.length_append, List.length_cons, List.length_nil])
                    all_goals (omega)
                · try simp only [nrm] at c11
                  refine E.mono (fun Q h => AWp.skip h) ?_
                  apply E.reg
                  · intro Q hQ
                    refine AWp.seq (AWp.region ?_)
                    refine ARun.step rfl (step_loadS_b rfl (hn rfl) rfl yqSt135 rfl rfl rfl (by decide)) ?_
                    refine ARun.step rfl (step_store_r rfl rfl yqCs135 rfl rfl rfl rfl rfl rfl rfl) ?_
                    refine ARun.nil ?_
                    exact hQ.out
                  refine E.mono (fun Q h => AWp.le (Le.letGo 50 0 (g := _) rfl (fun _ _ => rfl)) h) ?_
                  refine E.mono (fun Q h => AWp.ret h) ?_
                  apply E.ret (i := (_, Do.mk _ _ _))
                  · refine ⟨.inr rfl, ⟨4, 3, _, _, _, yqSt135, by decide, rfl, rfl, rfl, rfl, (.cons rfl (.agg (.cons (.sc _ _ rfl) (.cons (.sc _ _ rfl) (.cons (.frz _ _ _ _ _) (.nil _))))) (.nil _)), rfl, ?_⟩, (.refl _)⟩
                    refine congrArg PV.agg ?_
                    rfl
                  · try dsimp only
                    all_goals (refine ⟨by omega, by omega, by decide, by decide, ?_⟩)
                    all_goals (try simp only [List.length_append, List.length_cons, List.length_nil])
                    all_goals (omega)
      · intro jh2
        apply E.reg
        · intro Q hQ
          refine AWp.seq (AWp.region ?_)
          refine ARun.step rfl (step_eql rfl (hn rfl) rfl rfl rfl) ?_
          refine ARun.step rfl (step_assignV rfl (hn rfl) rfl rfl) ?_
          refine ARun.nil ?_
          exact hQ.out
        refine E.cond rfl (fun c12 => ?_) (fun c12 => ?_)
        · try simp only [nrm] at c12
          refine E.mono (fun Q h => AWp.skip h) ?_
          refine jh2 (_) _ ?_ (Le.forgetR rfl ⟨rfl, rfl, rfl, rfl, rfl, rfl, rfl, trivial⟩ ⟨rfl, rfl, rfl, trivial⟩ ⟨.refl _, trivial⟩)
          try dsimp only
          try trivial
        · try simp only [nrm] at c12
          apply E.reg
          · intro Q hQ
            refine AWp.seq (AWp.region ?_)
            refine ARun.step rfl (step_eql rfl (hn rfl) rfl rfl rfl) ?_
            refine ARun.step rfl (step_assignV rfl (hn rfl) rfl rfl) ?_
            refine ARun.nil ?_
            exact hQ.out
          refine E.cond rfl (fun c13 => ?_) (fun c13 => ?_)
          · try simp only [nrm] at c13
            refine E.mono (fun Q h => AWp.skip h) ?_
            refine jh2 (_) _ ?_ (Le.forgetR rfl ⟨rfl, rfl, rfl, rfl, rfl, rfl, rfl, trivial⟩ ⟨rfl, rfl, rfl, trivial⟩ ⟨.refl _, trivial⟩)
            try dsimp only
            try trivial
          · try simp only [nrm] at c13
            apply E.reg
            · intro Q hQ
              refine AWp.region ?_
              refine ARun.step rfl (step_eql rfl (hn rfl) rfl rfl rfl) ?_
              refine ARun.step rfl (step_assignV rfl (hn rfl) rfl rfl) ?_
              refine ARun.nil ?_
              exact hQ.out
            refine jh2 (_) _ ?_ (Le.forgetR rfl ⟨rfl, rfl, rfl, rfl, rfl, rfl, rfl, trivial⟩ ⟨rfl, rfl, rfl, trivial⟩ ⟨.refl _, trivial⟩)
            try dsimp only
            try trivial
    · intro jh1
      apply E.reg
      · intro Q hQ
        refine AWp.seq (AWp.region ?_)
        refine ARun.step rfl (step_moveV rfl (hn rfl) rfl rfl) ?_
        refine ARun.step rfl (step_geq rfl (hn rfl) rfl rfl rfl) ?_
        refine ARun.nil ?_
        exact hQ.out
      refine E.cond rfl (fun c14 => ?_) (fun c14 => ?_)
      · try simp only [nrm] at c14
        apply E.reg
        · intro Q hQ
          refine AWp.region ?_
          refine ARun.step rfl (step_field_b rfl (hn rfl) rfl yqFo29_1 rfl (by exact List.cons_ne_nil _ _)) ?_
          refine ARun.step rfl (step_load_b rfl (hn rfl) rfl yqSc27 rfl rfl) ?_
          refine ARun.step rfl (step_moveV rfl (hn rfl) rfl rfl) ?_
          refine ARun.step rfl (step_index_f rfl (hn rfl) rfl yqSl27 rfl rfl (by first | omega | (simp only [List.length_cons, List.length_nil]; omega)) (by first | omega | (simp only [List.length_cons, List.length_nil]; omega))) ?_
          refine ARun.step rfl (step_field_f rfl (hn rfl) rfl yqFo48_2 rfl) ?_
          refine ARun.step rfl (step_load_f rfl (hn rfl) rfl yqSc22 rfl (hn rfl) rfl) ?_
          refine ARun.step rfl (step_assignV rfl (hn rfl) rfl rfl) ?_
          refine ARun.nil ?_
          exact hQ.out
        refine jh1 (_) _ ?_ (Le.forgetR rfl ⟨rfl, rfl, rfl, rfl, rfl, trivial⟩ ⟨rfl, rfl, rfl, trivial⟩ ⟨.refl _, trivial⟩)
        try dsimp only
        exact (hk.2.2 _ (nth_memA (by omega))).2
      · try simp only [nrm] at c14
        refine E.mono (fun Q h => AWp.skip h) ?_
        refine jh1 (_) _ ?_ (Le.forgetR rfl ⟨rfl, rfl, rfl, rfl, rfl, trivial⟩ ⟨rfl, rfl, rfl, trivial⟩ ⟨.refl _, trivial⟩)
        try dsimp only
        exact hk.1
  · intro jh0
    obtain ⟨q19, k19, ⟨ha19, hb19, hc19⟩, hl19, hz19⟩ := l51pick_if (0 < k.bs.length) b (p + 1) (8) (by first | assumption | omega | decide | (simp only [List.length_append, List.length_cons, List.length_nil, List.length_take, List.length_drop]; omega)) (by first | assumption | omega | decide | (simp only [List.length_append, List.length_cons, List.length_nil, List.length_take, List.length_drop]; omega)) (by first | assumption | omega | decide | (simp only [List.length_append, List.length_cons, List.length_nil, List.length_take, List.length_drop]; omega)) (by first | assumption | omega | decide | (simp only [List.length_append, List.length_cons, List.length_nil, List.length_take, List.length_drop]; omega))
    apply E.reg
    · intro Q hQ
      refine AWp.seq (AWp.region ?_)
      refine ARun.step rfl (step_field_b rfl (hn rfl) rfl yqFo29_1 rfl (by exact List.cons_ne_nil _ _)) ?_
      refine ARun.step rfl (step_load_b rfl (hn rfl) rfl yqSc27 rfl rfl) ?_
      refine ARun.step rfl (step_len_f rfl (hn rfl) rfl yqSl27 rfl) ?_
      refine ARun.step rfl (step_gtr rfl (hn rfl) rfl rfl rfl) ?_
      refine ARun.step rfl (step_moveV rfl (hn rfl) rfl rfl) ?_
      refine guardS rfl rfl rfl rfl (hn rfl) (fun g1 g2 => step_moveV rfl (hn rfl) rfl rfl) ?_
      refine guardL rfl rfl rfl rfl (hn rfl) (fun g1 g2 => call_stepLZ rfl (hn rfl) rfl yqCo102 (ev_true rfl (by exact flag2 g1 g2)) rfl rfl rfl (.cons rfl (.one (.v _)) (.nil)) (hl19 (by first | (have := of_decide_eq_true g2; omega) | simpa using g2)) rfl rfl) (fun h => by rw [hz19 (by intro hc; first | (simp only [nrm, Bool.true_and] at h; omega) | (simp [hc] at h; done))]; exact rfl) ?_
      refine guardS rfl rfl rfl rfl (hn rfl) (fun g1 g2 => step_gtr rfl (hn rfl) rfl (ev_true rfl (by exact flag2 g1 g2)) rfl) ?_
      refine ARun.step rfl (step_and rfl (hn rfl) rfl rfl rfl (fun h => (by exact flag1 h))) ?_
      refine ARun.nil ?_
      exact hQ.out
    refine E.cond rfl (fun c15 => ?_) (fun c15 => ?_)
    · try simp only [nrm] at c15
      obtain ⟨_, k20, ⟨rfl, hk20⟩, hl20⟩ := l51pick b (q19) ((k.bs).length) (by first | assumption | omega | decide | (simp only [List.length_append, List.length_cons, List.length_nil, List.length_take, List.length_drop]; omega)) (by first | assumption | omega | decide | (simp only [List.length_append, List.length_cons, List.length_nil, List.length_take, List.length_drop]; omega)) (by first | assumption | omega | decide | (simp only [List.length_append, List.length_cons, List.length_nil, List.length_take, List.length_drop]; omega)) (by first | assumption | omega | decide | (simp only [List.length_append, List.length_cons, List.length_nil, List.length_take, List.length_drop]; omega))
      apply E.reg
      · intro Q hQ
        refine AWp.drawM [⟨⟨[.s 3, .b 3], [.s 21], false⟩, none, []⟩, ⟨⟨[.s 21, .b 3], [.s 22], false⟩, none, []⟩, ⟨⟨[.s 0], [.s 23], false⟩, none, []⟩, ⟨⟨[.s 3, .b 3], [.s 24], false⟩, none, []⟩, ⟨⟨[.s 24, .b 3], [.s 25], false⟩, none, []⟩, ⟨⟨[.s 25], [.s 26], false⟩, none, []⟩, ⟨⟨[.s 26, .s 23, .a 1000000 0], [.s 27, .a 1000000 0], false⟩, none, []⟩, ⟨⟨[], [], true⟩, none, []⟩, ⟨⟨[], [], true⟩, none, []⟩, ⟨⟨[], [], true⟩, none, []⟩, ⟨⟨[], [], true⟩, none, []⟩, ⟨⟨[], [], true⟩, none, []⟩] yqMo rfl rfl (Le.forgetR (n := 95) (sl := [(0, _), (1, _), (3, _), (4, _), (5, _), (8, _), (9, _), (10, _), (11, _), (12, _), (13, _), (14, _), (15, _), (16, _), (20, _)]) (bl := [(3, _), (4, _), (5, _)]) (al := [(1000000, 0, _)]) rfl ⟨rfl, rfl, rfl, rfl, rfl, rfl, rfl, rfl, rfl, rfl, rfl, rfl, rfl, rfl, rfl, trivial⟩ ⟨rfl, rfl, rfl, trivial⟩ ⟨.refl _, trivial⟩) rfl ?_
        refine FRun.slot rfl (fun τ hN hr => step_field_b rfl (rdN hN (hn rfl)) rfl yqFo29_1 (by exact rdS hr rfl rfl) (by exact rdBne hr rfl (by exact List.cons_ne_nil _ _))) (by exact rfl) ?_
        refine FRun.slot rfl (fun τ hN hr => step_load_b rfl (rdN hN (hn rfl)) rfl yqSc27 (by exact rdS hr rfl rfl) (by exact rdBget hr rfl rfl)) (by exact rfl) ?_
        refine FRun.slot rfl (fun τ hN hr => step_moveV rfl (rdN hN (hn rfl)) rfl (by exact rdS hr rfl rfl)) (by exact rfl) ?_
        refine FRun.slot rfl (fun τ hN hr => step_field_b rfl (rdN hN (hn rfl)) rfl yqFo29_1 (by exact rdS hr rfl rfl) (by exact rdBne hr rfl (by exact List.cons_ne_nil _ _))) (by exact rfl) ?_
        refine FRun.slot rfl (fun τ hN hr => step_load_b rfl (rdN hN (hn rfl)) rfl yqSc27 (by exact rdS hr rfl rfl) (by exact rdBget hr rfl rfl)) (by exact rfl) ?_
        refine FRun.slot rfl (fun τ hN hr => step_len_f rfl (rdN hN (hn rfl)) rfl yqSl27 (by exact rdS hr rfl rfl)) (by exact rfl) ?_
        refine FRun.lent rfl (fun τ hN hr => call_stepLZ rfl (rdN hN (hn rfl)) rfl yqCo102 (by exact rdS hr rfl rfl) (by exact rdA hr rfl rfl) rfl rfl (.cons (by exact rdS hr rfl rfl) (.one (.v _)) (.nil)) hl20 rfl (by exact rdNoRefs hr rfl rfl)) (by exact rfl) ?_
        refine FRun.whole rfl (step_index_fN rfl (hn rfl) rfl yqSl27 rfl rfl (by first | omega | (simp only [List.length_cons, List.length_nil]; omega))) (by exact rfl) ?_
        refine FRun.whole rfl (step_field_f rfl (hn rfl) rfl yqFo48_0 rfl) (by exact rfl) ?_
        refine FRun.whole rfl (step_load_f rfl (hn rfl) rfl yqSc9 rfl (hn rfl) rfl) (by exact rfl) ?_
        refine FRun.whole rfl (step_field_b rfl (hn rfl) rfl yqFo135_1 rfl (by exact List.cons_ne_nil _ _)) (by exact rfl) ?_
        refine FRun.whole rfl (step_store_p (bs := [_, _, _]) rfl rfl yqCs9 rfl rfl rfl rfl rfl rfl rfl) (by exact rfl) ?_
        refine FRun.nil ?_
        exact hQ.out
      refine jh0 ((_, q19 + 1)) _ ?_ (Le.forgetR rfl ⟨rfl, rfl, rfl, rfl, trivial⟩ ⟨rfl, rfl, rfl, trivial⟩ ⟨.refl _, trivial⟩)
      try dsimp only
      exact ⟨by omega, by omega⟩
    · try simp only [nrm] at c15
      refine E.mono (fun Q h => AWp.skip h) ?_
      refine jh0 ((_, q19)) _ ?_ (Le.forgetR rfl ⟨rfl, rfl, rfl, rfl, trivial⟩ ⟨rfl, rfl, rfl, trivial⟩ ⟨.refl _, trivial⟩)
      try dsimp only
      exact ⟨by omega, by omega⟩
theorem l55Step (p : Bk) (d : Do) (hp : bkLe p 5) (hd : d.list.length ≤ 10) : ASpec Try.prog 169 [.agg (p.cells 48), .agg d.cells] (.agg ((stepB p d).zcells 48)) := by
  refine ASpec.bodyC Try.func169 rfl 4 29 [] rfl rfl 48 rfl rfl rfl ?_
  have hps := hp.small (by omega)
  refine AWp.seq (AWp.region ?_)
  refine ARun.step rfl (step_box_p (m := 1) rfl (hn rfl) rfl rfl rfl rfl rfl) ?_
  refine ARun.step rfl (step_box_p (m := 2) rfl (hn rfl) rfl rfl rfl rfl rfl) ?_
  refine ARun.step rfl (step_alloc_p rfl (hn rfl) rfl yqZs29) ?_
  refine ARun.nil ?_
  refine AWp.seq ?_
  refine AWp.seq (AWp.region ?_)
  refine ARun.step rfl (step_field_b rfl (hn rfl) rfl yqFo135_0 rfl (by exact List.cons_ne_nil _ _)) ?_
  refine ARun.step rfl (step_load_b rfl (hn rfl) rfl yqSc3 rfl rfl) ?_
  refine ARun.nil ?_
  refine AWp.block ?_
  refine AWp.seq (AWp.region ?_)
  refine ARun.step rfl (step_eql rfl (hn rfl) rfl rfl rfl) ?_
  refine ARun.step rfl (step_assignV rfl (hn rfl) rfl rfl) ?_
  refine ARun.nil ?_
  refine AWp.cond rfl (fun c1 => ?_) (fun c1 => ?_)
  · try simp only [nrm] at c1
    refine AWp.region ?_
    refine ARun.step rfl (step_loadS_b rfl (hn rfl) rfl yqSt29 rfl rfl rfl (by decide)) ?_
    refine ARun.step rfl (step_field_b rfl (hn rfl) rfl yqFo135_1 rfl (by exact List.cons_ne_nil _ _)) ?_
    refine ARun.step rfl (step_load_b rfl (hn rfl) rfl yqSc9 rfl rfl) ?_
    refine ARun.step rfl (step_field_b rfl (hn rfl) rfl yqFo135_2 rfl (by exact List.cons_ne_nil _ _)) ?_
    refine ARun.step rfl (step_load_b rfl (hn rfl) rfl yqSc22 rfl rfl) ?_
    refine ARun.step rfl (call_stepZ rfl (hn rfl) rfl yqCo19 (.cons rfl (.agg (.cons (.v _) (.cons (.v _) .nil))) (.cons rfl (.one (.v _)) (.cons rfl (.one (.v _)) (.nil)))) (enterSZ p d.name d.list hps (by omega)) rfl rfl) ?_
    refine ARun.step rfl (step_moveV rfl (hn rfl) rfl rfl) ?_
    refine ARun.step rfl (step_extract rfl (hn rfl) rfl rfl rfl (by intro l h; cases h)) ?_
    refine ARun.step rfl (step_extract rfl (hn rfl) rfl rfl rfl (by intro l h; cases h)) ?_
    refine ARun.step rfl (step_store_p rfl rfl yqCs29 rfl rfl rfl rfl rfl rfl rfl) ?_
    refine ARun.nil ?_
    refine AWp.seq (AWp.region ?_)
    refine ARun.step rfl (step_loadS_b rfl (hn rfl) rfl yqSt29 rfl rfl rfl (by decide)) ?_
    refine ARun.step rfl (step_store_p rfl rfl yqCs29 rfl rfl rfl rfl rfl rfl rfl) ?_
    refine ARun.nil ?_
    refine AWp.ret ?_
    refine ⟨.inr rfl, 4, 2, _, _, _, yqSt29, by decide, rfl, rfl, rfl, rfl, (.cons rfl (.agg (.cons (.frz _ _ _ _ _) (.cons (.frz _ _ _ _ _) (.nil _)))) (.nil _)), rfl, ?_⟩
    refine congrArg PV.agg ?_
    rw [stepB, if_pos c1]
    rfl
  · try simp only [nrm] at c1
    refine AWp.seq (AWp.region ?_)
    refine ARun.step rfl (step_eql rfl (hn rfl) rfl rfl rfl) ?_
    refine ARun.step rfl (step_assignV rfl (hn rfl) rfl rfl) ?_
    refine ARun.nil ?_
    refine AWp.cond rfl (fun c2 => ?_) (fun c2 => ?_)
    · try simp only [nrm] at c2
      refine AWp.region ?_
      refine ARun.step rfl (step_loadS_b rfl (hn rfl) rfl yqSt29 rfl rfl rfl (by decide)) ?_
      refine ARun.step rfl (step_field_b rfl (hn rfl) rfl yqFo135_1 rfl (by exact List.cons_ne_nil _ _)) ?_
      refine ARun.step rfl (step_load_b rfl (hn rfl) rfl yqSc9 rfl rfl) ?_
      refine ARun.step rfl (step_field_b rfl (hn rfl) rfl yqFo135_2 rfl (by exact List.cons_ne_nil _ _)) ?_
      refine ARun.step rfl (step_load_b rfl (hn rfl) rfl yqSc22 rfl rfl) ?_
      refine ARun.step rfl (call_stepZ rfl (hn rfl) rfl yqCo49 (.cons rfl (.agg (.cons (.v _) (.cons (.v _) .nil))) (.cons rfl (.one (.v _)) (.cons rfl (.one (.v _)) (.nil)))) (askSZ p d.name d.list hps (by omega)) rfl rfl) ?_
      refine ARun.step rfl (step_moveV rfl (hn rfl) rfl rfl) ?_
      refine ARun.step rfl (step_extract rfl (hn rfl) rfl rfl rfl (by intro l h; cases h)) ?_
      refine ARun.step rfl (step_extract rfl (hn rfl) rfl rfl rfl (by intro l h; cases h)) ?_
      refine ARun.step rfl (step_store_p rfl rfl yqCs29 rfl rfl rfl rfl rfl rfl rfl) ?_
      refine ARun.nil ?_
      refine AWp.seq (AWp.region ?_)
      refine ARun.step rfl (step_loadS_b rfl (hn rfl) rfl yqSt29 rfl rfl rfl (by decide)) ?_
      refine ARun.step rfl (step_store_p rfl rfl yqCs29 rfl rfl rfl rfl rfl rfl rfl) ?_
      refine ARun.nil ?_
      refine AWp.ret ?_
      refine ⟨.inr rfl, 4, 2, _, _, _, yqSt29, by decide, rfl, rfl, rfl, rfl, (.cons rfl (.agg (.cons (.frz _ _ _ _ _) (.cons (.frz _ _ _ _ _) (.nil _)))) (.nil _)), rfl, ?_⟩
      refine congrArg PV.agg ?_
      rw [stepB, if_neg c1, if_pos c2]
      rfl
    · try simp only [nrm] at c2
      refine AWp.seq (AWp.region ?_)
      refine ARun.step rfl (step_eql rfl (hn rfl) rfl rfl rfl) ?_
      refine ARun.step rfl (step_assignV rfl (hn rfl) rfl rfl) ?_
      refine ARun.nil ?_
      refine AWp.cond rfl (fun c3 => ?_) (fun c3 => ?_)
      · try simp only [nrm] at c3
        refine AWp.region ?_
        refine ARun.step rfl (step_loadS_b rfl (hn rfl) rfl yqSt29 rfl rfl rfl (by decide)) ?_
        refine ARun.step rfl (step_field_b rfl (hn rfl) rfl yqFo135_1 rfl (by exact List.cons_ne_nil _ _)) ?_
        refine ARun.step rfl (step_load_b rfl (hn rfl) rfl yqSc9 rfl rfl) ?_
        refine ARun.step rfl (step_field_b rfl (hn rfl) rfl yqFo135_2 rfl (by exact List.cons_ne_nil _ _)) ?_
        refine ARun.step rfl (step_load_b rfl (hn rfl) rfl yqSc22 rfl rfl) ?_
        refine ARun.step rfl (call_stepZ rfl (hn rfl) rfl yqCo54 (.cons rfl (.agg (.cons (.v _) (.cons (.v _) .nil))) (.cons rfl (.one (.v _)) (.cons rfl (.one (.v _)) (.nil)))) (lessSZ p d.name d.list hps (by omega)) rfl rfl) ?_
        refine ARun.step rfl (step_moveV rfl (hn rfl) rfl rfl) ?_
        refine ARun.step rfl (step_extract rfl (hn rfl) rfl rfl rfl (by intro l h; cases h)) ?_
        refine ARun.step rfl (step_extract rfl (hn rfl) rfl rfl rfl (by intro l h; cases h)) ?_
        refine ARun.step rfl (step_store_p rfl rfl yqCs29 rfl rfl rfl rfl rfl rfl rfl) ?_
        refine ARun.nil ?_
        refine AWp.seq (AWp.region ?_)
        refine ARun.step rfl (step_loadS_b rfl (hn rfl) rfl yqSt29 rfl rfl rfl (by decide)) ?_
        refine ARun.step rfl (step_store_p rfl rfl yqCs29 rfl rfl rfl rfl rfl rfl rfl) ?_
        refine ARun.nil ?_
        refine AWp.ret ?_
        refine ⟨.inr rfl, 4, 2, _, _, _, yqSt29, by decide, rfl, rfl, rfl, rfl, (.cons rfl (.agg (.cons (.frz _ _ _ _ _) (.cons (.frz _ _ _ _ _) (.nil _)))) (.nil _)), rfl, ?_⟩
        refine congrArg PV.agg ?_
        rw [stepB, if_neg c1, if_neg c2, if_pos c3]
        rfl
      · try simp only [nrm] at c3
        refine AWp.region ?_
        refine ARun.step rfl (step_loadS_b rfl (hn rfl) rfl yqSt29 rfl rfl rfl (by decide)) ?_
        refine ARun.step rfl (step_field_b rfl (hn rfl) rfl yqFo135_1 rfl (by exact List.cons_ne_nil _ _)) ?_
        refine ARun.step rfl (step_load_b rfl (hn rfl) rfl yqSc9 rfl rfl) ?_
        refine ARun.step rfl (call_stepZ rfl (hn rfl) rfl yqCo12 (.cons rfl (.agg (.cons (.v _) (.cons (.v _) .nil))) (.cons rfl (.one (.v _)) (.nil))) (leaveSZ p d.name hps) rfl rfl) ?_
        refine ARun.step rfl (step_moveV rfl (hn rfl) rfl rfl) ?_
        refine ARun.step rfl (step_extract rfl (hn rfl) rfl rfl rfl (by intro l h; cases h)) ?_
        refine ARun.step rfl (step_extract rfl (hn rfl) rfl rfl rfl (by intro l h; cases h)) ?_
        refine ARun.step rfl (step_store_p rfl rfl yqCs29 rfl rfl rfl rfl rfl rfl rfl) ?_
        refine ARun.nil ?_
        refine AWp.seq (AWp.region ?_)
        refine ARun.step rfl (step_loadS_b rfl (hn rfl) rfl yqSt29 rfl rfl rfl (by decide)) ?_
        refine ARun.step rfl (step_store_p rfl rfl yqCs29 rfl rfl rfl rfl rfl rfl rfl) ?_
        refine ARun.nil ?_
        refine AWp.ret ?_
        refine ⟨.inr rfl, 4, 2, _, _, _, yqSt29, by decide, rfl, rfl, rfl, rfl, (.cons rfl (.agg (.cons (.frz _ _ _ _ _) (.cons (.frz _ _ _ _ _) (.nil _)))) (.nil _)), rfl, ?_⟩
        refine congrArg PV.agg ?_
        rw [stepB, if_neg c1, if_neg c2, if_neg c3]
        rfl
set_option maxHeartbeats 1000000 in
theorem l55Wild (b : List UInt8) (p : Nat) (ts : List Str) (hb : b.length ≤ 2000) (hp : p ≤ 800000000) (hts : ts.length ≤ 5) : ∃ (q : Nat) (x : Bk), (p ≤ q ∧ q ≤ p + 200 ∧ bkLe x 5) ∧ LSpec Try.prog 168 132 (rdR 5 b p) (rdR 5 b q) [.agg [strs ts, .nl]] (.agg (x.zcells 48)) := by
  suffices key : ∃ i : Nat × Bk, (p ≤ i.1 ∧ i.1 ≤ p + 200 ∧ bkLe i.2 5) ∧ LSpec Try.prog 168 132 (rdR 5 b p) (rdR 5 b i.1) [.agg [strs ts, .nl]] (.agg (i.2.zcells 48)) from (by obtain ⟨i, g, h⟩ := key; exact ⟨i.1, i.2, g, h⟩)
  refine LSpec.exC Try.func168 rfl 4 29 [] rfl rfl 75 rfl rfl rfl rfl (fun i : Nat × Bk => rdR 5 b i.1) (fun i : Nat × Bk => (.agg (i.2.zcells 48))) (fun i : Nat × Bk => p ≤ i.1 ∧ i.1 ≤ p + 200 ∧ bkLe i.2 5) (fun i => rfl) (fun i => rfl) ?_
  have h5 : nms5.length = 5 := rfl
  refine E.mono (fun Q h => AWp.le (Le.reAgg 1 rfl (.cons (.refl _) (.cons .nl .nil))) h) ?_
  apply E.reg
  · intro Q hQ
    refine AWp.seq (AWp.region ?_)
    refine ARun.step rfl (step_box_p (m := 1) rfl (hn rfl) rfl rfl rfl rfl rfl) ?_
    refine ARun.step rfl (step_alloc_p rfl (hn rfl) rfl yqZs29) ?_
    refine ARun.nil ?_
    exact hQ.out
  apply E.reg
  · intro Q hQ
    refine AWp.seq (AWp.region ?_)
    refine ARun.step rfl (call_stepZ rfl (hn rfl) rfl yqCo172 (.nil) (l55Names ) rfl rfl) ?_
    refine ARun.step rfl (step_assignV rfl (hn rfl) rfl rfl) ?_
    refine ARun.nil ?_
    exact hQ.out
  apply E.reg
  · intro Q hQ
    refine AWp.seq (AWp.region ?_)
    refine ARun.step rfl (step_build0 rfl (hn rfl) rfl yqSl22) ?_
    refine ARun.step rfl (step_assignV rfl (hn rfl) rfl rfl) ?_
    refine ARun.nil ?_
    exact hQ.out
  refine E.mono (fun Q h => AWp.seq h) ?_
  apply E.reg
  · intro Q hQ
    refine AWp.seq (AWp.region ?_)
    refine ARun.step rfl (step_assignV rfl (hn rfl) rfl rfl) ?_
    refine ARun.nil ?_
    exact hQ.out
  refine E.mono (fun Q h => AWp.block h) ?_
  refine E.mono (fun Q h => AWp.le (Le.nilRefB 3 1 72 48 3 (fun i => (nth ([] : List Bt) i).zcells) _ rfl rfl rfl) h) ?_
  refine E.loop (fun x : Nat × List Bt × List Str × Nat => mkAS 75 [(0, ⟨true, .one (.eptr ⟨.arr 1000000 0, []⟩ 0 0)⟩), (3, ⟨true, .one (.bptr 3 0)⟩), (4, ⟨true, .one (.bptr 4 0)⟩), (5, ⟨true, .one (.v (strs nms5))⟩), (6, ⟨true, .one (.ref ⟨.arr 11 0, []⟩)⟩), (7, ⟨true, .one (.v (.int .i64 (x.1 : Nat)))⟩)] [(3, [.v (strs ts), .ref ⟨.arr 72 0, []⟩]), (4, [.any, .any])] [(11, 0, strs x.2.2.1), (72, 0, bts 48 x.2.1), (1000000, 0, ptT 132 (rdR 5 b x.2.2.2))]) (fun x => x.1 ≤ 5 ∧ x.2.1.length ≤ x.1 ∧ (∀ b ∈ x.2.1, b.has.length ≤ 5 ∧ b.needs.length ≤ 5) ∧ x.2.2.1.length ≤ 5 * x.1 ∧ p ≤ x.2.2.2 ∧ x.2.2.2 ≤ p + 30 * x.1) (fun x => 5 - x.1) (0, [], [], p) ?_ (Le.forgetR rfl ⟨rfl, rfl, rfl, rfl, rfl, rfl, trivial⟩ ⟨rfl, rfl, trivial⟩ ⟨.refl _, .refl _, .refl _, trivial⟩) ?_
  · try dsimp only
    exact ⟨by omega, Nat.zero_le _, fun b hb => absurd hb (List.not_mem_nil), Nat.zero_le _, by omega, by omega⟩
  rintro x ⟨hi, hbl, hbs, htk, hpa, hpb⟩ ih1
  refine E.mono (fun Q h => AWp.seq h) ?_
  apply E.reg
  · intro Q hQ
    refine AWp.seq (AWp.region ?_)
    refine ARun.step rfl (step_moveV rfl (hn rfl) rfl rfl) ?_
    refine ARun.step rfl (step_moveV rfl (hn rfl) rfl rfl) ?_
    refine ARun.step rfl (step_len_f rfl (hn rfl) rfl yqSl22 rfl) ?_
    refine ARun.step rfl (step_lss rfl (hn rfl) rfl rfl rfl) ?_
    refine ARun.nil ?_
    exact hQ.out
  refine E.cond rfl (fun c1 => ?_) (fun c1 => ?_)
  · try simp only [nrm] at c1
    refine E.mono (fun Q h => AWp.skip h) ?_
    refine E.mono (fun Q h => AWp.seq h) ?_
    refine E.mono (fun Q h => AWp.block h) ?_
    refine E.mono (fun Q h => AWp.seq h) ?_
    obtain ⟨_, k1, ⟨rfl, hk1⟩, hl1⟩ := l51pick b (x.2.2.2) (4) (by first | assumption | omega | decide | (simp only [List.length_append, List.length_cons, List.length_nil, List.length_take, List.length_drop]; omega)) (by first | assumption | omega | decide | (simp only [List.length_append, List.length_cons, List.length_nil, List.length_take, List.length_drop]; omega)) (by first | assumption | omega | decide | (simp only [List.length_append, List.length_cons, List.length_nil, List.length_take, List.length_drop]; omega)) (by first | assumption | omega | decide | (simp only [List.length_append, List.length_cons, List.length_nil, List.length_take, List.length_drop]; omega))
    apply E.reg
    · intro Q hQ
      refine AWp.seq (AWp.region ?_)
      refine ARun.step rfl (step_moveV rfl (hn rfl) rfl rfl) ?_
      refine ARun.step rfl (call_stepLZ rfl (hn rfl) rfl yqCo102 rfl rfl rfl rfl (.cons rfl (.one (.v _)) (.nil)) hl1 rfl rfl) ?_
      refine ARun.step rfl (step_eql rfl (hn rfl) rfl rfl rfl) ?_
      refine ARun.nil ?_
      exact hQ.out
    refine E.cond rfl (fun c2 => ?_) (fun c2 => ?_)
    · try simp only [nrm] at c2
      refine E.mono (fun Q h => AWp.exit h) ?_
      apply E.reg
      · intro Q hQ
        refine AWp.region ?_
        refine ARun.step rfl (step_moveV rfl (hn rfl) rfl rfl) ?_
        refine ARun.step rfl (step_addI rfl (hn rfl) rfl rfl rfl (by first | omega | (simp only [List.length_cons, List.length_nil]; omega)) (by first | omega | (simp only [List.length_cons, List.length_nil]; omega))) ?_
        refine ARun.step rfl (step_assignV rfl (hn rfl) rfl rfl) ?_
        refine ARun.nil ?_
        exact hQ.out
      refine ih1 (x.1 + 1, x.2.1, x.2.2.1, x.2.2.2 + 1) _ ?_ ?_ (Le.forgetR rfl ⟨rfl, rfl, rfl, rfl, rfl, rfl, trivial⟩ ⟨rfl, rfl, trivial⟩ ⟨.refl _, .refl _, .refl _, trivial⟩)
      · try dsimp only
        exact ⟨by omega, by omega, hbs, by omega, by omega, by omega⟩
      · try dsimp only
        omega
    · try simp only [nrm] at c2
      refine E.mono (fun Q h => AWp.skip h) ?_
      obtain ⟨q2, x2, ⟨hqa2, hqb2, hsub2, hsl2⟩, hl2⟩ := l55Some b (x.2.2.2 + 1) (ts) (2) (by first | assumption | omega | decide | (simp only [List.length_append, List.length_cons, List.length_nil, List.length_take, List.length_drop]; omega)) (by first | assumption | omega | decide | (simp only [List.length_append, List.length_cons, List.length_nil, List.length_take, List.length_drop]; omega)) (by first | assumption | omega | decide | (simp only [List.length_append, List.length_cons, List.length_nil, List.length_take, List.length_drop]; omega)) (by first | assumption | omega | decide | (simp only [List.length_append, List.length_cons, List.length_nil, List.length_take, List.length_drop]; omega)) (by first | assumption | omega | decide | (simp only [List.length_append, List.length_cons, List.length_nil, List.length_take, List.length_drop]; omega))
      apply E.reg
      · intro Q hQ
        refine AWp.seq (AWp.drawM [⟨⟨[.s 5], [.s 21], false⟩, none, [8]⟩, ⟨⟨[.s 7], [.s 22], false⟩, none, [8]⟩, ⟨⟨[.s 21, .s 22], [.s 23], false⟩, none, [8]⟩, ⟨⟨[.s 23], [.s 24], false⟩, none, [8]⟩, ⟨⟨[.s 0], [.s 25], false⟩, none, [8]⟩, ⟨⟨[.s 3, .b 3], [.s 26], false⟩, none, [8]⟩, ⟨⟨[.s 26, .b 3], [.s 27], false⟩, none, [8]⟩, ⟨⟨[.s 27, .s 25, .a 1000000 0], [.s 28, .a 1000000 0], false⟩, none, [8]⟩, ⟨⟨[.s 28, .s 24], [.s 29], false⟩, none, [8]⟩, ⟨⟨[], [.s 8, .b 8], false⟩, some 8, []⟩, ⟨⟨[], [], true⟩, none, []⟩] yqMo rfl rfl (Le.forgetR (n := 75) (sl := [(0, _), (3, _), (4, _), (5, _), (6, _), (7, _), (12, _), (13, _), (14, _), (15, _), (18, _), (19, _), (20, _)]) (bl := [(3, _), (4, _)]) (al := [(11, 0, _), (72, 0, _), (1000000, 0, _)]) rfl ⟨rfl, rfl, rfl, rfl, rfl, rfl, rfl, rfl, rfl, rfl, rfl, rfl, rfl, trivial⟩ ⟨rfl, rfl, trivial⟩ ⟨.refl _, .refl _, .refl _, trivial⟩) rfl ?_)
        refine FRun.slot rfl (fun τ hN hr => step_moveV rfl (rdN hN (hn rfl)) rfl (by exact rdS hr rfl rfl)) (by exact rfl) ?_
        refine FRun.slot rfl (fun τ hN hr => step_moveV rfl (rdN hN (hn rfl)) rfl (by exact rdS hr rfl rfl)) (by exact rfl) ?_
        refine FRun.slot rfl (fun τ hN hr => step_index_fN rfl (rdN hN (hn rfl)) rfl yqSl22 (by exact rdS hr rfl rfl) (by exact rdS hr rfl rfl) (by first | omega | (simp only [List.length_cons, List.length_nil]; omega))) (by exact rfl) ?_
        refine FRun.slot rfl (fun τ hN hr => step_load_f rfl (rdN hN (hn rfl)) rfl yqSc9 (by exact rdS hr rfl rfl) (hn rfl) rfl) (by exact rfl) ?_
        refine FRun.slot rfl (fun τ hN hr => step_moveV rfl (rdN hN (hn rfl)) rfl (by exact rdS hr rfl rfl)) (by exact rfl) ?_
        refine FRun.slot rfl (fun τ hN hr => step_field_b rfl (rdN hN (hn rfl)) rfl yqFo29_0 (by exact rdS hr rfl rfl) (by exact rdBne hr rfl (by exact List.cons_ne_nil _ _))) (by exact rfl) ?_
        refine FRun.slot rfl (fun τ hN hr => step_load_b rfl (rdN hN (hn rfl)) rfl yqSc22 (by exact rdS hr rfl rfl) (by exact rdBget hr rfl rfl)) (by exact rfl) ?_
        refine FRun.lent rfl (fun τ hN hr => call_stepLZ rfl (rdN hN (hn rfl)) rfl yqCo108 (by exact rdS hr rfl rfl) (by exact rdA hr rfl rfl) rfl rfl (.cons (by exact rdS hr rfl rfl) (.one (.v _)) (.cons rfl (.one (.v _)) (.nil))) (hl2.letGo (.p (.one (.fz (.refl _))))) rfl (by exact rdNoRefs hr rfl rfl)) (by exact rfl) ?_
        refine FRun.slot rfl (fun τ hN hr => step_build rfl (rdN hN (hn rfl)) rfl yqPl48 yqZc48 ((by exact .cons (by exact rdS hr rfl rfl) rfl rfl rfl (.cons (by exact rdS hr rfl rfl) rfl rfl rfl (.nil)))) rfl) (by exact rfl) ?_
        refine FRun.boxN rfl (fun τ hN hr hF => step_allocN rfl (rdN hN (hn rfl)) rfl yqZs48 hF) (by exact rfl) ?_
        refine FRun.whole rfl (step_store_p (bs := [_, _, _]) rfl rfl yqCs48 rfl rfl rfl rfl rfl rfl rfl) (by exact rfl) ?_
        refine FRun.nil ?_
        exact hQ.out
      refine E.mono (fun Q h => AWp.seq h) ?_
      apply E.reg
      · intro Q hQ
        refine AWp.seq (AWp.region ?_)
        refine ARun.step rfl (step_assignV rfl (hn rfl) rfl rfl) ?_
        refine ARun.nil ?_
        exact hQ.out
      refine E.mono (fun Q h => AWp.block h) ?_
      refine E.mono (fun Q h => AWp.le (Le.nilRefB 8 1 66 9 1 (fun i => [.str (nth [] i)]) _ rfl rfl rfl) h) ?_
      refine E.loop (fun y : Nat × List Str × List Str × Nat => mkAS 75 [(0, ⟨true, .one (.eptr ⟨.arr 1000000 0, []⟩ 0 0)⟩), (3, ⟨true, .one (.bptr 3 0)⟩), (4, ⟨true, .one (.bptr 4 0)⟩), (5, ⟨true, .one (.v (strs nms5))⟩), (6, ⟨true, .one (.ref ⟨.arr 11 0, []⟩)⟩), (7, ⟨true, .one (.v (.int .i64 (x.1 : Nat)))⟩), (8, ⟨true, .one (.bptr 8 0)⟩), (9, ⟨true, .one (.v (.int .i64 (y.1 : Nat)))⟩)] [(3, [.v (strs ts), .ref ⟨.arr 72 0, []⟩]), (4, [.any, .any]), (8, [.v (.str (nth nms5 x.1)), .ref ⟨.arr 66 0, []⟩, .v (strs x2)])] [(11, 0, strs y.2.2.1), (66, 0, strs y.2.1), (72, 0, bts 48 x.2.1), (1000000, 0, ptT 132 (rdR 5 b y.2.2.2))]) (fun y => y.1 ≤ x2.length ∧ y.2.1.length ≤ y.1 ∧ y.2.2.1.length ≤ x.2.2.1.length + y.1 ∧ p ≤ y.2.2.2 ∧ y.2.2.2 ≤ (q2) + y.1) (fun y => x2.length - y.1) (0, [], x.2.2.1, q2) ?_ (Le.forgetR rfl ⟨rfl, rfl, rfl, rfl, rfl, rfl, rfl, rfl, trivial⟩ ⟨rfl, rfl, rfl, trivial⟩ ⟨.refl _, .refl _, .refl _, .refl _, trivial⟩) ?_
      · try dsimp only
        exact ⟨by omega, Nat.zero_le _, by omega, by omega, by omega⟩
      rintro y ⟨hj, hhl, htl, hqa, hqb⟩ ih2
      refine E.mono (fun Q h => AWp.seq h) ?_
      apply E.reg
      · intro Q hQ
        refine AWp.seq (AWp.region ?_)
        refine ARun.step rfl (step_moveV rfl (hn rfl) rfl rfl) ?_
        refine ARun.step rfl (step_field_b rfl (hn rfl) rfl yqFo48_2 rfl (by exact List.cons_ne_nil _ _)) ?_
        refine ARun.step rfl (step_load_b rfl (hn rfl) rfl yqSc22 rfl rfl) ?_
        refine ARun.step rfl (step_len_f rfl (hn rfl) rfl yqSl22 rfl) ?_
        refine ARun.step rfl (step_lss rfl (hn rfl) rfl rfl rfl) ?_
        refine ARun.nil ?_
        exact hQ.out
      refine E.cond rfl (fun c3 => ?_) (fun c3 => ?_)
      · try simp only [nrm] at c3
        refine E.mono (fun Q h => AWp.skip h) ?_
        refine E.mono (fun Q h => AWp.seq h) ?_
        refine E.mono (fun Q h => AWp.block h) ?_
        obtain ⟨q3, k3, ⟨ha3, hb3, hc3⟩, hl3, hz3⟩ := l51pick_if (hasB y.2.2.1 (nth x2 y.1) = false) b (y.2.2.2) (2) (by first | assumption | omega | decide | (simp only [List.length_append, List.length_cons, List.length_nil, List.length_take, List.length_drop]; omega)) (by first | assumption | omega | decide | (simp only [List.length_append, List.length_cons, List.length_nil, List.length_take, List.length_drop]; omega)) (by first | assumption | omega | decide | (simp only [List.length_append, List.length_cons, List.length_nil, List.length_take, List.length_drop]; omega)) (by first | assumption | omega | decide | (simp only [List.length_append, List.length_cons, List.length_nil, List.length_take, List.length_drop]; omega))
        apply E.reg
        · intro Q hQ
          refine AWp.seq (AWp.region ?_)
          refine ARun.step rfl (step_moveV rfl (hn rfl) rfl rfl) ?_
          refine ARun.step rfl (step_field_b rfl (hn rfl) rfl yqFo48_2 rfl (by exact List.cons_ne_nil _ _)) ?_
          refine ARun.step rfl (step_load_b rfl (hn rfl) rfl yqSc22 rfl rfl) ?_
          refine ARun.step rfl (step_moveV rfl (hn rfl) rfl rfl) ?_
          refine ARun.step rfl (step_index_fN rfl (hn rfl) rfl yqSl22 rfl rfl (by first | omega | (simp only [List.length_cons, List.length_nil]; omega))) ?_
          refine ARun.step rfl (step_load_f rfl (hn rfl) rfl yqSc9 rfl (hn rfl) rfl) ?_
          refine ARun.step rfl (call_step1 rfl (hn rfl) rfl yqCo92 (.cons rfl (.one (.ref _ rfl)) (.cons rfl (.one (.v _)) (.nil))) (l51Has _ _) rfl) ?_
          refine ARun.step rfl (step_not rfl (hn rfl) rfl rfl) ?_
          refine ARun.step rfl (step_moveV rfl (hn rfl) rfl rfl) ?_
          refine guardS rfl rfl rfl rfl (hn rfl) (fun g1 g2 => step_moveV rfl (hn rfl) rfl rfl) ?_
          refine guardL rfl rfl rfl rfl (hn rfl) (fun g1 g2 => call_stepLZ rfl (hn rfl) rfl yqCo102 (ev_true rfl (by exact flag2 g1 g2)) rfl rfl rfl (.cons rfl (.one (.v _)) (.nil)) (hl3 (by first | (have := of_decide_eq_true g2; omega) | simpa using g2)) rfl rfl) (fun h => by rw [hz3 (by intro hc; first | (simp only [nrm, Bool.true_and] at h; omega) | (simp [hc] at h; done))]; exact rfl) ?_
          refine guardS rfl rfl rfl rfl (hn rfl) (fun g1 g2 => step_eql rfl (hn rfl) rfl (ev_true rfl (by exact flag2 g1 g2)) rfl) ?_
          refine ARun.step rfl (step_and rfl (hn rfl) rfl rfl rfl (fun h => (by exact flag1 h))) ?_
          refine ARun.nil ?_
          exact hQ.out
        refine E.cond rfl (fun c4 => ?_) (fun c4 => ?_)
        · try simp only [nrm] at c4
          apply E.reg
          · intro Q hQ
            refine AWp.seq (AWp.region ?_)
            refine ARun.step rfl (step_moveV rfl (hn rfl) rfl rfl) ?_
            refine ARun.step rfl (step_field_b rfl (hn rfl) rfl yqFo48_2 rfl (by exact List.cons_ne_nil _ _)) ?_
            refine ARun.step rfl (step_load_b rfl (hn rfl) rfl yqSc22 rfl rfl) ?_
            refine ARun.step rfl (step_moveV rfl (hn rfl) rfl rfl) ?_
            refine ARun.step rfl (step_index_fN rfl (hn rfl) rfl yqSl22 rfl rfl (by first | omega | (simp only [List.length_cons, List.length_nil]; omega))) ?_
            refine ARun.step rfl (step_load_f rfl (hn rfl) rfl yqSc9 rfl (hn rfl) rfl) ?_
            refine ARun.step rfl (step_buildVT rfl (hn rfl) rfl yqSl22 (strs [_]) (.cons rfl rfl rfl rfl (.nil _)) rfl rfl rfl (rows1 rfl)) ?_
            refine ARun.step rfl (step_append_strs rfl (hn rfl) rfl yqSl22 rfl rfl rfl (.v _) (by first | omega | (simp only [List.length_cons, List.length_nil, List.length_append, List.length_take, List.length_drop]; omega)) (by first | omega | (simp only [List.length_cons, List.length_nil, List.length_append, List.length_take, List.length_drop]; omega))) ?_
            refine ARun.step rfl (step_assignV rfl (hn rfl) rfl rfl) ?_
            refine ARun.nil ?_
            exact hQ.out
          apply E.reg
          · intro Q hQ
            refine AWp.drawM [⟨⟨[.s 8, .b 8], [.s 58], false⟩, none, []⟩, ⟨⟨[.s 58, .b 8], [.s 59], false⟩, none, []⟩, ⟨⟨[.s 8, .b 8], [.s 60], false⟩, none, []⟩, ⟨⟨[.s 60, .b 8], [.s 61], false⟩, none, []⟩, ⟨⟨[.s 9], [.s 62], false⟩, none, []⟩, ⟨⟨[.s 61, .s 62], [.s 63], false⟩, none, []⟩, ⟨⟨[.s 63], [.s 64], false⟩, none, []⟩, ⟨⟨[.s 64], [.s 65], false⟩, none, []⟩, ⟨⟨[], [], true⟩, none, []⟩, ⟨⟨[], [], true⟩, none, []⟩, ⟨⟨[], [], true⟩, none, []⟩] yqMo rfl rfl (Le.forgetR (n := 75) (sl := [(0, _), (3, _), (4, _), (5, _), (6, _), (7, _), (8, _), (9, _), (30, _), (31, _), (32, _), (33, _), (34, _), (38, _), (39, _), (40, _), (41, _), (42, _), (43, _), (44, _), (45, _), (49, _), (51, _), (52, _), (53, _), (54, _), (55, _), (56, _), (57, _)]) (bl := [(3, _), (4, _), (8, _)]) (al := [(11, 0, _), (66, 0, _), (72, 0, _), (1000000, 0, _)]) rfl ⟨rfl, rfl, rfl, rfl, rfl, rfl, rfl, rfl, rfl, rfl, rfl, rfl, rfl, rfl, rfl, rfl, rfl, rfl, rfl, rfl, rfl, rfl, rfl, rfl, rfl, rfl, rfl, rfl, rfl, trivial⟩ ⟨rfl, rfl, rfl, trivial⟩ ⟨.refl _, .refl _, .refl _, .refl _, trivial⟩) rfl ?_
            refine FRun.slot rfl (fun τ hN hr => step_field_b rfl (rdN hN (hn rfl)) rfl yqFo48_1 (by exact rdS hr rfl rfl) (by exact rdBne hr rfl (by exact List.cons_ne_nil _ _))) (by exact rfl) ?_
            refine FRun.slot rfl (fun τ hN hr => step_load_b rfl (rdN hN (hn rfl)) rfl yqSc22 (by exact rdS hr rfl rfl) (by exact rdBget hr rfl rfl)) (by exact rfl) ?_
            refine FRun.slot rfl (fun τ hN hr => step_field_b rfl (rdN hN (hn rfl)) rfl yqFo48_2 (by exact rdS hr rfl rfl) (by exact rdBne hr rfl (by exact List.cons_ne_nil _ _))) (by exact rfl) ?_
            refine FRun.slot rfl (fun τ hN hr => step_load_b rfl (rdN hN (hn rfl)) rfl yqSc22 (by exact rdS hr rfl rfl) (by exact rdBget hr rfl rfl)) (by exact rfl) ?_
            refine FRun.slot rfl (fun τ hN hr => step_moveV rfl (rdN hN (hn rfl)) rfl (by exact rdS hr rfl rfl)) (by exact rfl) ?_
            refine FRun.slot rfl (fun τ hN hr => step_index_fN rfl (rdN hN (hn rfl)) rfl yqSl22 (by exact rdS hr rfl rfl) (by exact rdS hr rfl rfl) (by first | omega | (simp only [List.length_cons, List.length_nil]; omega))) (by exact rfl) ?_
            refine FRun.slot rfl (fun τ hN hr => step_load_f rfl (rdN hN (hn rfl)) rfl yqSc9 (by exact rdS hr rfl rfl) (hn rfl) rfl) (by exact rfl) ?_
            refine FRun.slot rfl (fun τ hN hr => step_buildVT rfl (rdN hN (hn rfl)) rfl yqSl22 (strs [_]) ((by exact .cons (by exact rdS hr rfl rfl) rfl rfl rfl (.nil _))) (by exact rfl) (by exact rfl) (by exact rfl) (by exact (rows1 rfl))) (by exact rfl) ?_
            refine FRun.whole rfl (step_append_strs rfl (hn rfl) rfl yqSl22 rfl rfl rfl (.v _) (by first | omega | (simp only [List.length_cons, List.length_nil, List.length_append, List.length_take, List.length_drop]; omega)) (by first | omega | (simp only [List.length_cons, List.length_nil, List.length_append, List.length_take, List.length_drop]; omega))) (by exact rfl) ?_
            refine FRun.whole rfl (step_field_b rfl (hn rfl) rfl yqFo48_1 rfl (by exact List.cons_ne_nil _ _)) (by exact rfl) ?_
            refine FRun.whole rfl (step_store_r rfl rfl yqCs22 rfl rfl rfl rfl rfl rfl rfl) (by exact rfl) ?_
            refine FRun.nil ?_
            exact hQ.out
          apply E.reg
          · intro Q hQ
            refine AWp.region ?_
            refine ARun.step rfl (step_moveV rfl (hn rfl) rfl rfl) ?_
            refine ARun.step rfl (step_addI rfl (hn rfl) rfl rfl rfl (by first | omega | (simp only [List.length_cons, List.length_nil]; omega)) (by first | omega | (simp only [List.length_cons, List.length_nil]; omega))) ?_
            refine ARun.step rfl (step_assignV rfl (hn rfl) rfl rfl) ?_
            refine ARun.nil ?_
            exact hQ.out
          refine ih2 (y.1 + 1, y.2.1 ++ [nth x2 y.1], y.2.2.1 ++ [nth x2 y.1], q3) _ ?_ ?_ (Le.forgetR rfl ⟨rfl, rfl, rfl, rfl, rfl, rfl, rfl, rfl, trivial⟩ ⟨rfl, rfl, rfl, trivial⟩ ⟨.refl _, .refl _, .refl _, .refl _, trivial⟩)
          · try dsimp only
            exact ⟨by omega, by simp only [List.length_append, List.length_cons, List.length_nil]; omega, by simp only [List.length_append, List.length_cons, List.length_nil]; omega, by omega, by omega⟩
          · try dsimp only
            omega
        · try simp only [nrm] at c4
          refine E.mono (fun Q h => AWp.skip h) ?_
          apply E.reg
          · intro Q hQ
            refine AWp.region ?_
            refine ARun.step rfl (step_moveV rfl (hn rfl) rfl rfl) ?_
            refine ARun.step rfl (step_addI rfl (hn rfl) rfl rfl rfl (by first | omega | (simp only [List.length_cons, List.length_nil]; omega)) (by first | omega | (simp only [List.length_cons, List.length_nil]; omega))) ?_
            refine ARun.step rfl (step_assignV rfl (hn rfl) rfl rfl) ?_
            refine ARun.nil ?_
            exact hQ.out
          refine ih2 (y.1 + 1, y.2.1, y.2.2.1, q3) _ ?_ ?_ (Le.forgetR rfl ⟨rfl, rfl, rfl, rfl, rfl, rfl, rfl, rfl, trivial⟩ ⟨rfl, rfl, rfl, trivial⟩ ⟨.refl _, .refl _, .refl _, .refl _, trivial⟩)
          · try dsimp only
            exact ⟨by omega, by omega, by omega, by omega, by omega⟩
          · try dsimp only
            omega
      · try simp only [nrm] at c3
        refine E.mono (fun Q h => AWp.exit h) ?_
        refine E.mono (fun Q h => AWp.le (Le.letGo 66 0 (g := _) rfl (fun _ _ => rfl)) h) ?_
        apply E.reg
        · intro Q hQ
          refine AWp.region ?_
          refine ARun.step rfl (step_field_b rfl (hn rfl) rfl yqFo29_1 rfl (by exact List.cons_ne_nil _ _)) ?_
          refine ARun.step rfl (step_load_b rfl (hn rfl) rfl yqSc27 rfl rfl) ?_
          refine ARun.step rfl (step_loadS_b rfl (hn rfl) rfl yqSt48 rfl rfl rfl (by decide)) ?_
          refine ARun.step rfl (step_buildV rfl (hn rfl) rfl yqSl27 (.cons rfl rfl rfl rfl (.nil _)) rfl rfl) ?_
          refine ARun.step rfl (step_append rfl (hn rfl) rfl yqSl27 rfl rfl rfl (.v _) (flatRows_one rfl) (by first | omega | (simp only [List.length_cons, List.length_nil]; omega)) (by first | omega | (simp only [List.length_cons, List.length_nil]; omega))) ?_
          refine ARun.step rfl (step_field_b rfl (hn rfl) rfl yqFo29_1 rfl (by exact List.cons_ne_nil _ _)) ?_
          refine ARun.step rfl (step_store_r rfl rfl yqCs27 rfl rfl rfl rfl rfl rfl rfl) ?_
          refine ARun.nil ?_
          exact hQ.out
        apply E.reg
        · intro Q hQ
          refine AWp.region ?_
          refine ARun.step rfl (step_moveV rfl (hn rfl) rfl rfl) ?_
          refine ARun.step rfl (step_addI rfl (hn rfl) rfl rfl rfl (by first | omega | (simp only [List.length_cons, List.length_nil]; omega)) (by first | omega | (simp only [List.length_cons, List.length_nil]; omega))) ?_
          refine ARun.step rfl (step_assignV rfl (hn rfl) rfl rfl) ?_
          refine ARun.nil ?_
          exact hQ.out
        refine ih1 (x.1 + 1, x.2.1 ++ [⟨nth nms5 x.1, y.2.1, x2⟩], y.2.2.1, y.2.2.2) _ ?_ ?_ (Le.forgetR rfl ⟨rfl, rfl, rfl, rfl, rfl, rfl, trivial⟩ ⟨rfl, rfl, trivial⟩ ⟨.refl _, (bts_add rfl), .refl _, trivial⟩)
        · try dsimp only
          exact ⟨by omega, by simp only [List.length_append, List.length_cons, List.length_nil]; omega, mem_add hbs ⟨by dsimp only; omega, by dsimp only; omega⟩, by omega, by omega, by omega⟩
        · try dsimp only
          omega
  · try simp only [nrm] at c1
    refine E.mono (fun Q h => AWp.exit h) ?_
    apply E.reg
    · intro Q hQ
      refine AWp.seq (AWp.region ?_)
      refine ARun.step rfl (step_loadS_b rfl (hn rfl) rfl yqSt29 rfl rfl rfl (by decide)) ?_
      refine ARun.step rfl (step_store_r rfl rfl yqCs29 rfl rfl rfl rfl rfl rfl rfl) ?_
      refine ARun.nil ?_
      exact hQ.out
    refine E.mono (fun Q h => AWp.le (Le.letGo 72 0 (g := _) rfl (fun _ _ => rfl)) h) ?_
    refine E.mono (fun Q h => AWp.ret h) ?_
    apply E.ret (i := (_, Bk.mk _ _))
    · refine ⟨.inr rfl, ⟨4, 2, _, _, _, yqSt29, by decide, rfl, rfl, rfl, rfl, (.cons rfl (.agg (.cons (.frz _ _ _ _ _) (.cons (.frz _ _ _ _ _) (.nil _)))) (.nil _)), rfl, ?_⟩, (.refl _)⟩
      refine congrArg PV.agg ?_
      rfl
    · try dsimp only
      all_goals (exact ⟨(show p ≤ x.2.2.2 by omega), (show x.2.2.2 ≤ p + 200 by omega), hts, (show x.2.1.length ≤ 5 by omega), hbs⟩)
theorem l55Book (b : List UInt8) (p : Nat) (hb : b.length ≤ 2000) (hp : p ≤ 400000000) : ∃ (q : Nat) (x : Bk), (p ≤ q ∧ q ≤ p + 1000 ∧ bkLe x 5) ∧ LSpec Try.prog 134 132 (rdR 5 b p) (rdR 5 b q) [] (.agg (x.zcells 48)) := by
  suffices key : ∃ i : Nat × Bk, (p ≤ i.1 ∧ i.1 ≤ p + 1000 ∧ bkLe i.2 5) ∧ LSpec Try.prog 134 132 (rdR 5 b p) (rdR 5 b i.1) [] (.agg (i.2.zcells 48)) from (by obtain ⟨i, g, h⟩ := key; exact ⟨i.1, i.2, g, h⟩)
  refine LSpec.exC Try.func134 rfl 2 29 [] rfl rfl 25 rfl rfl rfl rfl (fun i : Nat × Bk => rdR 5 b i.1) (fun i : Nat × Bk => (.agg (i.2.zcells 48))) (fun i : Nat × Bk => p ≤ i.1 ∧ i.1 ≤ p + 1000 ∧ bkLe i.2 5) (fun i => rfl) (fun i => rfl) ?_
  apply E.reg
  · intro Q hQ
    refine AWp.seq (AWp.region ?_)
    refine ARun.step rfl (step_alloc_p rfl (hn rfl) rfl yqZs29) ?_
    refine ARun.nil ?_
    exact hQ.out
  obtain ⟨q1, x1, ⟨hqa1, hqb1, hsub1, hsl1⟩, hl1⟩ := l55Base b (p)  (by first | assumption | omega | decide | (simp only [List.length_append, List.length_cons, List.length_nil, List.length_take, List.length_drop]; omega)) (by first | assumption | omega | decide | (simp only [List.length_append, List.length_cons, List.length_nil, List.length_take, List.length_drop]; omega))
  apply E.reg
  · intro Q hQ
    refine AWp.seq (AWp.region ?_)
    refine ARun.step rfl (step_moveV rfl (hn rfl) rfl rfl) ?_
    refine ARun.step rfl (call_stepLZ rfl (hn rfl) rfl yqCo167 rfl rfl rfl rfl (.nil) hl1 rfl rfl) ?_
    refine ARun.step rfl (step_alloc_p rfl (hn rfl) rfl yqZs29) ?_
    refine ARun.step rfl (step_store_p (bs := [_, _]) rfl rfl yqCs29 rfl rfl rfl rfl rfl rfl rfl) ?_
    refine ARun.nil ?_
    exact hQ.out
  refine E.mono (fun Q h => AWp.seq h) ?_
  obtain ⟨_, k2, ⟨rfl, hk2⟩, hl2⟩ := l51pick b (q1) (3) (by first | assumption | omega | decide | (simp only [List.length_append, List.length_cons, List.length_nil, List.length_take, List.length_drop]; omega)) (by first | assumption | omega | decide | (simp only [List.length_append, List.length_cons, List.length_nil, List.length_take, List.length_drop]; omega)) (by first | assumption | omega | decide | (simp only [List.length_append, List.length_cons, List.length_nil, List.length_take, List.length_drop]; omega)) (by first | assumption | omega | decide | (simp only [List.length_append, List.length_cons, List.length_nil, List.length_take, List.length_drop]; omega))
  apply E.reg
  · intro Q hQ
    refine AWp.seq (AWp.region ?_)
    refine ARun.step rfl (step_moveV rfl (hn rfl) rfl rfl) ?_
    refine ARun.step rfl (call_stepLZ rfl (hn rfl) rfl yqCo102 rfl rfl rfl rfl (.cons rfl (.one (.v _)) (.nil)) hl2 rfl rfl) ?_
    refine ARun.step rfl (step_eql rfl (hn rfl) rfl rfl rfl) ?_
    refine ARun.nil ?_
    exact hQ.out
  refine E.cond rfl (fun c1 => ?_) (fun c1 => ?_)
  · try simp only [nrm] at c1
    obtain ⟨q3, x3, ⟨hqa3, hqb3, hbk3⟩, hl3⟩ := l55Wild b (q1 + 1) x1 (by first | assumption | omega | decide | (simp only [List.length_append, List.length_cons, List.length_nil, List.length_take, List.length_drop]; omega)) (by first | assumption | omega | decide | (simp only [List.length_append, List.length_cons, List.length_nil, List.length_take, List.length_drop]; omega)) (by first | assumption | omega | decide | (simp only [List.length_append, List.length_cons, List.length_nil, List.length_take, List.length_drop]; omega))
    apply E.reg
    · intro Q hQ
      refine AWp.seq (AWp.region ?_)
      refine ARun.step rfl (step_moveV rfl (hn rfl) rfl rfl) ?_
      refine ARun.step rfl (step_loadS_b rfl (hn rfl) rfl yqSt29 rfl rfl rfl (by decide)) ?_
      refine ARun.step rfl (call_stepLZ rfl (hn rfl) rfl yqCo168 rfl rfl rfl rfl (.cons rfl (.agg (.cons (.v _) (.cons (.v _) .nil))) (.nil)) hl3 rfl rfl) ?_
      refine ARun.step rfl (step_store_p (bs := [_, _]) rfl rfl yqCs29 rfl rfl rfl rfl rfl rfl rfl) ?_
      refine ARun.nil ?_
      exact hQ.out
    refine E.mono (fun Q h => AWp.ret h) ?_
    apply E.ret (i := (_, Bk.mk _ _))
    · refine ⟨.inr rfl, ⟨2, 2, _, _, _, yqSt29, by decide, rfl, rfl, rfl, rfl, (.cons rfl (.agg (.cons (.frz _ _ _ _ _) (.cons (.frz _ _ _ _ _) (.nil _)))) (.nil _)), rfl, ?_⟩, (.refl _)⟩
      refine congrArg PV.agg ?_
      rfl
    · try dsimp only
      all_goals (exact ⟨by omega, by omega, by assumption⟩)
  · try simp only [nrm] at c1
    refine E.mono (fun Q h => AWp.skip h) ?_
    refine E.mono (fun Q h => AWp.seq h) ?_
    obtain ⟨_, k4, ⟨rfl, hk4⟩, hl4⟩ := l51pick b (q1 + 1) (24) (by first | assumption | omega | decide | (simp only [List.length_append, List.length_cons, List.length_nil, List.length_take, List.length_drop]; omega)) (by first | assumption | omega | decide | (simp only [List.length_append, List.length_cons, List.length_nil, List.length_take, List.length_drop]; omega)) (by first | assumption | omega | decide | (simp only [List.length_append, List.length_cons, List.length_nil, List.length_take, List.length_drop]; omega)) (by first | assumption | omega | decide | (simp only [List.length_append, List.length_cons, List.length_nil, List.length_take, List.length_drop]; omega))
    apply E.reg
    · intro Q hQ
      refine AWp.seq (AWp.region ?_)
      refine ARun.step rfl (step_moveV rfl (hn rfl) rfl rfl) ?_
      refine ARun.step rfl (call_stepLZ rfl (hn rfl) rfl yqCo102 rfl rfl rfl rfl (.cons rfl (.one (.v _)) (.nil)) hl4 rfl rfl) ?_
      refine ARun.step rfl (step_assignV rfl (hn rfl) rfl rfl) ?_
      refine ARun.nil ?_
      exact hQ.out
    refine E.mono (fun Q h => AWp.block h) ?_
    refine E.mono (fun Q h => AWp.le (Le.reBox 3 rfl (.cons (.refl _) (.cons (.nlsl 48 3 (fun i => (nth ([] : List Bt) i).zcells)) .nil))) h) ?_
    refine E.loop (fun x : Nat × Bk × Nat => mkAS 25 [(0, ⟨true, .one (.eptr ⟨.arr 1000000 0, []⟩ 0 0)⟩), (2, ⟨true, .one (.bptr 2 0)⟩), (3, ⟨true, .one (.bptr 3 0)⟩), (4, ⟨true, .one (.v (.int .i64 (x.1 : Nat)))⟩)] [(2, [.any, .any]), (3, [.v (strs x.2.1.things), .v (bts 48 x.2.1.bs)])] [(1000000, 0, ptT 132 (rdR 5 b x.2.2))]) (fun x => x.1 ≤ 24 ∧ bkLe x.2.1 5 ∧ p ≤ x.2.2 ∧ x.2.2 + 30 * x.1 ≤ p + 900) (fun x => x.1) (k4, ⟨x1, []⟩, q1 + 1 + 1) ?_ (Le.forgetR rfl ⟨rfl, rfl, rfl, rfl, trivial⟩ ⟨rfl, rfl, trivial⟩ ⟨.refl _, trivial⟩) ?_
    · try dsimp only
      exact ⟨by omega, ⟨by assumption, Nat.zero_le _, fun b hb => absurd hb (List.not_mem_nil)⟩, by omega, by omega⟩
    rintro x ⟨hi, hbk, hpa, hpb⟩ ih1
    have hk6 := hbk.mono (show 5 ≤ 6 by omega)
    refine E.mono (fun Q h => AWp.seq h) ?_
    apply E.reg
    · intro Q hQ
      refine AWp.seq (AWp.region ?_)
      refine ARun.step rfl (step_moveV rfl (hn rfl) rfl rfl) ?_
      refine ARun.step rfl (step_gtr rfl (hn rfl) rfl rfl rfl) ?_
      refine ARun.nil ?_
      exact hQ.out
    refine E.cond rfl (fun c2 => ?_) (fun c2 => ?_)
    · try simp only [nrm] at c2
      refine E.mono (fun Q h => AWp.skip h) ?_
      refine E.mono (fun Q h => AWp.seq h) ?_
      refine E.mono (fun Q h => AWp.block h) ?_
      obtain ⟨q5, d5, ⟨hqa5, hqb5, hka5, hkb5, hln5⟩, hl5⟩ := l55Does b (x.2.2) x.2.1 (by first | assumption | omega | decide | (simp only [List.length_append, List.length_cons, List.length_nil, List.length_take, List.length_drop]; omega)) (by first | assumption | omega | decide | (simp only [List.length_append, List.length_cons, List.length_nil, List.length_take, List.length_drop]; omega)) (by first | assumption | omega | decide | (simp only [List.length_append, List.length_cons, List.length_nil, List.length_take, List.length_drop]; omega))
      apply E.reg
      · intro Q hQ
        refine AWp.drawM [⟨⟨[.s 3, .b 3], [.s 19], false⟩, none, []⟩, ⟨⟨[.s 0], [.s 20], false⟩, none, []⟩, ⟨⟨[.s 3, .b 3], [.s 21], false⟩, none, []⟩, ⟨⟨[.s 21, .s 20, .a 1000000 0], [.s 22, .a 1000000 0], false⟩, none, []⟩, ⟨⟨[], [], true⟩, none, []⟩, ⟨⟨[], [], true⟩, none, []⟩] yqMo rfl rfl (Le.forgetR (n := 25) (sl := [(0, _), (2, _), (3, _), (4, _), (15, _), (16, _)]) (bl := [(2, _), (3, _)]) (al := [(1000000, 0, _)]) rfl ⟨rfl, rfl, rfl, rfl, rfl, rfl, trivial⟩ ⟨rfl, rfl, trivial⟩ ⟨.refl _, trivial⟩) rfl ?_
        refine FRun.slot rfl (fun τ hN hr => step_loadS_b rfl (rdN hN (hn rfl)) rfl yqSt29 (by exact rdS hr rfl rfl) (by exact rdBtake hr rfl rfl) rfl (by decide)) (by exact rfl) ?_
        refine FRun.slot rfl (fun τ hN hr => step_moveV rfl (rdN hN (hn rfl)) rfl (by exact rdS hr rfl rfl)) (by exact rfl) ?_
        refine FRun.slot rfl (fun τ hN hr => step_loadS_b rfl (rdN hN (hn rfl)) rfl yqSt29 (by exact rdS hr rfl rfl) (by exact rdBtake hr rfl rfl) rfl (by decide)) (by exact rfl) ?_
        refine FRun.lent rfl (fun τ hN hr => call_stepLZ rfl (rdN hN (hn rfl)) rfl yqCo137 (by exact rdS hr rfl rfl) (by exact rdA hr rfl rfl) rfl rfl (.cons (by exact rdS hr rfl rfl) (.agg (.cons (.v _) (.cons (.v _) .nil))) (.nil)) hl5 rfl (by exact rdNoRefs hr rfl rfl)) (by exact rfl) ?_
        refine FRun.whole rfl (call_stepZ rfl (hn rfl) rfl yqCo169 (.cons rfl (.agg (.cons (.v _) (.cons (.v _) .nil))) (.cons rfl (.agg (.cons (.v _) (.cons (.v _) (.cons (.v _) .nil)))) (.nil))) (l55Step _ _ (by assumption) (by assumption)) rfl rfl) (by exact rfl) ?_
        refine FRun.whole rfl (step_store_p (bs := [_, _]) rfl rfl yqCs29 rfl rfl rfl rfl rfl rfl rfl) (by exact rfl) ?_
        refine FRun.nil ?_
        exact hQ.out
      apply E.reg
      · intro Q hQ
        refine AWp.region ?_
        refine ARun.step rfl (step_moveV rfl (hn rfl) rfl rfl) ?_
        refine ARun.step rfl (step_decN rfl (hn rfl) rfl rfl rfl (by omega) (by omega)) ?_
        refine ARun.step rfl (step_assignV rfl (hn rfl) rfl rfl) ?_
        refine ARun.nil ?_
        exact hQ.out
      refine ih1 (x.1 - 1, stepB x.2.1 d5, q5) _ ?_ ?_ (Le.forgetR rfl ⟨rfl, rfl, rfl, rfl, trivial⟩ ⟨rfl, rfl, trivial⟩ ⟨.refl _, trivial⟩)
      · try dsimp only
        exact ⟨by omega, step_le hbk, by omega, by omega⟩
      · try dsimp only
        omega
    · try simp only [nrm] at c2
      refine E.mono (fun Q h => AWp.exit h) ?_
      apply E.reg
      · intro Q hQ
        refine AWp.seq (AWp.region ?_)
        refine ARun.step rfl (step_loadS_b rfl (hn rfl) rfl yqSt29 rfl rfl rfl (by decide)) ?_
        refine ARun.step rfl (step_store_p (bs := [_, _]) rfl rfl yqCs29 rfl rfl rfl rfl rfl rfl rfl) ?_
        refine ARun.nil ?_
        exact hQ.out
      refine E.mono (fun Q h => AWp.ret h) ?_
      apply E.ret (i := (_, Bk.mk _ _))
      · refine ⟨.inr rfl, ⟨2, 2, _, _, _, yqSt29, by decide, rfl, rfl, rfl, rfl, (.cons rfl (.agg (.cons (.frz _ _ _ _ _) (.cons (.frz _ _ _ _ _) (.nil _)))) (.nil _)), rfl, ?_⟩, (.refl _)⟩
        refine congrArg PV.agg ?_
        rfl
      · try dsimp only
        all_goals (exact ⟨(show p ≤ x.2.2 by omega), (show x.2.2 ≤ p + 1000 by omega), hbk⟩)
theorem l43DecE (n : Nat) (h0 : n ≤ 100000) : ∃ (s : Str) (u : Unit), (s.size ≤ n + 1) ∧ ASpec Try.prog 176 [.one (.int .i64 (n : Nat))] (.one (.str s)) := by
  revert h0
  refine Nat.strongRecOn n (fun n ih h0 => ?_)
  suffices key : ∃ i : Str × Unit, (i.1.size ≤ n + 1) ∧ ASpec Try.prog 176 [.one (.int .i64 (n : Nat))] (.one (.str i.1)) from (by obtain ⟨i, g, h⟩ := key; exact ⟨i.1, i.2, g, h⟩)
  refine ASpec.ex Try.func176 rfl [2] rfl 20 rfl rfl rfl (fun i : Str × Unit => (.one (.str i.1))) (fun i : Str × Unit => i.1.size ≤ n + 1) ?_
  apply E.reg
  · intro Q hQ
    refine AWp.seq (AWp.region ?_)
    refine ARun.step rfl (step_assignV rfl (hn rfl) rfl rfl) ?_
    refine ARun.nil ?_
    exact hQ.out
  refine E.mono (fun Q h => AWp.seq h) ?_
  apply E.reg
  · intro Q hQ
    refine AWp.seq (AWp.region ?_)
    refine ARun.step rfl (step_moveV rfl (hn rfl) rfl rfl) ?_
    refine ARun.step rfl (step_lss rfl (hn rfl) rfl rfl rfl) ?_
    refine ARun.nil ?_
    exact hQ.out
  refine E.cond rfl (fun c1 => ?_) (fun c1 => ?_)
  · try simp only [nrm] at c1
    apply E.reg
    · intro Q hQ
      refine AWp.seq (AWp.region ?_)
      refine ARun.step rfl (step_moveV rfl (hn rfl) rfl rfl) ?_
      refine ARun.step rfl (step_addN (m := 48) rfl (hn rfl) rfl rfl rfl (by omega)) ?_
      refine ARun.step rfl (step_convInt rfl (hn rfl) rfl ⟨_, yqUi3⟩ yqUi5 rfl) ?_
      refine ARun.step rfl (step_buildV rfl (hn rfl) rfl yqSl41 (.cons rfl rfl rfl rfl (.nil _)) rfl rfl) ?_
      refine ARun.step rfl (step_convBytes rfl (hn rfl) rfl yqUl41 yqUi5 yqUs9 [_] rfl rfl (by exact Nat.succ_pos _) (rows1 rfl)) ?_
      refine ARun.step rfl (step_assignV rfl (hn rfl) rfl rfl) ?_
      refine ARun.nil ?_
      exact hQ.out
    refine E.mono (fun Q h => AWp.ret h) ?_
    apply E.ret (i := (_, ()))
    · refine RetIs.sc (.inr rfl) rfl rfl ?_
      refine congrArg T.str ?_
      rfl
    · try dsimp only
      all_goals (exact (Nat.le_add_left 1 n : 1 ≤ n + 1))
  · try simp only [nrm] at c1
    refine E.mono (fun Q h => AWp.skip h) ?_
    obtain ⟨sd, _, hsd, hd⟩ := ih (n / 10) (by omega) (by omega)
    apply E.reg
    · intro Q hQ
      refine AWp.seq (AWp.draw [⟨[.s 0], [.s 10], false⟩, ⟨[.s 10], [.s 11], false⟩, ⟨[.s 11], [.s 12], false⟩, ⟨[.s 0], [.s 13], false⟩, ⟨[.s 13], [.s 14], false⟩, ⟨[.s 14], [.s 15], false⟩, ⟨[.s 15], [.s 16], false⟩, ⟨[.s 16], [.s 17], false⟩, ⟨[.s 17], [.s 18], false⟩, ⟨[.s 12, .s 18], [.s 19], false⟩, ⟨[], [], true⟩] yqMo rfl ?_)
      refine DRun.step rfl (fun τ hN hr => step_moveV rfl (rdN hN (hn rfl)) rfl (by exact rdS hr rfl rfl)) ?_
      refine DRun.step rfl (fun τ hN hr => step_quoN (n := 10) rfl (rdN hN (hn rfl)) rfl (by exact rdS hr rfl rfl) rfl (by decide) (by omega)) ?_
      refine DRun.step rfl (fun τ hN hr => call_step1 rfl (rdN hN (hn rfl)) rfl yqCo176 (.cons (by exact rdS hr rfl rfl) (.one (.v _)) (.nil)) hd rfl) ?_
      refine DRun.step rfl (fun τ hN hr => step_moveV rfl (rdN hN (hn rfl)) rfl (by exact rdS hr rfl rfl)) ?_
      refine DRun.step rfl (fun τ hN hr => step_remN (n := 10) rfl (rdN hN (hn rfl)) rfl (by exact rdS hr rfl rfl) rfl (by decide)) ?_
      refine DRun.step rfl (fun τ hN hr => step_addN (m := 48) rfl (rdN hN (hn rfl)) rfl rfl (by exact rdS hr rfl rfl) (by omega)) ?_
      refine DRun.step rfl (fun τ hN hr => step_convInt rfl (rdN hN (hn rfl)) rfl ⟨_, yqUi3⟩ yqUi5 (by exact rdS hr rfl rfl)) ?_
      refine DRun.step rfl (fun τ hN hr => step_buildV rfl (rdN hN (hn rfl)) rfl yqSl41 ((by exact .cons (by exact rdS hr rfl rfl) rfl rfl rfl (.nil _))) rfl rfl) ?_
      refine DRun.step rfl (fun τ hN hr => step_convBytes rfl (rdN hN (hn rfl)) rfl yqUl41 yqUi5 yqUs9 [_] (by exact rdS hr rfl rfl) rfl (by exact Nat.succ_pos _) (rows1 rfl)) ?_
      refine DRun.step rfl (fun τ hN hr => step_sadd rfl (rdN hN (hn rfl)) rfl (by exact rdS hr rfl rfl) (by exact rdS hr rfl rfl) (by simp only [bytesOf_size, List.length_cons, List.length_nil]; omega)) ?_
      refine DRun.lastS rfl (step_assignV rfl (hn rfl) rfl rfl) ?_
      exact hQ.out
    refine E.mono (fun Q h => AWp.ret h) ?_
    apply E.ret (i := (_, ()))
    · refine RetIs.sc (.inr rfl) rfl rfl ?_
      refine congrArg T.str ?_
      rfl
    · try dsimp only
      all_goals (simp only [ByteArray.size_append, bytesOf_size, List.length_cons, List.length_nil]; omega)
theorem l55DecE (n : Nat) (h0 : n ≤ 100000) : ∃ (s : Str) (u : Unit), (s.size ≤ n + 1) ∧ ASpec Try.prog 170 [.one (.int .i64 (n : Nat))] (.one (.str s)) := by
  suffices key : ∃ i : Str × Unit, (i.1.size ≤ n + 1) ∧ ASpec Try.prog 170 [.one (.int .i64 (n : Nat))] (.one (.str i.1)) from (by obtain ⟨i, g, h⟩ := key; exact ⟨i.1, i.2, g, h⟩)
  refine ASpec.ex Try.func170 rfl [2] rfl 5 rfl rfl rfl (fun i : Str × Unit => (.one (.str i.1))) (fun i : Str × Unit => i.1.size ≤ n + 1) ?_
  obtain ⟨sd, _, hsd, hd⟩ := l43DecE n (by omega)
  apply E.reg
  · intro Q hQ
    refine AWp.seq (AWp.region ?_)
    refine ARun.step rfl (step_assignV rfl (hn rfl) rfl rfl) ?_
    refine ARun.nil ?_
    exact hQ.out
  apply E.reg
  · intro Q hQ
    refine AWp.seq (AWp.region ?_)
    refine ARun.step rfl (step_moveV rfl (hn rfl) rfl rfl) ?_
    refine ARun.step rfl (call_step1 rfl (hn rfl) rfl yqCo176 (.cons rfl (.one (.v _)) (.nil)) hd rfl) ?_
    refine ARun.step rfl (step_assignV rfl (hn rfl) rfl rfl) ?_
    refine ARun.nil ?_
    exact hQ.out
  refine E.mono (fun Q h => AWp.ret h) ?_
  apply E.ret (i := (_, ()))
  · refine RetIs.sc (.inr rfl) rfl rfl ?_
    refine congrArg T.str ?_
    rfl
  · try dsimp only
    all_goals (exact hsd)
set_option maxHeartbeats 1000000 in
theorem l55Spoil (b : List UInt8) (p : Nat) (k : Bk) (hb : b.length ≤ 2000) (hp : p ≤ 500000000) (hk : bkLe k 5) : ∃ (q : Nat) (x : Bk), (p ≤ q ∧ q ≤ p + 20 ∧ bkLe x 6) ∧ LSpec Try.prog 135 132 (rdR 5 b p) (rdR 5 b q) [.agg (k.cells 48)] (.agg (x.zcells 48)) := by
  suffices key : ∃ i : Nat × Bk, (p ≤ i.1 ∧ i.1 ≤ p + 20 ∧ bkLe i.2 6) ∧ LSpec Try.prog 135 132 (rdR 5 b p) (rdR 5 b i.1) [.agg (k.cells 48)] (.agg (i.2.zcells 48)) from (by obtain ⟨i, g, h⟩ := key; exact ⟨i.1, i.2, g, h⟩)
  refine LSpec.exC Try.func135 rfl 4 29 [] rfl rfl 114 rfl rfl rfl rfl (fun i : Nat × Bk => rdR 5 b i.1) (fun i : Nat × Bk => (.agg (i.2.zcells 48))) (fun i : Nat × Bk => p ≤ i.1 ∧ i.1 ≤ p + 20 ∧ bkLe i.2 6) (fun i => rfl) (fun i => rfl) ?_
  have hkt := hk.1
  have hkl := hk.2.1
  have hkx := hk.mono (show 5 ≤ 6 by omega)
  apply E.reg
  · intro Q hQ
    refine AWp.seq (AWp.region ?_)
    refine ARun.step rfl (step_box_p (m := 1) rfl (hn rfl) rfl rfl rfl rfl rfl) ?_
    refine ARun.step rfl (step_alloc_p rfl (hn rfl) rfl yqZs29) ?_
    refine ARun.nil ?_
    exact hQ.out
  apply E.reg
  · intro Q hQ
    refine AWp.seq (AWp.region ?_)
    refine ARun.step rfl (step_loadS_b rfl (hn rfl) rfl yqSt29 rfl rfl rfl (by decide)) ?_
    refine ARun.step rfl (call_stepN rfl (hn rfl) rfl yqCo69 (.cons rfl (.agg (.cons (.v _) (.cons (.v _) .nil))) (.nil)) (copyS k (hk.small (by omega))) rfl rfl) ?_
    refine ARun.step rfl (step_alloc_p rfl (hn rfl) rfl yqZs29) ?_
    refine ARun.step rfl (step_store_r rfl rfl yqCs29 rfl rfl rfl rfl rfl rfl rfl) ?_
    refine ARun.nil ?_
    exact hQ.out
  refine E.mono (fun Q h => AWp.seq h) ?_
  obtain ⟨q1, k1, ⟨ha1, hb1, hc1⟩, hl1, hz1⟩ := l51pick_if (¬ k.bs.length = 0) b (p) (4) (by first | assumption | omega | decide | (simp only [List.length_append, List.length_cons, List.length_nil, List.length_take, List.length_drop]; omega)) (by first | assumption | omega | decide | (simp only [List.length_append, List.length_cons, List.length_nil, List.length_take, List.length_drop]; omega)) (by first | assumption | omega | decide | (simp only [List.length_append, List.length_cons, List.length_nil, List.length_take, List.length_drop]; omega)) (by first | assumption | omega | decide | (simp only [List.length_append, List.length_cons, List.length_nil, List.length_take, List.length_drop]; omega))
  apply E.reg
  · intro Q hQ
    refine AWp.seq (AWp.region ?_)
    refine ARun.step rfl (step_field_b rfl (hn rfl) rfl yqFo29_1 rfl (by exact List.cons_ne_nil _ _)) ?_
    refine ARun.step rfl (step_load_b rfl (hn rfl) rfl yqSc27 rfl rfl) ?_
    refine ARun.step rfl (step_len_r rfl (hn rfl) rfl yqSl27 rfl rfl) ?_
    refine ARun.step rfl (step_eql rfl (hn rfl) rfl rfl rfl) ?_
    refine ARun.step rfl (step_moveV rfl (hn rfl) rfl rfl) ?_
    refine guardS rfl rfl rfl rfl (hn rfl) (fun g1 g2 => step_moveV rfl (hn rfl) rfl rfl) ?_
    refine guardL rfl rfl rfl rfl (hn rfl) (fun g1 g2 => call_stepLZ rfl (hn rfl) rfl yqCo102 (ev_true rfl (by exact flag2 g1 g2)) rfl rfl rfl (.cons rfl (.one (.v _)) (.nil)) (hl1 (by first | (have := of_decide_eq_true g2; omega) | simpa using g2)) rfl rfl) (fun h => by rw [hz1 (by intro hc; first | (simp only [nrm, Bool.true_and] at h; omega) | (simp [hc] at h; done))]; exact rfl) ?_
    refine guardS rfl rfl rfl rfl (hn rfl) (fun g1 g2 => step_eql rfl (hn rfl) rfl (ev_true rfl (by exact flag2 g1 g2)) rfl) ?_
    refine ARun.step rfl (step_or rfl (hn rfl) rfl rfl rfl (fun h => (by exact flag1 h))) ?_
    refine ARun.nil ?_
    exact hQ.out
  refine E.cond rfl (fun c1 => ?_) (fun c1 => ?_)
  · try simp only [nrm] at c1
    obtain ⟨_, s2, ⟨rfl, hk2⟩, hl2⟩ := l51of b (q1) ([⟨#[]⟩, ⟨#[65]⟩, ⟨#[97]⟩, ⟨#[122, 122]⟩]) (by first | assumption | omega | decide | (simp only [List.length_append, List.length_cons, List.length_nil, List.length_take, List.length_drop]; omega)) (by first | assumption | omega | decide | (simp only [List.length_append, List.length_cons, List.length_nil, List.length_take, List.length_drop]; omega)) (by first | assumption | omega | decide | (simp only [List.length_append, List.length_cons, List.length_nil, List.length_take, List.length_drop]; omega)) (by first | assumption | omega | decide | (simp only [List.length_append, List.length_cons, List.length_nil, List.length_take, List.length_drop]; omega))
    apply E.reg
    · intro Q hQ
      refine AWp.seq (AWp.drawM [⟨⟨[.s 5, .b 5], [.s 20], false⟩, none, []⟩, ⟨⟨[.s 20, .b 5], [.s 21], false⟩, none, []⟩, ⟨⟨[.s 0], [.s 22], false⟩, none, []⟩, ⟨⟨[], [.s 23], false⟩, none, []⟩, ⟨⟨[.s 23, .s 22, .a 1000000 0], [.s 24, .a 1000000 0], false⟩, none, []⟩, ⟨⟨[.s 24], [.s 25], false⟩, none, []⟩, ⟨⟨[], [], true⟩, none, []⟩, ⟨⟨[], [], true⟩, none, []⟩, ⟨⟨[], [], true⟩, none, []⟩] yqMo rfl rfl (Le.forgetR (n := 114) (sl := [(0, _), (1, _), (3, _), (4, _), (5, _), (9, _), (10, _), (11, _), (12, _), (13, _), (14, _), (15, _), (19, _)]) (bl := [(3, _), (4, _), (5, _)]) (al := [(10, 0, _), (10, 1, _), (1000000, 0, _)]) rfl ⟨rfl, rfl, rfl, rfl, rfl, rfl, rfl, rfl, rfl, rfl, rfl, rfl, rfl, trivial⟩ ⟨rfl, rfl, rfl, trivial⟩ ⟨.refl _, .refl _, .refl _, trivial⟩) rfl ?_)
      refine FRun.slot rfl (fun τ hN hr => step_field_b rfl (rdN hN (hn rfl)) rfl yqFo29_0 (by exact rdS hr rfl rfl) (by exact rdBne hr rfl (by exact List.cons_ne_nil _ _))) (by exact rfl) ?_
      refine FRun.slot rfl (fun τ hN hr => step_load_b rfl (rdN hN (hn rfl)) rfl yqSc22 (by exact rdS hr rfl rfl) (by exact rdBget hr rfl rfl)) (by exact rfl) ?_
      refine FRun.slot rfl (fun τ hN hr => step_moveV rfl (rdN hN (hn rfl)) rfl (by exact rdS hr rfl rfl)) (by exact rfl) ?_
      refine FRun.slot rfl (fun τ hN hr => step_buildVT rfl (rdN hN (hn rfl)) rfl yqSl22 (strs [⟨#[]⟩, ⟨#[65]⟩, ⟨#[97]⟩, ⟨#[122, 122]⟩]) (by exact .cons rfl rfl rfl rfl (.cons rfl rfl rfl rfl (.cons rfl rfl rfl rfl (.cons rfl rfl rfl rfl (.nil _))))) (by exact rfl) (by exact rfl) (by exact rfl) (by exact (rowsE ⟨rfl, rfl, rfl, rfl, trivial⟩))) (by exact rfl) ?_
      refine FRun.lent rfl (fun τ hN hr => call_stepLZ rfl (rdN hN (hn rfl)) rfl yqCo103 (by exact rdS hr rfl rfl) (by exact rdA hr rfl rfl) rfl rfl (.cons (by exact rdS hr rfl rfl) (.one (.v _)) (.nil)) hl2 rfl (by exact rdNoRefs hr rfl rfl)) (by exact rfl) ?_
      refine FRun.slot rfl (fun τ hN hr => step_buildVT rfl (rdN hN (hn rfl)) rfl yqSl22 (strs [(s2)]) ((by exact .cons (by exact rdS hr rfl rfl) rfl rfl rfl (.nil _))) (by exact rfl) (by exact rfl) (by exact rfl) (by exact (rows1 rfl))) (by exact rfl) ?_
      refine FRun.whole rfl (step_append_strs rfl (hn rfl) rfl yqSl22 rfl rfl rfl (.v _) (by first | omega | (simp only [List.length_cons, List.length_nil, List.length_append, List.length_take, List.length_drop]; omega)) (by first | omega | (simp only [List.length_cons, List.length_nil, List.length_append, List.length_take, List.length_drop]; omega))) (by exact rfl) ?_
      refine FRun.whole rfl (step_field_b rfl (hn rfl) rfl yqFo29_0 rfl (by exact List.cons_ne_nil _ _)) (by exact rfl) ?_
      refine FRun.whole rfl (step_store_r rfl rfl yqCs22 rfl rfl rfl rfl rfl rfl rfl) (by exact rfl) ?_
      refine FRun.nil ?_
      exact hQ.out
    refine E.mono (fun Q h => AWp.le (Le.fzBelow ⟨.arr 10 1, []⟩ (fun i => (nth k.bs i).zcells) rfl (fun _ _ => rfl) (bt_fz k.bs)) h) ?_
    apply E.reg
    · intro Q hQ
      refine AWp.seq (AWp.region ?_)
      refine ARun.step rfl (step_loadS_b rfl (hn rfl) rfl yqSt29 rfl rfl rfl (by decide)) ?_
      refine ARun.step rfl (step_store_r rfl rfl yqCs29 rfl rfl rfl rfl rfl rfl rfl) ?_
      refine ARun.nil ?_
      exact hQ.out
    refine E.mono (fun Q h => AWp.le (Le.letGo 10 0 (g := _) rfl (fun _ _ => rfl)) h) ?_
    refine E.mono (fun Q h => AWp.le (Le.letGo 10 1 (g := _) rfl (fun _ _ => rfl)) h) ?_
    refine E.mono (fun Q h => AWp.ret h) ?_
    apply E.ret (i := (_, Bk.mk _ _))
    · refine ⟨.inr rfl, ⟨4, 2, _, _, _, yqSt29, by decide, rfl, rfl, rfl, rfl, (.cons rfl (.agg (.cons (.frz _ _ _ _ _) (.cons (.frz _ _ _ _ _) (.nil _)))) (.nil _)), rfl, ?_⟩, (.refl _)⟩
      refine congrArg PV.agg ?_
      rfl
    · try dsimp only
      all_goals (exact ⟨by omega, by omega, by simp only [List.length_append, List.length_cons, List.length_nil]; omega, by show k.bs.length ≤ 6; omega, hkx.2.2⟩)
  · try simp only [nrm] at c1
    refine E.mono (fun Q h => AWp.skip h) ?_
    obtain ⟨_, k3, ⟨rfl, hk3⟩, hl3⟩ := l51pick b (q1) k.bs.length (by first | assumption | omega | decide | (simp only [List.length_append, List.length_cons, List.length_nil, List.length_take, List.length_drop]; omega)) (by first | assumption | omega | decide | (simp only [List.length_append, List.length_cons, List.length_nil, List.length_take, List.length_drop]; omega)) (by first | assumption | omega | decide | (simp only [List.length_append, List.length_cons, List.length_nil, List.length_take, List.length_drop]; omega)) (by first | assumption | omega | decide | (simp only [List.length_append, List.length_cons, List.length_nil, List.length_take, List.length_drop]; omega))
    apply E.reg
    · intro Q hQ
      refine AWp.seq (AWp.region ?_)
      refine ARun.step rfl (step_moveV rfl (hn rfl) rfl rfl) ?_
      refine ARun.step rfl (step_field_b rfl (hn rfl) rfl yqFo29_1 rfl (by exact List.cons_ne_nil _ _)) ?_
      refine ARun.step rfl (step_load_b rfl (hn rfl) rfl yqSc27 rfl rfl) ?_
      refine ARun.step rfl (step_len_r rfl (hn rfl) rfl yqSl27 rfl rfl) ?_
      refine ARun.step rfl (call_stepLZ rfl (hn rfl) rfl yqCo102 rfl rfl rfl rfl (.cons rfl (.one (.v _)) (.nil)) hl3 rfl rfl) ?_
      refine ARun.step rfl (step_assignV rfl (hn rfl) rfl rfl) ?_
      refine ARun.nil ?_
      exact hQ.out
    refine E.join (fun x : Bk × Nat => mkAS 114 [(4, ⟨true, .one (.bptr 4 0)⟩), (5, ⟨true, .one (.bptr 5 0)⟩)] [(4, [.any, .any]), (5, [.ref ⟨.arr 10 0, []⟩, .ref ⟨.arr 10 1, []⟩])] [(10, 0, strs x.1.things), (10, 1, bts 48 x.1.bs), (1000000, 0, ptT 132 (rdR 5 b x.2))]) (fun x => p ≤ x.2 ∧ x.2 ≤ p + 20 ∧ bkLe x.1 6) ?_ ?_
    · rintro x ⟨hja, hjb, hjk⟩
      apply E.reg
      · intro Q hQ
        refine AWp.seq (AWp.region ?_)
        refine ARun.step rfl (step_loadS_b rfl (hn rfl) rfl yqSt29 rfl rfl rfl (by decide)) ?_
        refine ARun.step rfl (step_store_r rfl rfl yqCs29 rfl rfl rfl rfl rfl rfl rfl) ?_
        refine ARun.nil ?_
        exact hQ.out
      refine E.mono (fun Q h => AWp.le (Le.letGo 10 0 (g := _) rfl (fun _ _ => rfl)) h) ?_
      refine E.mono (fun Q h => AWp.le (Le.letGo 10 1 (g := _) rfl (fun _ _ => rfl)) h) ?_
      refine E.mono (fun Q h => AWp.ret h) ?_
      apply E.ret (i := (_, Bk.mk _ _))
      · refine ⟨.inr rfl, ⟨4, 2, _, _, _, yqSt29, by decide, rfl, rfl, rfl, rfl, (.cons rfl (.agg (.cons (.frz _ _ _ _ _) (.cons (.frz _ _ _ _ _) (.nil _)))) (.nil _)), rfl, ?_⟩, (.refl _)⟩
        refine congrArg PV.agg ?_
        rfl
      · try dsimp only
        all_goals (exact ⟨hja, hjb, hjk⟩)
    · intro jh0
      obtain ⟨_, k4, ⟨rfl, hk4⟩, hl4⟩ := l51pick b (q1 + 1) (5) (by first | assumption | omega | decide | (simp only [List.length_append, List.length_cons, List.length_nil, List.length_take, List.length_drop]; omega)) (by first | assumption | omega | decide | (simp only [List.length_append, List.length_cons, List.length_nil, List.length_take, List.length_drop]; omega)) (by first | assumption | omega | decide | (simp only [List.length_append, List.length_cons, List.length_nil, List.length_take, List.length_drop]; omega)) (by first | assumption | omega | decide | (simp only [List.length_append, List.length_cons, List.length_nil, List.length_take, List.length_drop]; omega))
      apply E.reg
      · intro Q hQ
        refine AWp.seq (AWp.region ?_)
        refine ARun.step rfl (step_moveV rfl (hn rfl) rfl rfl) ?_
        refine ARun.step rfl (call_stepLZ rfl (hn rfl) rfl yqCo102 rfl rfl rfl rfl (.cons rfl (.one (.v _)) (.nil)) hl4 rfl rfl) ?_
        refine ARun.nil ?_
        exact hQ.out
      refine E.mono (fun Q h => AWp.block h) ?_
      apply E.reg
      · intro Q hQ
        refine AWp.seq (AWp.region ?_)
        refine ARun.step rfl (step_eql rfl (hn rfl) rfl rfl rfl) ?_
        refine ARun.step rfl (step_assignV rfl (hn rfl) rfl rfl) ?_
        refine ARun.nil ?_
        exact hQ.out
      refine E.cond rfl (fun c2 => ?_) (fun c2 => ?_)
      · try simp only [nrm] at c2
        refine E.mono (fun Q h => AWp.le (Le.fzBelow ⟨.arr 10 1, []⟩ (fun i => (nth k.bs i).zcells) rfl (fun _ _ => rfl) (bt_fz k.bs)) h) ?_
        obtain ⟨_, s5, ⟨rfl, hk5⟩, hl5⟩ := l51of b (q1 + 1 + 1) ([⟨#[]⟩, ⟨#[66]⟩, ⟨#[122, 122]⟩, ⟨#[97]⟩]) (by first | assumption | omega | decide | (simp only [List.length_append, List.length_cons, List.length_nil, List.length_take, List.length_drop]; omega)) (by first | assumption | omega | decide | (simp only [List.length_append, List.length_cons, List.length_nil, List.length_take, List.length_drop]; omega)) (by first | assumption | omega | decide | (simp only [List.length_append, List.length_cons, List.length_nil, List.length_take, List.length_drop]; omega)) (by first | assumption | omega | decide | (simp only [List.length_append, List.length_cons, List.length_nil, List.length_take, List.length_drop]; omega))
        apply E.reg
        · intro Q hQ
          refine AWp.drawM [⟨⟨[.s 5, .b 5], [.s 57], false⟩, none, []⟩, ⟨⟨[.s 57, .b 5], [.s 58], false⟩, none, []⟩, ⟨⟨[.s 6], [.s 59], false⟩, none, []⟩, ⟨⟨[.s 0], [.s 60], false⟩, none, []⟩, ⟨⟨[], [.s 61], false⟩, none, []⟩, ⟨⟨[.s 61, .s 60, .a 1000000 0], [.s 62, .a 1000000 0], false⟩, none, []⟩, ⟨⟨[], [], true⟩, none, []⟩, ⟨⟨[], [], true⟩, none, []⟩, ⟨⟨[], [], true⟩, none, []⟩] yqMo rfl rfl (Le.forgetR (n := 114) (sl := [(0, _), (1, _), (3, _), (4, _), (5, _), (6, _), (9, _), (10, _), (11, _), (12, _), (13, _), (14, _), (15, _), (19, _), (29, _), (30, _), (31, _), (32, _), (33, _), (34, _), (35, _), (55, _), (56, _)]) (bl := [(3, _), (4, _), (5, _)]) (al := [(10, 0, _), (10, 1, _), (1000000, 0, _)]) rfl ⟨rfl, rfl, rfl, rfl, rfl, rfl, rfl, rfl, rfl, rfl, rfl, rfl, rfl, rfl, rfl, rfl, rfl, rfl, rfl, rfl, rfl, rfl, rfl, trivial⟩ ⟨rfl, rfl, rfl, trivial⟩ ⟨.refl _, .refl _, .refl _, trivial⟩) rfl ?_
          refine FRun.slot rfl (fun τ hN hr => step_field_b rfl (rdN hN (hn rfl)) rfl yqFo29_1 (by exact rdS hr rfl rfl) (by exact rdBne hr rfl (by exact List.cons_ne_nil _ _))) (by exact rfl) ?_
          refine FRun.slot rfl (fun τ hN hr => step_load_b rfl (rdN hN (hn rfl)) rfl yqSc27 (by exact rdS hr rfl rfl) (by exact rdBget hr rfl rfl)) (by exact rfl) ?_
          refine FRun.slot rfl (fun τ hN hr => step_moveV rfl (rdN hN (hn rfl)) rfl (by exact rdS hr rfl rfl)) (by exact rfl) ?_
          refine FRun.slot rfl (fun τ hN hr => step_moveV rfl (rdN hN (hn rfl)) rfl (by exact rdS hr rfl rfl)) (by exact rfl) ?_
          refine FRun.slot rfl (fun τ hN hr => step_buildVT rfl (rdN hN (hn rfl)) rfl yqSl22 (strs [⟨#[]⟩, ⟨#[66]⟩, ⟨#[122, 122]⟩, ⟨#[97]⟩]) (by exact .cons rfl rfl rfl rfl (.cons rfl rfl rfl rfl (.cons rfl rfl rfl rfl (.cons rfl rfl rfl rfl (.nil _))))) (by exact rfl) (by exact rfl) (by exact rfl) (by exact (rowsE ⟨rfl, rfl, rfl, rfl, trivial⟩))) (by exact rfl) ?_
          refine FRun.lent rfl (fun τ hN hr => call_stepLZ rfl (rdN hN (hn rfl)) rfl yqCo103 (by exact rdS hr rfl rfl) (by exact rdA hr rfl rfl) rfl rfl (.cons (by exact rdS hr rfl rfl) (.one (.v _)) (.nil)) hl5 rfl (by exact rdNoRefs hr rfl rfl)) (by exact rfl) ?_
          refine FRun.whole rfl (step_index_rN rfl (hn rfl) rfl yqSl27 rfl rfl rfl (by first | omega | (simp only [List.length_cons, List.length_nil]; omega))) (by exact rfl) ?_
          refine FRun.whole rfl (step_field_e rfl (hn rfl) rfl yqFo48_0 rfl rfl) (by exact rfl) ?_
          refine FRun.whole rfl (step_store_1 rfl rfl yqCs9 rfl rfl (by omega) (hn rfl) rfl rfl) (by exact rfl) ?_
          refine FRun.nil ?_
          exact hQ.out
        refine jh0 (⟨k.things, k.bs.set k3 ⟨s5, (nth k.bs k3).has, (nth k.bs k3).needs⟩⟩, q1 + 1 + 1 + 1) _ ?_ (Le.forgetR rfl ⟨rfl, rfl, trivial⟩ ⟨rfl, rfl, trivial⟩ ⟨.refl _, (set_eqvN (by omega) _), .refl _, trivial⟩)
        try dsimp only
        exact ⟨by omega, by omega, set_le hkx (hkx.2.2 (nth k.bs k3) (nth_memA (by omega))).1 (hkx.2.2 (nth k.bs k3) (nth_memA (by omega))).2⟩
      · try simp only [nrm] at c2
        apply E.reg
        · intro Q hQ
          refine AWp.seq (AWp.region ?_)
          refine ARun.step rfl (step_eql rfl (hn rfl) rfl rfl rfl) ?_
          refine ARun.step rfl (step_assignV rfl (hn rfl) rfl rfl) ?_
          refine ARun.nil ?_
          exact hQ.out
        refine E.cond rfl (fun c3 => ?_) (fun c3 => ?_)
        · try simp only [nrm] at c3
          have hkb := hk.2.2 _ (nth_memA (show k3 < k.bs.length by omega))
          obtain ⟨_, s6, ⟨rfl, hk6⟩, hl6⟩ := l51of b (q1 + 1 + 1) ([⟨#[]⟩, ⟨#[122, 122]⟩, ⟨#[107, 101, 103]⟩, ⟨#[119]⟩]) (by first | assumption | omega | decide | (simp only [List.length_append, List.length_cons, List.length_nil, List.length_take, List.length_drop]; omega)) (by first | assumption | omega | decide | (simp only [List.length_append, List.length_cons, List.length_nil, List.length_take, List.length_drop]; omega)) (by first | assumption | omega | decide | (simp only [List.length_append, List.length_cons, List.length_nil, List.length_take, List.length_drop]; omega)) (by first | assumption | omega | decide | (simp only [List.length_append, List.length_cons, List.length_nil, List.length_take, List.length_drop]; omega))
          apply E.reg
          · intro Q hQ
            refine AWp.drawM [⟨⟨[.s 5, .b 5], [.s 67], false⟩, none, [80]⟩, ⟨⟨[.s 67, .b 5], [.s 68], false⟩, none, [80]⟩, ⟨⟨[.s 6], [.s 69], false⟩, none, [80]⟩, ⟨⟨[.s 5, .b 5], [.s 70], false⟩, none, [80]⟩, ⟨⟨[.s 70, .b 5], [.s 71], false⟩, none, [80]⟩, ⟨⟨[.s 6], [.s 72], false⟩, none, [80]⟩, ⟨⟨[.s 71, .a 10 1, .s 72], [.s 73], false⟩, none, [80]⟩, ⟨⟨[.s 73, .a 10 1], [.s 74], false⟩, none, [80]⟩, ⟨⟨[.s 74, .a 10 1], [.s 75], false⟩, none, [80]⟩, ⟨⟨[.s 0], [.s 76], false⟩, none, [80]⟩, ⟨⟨[], [.s 77], false⟩, none, [80]⟩, ⟨⟨[.s 77, .s 76, .a 1000000 0], [.s 78, .a 1000000 0], false⟩, none, [80]⟩, ⟨⟨[.s 78], [.s 79], false⟩, none, [80]⟩, ⟨⟨[.s 75, .a 10 1, .s 79], [.s 80, .a 80 0, .a 10 1], false⟩, some 80, []⟩, ⟨⟨[], [], true⟩, none, []⟩, ⟨⟨[], [], true⟩, none, []⟩, ⟨⟨[], [], true⟩, none, []⟩] yqMo rfl rfl (Le.forgetR (n := 114) (sl := [(0, _), (1, _), (3, _), (4, _), (5, _), (6, _), (9, _), (10, _), (11, _), (12, _), (13, _), (14, _), (15, _), (19, _), (29, _), (30, _), (31, _), (32, _), (33, _), (34, _), (35, _), (55, _), (56, _), (65, _), (66, _)]) (bl := [(3, _), (4, _), (5, _)]) (al := [(10, 0, _), (10, 1, _), (1000000, 0, _)]) rfl ⟨rfl, rfl, rfl, rfl, rfl, rfl, rfl, rfl, rfl, rfl, rfl, rfl, rfl, rfl, rfl, rfl, rfl, rfl, rfl, rfl, rfl, rfl, rfl, rfl, rfl, trivial⟩ ⟨rfl, rfl, rfl, trivial⟩ ⟨.refl _, .refl _, .refl _, trivial⟩) rfl ?_
            refine FRun.slot rfl (fun τ hN hr => step_field_b rfl (rdN hN (hn rfl)) rfl yqFo29_1 (by exact rdS hr rfl rfl) (by exact rdBne hr rfl (by exact List.cons_ne_nil _ _))) (by exact rfl) ?_
            refine FRun.slot rfl (fun τ hN hr => step_load_b rfl (rdN hN (hn rfl)) rfl yqSc27 (by exact rdS hr rfl rfl) (by exact rdBget hr rfl rfl)) (by exact rfl) ?_
            refine FRun.slot rfl (fun τ hN hr => step_moveV rfl (rdN hN (hn rfl)) rfl (by exact rdS hr rfl rfl)) (by exact rfl) ?_
            refine FRun.slot rfl (fun τ hN hr => step_field_b rfl (rdN hN (hn rfl)) rfl yqFo29_1 (by exact rdS hr rfl rfl) (by exact rdBne hr rfl (by exact List.cons_ne_nil _ _))) (by exact rfl) ?_
            refine FRun.slot rfl (fun τ hN hr => step_load_b rfl (rdN hN (hn rfl)) rfl yqSc27 (by exact rdS hr rfl rfl) (by exact rdBget hr rfl rfl)) (by exact rfl) ?_
            refine FRun.slot rfl (fun τ hN hr => step_moveV rfl (rdN hN (hn rfl)) rfl (by exact rdS hr rfl rfl)) (by exact rfl) ?_
            refine FRun.slot rfl (fun τ hN hr => step_index_rN rfl (rdN hN (hn rfl)) rfl yqSl27 (by exact rdS hr rfl rfl) (by exact rdA hr rfl rfl) (by exact rdS hr rfl rfl) (by first | omega | (simp only [List.length_cons, List.length_nil]; omega))) (by exact rfl) ?_
            refine FRun.slot rfl (fun τ hN hr => step_field_e rfl (rdN hN (hn rfl)) rfl yqFo48_2 (by exact rdS hr rfl rfl) (by exact rdA hr rfl rfl)) (by exact rfl) ?_
            refine FRun.slot rfl (fun τ hN hr => step_load_e rfl (rdN hN (hn rfl)) rfl yqSc22 (by exact rdS hr rfl rfl) (by exact rdA hr rfl rfl) (by omega) (hn rfl) rfl) (by exact rfl) ?_
            refine FRun.slot rfl (fun τ hN hr => step_moveV rfl (rdN hN (hn rfl)) rfl (by exact rdS hr rfl rfl)) (by exact rfl) ?_
            refine FRun.slot rfl (fun τ hN hr => step_buildVT rfl (rdN hN (hn rfl)) rfl yqSl22 (strs [⟨#[]⟩, ⟨#[122, 122]⟩, ⟨#[107, 101, 103]⟩, ⟨#[119]⟩]) (by exact .cons rfl rfl rfl rfl (.cons rfl rfl rfl rfl (.cons rfl rfl rfl rfl (.cons rfl rfl rfl rfl (.nil _))))) (by exact rfl) (by exact rfl) (by exact rfl) (by exact (rowsE ⟨rfl, rfl, rfl, rfl, trivial⟩))) (by exact rfl) ?_
            refine FRun.lent rfl (fun τ hN hr => call_stepLZ rfl (rdN hN (hn rfl)) rfl yqCo103 (by exact rdS hr rfl rfl) (by exact rdA hr rfl rfl) rfl rfl (.cons (by exact rdS hr rfl rfl) (.one (.v _)) (.nil)) hl6 rfl (by exact rdNoRefs hr rfl rfl)) (by exact rfl) ?_
            refine FRun.slot rfl (fun τ hN hr => step_buildVT rfl (rdN hN (hn rfl)) rfl yqSl22 (strs [(s6)]) ((by exact .cons (by exact rdS hr rfl rfl) rfl rfl rfl (.nil _))) (by exact rfl) (by exact rfl) (by exact rfl) (by exact (rows1 rfl))) (by exact rfl) ?_
            refine FRun.madeA (t := strs (_ ++ _)) rfl (fun τ hN hr hF => (step_appendN rfl (rdN hN (hn rfl)) rfl yqSl22 hF (by exact rdS hr rfl rfl) (by exact rdA hr rfl rfl) (by omega) rfl (by exact rdS hr rfl rfl) (.v _) (fun _ _ => rfl) (by first | omega | (simp only [List.length_cons, List.length_nil, List.length_append, List.length_take, List.length_drop]; omega)) (by first | omega | (simp only [List.length_cons, List.length_nil, List.length_append, List.length_take, List.length_drop]; omega))).le (Le.eqvArr (strs_cat _ _))) (by exact rfl) ?_
            refine FRun.whole rfl (step_index_rN rfl (hn rfl) rfl yqSl27 rfl rfl rfl (by first | omega | (simp only [List.length_cons, List.length_nil]; omega))) (by exact rfl) ?_
            refine FRun.whole rfl (step_field_e rfl (hn rfl) rfl yqFo48_2 rfl rfl) (by exact rfl) ?_
            refine FRun.whole rfl (step_store_e rfl rfl yqCs22 rfl rfl (by omega) (hn rfl) rfl rfl rfl) (by exact rfl) ?_
            refine FRun.nil ?_
            exact hQ.out
          refine E.mono (fun Q h => AWp.le (Le.retellArr 10 1 (t' := btsO 48 (k.bs.set k3 ⟨(nth k.bs k3).name, (nth k.bs k3).has, (nth k.bs k3).needs ++ [s6]⟩)) (set_eqvO (by omega) rfl)) h) ?_
          refine E.mono (fun Q h => AWp.le (Le.fzBelow ⟨.arr 10 1, []⟩ (fun i => (nth (k.bs.set k3 ⟨(nth k.bs k3).name, (nth k.bs k3).has, (nth k.bs k3).needs ++ [s6]⟩) i).zcells) rfl (fun _ _ => rfl) (bt_fz (k.bs.set k3 ⟨(nth k.bs k3).name, (nth k.bs k3).has, (nth k.bs k3).needs ++ [s6]⟩))) h) ?_
          refine jh0 (⟨k.things, k.bs.set k3 ⟨(nth k.bs k3).name, (nth k.bs k3).has, (nth k.bs k3).needs ++ [s6]⟩⟩, q1 + 1 + 1 + 1) _ ?_ (Le.forgetR rfl ⟨rfl, rfl, trivial⟩ ⟨rfl, rfl, trivial⟩ ⟨.refl _, .refl _, .refl _, trivial⟩)
          try dsimp only
          exact ⟨by omega, by omega, set_le hkx (hkx.2.2 (nth k.bs k3) (nth_memA (by omega))).1 (by simp only [List.length_append, List.length_cons, List.length_nil]; omega)⟩
        · try simp only [nrm] at c3
          apply E.reg
          · intro Q hQ
            refine AWp.seq (AWp.region ?_)
            refine ARun.step rfl (step_eql rfl (hn rfl) rfl rfl rfl) ?_
            refine ARun.step rfl (step_assignV rfl (hn rfl) rfl rfl) ?_
            refine ARun.nil ?_
            exact hQ.out
          refine E.cond rfl (fun c4 => ?_) (fun c4 => ?_)
          · try simp only [nrm] at c4
            have hkb := hk.2.2 _ (nth_memA (show k3 < k.bs.length by omega))
            obtain ⟨_, s7, ⟨rfl, hk7⟩, hl7⟩ := l51of b (q1 + 1 + 1) ([⟨#[]⟩, ⟨#[122, 122]⟩, ⟨#[107, 101, 103]⟩, ⟨#[119]⟩]) (by first | assumption | omega | decide | (simp only [List.length_append, List.length_cons, List.length_nil, List.length_take, List.length_drop]; omega)) (by first | assumption | omega | decide | (simp only [List.length_append, List.length_cons, List.length_nil, List.length_take, List.length_drop]; omega)) (by first | assumption | omega | decide | (simp only [List.length_append, List.length_cons, List.length_nil, List.length_take, List.length_drop]; omega)) (by first | assumption | omega | decide | (simp only [List.length_append, List.length_cons, List.length_nil, List.length_take, List.length_drop]; omega))
            apply E.reg
            · intro Q hQ
              refine AWp.drawM [⟨⟨[.s 5, .b 5], [.s 85], false⟩, none, [98]⟩, ⟨⟨[.s 85, .b 5], [.s 86], false⟩, none, [98]⟩, ⟨⟨[.s 6], [.s 87], false⟩, none, [98]⟩, ⟨⟨[.s 5, .b 5], [.s 88], false⟩, none, [98]⟩, ⟨⟨[.s 88, .b 5], [.s 89], false⟩, none, [98]⟩, ⟨⟨[.s 6], [.s 90], false⟩, none, [98]⟩, ⟨⟨[.s 89, .a 10 1, .s 90], [.s 91], false⟩, none, [98]⟩, ⟨⟨[.s 91, .a 10 1], [.s 92], false⟩, none, [98]⟩, ⟨⟨[.s 92, .a 10 1], [.s 93], false⟩, none, [98]⟩, ⟨⟨[.s 0], [.s 94], false⟩, none, [98]⟩, ⟨⟨[], [.s 95], false⟩, none, [98]⟩, ⟨⟨[.s 95, .s 94, .a 1000000 0], [.s 96, .a 1000000 0], false⟩, none, [98]⟩, ⟨⟨[.s 96], [.s 97], false⟩, none, [98]⟩, ⟨⟨[.s 93, .a 10 1, .s 97], [.s 98, .a 98 0, .a 10 1], false⟩, some 98, []⟩, ⟨⟨[], [], true⟩, none, []⟩, ⟨⟨[], [], true⟩, none, []⟩, ⟨⟨[], [], true⟩, none, []⟩] yqMo rfl rfl (Le.forgetR (n := 114) (sl := [(0, _), (1, _), (3, _), (4, _), (5, _), (6, _), (9, _), (10, _), (11, _), (12, _), (13, _), (14, _), (15, _), (19, _), (29, _), (30, _), (31, _), (32, _), (33, _), (34, _), (35, _), (55, _), (56, _), (65, _), (66, _), (83, _), (84, _)]) (bl := [(3, _), (4, _), (5, _)]) (al := [(10, 0, _), (10, 1, _), (1000000, 0, _)]) rfl ⟨rfl, rfl, rfl, rfl, rfl, rfl, rfl, rfl, rfl, rfl, rfl, rfl, rfl, rfl, rfl, rfl, rfl, rfl, rfl, rfl, rfl, rfl, rfl, rfl, rfl, rfl, rfl, trivial⟩ ⟨rfl, rfl, rfl, trivial⟩ ⟨.refl _, .refl _, .refl _, trivial⟩) rfl ?_
              refine FRun.slot rfl (fun τ hN hr => step_field_b rfl (rdN hN (hn rfl)) rfl yqFo29_1 (by exact rdS hr rfl rfl) (by exact rdBne hr rfl (by exact List.cons_ne_nil _ _))) (by exact rfl) ?_
              refine FRun.slot rfl (fun τ hN hr => step_load_b rfl (rdN hN (hn rfl)) rfl yqSc27 (by exact rdS hr rfl rfl) (by exact rdBget hr rfl rfl)) (by exact rfl) ?_
              refine FRun.slot rfl (fun τ hN hr => step_moveV rfl (rdN hN (hn rfl)) rfl (by exact rdS hr rfl rfl)) (by exact rfl) ?_
              refine FRun.slot rfl (fun τ hN hr => step_field_b rfl (rdN hN (hn rfl)) rfl yqFo29_1 (by exact rdS hr rfl rfl) (by exact rdBne hr rfl (by exact List.cons_ne_nil _ _))) (by exact rfl) ?_
              refine FRun.slot rfl (fun τ hN hr => step_load_b rfl (rdN hN (hn rfl)) rfl yqSc27 (by exact rdS hr rfl rfl) (by exact rdBget hr rfl rfl)) (by exact rfl) ?_
              refine FRun.slot rfl (fun τ hN hr => step_moveV rfl (rdN hN (hn rfl)) rfl (by exact rdS hr rfl rfl)) (by exact rfl) ?_
              refine FRun.slot rfl (fun τ hN hr => step_index_rN rfl (rdN hN (hn rfl)) rfl yqSl27 (by exact rdS hr rfl rfl) (by exact rdA hr rfl rfl) (by exact rdS hr rfl rfl) (by first | omega | (simp only [List.length_cons, List.length_nil]; omega))) (by exact rfl) ?_
              refine FRun.slot rfl (fun τ hN hr => step_field_e rfl (rdN hN (hn rfl)) rfl yqFo48_1 (by exact rdS hr rfl rfl) (by exact rdA hr rfl rfl)) (by exact rfl) ?_
              refine FRun.slot rfl (fun τ hN hr => step_load_e rfl (rdN hN (hn rfl)) rfl yqSc22 (by exact rdS hr rfl rfl) (by exact rdA hr rfl rfl) (by omega) (hn rfl) rfl) (by exact rfl) ?_
              refine FRun.slot rfl (fun τ hN hr => step_moveV rfl (rdN hN (hn rfl)) rfl (by exact rdS hr rfl rfl)) (by exact rfl) ?_
              refine FRun.slot rfl (fun τ hN hr => step_buildVT rfl (rdN hN (hn rfl)) rfl yqSl22 (strs [⟨#[]⟩, ⟨#[122, 122]⟩, ⟨#[107, 101, 103]⟩, ⟨#[119]⟩]) (by exact .cons rfl rfl rfl rfl (.cons rfl rfl rfl rfl (.cons rfl rfl rfl rfl (.cons rfl rfl rfl rfl (.nil _))))) (by exact rfl) (by exact rfl) (by exact rfl) (by exact (rowsE ⟨rfl, rfl, rfl, rfl, trivial⟩))) (by exact rfl) ?_
              refine FRun.lent rfl (fun τ hN hr => call_stepLZ rfl (rdN hN (hn rfl)) rfl yqCo103 (by exact rdS hr rfl rfl) (by exact rdA hr rfl rfl) rfl rfl (.cons (by exact rdS hr rfl rfl) (.one (.v _)) (.nil)) hl7 rfl (by exact rdNoRefs hr rfl rfl)) (by exact rfl) ?_
              refine FRun.slot rfl (fun τ hN hr => step_buildVT rfl (rdN hN (hn rfl)) rfl yqSl22 (strs [(s7)]) ((by exact .cons (by exact rdS hr rfl rfl) rfl rfl rfl (.nil _))) (by exact rfl) (by exact rfl) (by exact rfl) (by exact (rows1 rfl))) (by exact rfl) ?_
              refine FRun.madeA (t := strs (_ ++ _)) rfl (fun τ hN hr hF => (step_appendN rfl (rdN hN (hn rfl)) rfl yqSl22 hF (by exact rdS hr rfl rfl) (by exact rdA hr rfl rfl) (by omega) rfl (by exact rdS hr rfl rfl) (.v _) (fun _ _ => rfl) (by first | omega | (simp only [List.length_cons, List.length_nil, List.length_append, List.length_take, List.length_drop]; omega)) (by first | omega | (simp only [List.length_cons, List.length_nil, List.length_append, List.length_take, List.length_drop]; omega))).le (Le.eqvArr (strs_cat _ _))) (by exact rfl) ?_
              refine FRun.whole rfl (step_index_rN rfl (hn rfl) rfl yqSl27 rfl rfl rfl (by first | omega | (simp only [List.length_cons, List.length_nil]; omega))) (by exact rfl) ?_
              refine FRun.whole rfl (step_field_e rfl (hn rfl) rfl yqFo48_1 rfl rfl) (by exact rfl) ?_
              refine FRun.whole rfl (step_store_e rfl rfl yqCs22 rfl rfl (by omega) (hn rfl) rfl rfl rfl) (by exact rfl) ?_
              refine FRun.nil ?_
              exact hQ.out
            refine E.mono (fun Q h => AWp.le (Le.retellArr 10 1 (t' := btsO 48 (k.bs.set k3 ⟨(nth k.bs k3).name, (nth k.bs k3).has ++ [s7], (nth k.bs k3).needs⟩)) (set_eqvO (by omega) rfl)) h) ?_
            refine E.mono (fun Q h => AWp.le (Le.fzBelow ⟨.arr 10 1, []⟩ (fun i => (nth (k.bs.set k3 ⟨(nth k.bs k3).name, (nth k.bs k3).has ++ [s7], (nth k.bs k3).needs⟩) i).zcells) rfl (fun _ _ => rfl) (bt_fz (k.bs.set k3 ⟨(nth k.bs k3).name, (nth k.bs k3).has ++ [s7], (nth k.bs k3).needs⟩))) h) ?_
            refine jh0 (⟨k.things, k.bs.set k3 ⟨(nth k.bs k3).name, (nth k.bs k3).has ++ [s7], (nth k.bs k3).needs⟩⟩, q1 + 1 + 1 + 1) _ ?_ (Le.forgetR rfl ⟨rfl, rfl, trivial⟩ ⟨rfl, rfl, trivial⟩ ⟨.refl _, .refl _, .refl _, trivial⟩)
            try dsimp only
            exact ⟨by omega, by omega, set_le hkx (by simp only [List.length_append, List.length_cons, List.length_nil]; omega) (hkx.2.2 (nth k.bs k3) (nth_memA (by omega))).2⟩
          · try simp only [nrm] at c4
            apply E.reg
            · intro Q hQ
              refine AWp.seq (AWp.region ?_)
              refine ARun.step rfl (step_eql rfl (hn rfl) rfl rfl rfl) ?_
              refine ARun.step rfl (step_assignV rfl (hn rfl) rfl rfl) ?_
              refine ARun.nil ?_
              exact hQ.out
            refine E.cond rfl (fun c5 => ?_) (fun c5 => ?_)
            · try simp only [nrm] at c5
              refine E.mono (fun Q h => AWp.le (Le.fzBelow ⟨.arr 10 1, []⟩ (fun i => (nth k.bs i).zcells) rfl (fun _ _ => rfl) (bt_fz k.bs)) h) ?_
              apply E.reg
              · intro Q hQ
                refine AWp.drawM [⟨⟨[.s 5, .b 5], [.s 103], false⟩, none, []⟩, ⟨⟨[.s 103, .b 5], [.s 104], false⟩, none, []⟩, ⟨⟨[.s 5, .b 5], [.s 105], false⟩, none, []⟩, ⟨⟨[.s 105, .b 5], [.s 106], false⟩, none, []⟩, ⟨⟨[.s 6], [.s 107], false⟩, none, []⟩, ⟨⟨[.s 106, .a 10 1, .s 107], [.s 108], false⟩, none, []⟩, ⟨⟨[.s 108, .a 10 1], [.s 109], false⟩, none, []⟩, ⟨⟨[.s 109], [.s 110], false⟩, none, []⟩, ⟨⟨[], [], true⟩, none, []⟩, ⟨⟨[], [], true⟩, none, []⟩, ⟨⟨[], [], true⟩, none, []⟩] yqMo rfl rfl (Le.forgetR (n := 114) (sl := [(0, _), (1, _), (3, _), (4, _), (5, _), (6, _), (9, _), (10, _), (11, _), (12, _), (13, _), (14, _), (15, _), (19, _), (29, _), (30, _), (31, _), (32, _), (33, _), (34, _), (35, _), (55, _), (56, _), (65, _), (66, _), (83, _), (84, _), (101, _), (102, _)]) (bl := [(3, _), (4, _), (5, _)]) (al := [(10, 0, _), (10, 1, _), (1000000, 0, _)]) rfl ⟨rfl, rfl, rfl, rfl, rfl, rfl, rfl, rfl, rfl, rfl, rfl, rfl, rfl, rfl, rfl, rfl, rfl, rfl, rfl, rfl, rfl, rfl, rfl, rfl, rfl, rfl, rfl, rfl, rfl, trivial⟩ ⟨rfl, rfl, rfl, trivial⟩ ⟨.refl _, .refl _, .refl _, trivial⟩) rfl ?_
                refine FRun.slot rfl (fun τ hN hr => step_field_b rfl (rdN hN (hn rfl)) rfl yqFo29_1 (by exact rdS hr rfl rfl) (by exact rdBne hr rfl (by exact List.cons_ne_nil _ _))) (by exact rfl) ?_
                refine FRun.slot rfl (fun τ hN hr => step_load_b rfl (rdN hN (hn rfl)) rfl yqSc27 (by exact rdS hr rfl rfl) (by exact rdBget hr rfl rfl)) (by exact rfl) ?_
                refine FRun.slot rfl (fun τ hN hr => step_field_b rfl (rdN hN (hn rfl)) rfl yqFo29_1 (by exact rdS hr rfl rfl) (by exact rdBne hr rfl (by exact List.cons_ne_nil _ _))) (by exact rfl) ?_
                refine FRun.slot rfl (fun τ hN hr => step_load_b rfl (rdN hN (hn rfl)) rfl yqSc27 (by exact rdS hr rfl rfl) (by exact rdBget hr rfl rfl)) (by exact rfl) ?_
                refine FRun.slot rfl (fun τ hN hr => step_moveV rfl (rdN hN (hn rfl)) rfl (by exact rdS hr rfl rfl)) (by exact rfl) ?_
                refine FRun.slot rfl (fun τ hN hr => step_index_rN rfl (rdN hN (hn rfl)) rfl yqSl27 (by exact rdS hr rfl rfl) (by exact rdA hr rfl rfl) (by exact rdS hr rfl rfl) (by first | omega | (simp only [List.length_cons, List.length_nil]; omega))) (by exact rfl) ?_
                refine FRun.slot rfl (fun τ hN hr => step_loadS_e rfl (rdN hN (hn rfl)) rfl yqSt48 (by exact rdS hr rfl rfl) (by exact rdA hr rfl rfl) (by omega) (hn rfl) rfl rfl) (by exact rfl) ?_
                refine FRun.slot rfl (fun τ hN hr => step_buildV rfl (rdN hN (hn rfl)) rfl yqSl27 ((by exact .cons (by exact rdS hr rfl rfl) rfl rfl rfl (.nil _))) rfl rfl) (by exact rfl) ?_
                refine FRun.whole rfl (step_append rfl (hn rfl) rfl yqSl27 rfl rfl rfl (.v _) (flatRows_one rfl) (by first | omega | (simp only [List.length_cons, List.length_nil]; omega)) (by first | omega | (simp only [List.length_cons, List.length_nil]; omega))) (by exact rfl) ?_
                refine FRun.whole rfl (step_field_b rfl (hn rfl) rfl yqFo29_1 rfl (by exact List.cons_ne_nil _ _)) (by exact rfl) ?_
                refine FRun.whole rfl (step_store_r rfl rfl yqCs27 rfl rfl rfl rfl rfl rfl rfl) (by exact rfl) ?_
                refine FRun.nil ?_
                exact hQ.out
              refine jh0 (⟨k.things, k.bs ++ [(nth k.bs k3)]⟩, q1 + 1 + 1) _ ?_ (Le.forgetR rfl ⟨rfl, rfl, trivial⟩ ⟨rfl, rfl, trivial⟩ ⟨.refl _, (bts_add rfl), .refl _, trivial⟩)
              try dsimp only
              exact ⟨by omega, by omega, add_le hkx (by omega) (hkx.2.2 _ (nth_memA (by omega))).1 (hkx.2.2 _ (nth_memA (by omega))).2⟩
            · try simp only [nrm] at c5
              obtain ⟨_, k8, ⟨rfl, hk8⟩, hl8⟩ := l51pick b (q1 + 1 + 1) (2) (by first | assumption | omega | decide | (simp only [List.length_append, List.length_cons, List.length_nil, List.length_take, List.length_drop]; omega)) (by first | assumption | omega | decide | (simp only [List.length_append, List.length_cons, List.length_nil, List.length_take, List.length_drop]; omega)) (by first | assumption | omega | decide | (simp only [List.length_append, List.length_cons, List.length_nil, List.length_take, List.length_drop]; omega)) (by first | assumption | omega | decide | (simp only [List.length_append, List.length_cons, List.length_nil, List.length_take, List.length_drop]; omega))
              apply E.reg
              · intro Q hQ
                refine AWp.seq (AWp.region ?_)
                refine ARun.step rfl (step_moveV rfl (hn rfl) rfl rfl) ?_
                refine ARun.step rfl (call_stepLZ rfl (hn rfl) rfl yqCo102 rfl rfl rfl rfl (.cons rfl (.one (.v _)) (.nil)) hl8 rfl rfl) ?_
                refine ARun.step rfl (step_addN (m := 5) rfl (hn rfl) rfl rfl rfl (by omega)) ?_
                refine ARun.step rfl (step_assignV rfl (hn rfl) rfl rfl) ?_
                refine ARun.nil ?_
                exact hQ.out
              apply E.reg
              · intro Q hQ
                refine AWp.seq (AWp.region ?_)
                refine ARun.step rfl (step_assignV rfl (hn rfl) rfl rfl) ?_
                refine ARun.nil ?_
                exact hQ.out
              refine E.mono (fun Q h => AWp.block h) ?_
              refine E.mono (fun Q h => AWp.le (Le.fzBelow ⟨.arr 10 1, []⟩ (fun i => (nth k.bs i).zcells) rfl (fun _ _ => rfl) (bt_fz k.bs)) h) ?_
              refine E.loop (fun y : Nat × List Bt => mkAS 114 [(4, ⟨true, .one (.bptr 4 0)⟩), (5, ⟨true, .one (.bptr 5 0)⟩), (7, ⟨true, .one (.v (.int .i64 (5 + k8 : Nat)))⟩), (8, ⟨true, .one (.v (.int .i64 (y.1 : Nat)))⟩)] [(4, [.any, .any]), (5, [.ref ⟨.arr 10 0, []⟩, .ref ⟨.arr 10 1, []⟩])] [(10, 0, strs k.things), (10, 1, bts 48 y.2), (1000000, 0, ptT 132 (rdR 5 b (q1 + 1 + 1 + 1)))]) (fun y => y.1 + k.bs.length = y.2.length ∧ y.2.length ≤ 6 ∧ bkLe ⟨k.things, y.2⟩ 6) (fun y => 7 - y.2.length) (0, k.bs) ?_ (Le.forgetR rfl ⟨rfl, rfl, rfl, rfl, trivial⟩ ⟨rfl, rfl, trivial⟩ ⟨.refl _, .refl _, .refl _, trivial⟩) ?_
              · try dsimp only
                exact ⟨by omega, by omega, hkx⟩
              rintro y ⟨hi, hlen, hbk⟩ ih1
              refine E.mono (fun Q h => AWp.seq h) ?_
              apply E.reg
              · intro Q hQ
                refine AWp.seq (AWp.region ?_)
                refine ARun.step rfl (step_field_b rfl (hn rfl) rfl yqFo29_1 rfl (by exact List.cons_ne_nil _ _)) ?_
                refine ARun.step rfl (step_load_b rfl (hn rfl) rfl yqSc27 rfl rfl) ?_
                refine ARun.step rfl (step_len_r rfl (hn rfl) rfl yqSl27 rfl rfl) ?_
                refine ARun.step rfl (step_moveV rfl (hn rfl) rfl rfl) ?_
                refine ARun.step rfl (step_lss rfl (hn rfl) rfl rfl rfl) ?_
                refine ARun.nil ?_
                exact hQ.out
              refine E.cond rfl (fun c6 => ?_) (fun c6 => ?_)
              · try simp only [nrm] at c6
                refine E.mono (fun Q h => AWp.skip h) ?_
                refine E.mono (fun Q h => AWp.seq h) ?_
                refine E.mono (fun Q h => AWp.block h) ?_
                obtain ⟨sd, _, hsd, hd⟩ := l55DecE y.1 (by omega)
                apply E.reg
                · intro Q hQ
                  refine AWp.drawM [⟨⟨[.s 5, .b 5], [.s 46], false⟩, none, []⟩, ⟨⟨[.s 46, .b 5], [.s 47], false⟩, none, []⟩, ⟨⟨[.s 8], [.s 48], false⟩, none, []⟩, ⟨⟨[.s 48], [.s 49], false⟩, none, []⟩, ⟨⟨[.s 49], [.s 50], false⟩, none, []⟩, ⟨⟨[.s 50], [.s 51], false⟩, none, []⟩, ⟨⟨[.s 51], [.s 52], false⟩, none, []⟩, ⟨⟨[], [], true⟩, none, []⟩, ⟨⟨[], [], true⟩, none, []⟩, ⟨⟨[], [], true⟩, none, []⟩] yqMo rfl rfl (Le.forgetR (n := 114) (sl := [(4, _), (5, _), (7, _), (8, _), (39, _), (40, _), (41, _), (42, _), (43, _)]) (bl := [(4, _), (5, _)]) (al := [(10, 0, _), (10, 1, _), (1000000, 0, _)]) rfl ⟨rfl, rfl, rfl, rfl, rfl, rfl, rfl, rfl, rfl, trivial⟩ ⟨rfl, rfl, trivial⟩ ⟨.refl _, .refl _, .refl _, trivial⟩) rfl ?_
                  refine FRun.slot rfl (fun τ hN hr => step_field_b rfl (rdN hN (hn rfl)) rfl yqFo29_1 (by exact rdS hr rfl rfl) (by exact rdBne hr rfl (by exact List.cons_ne_nil _ _))) (by exact rfl) ?_
                  refine FRun.slot rfl (fun τ hN hr => step_load_b rfl (rdN hN (hn rfl)) rfl yqSc27 (by exact rdS hr rfl rfl) (by exact rdBget hr rfl rfl)) (by exact rfl) ?_
                  refine FRun.slot rfl (fun τ hN hr => step_moveV rfl (rdN hN (hn rfl)) rfl (by exact rdS hr rfl rfl)) (by exact rfl) ?_
                  refine FRun.slot rfl (fun τ hN hr => call_step1 rfl (rdN hN (hn rfl)) rfl yqCo170 (.cons (by exact rdS hr rfl rfl) (.one (.v _)) (.nil)) hd rfl) (by exact rfl) ?_
                  refine FRun.slot rfl (fun τ hN hr => step_sadd rfl (rdN hN (hn rfl)) rfl rfl (by exact rdS hr rfl rfl) (by have h1 : (⟨#[122]⟩ : Str).size = 1 := rfl; omega)) (by exact rfl) ?_
                  refine FRun.slot rfl (fun τ hN hr => step_build rfl (rdN hN (hn rfl)) rfl yqPl48 yqZc48 ((by exact .cons (by exact rdS hr rfl rfl) rfl rfl rfl (.nil))) rfl) (by exact rfl) ?_
                  refine FRun.slot rfl (fun τ hN hr => step_buildV rfl (rdN hN (hn rfl)) rfl yqSl27 ((by exact .cons (by exact rdS hr rfl rfl) rfl rfl rfl (.nil _))) rfl rfl) (by exact rfl) ?_
                  refine FRun.whole rfl (step_append rfl (hn rfl) rfl yqSl27 rfl rfl rfl (.v _) (flatRows_one rfl) (by first | omega | (simp only [List.length_cons, List.length_nil]; omega)) (by first | omega | (simp only [List.length_cons, List.length_nil]; omega))) (by exact rfl) ?_
                  refine FRun.whole rfl (step_field_b rfl (hn rfl) rfl yqFo29_1 rfl (by exact List.cons_ne_nil _ _)) (by exact rfl) ?_
                  refine FRun.whole rfl (step_store_r rfl rfl yqCs27 rfl rfl rfl rfl rfl rfl rfl) (by exact rfl) ?_
                  refine FRun.nil ?_
                  exact hQ.out
                refine E.mono (fun Q h => AWp.le (Le.telArr 10 1 (t' := bts 48 (y.2 ++ [⟨⟨#[122]⟩ ++ sd, [], []⟩])) (by exact tel_add rfl)) h) ?_
                apply E.reg
                · intro Q hQ
                  refine AWp.region ?_
                  refine ARun.step rfl (step_moveV rfl (hn rfl) rfl rfl) ?_
                  refine ARun.step rfl (step_addI rfl (hn rfl) rfl rfl rfl (by first | omega | (simp only [List.length_cons, List.length_nil]; omega)) (by first | omega | (simp only [List.length_cons, List.length_nil]; omega))) ?_
                  refine ARun.step rfl (step_assignV rfl (hn rfl) rfl rfl) ?_
                  refine ARun.nil ?_
                  exact hQ.out
                refine ih1 (y.1 + 1, y.2 ++ [⟨⟨#[122]⟩ ++ sd, [], []⟩]) _ ?_ ?_ (Le.forgetR rfl ⟨rfl, rfl, rfl, rfl, trivial⟩ ⟨rfl, rfl, trivial⟩ ⟨.refl _, .refl _, .refl _, trivial⟩)
                · try dsimp only
                  simp only [List.length_append, List.length_cons, List.length_nil]; exact ⟨by omega, by omega, add_le hbk (by omega) (Nat.zero_le _) (Nat.zero_le _)⟩
                · try dsimp only
                  simp only [List.length_append, List.length_cons, List.length_nil]; omega
              · try simp only [nrm] at c6
                refine E.mono (fun Q h => AWp.exit h) ?_
                refine jh0 (⟨k.things, y.2⟩, q1 + 1 + 1 + 1) _ ?_ (Le.forgetR rfl ⟨rfl, rfl, trivial⟩ ⟨rfl, rfl, trivial⟩ ⟨.refl _, .refl _, .refl _, trivial⟩)
                try dsimp only
                exact ⟨by omega, by omega, hbk⟩
theorem l55Any (b : List UInt8) (p : Nat) (hb : b.length ≤ 2000) (hp : p ≤ 300000000) : ∃ (q : Nat) (x : Bk), (p ≤ q ∧ q ≤ p + 2000 ∧ bkLe x 6) ∧ LSpec Try.prog 89 132 (rdR 5 b p) (rdR 5 b q) [] (.agg (x.zcells 48)) := by
  suffices key : ∃ i : Nat × Bk, (p ≤ i.1 ∧ i.1 ≤ p + 2000 ∧ bkLe i.2 6) ∧ LSpec Try.prog 89 132 (rdR 5 b p) (rdR 5 b i.1) [] (.agg (i.2.zcells 48)) from (by obtain ⟨i, g, h⟩ := key; exact ⟨i.1, i.2, g, h⟩)
  refine LSpec.exC Try.func89 rfl 2 29 [] rfl rfl 13 rfl rfl rfl rfl (fun i : Nat × Bk => rdR 5 b i.1) (fun i : Nat × Bk => (.agg (i.2.zcells 48))) (fun i : Nat × Bk => p ≤ i.1 ∧ i.1 ≤ p + 2000 ∧ bkLe i.2 6) (fun i => rfl) (fun i => rfl) ?_
  apply E.reg
  · intro Q hQ
    refine AWp.seq (AWp.region ?_)
    refine ARun.step rfl (step_alloc_p rfl (hn rfl) rfl yqZs29) ?_
    refine ARun.nil ?_
    exact hQ.out
  obtain ⟨q1, x1, ⟨hqa1, hqb1, hbk1⟩, hl1⟩ := l55Book b (p)  (by first | assumption | omega | decide | (simp only [List.length_append, List.length_cons, List.length_nil, List.length_take, List.length_drop]; omega)) (by first | assumption | omega | decide | (simp only [List.length_append, List.length_cons, List.length_nil, List.length_take, List.length_drop]; omega))
  apply E.reg
  · intro Q hQ
    refine AWp.seq (AWp.region ?_)
    refine ARun.step rfl (step_moveV rfl (hn rfl) rfl rfl) ?_
    refine ARun.step rfl (call_stepLZ rfl (hn rfl) rfl yqCo134 rfl rfl rfl rfl (.nil) hl1 rfl rfl) ?_
    refine ARun.step rfl (step_alloc_p rfl (hn rfl) rfl yqZs29) ?_
    refine ARun.step rfl (step_store_p (bs := [_, _]) rfl rfl yqCs29 rfl rfl rfl rfl rfl rfl rfl) ?_
    refine ARun.nil ?_
    exact hQ.out
  refine E.mono (fun Q h => AWp.seq h) ?_
  obtain ⟨_, k2, ⟨rfl, hk2⟩, hl2⟩ := l51pick b (q1) (20) (by first | assumption | omega | decide | (simp only [List.length_append, List.length_cons, List.length_nil, List.length_take, List.length_drop]; omega)) (by first | assumption | omega | decide | (simp only [List.length_append, List.length_cons, List.length_nil, List.length_take, List.length_drop]; omega)) (by first | assumption | omega | decide | (simp only [List.length_append, List.length_cons, List.length_nil, List.length_take, List.length_drop]; omega)) (by first | assumption | omega | decide | (simp only [List.length_append, List.length_cons, List.length_nil, List.length_take, List.length_drop]; omega))
  apply E.reg
  · intro Q hQ
    refine AWp.seq (AWp.region ?_)
    refine ARun.step rfl (step_moveV rfl (hn rfl) rfl rfl) ?_
    refine ARun.step rfl (call_stepLZ rfl (hn rfl) rfl yqCo102 rfl rfl rfl rfl (.cons rfl (.one (.v _)) (.nil)) hl2 rfl rfl) ?_
    refine ARun.step rfl (step_eql rfl (hn rfl) rfl rfl rfl) ?_
    refine ARun.nil ?_
    exact hQ.out
  refine E.cond rfl (fun c1 => ?_) (fun c1 => ?_)
  · try simp only [nrm] at c1
    obtain ⟨q3, x3, ⟨hqa3, hqb3, hbk3⟩, hl3⟩ := l55Spoil b (q1 + 1) x1 (by first | assumption | omega | decide | (simp only [List.length_append, List.length_cons, List.length_nil, List.length_take, List.length_drop]; omega)) (by first | assumption | omega | decide | (simp only [List.length_append, List.length_cons, List.length_nil, List.length_take, List.length_drop]; omega)) (by first | assumption | omega | decide | (simp only [List.length_append, List.length_cons, List.length_nil, List.length_take, List.length_drop]; omega))
    apply E.reg
    · intro Q hQ
      refine AWp.seq (AWp.region ?_)
      refine ARun.step rfl (step_moveV rfl (hn rfl) rfl rfl) ?_
      refine ARun.step rfl (step_loadS_b rfl (hn rfl) rfl yqSt29 rfl rfl rfl (by decide)) ?_
      refine ARun.step rfl (call_stepLZ rfl (hn rfl) rfl yqCo135 rfl rfl rfl rfl (.cons rfl (.agg (.cons (.v _) (.cons (.v _) .nil))) (.nil)) hl3 rfl rfl) ?_
      refine ARun.step rfl (step_store_p (bs := [_, _]) rfl rfl yqCs29 rfl rfl rfl rfl rfl rfl rfl) ?_
      refine ARun.nil ?_
      exact hQ.out
    refine E.mono (fun Q h => AWp.ret h) ?_
    apply E.ret (i := (_, Bk.mk _ _))
    · refine ⟨.inr rfl, ⟨2, 2, _, _, _, yqSt29, by decide, rfl, rfl, rfl, rfl, (.cons rfl (.agg (.cons (.frz _ _ _ _ _) (.cons (.frz _ _ _ _ _) (.nil _)))) (.nil _)), rfl, ?_⟩, (.refl _)⟩
      refine congrArg PV.agg ?_
      rfl
    · try dsimp only
      all_goals (exact ⟨by omega, by omega, by assumption⟩)
  · try simp only [nrm] at c1
    refine E.mono (fun Q h => AWp.skip h) ?_
    apply E.reg
    · intro Q hQ
      refine AWp.seq (AWp.region ?_)
      refine ARun.step rfl (step_loadS_b rfl (hn rfl) rfl yqSt29 rfl rfl rfl (by decide)) ?_
      refine ARun.step rfl (step_store_p (bs := [_, _]) rfl rfl yqCs29 rfl rfl rfl rfl rfl rfl rfl) ?_
      refine ARun.nil ?_
      exact hQ.out
    refine E.mono (fun Q h => AWp.ret h) ?_
    apply E.ret (i := (_, Bk.mk _ _))
    · refine ⟨.inr rfl, ⟨2, 2, _, _, _, yqSt29, by decide, rfl, rfl, rfl, rfl, (.cons rfl (.agg (.cons (.frz _ _ _ _ _) (.cons (.frz _ _ _ _ _) (.nil _)))) (.nil _)), rfl, ?_⟩, (.refl _)⟩
      refine congrArg PV.agg ?_
      rfl
    · try dsimp only
      all_goals (exact ⟨by omega, by omega, bkLe.mono (n := 5) (by assumption) (by omega)⟩)
theorem l55Asks (b : List UInt8) (h0 : b.length ≤ 2097152) : ∃ (x : Bk) (s : Str) (l : List Str), (bkLe x 6 ∧ l.length ≤ 10) ∧ ASpec Try.prog 98 [.one (bytesT 5 b)] (.tup [.agg (x.zcells 48), .one (.str s), .one (.fz (strs l))]) := by
  suffices key : ∃ i : Bk × Str × List Str, (bkLe i.1 6 ∧ i.2.2.length ≤ 10) ∧ ASpec Try.prog 98 [.one (bytesT 5 b)] (.tup [.agg (i.1.zcells 48), .one (.str i.2.1), .one (.fz (strs i.2.2))]) from (by obtain ⟨i, g, h⟩ := key; exact ⟨i.1, i.2.1, i.2.2, g, h⟩)
  refine ASpec.exC Try.func98 rfl 2 29 [3, 4] rfl rfl 20 rfl rfl rfl (fun i : Bk × Str × List Str => (.tup [.agg (i.1.zcells 48), .one (.str i.2.1), .one (.fz (strs i.2.2))])) (fun i : Bk × Str × List Str => bkLe i.1 6 ∧ i.2.2.length ≤ 10) ?_
  have hb : (b.take 2000).length ≤ 2000 := by rw [List.length_take]; omega
  apply E.reg
  · intro Q hQ
    refine AWp.seq (AWp.region ?_)
    refine ARun.step rfl (step_alloc_p rfl (hn rfl) rfl yqZs29) ?_
    refine ARun.step rfl (step_assignV rfl (hn rfl) rfl rfl) ?_
    refine ARun.step rfl (step_assignV rfl (hn rfl) rfl rfl) ?_
    refine ARun.nil ?_
    exact hQ.out
  apply E.reg
  · intro Q hQ
    refine AWp.seq (AWp.region ?_)
    refine ARun.step rfl (step_moveV rfl (hn rfl) rfl rfl) ?_
    refine ARun.step rfl (call_open rfl (hn rfl) rfl yqCo88 (.cons rfl (.one (.v _)) (.nil)) (l51Open _ (by assumption)) rfl) ?_
    refine ARun.step rfl (step_assignV rfl (hn rfl) rfl rfl) ?_
    refine ARun.nil ?_
    exact hQ.out
  obtain ⟨q1, x1, ⟨hqa1, hqb1, hbk1⟩, hl1⟩ := l55Any (b.take 2000) (0)  (by first | assumption | omega | decide | (simp only [List.length_append, List.length_cons, List.length_nil, List.length_take, List.length_drop]; omega)) (by first | assumption | omega | decide | (simp only [List.length_append, List.length_cons, List.length_nil, List.length_take, List.length_drop]; omega))
  apply E.reg
  · intro Q hQ
    refine AWp.seq (AWp.region ?_)
    refine ARun.step rfl (step_moveV rfl (hn rfl) rfl rfl) ?_
    refine ARun.step rfl (call_stepLZ rfl (hn rfl) rfl yqCo89 rfl rfl rfl rfl (.nil) hl1 rfl rfl) ?_
    refine ARun.step rfl (step_alloc_p rfl (hn rfl) rfl yqZs29) ?_
    refine ARun.step rfl (step_store_p (bs := [_, _]) rfl rfl yqCs29 rfl rfl rfl rfl rfl rfl rfl) ?_
    refine ARun.nil ?_
    exact hQ.out
  obtain ⟨q2, d2, ⟨hqa2, hqb2, hka2, hkb2, hln2⟩, hl2⟩ := l55Does (b.take 2000) (q1) x1 (by first | assumption | omega | decide | (simp only [List.length_append, List.length_cons, List.length_nil, List.length_take, List.length_drop]; omega)) (by first | assumption | omega | decide | (simp only [List.length_append, List.length_cons, List.length_nil, List.length_take, List.length_drop]; omega)) (by first | assumption | omega | decide | (simp only [List.length_append, List.length_cons, List.length_nil, List.length_take, List.length_drop]; omega))
  apply E.reg
  · intro Q hQ
    refine AWp.seq (AWp.region ?_)
    refine ARun.step rfl (step_moveV rfl (hn rfl) rfl rfl) ?_
    refine ARun.step rfl (step_loadS_b rfl (hn rfl) rfl yqSt29 rfl rfl rfl (by decide)) ?_
    refine ARun.step rfl (call_stepLZ rfl (hn rfl) rfl yqCo137 rfl rfl rfl rfl (.cons rfl (.agg (.cons (.v _) (.cons (.v _) .nil))) (.nil)) hl2 rfl rfl) ?_
    refine ARun.step rfl (step_alloc_p rfl (hn rfl) rfl yqZs135) ?_
    refine ARun.step rfl (step_store_p (bs := [_, _, _]) rfl rfl yqCs135 rfl rfl rfl rfl rfl rfl rfl) ?_
    refine ARun.nil ?_
    exact hQ.out
  apply E.reg
  · intro Q hQ
    refine AWp.seq (AWp.drawM [⟨⟨[.s 6, .b 6], [.s 15], false⟩, none, []⟩, ⟨⟨[.s 7, .b 7], [.s 16], false⟩, none, []⟩, ⟨⟨[.s 16, .b 7], [.s 17], false⟩, none, []⟩, ⟨⟨[.s 7, .b 7], [.s 18], false⟩, none, []⟩, ⟨⟨[.s 18, .b 7], [.s 19], false⟩, none, []⟩, ⟨⟨[.b 2, .s 2, .s 15], [.b 2], false⟩, none, []⟩, ⟨⟨[.s 17], [.s 3], false⟩, none, []⟩, ⟨⟨[], [], true⟩, none, []⟩] yqMo rfl rfl (Le.forgetR (n := 20) (sl := [(0, _), (2, _), (3, _), (4, _), (5, _), (6, _), (7, _), (8, _), (9, _), (10, _), (11, _), (12, _), (13, _), (14, _)]) (bl := [(2, _), (6, _), (7, _)]) (al := [(9, 0, _)]) rfl ⟨rfl, rfl, rfl, rfl, rfl, rfl, rfl, rfl, rfl, rfl, rfl, rfl, rfl, rfl, trivial⟩ ⟨rfl, rfl, rfl, trivial⟩ ⟨.refl _, trivial⟩) rfl ?_)
    refine FRun.slot rfl (fun τ hN hr => step_loadS_b rfl (rdN hN (hn rfl)) rfl yqSt29 (by exact rdS hr rfl rfl) (by exact rdBtake hr rfl rfl) rfl (by decide)) (by exact rfl) ?_
    refine FRun.slot rfl (fun τ hN hr => step_field_b rfl (rdN hN (hn rfl)) rfl yqFo135_1 (by exact rdS hr rfl rfl) (by exact rdBne hr rfl (by exact List.cons_ne_nil _ _))) (by exact rfl) ?_
    refine FRun.slot rfl (fun τ hN hr => step_load_b rfl (rdN hN (hn rfl)) rfl yqSc9 (by exact rdS hr rfl rfl) (by exact rdBget hr rfl rfl)) (by exact rfl) ?_
    refine FRun.slot rfl (fun τ hN hr => step_field_b rfl (rdN hN (hn rfl)) rfl yqFo135_2 (by exact rdS hr rfl rfl) (by exact rdBne hr rfl (by exact List.cons_ne_nil _ _))) (by exact rfl) ?_
    refine FRun.slot rfl (fun τ hN hr => step_load_b rfl (rdN hN (hn rfl)) rfl yqSc22 (by exact rdS hr rfl rfl) (by exact rdBget hr rfl rfl)) (by exact rfl) ?_
    refine FRun.boxW rfl (fun τ hN hr => step_store_p rfl rfl yqCs29 (by exact rdS hr rfl rfl) (by exact rdB hr rfl rfl) (by exact rfl) (by exact rdS hr rfl rfl) (by exact rfl) (by exact rfl) (by exact rfl)) (by exact rfl) ?_
    refine FRun.slot rfl (fun τ hN hr => step_assignV rfl (rdN hN (hn rfl)) rfl (by exact rdS hr rfl rfl)) (by exact rfl) ?_
    refine FRun.whole rfl (step_assignV rfl (hn rfl) rfl rfl) (by exact rfl) ?_
    refine FRun.nil ?_
    exact hQ.out
  refine E.mono (fun Q h => AWp.ret h) ?_
  apply E.ret (i := (Bk.mk _ _, _, _))
  · refine ⟨.inr rfl, 2, 2, _, _, _, yqSt29, by decide, rfl, rfl, rfl, rfl, (.cons rfl (.agg (.cons (.frz _ _ _ _ _) (.cons (.frz _ _ _ _ _) (.nil _)))) (.cons rfl (.one (.sc _ _ rfl)) (.cons rfl (.one (.frz _ _ _ _ _)) (.nil _)))), rfl, ?_⟩
    rfl
  · try dsimp only
    all_goals (exact ⟨by assumption, by omega⟩)

end Go.Proofs.Ytkmacjdigkaabaa
