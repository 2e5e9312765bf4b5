/- Contracts of functions of the program, each met by its body; conditions stand in each statement. No condition. -/
import Derived.Test.YtkmacjdigkaabaahAsk
import Derived.Test.YtkmacjdigkaabaaHj
import Derived.Test.YtkmacjdigkaabaaProg
import Derived.KernelRfl
set_option linter.unusedVariables false
set_option linter.unusedSimpArgs false
set_option linter.unnecessarySimpa false
set_option linter.unusedSimpArgs false
set_option maxRecDepth 100000
namespace Go.Proofs.Ytkmacjdigkaabaa
open Go Go.Mh

def cutL {α : Type} (l : List α) (z : Nat) : List α := l.take z ++ l.drop (z + 1)
def cutBk (p : Bk) (z : Nat) : Bk := ⟨p.things, cutL p.bs z⟩
def leaveR (p : Bk) (s : Str) : Bk × Int :=
  if bookOk p = true then if idxB p s < 0 then (p, 3) else (cutBk p (idxB p s).toNat, 0) else (emptyBk, 1)
theorem bts_take (l : List Bt) (z : Nat) : ∀ q, q < (l.take z).length → (fun i => (nth l i).zcells) (0 + q) = (fun i => (nth (l.take z) i).zcells) q := by
  intro q hq
  rw [List.length_take] at hq
  simp only [nth, List.getD_eq_getElem?_getD, List.getElem?_take, Nat.zero_add, if_pos (show q < z by omega)]
theorem bts_drop (l : List Bt) (z : Nat) : ∀ q, q < (l.drop z).length → (fun i => (nth l i).zcells) (z + q) = (fun i => (nth (l.drop z) i).zcells) q := by
  intro q hq
  simp only [nth, List.getD_eq_getElem?_getD, List.getElem?_drop]
theorem bts_cat (e : Nat) (a b : List Bt) : Eqv (.sl e 3 (a.length + b.length) (catF a.length (fun i => (nth a i).zcells) (fun i => (nth b i).zcells))) (bts e (a ++ b)) := by
  unfold bts
  rw [List.length_append]
  refine .rows fun i hi => ?_
  simp only [catF]
  split
  · rename_i h1; rw [nth_append_left h1]
  · rename_i h1; rw [nth_append_right (by omega)]
theorem ylZs29 : zeroSz Try.prog 29 = some 2 := by kernel_rfl
theorem ylSt29 : structSz Try.prog 29 = some 2 := by kernel_rfl
theorem ylCo27 : callOk Try.prog 27 = true := by kernel_rfl
theorem ylPl29 : structPl Try.prog 29 = some [(0, 1), (1, 1)] := by kernel_rfl
theorem ylZc29 : zeroCs Try.prog 29 = some [.nil, .nil] := by kernel_rfl
theorem ylCs29 : cellsSz Try.prog 29 = some (1 + 1) := by kernel_rfl
theorem ylCo69 : callOk Try.prog 69 = true := by kernel_rfl
theorem ylCo70 : callOk Try.prog 70 = true := by kernel_rfl
theorem ylSl27 : sliceT Try.prog 27 = some ⟨48, 3, 64⟩ := by kernel_rfl
theorem ylFo29_1 : fieldOff Try.prog 29 1 = some 1 := by kernel_rfl
theorem ylSc27 : scalarB Try.prog 27 = true := by kernel_rfl
theorem ylCs27 : cellsSz Try.prog 27 = some (0 + 1) := by kernel_rfl
theorem ylMo : Try.prog.follows .mixedOrders = true := by kernel_rfl
theorem leaveS (p : Bk) (s : Str) (hs : smallBk p) : ASpec Try.prog 12 [.agg (p.cells 48), .one (.str s)] (.tup [.agg ((leaveR p s).1.cells 48), .one (.int .i64 (leaveR p s).2)]) := by
  refine ASpec.bodyC Try.func12 rfl 4 29 [5] rfl rfl 34 rfl rfl rfl ?_
  have hs1 := hs.2.1
  have hix := idxB_lt p s
  refine AWp.seq (AWp.region ?_)
  refine ARun.step rfl (step_box_p (m := 1) rfl (hn rfl) rfl rfl rfl rfl rfl) ?_
  refine ARun.step rfl (step_alloc_p rfl (hn rfl) rfl ylZs29) ?_
  refine ARun.step rfl (step_assignV rfl (hn rfl) rfl rfl) ?_
  refine ARun.nil ?_
  refine AWp.seq ?_
  refine AWp.seq (AWp.region ?_)
  refine ARun.step rfl (step_loadS_b rfl (hn rfl) rfl ylSt29 rfl rfl rfl (by decide)) ?_
  refine ARun.step rfl (call_step1 rfl (hn rfl) rfl ylCo27 (.cons rfl (.agg (.cons (.v _) (.cons (.v _) .nil))) (.nil)) (bookOkS _) rfl) ?_
  refine ARun.step rfl (step_not rfl (hn rfl) rfl rfl) ?_
  refine ARun.nil ?_
  refine AWp.cond rfl (fun c1 => ?_) (fun c1 => ?_)
  · try simp only [nrm] at c1
    refine AWp.seq (AWp.region ?_)
    refine ARun.step rfl (step_build rfl (hn rfl) rfl ylPl29 ylZc29 (.nil) rfl) ?_
    refine ARun.step rfl (step_store_p rfl rfl ylCs29 rfl rfl rfl rfl rfl rfl rfl) ?_
    refine ARun.step rfl (step_assignV rfl (hn rfl) rfl rfl) ?_
    refine ARun.nil ?_
    refine AWp.ret ?_
    refine ⟨.inr rfl, 4, 2, _, _, _, ylSt29, by decide, rfl, rfl, rfl, rfl, (.cons rfl (.agg (.cons (.nil 9 1 (fun i => [.str (nth [] i)]) _) (.cons (.nil 48 3 (fun i => (nth ([] : List Bt) i).zcells) _) (.nil _)))) (.cons rfl (.one (.sc _ _ rfl)) (.nil _))), rfl, ?_⟩
    rw [show leaveR p s = (emptyBk, 1) by simp only [leaveR]; grind]
    rfl
  · try simp only [nrm] at c1
    refine AWp.skip ?_
    refine AWp.seq (AWp.region ?_)
    refine ARun.step rfl (step_loadS_b rfl (hn rfl) rfl ylSt29 rfl rfl rfl (by decide)) ?_
    refine ARun.step rfl (call_stepN rfl (hn rfl) rfl ylCo69 (.cons rfl (.agg (.cons (.v _) (.cons (.v _) .nil))) (.nil)) (copyS _ hs) rfl rfl) ?_
    refine ARun.step rfl (step_alloc_p rfl (hn rfl) rfl ylZs29) ?_
    refine ARun.step rfl (step_store_r rfl rfl ylCs29 rfl rfl rfl rfl rfl rfl rfl) ?_
    refine ARun.nil ?_
    refine AWp.seq (AWp.region ?_)
    refine ARun.step rfl (step_loadS_b rfl (hn rfl) rfl ylSt29 rfl rfl rfl (by decide)) ?_
    refine ARun.step rfl (step_moveV rfl (hn rfl) rfl rfl) ?_
    refine ARun.step rfl (call_step1 rfl (hn rfl) rfl ylCo70 (.cons rfl (.agg (.cons (.v _) (.cons (.v _) .nil))) (.cons rfl (.one (.v _)) (.nil))) (l51At _ _) rfl) ?_
    refine ARun.step rfl (step_assignV rfl (hn rfl) rfl rfl) ?_
    refine ARun.nil ?_
    refine AWp.seq ?_
    refine AWp.le (Le.fzBelow ⟨.arr 13 1, []⟩ (fun i => (nth p.bs i).zcells) rfl (fun _ _ => rfl) (bt_fz p.bs)) ?_
    refine AWp.seq (AWp.region ?_)
    refine ARun.step rfl (step_moveV rfl (hn rfl) rfl rfl) ?_
    refine ARun.step rfl (step_lss rfl (hn rfl) rfl rfl rfl) ?_
    refine ARun.nil ?_
    refine AWp.cond rfl (fun c2 => ?_) (fun c2 => ?_)
    · try simp only [nrm] at c2
      refine AWp.seq (AWp.region ?_)
      refine ARun.step rfl (step_loadS_b rfl (hn rfl) rfl ylSt29 rfl rfl rfl (by decide)) ?_
      refine ARun.step rfl (step_store_r rfl rfl ylCs29 rfl rfl rfl rfl rfl rfl rfl) ?_
      refine ARun.step rfl (step_assignV rfl (hn rfl) rfl rfl) ?_
      refine ARun.nil ?_
      refine AWp.ret ?_
      refine ⟨.inr rfl, 4, 2, _, _, _, ylSt29, by decide, rfl, rfl, rfl, rfl, (.cons rfl (.agg (.cons (.ref _ _ rfl) (.cons (.ref _ _ rfl) (.nil _)))) (.cons rfl (.one (.sc _ _ rfl)) (.nil _))), rfl, ?_⟩
      rw [show leaveR p s = (p, 3) by simp only [leaveR]; grind]
      rfl
    · try simp only [nrm] at c2
      have hzz : (((idxB p s).toNat : Nat) : Int) = idxB p s := by omega
      have hzl : (idxB p s).toNat < p.bs.length := by omega
      have hl1 : ([] ++ List.take (idxB p s).toNat p.bs).length ≤ 1048576 := by simp only [List.nil_append, List.length_take]; omega
      have hl2 : (List.drop ((idxB p s).toNat + 1) p.bs).length ≤ 1048576 := by simp only [List.length_drop]; omega
      refine AWp.skip ?_
      refine AWp.le (Le.slotInt 7 rfl (show idxB p s = (((idxB p s).toNat : Nat) : Int) from by omega)) ?_
      refine AWp.le (Le.letGo 13 1 (g := fun i => (nth p.bs i).zcells) rfl (fun _ _ => rfl)) ?_
      refine AWp.seq (AWp.drawM [⟨⟨[], [.s 20, .a 20 0], false⟩, some 20, [25]⟩, ⟨⟨[.s 6, .b 6], [.s 21], false⟩, none, [20, 25]⟩, ⟨⟨[.s 21, .b 6], [.s 22], false⟩, none, [20, 25]⟩, ⟨⟨[.s 7], [.s 23], false⟩, none, [20, 25]⟩, ⟨⟨[.s 23, .s 22], [.s 24], false⟩, none, [20, 25]⟩, ⟨⟨[.s 20, .a 20 0, .s 24], [.s 25, .a 25 0, .a 20 0], false⟩, some 25, []⟩, ⟨⟨[.s 6, .b 6], [.s 26], false⟩, none, [20, 25]⟩, ⟨⟨[.s 26, .b 6], [.s 27], false⟩, none, [20, 25]⟩, ⟨⟨[.s 7], [.s 28], false⟩, none, [20, 25]⟩, ⟨⟨[.s 28], [.s 29], false⟩, none, [20, 25]⟩, ⟨⟨[.s 29, .s 27], [.s 30], false⟩, none, [20, 25]⟩, ⟨⟨[], [], true⟩, none, []⟩, ⟨⟨[], [], true⟩, none, []⟩, ⟨⟨[], [], true⟩, none, []⟩] ylMo rfl rfl (Le.forgetR (n := 34) (sl := [(0, _), (1, _), (2, _), (4, _), (5, _), (6, _), (7, _), (8, _), (9, _), (10, _), (12, _), (13, _), (14, _), (15, _), (16, _), (17, _), (18, _)]) (bl := [(2, _), (4, _), (6, _)]) (al := [(13, 0, _), (13, 1, _)]) rfl ⟨rfl, rfl, rfl, rfl, rfl, rfl, rfl, rfl, rfl, rfl, rfl, rfl, rfl, rfl, rfl, rfl, rfl, trivial⟩ ⟨rfl, rfl, rfl, trivial⟩ ⟨.refl _, .refl _, trivial⟩) rfl ?_)
      refine FRun.made (L := []) (t := bts 48 []) rfl (fun τ hN hr hF => step_buildE rfl (rdN hN (hn rfl)) rfl ylSl27 hF _) (by exact rfl) ?_
      refine FRun.slot rfl (fun τ hN hr => step_field_b rfl (rdN hN (hn rfl)) rfl ylFo29_1 (by exact rdS hr rfl rfl) (by exact rdBne hr rfl (by exact List.cons_ne_nil _ _))) (by exact rfl) ?_
      refine FRun.slot rfl (fun τ hN hr => step_load_b rfl (rdN hN (hn rfl)) rfl ylSc27 (by exact rdS hr rfl rfl) (by exact rdBget hr rfl rfl)) (by exact rfl) ?_
      refine FRun.slot rfl (fun τ hN hr => step_moveV rfl (rdN hN (hn rfl)) rfl (by exact rdS hr rfl rfl)) (by exact rfl) ?_
      refine FRun.slot rfl (fun τ hN hr => step_sliceF rfl (rdN hN (hn rfl)) rfl ylSl27 (bts 48 (p.bs.take (idxB p s).toNat)) (by exact rdS hr rfl rfl) (.dflt _) (.val _ (by exact rdS hr rfl rfl)) rfl (by rw [List.length_take]; omega) (by omega) (bts_take _ _)) (by exact rfl) ?_
      refine FRun.made (L := [(20, 0)]) (t := bts 48 ([] ++ p.bs.take (idxB p s).toNat)) rfl (fun τ hN hr hF => (step_appendF rfl (rdN hN (hn rfl)) rfl ylSl27 hF (by exact rdS hr rfl rfl) (by exact rdA hr rfl rfl) (by exact rdS hr rfl rfl) (.v _) (fun _ _ => rfl) (by first | omega | (simp only [List.length_cons, List.length_nil, List.length_append, List.length_take, List.length_drop]; omega)) (by first | omega | (simp only [List.length_cons, List.length_nil, List.length_append, List.length_take, List.length_drop]; omega))).le (Le.eqvArr (bts_cat _ [] _))) (by exact rfl) ?_
      refine FRun.slot rfl (fun τ hN hr => step_field_b rfl (rdN hN (hn rfl)) rfl ylFo29_1 (by exact rdS hr rfl rfl) (by exact rdBne hr rfl (by exact List.cons_ne_nil _ _))) (by exact rfl) ?_
      refine FRun.slot rfl (fun τ hN hr => step_load_b rfl (rdN hN (hn rfl)) rfl ylSc27 (by exact rdS hr rfl rfl) (by exact rdBget hr rfl rfl)) (by exact rfl) ?_
      refine FRun.slot rfl (fun τ hN hr => step_moveV rfl (rdN hN (hn rfl)) rfl (by exact rdS hr rfl rfl)) (by exact rfl) ?_
      refine FRun.slot rfl (fun τ hN hr => step_addN (n := 1) rfl (rdN hN (hn rfl)) rfl (by exact rdS hr rfl rfl) rfl (by omega)) (by exact rfl) ?_
      refine FRun.slot rfl (fun τ hN hr => step_sliceF rfl (rdN hN (hn rfl)) rfl ylSl27 (bts 48 (p.bs.drop ((idxB p s).toNat + 1))) (by exact rdS hr rfl rfl) (.val _ (by exact rdS hr rfl rfl)) (.dflt _) rfl (by rw [List.length_drop]; omega) (by omega) (bts_drop _ _)) (by exact rfl) ?_
      refine FRun.whole rfl (step_append rfl (hn rfl) rfl ylSl27 rfl rfl rfl (.v _) (fun _ _ => rfl) (by omega) (by omega)) (by exact rfl) ?_
      refine FRun.whole rfl (step_field_b rfl (hn rfl) rfl ylFo29_1 rfl (by exact List.cons_ne_nil _ _)) (by exact rfl) ?_
      refine FRun.whole rfl (step_store_r rfl rfl ylCs27 rfl rfl rfl rfl rfl rfl rfl) (by exact rfl) ?_
      refine FRun.nil ?_
      refine AWp.le (Le.retree 25 0 (t := bts 48 (cutL p.bs (idxB p s).toNat)) (bts_cat _ _ _)) ?_
      refine AWp.seq (AWp.region ?_)
      refine ARun.step rfl (step_loadS_b rfl (hn rfl) rfl ylSt29 rfl rfl rfl (by decide)) ?_
      refine ARun.step rfl (step_store_r rfl rfl ylCs29 rfl rfl rfl rfl rfl rfl rfl) ?_
      refine ARun.step rfl (step_assignV rfl (hn rfl) rfl rfl) ?_
      refine ARun.nil ?_
      refine AWp.ret ?_
      refine ⟨.inr rfl, 4, 2, _, _, _, ylSt29, by decide, rfl, rfl, rfl, rfl, (.cons rfl (.agg (.cons (.ref _ _ rfl) (.cons (.ref _ _ rfl) (.nil _)))) (.cons rfl (.one (.sc _ _ rfl)) (.nil _))), rfl, ?_⟩
      rw [show leaveR p s = (cutBk p (idxB p s).toNat, 0) by simp only [leaveR]; grind]
      rfl
theorem leaveSZ (p : Bk) (s : Str) (hs : smallBk p) : ASpec Try.prog 12 [.agg (p.cells 48), .one (.str s)] (.tup [.agg ((leaveR p s).1.zcells 48), .one (.int .i64 (leaveR p s).2)]) := (leaveS p s hs).letGo (.tup (.cons (.agg (.cons (.fz (.refl _)) (.cons (.fz (.refl _)) .nil))) (.cons (.one (.sc _ rfl)) .nil)))

end Go.Proofs.Ytkmacjdigkaabaa
