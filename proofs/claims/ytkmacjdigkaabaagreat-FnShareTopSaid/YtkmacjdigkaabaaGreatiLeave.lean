/- Contracts of functions of the program, each met by its body; conditions stand in each statement. No condition. -/
import Derived.Test.YtkmacjdigkaabaaGreatiAsk
import Derived.Test.YtkmacjdigkaabaaGreatHi
import Derived.Test.YtkmacjdigkaabaaGreatProg
import Derived.KernelRfl
set_option linter.unusedVariables false
set_option linter.unusedSimpArgs false
set_option linter.unnecessarySimpa false
set_option linter.unusedSimpArgs false
set_option maxRecDepth 100000
namespace Go.Proofs.YtkmacjdigkaabaaGreat
open Go Go.Mh

def cutL {α : Type} (l : List α) (z : Nat) : List α := l.take z ++ l.drop (z + 1)
theorem cutL_len {α : Type} {l : List α} {z : Nat} (hz : z < l.length) : (cutL l z).length = l.length - 1 := by
  simp only [cutL, List.length_append, List.length_take, List.length_drop]; omega
theorem nth_cutL {α : Type} [Inhabited α] {l : List α} {z : Nat} (hz : z < l.length) (j : Nat) : nth (cutL l z) j = if j < z then nth l j else nth l (j + 1) := by
  unfold nth cutL
  simp only [List.getD_eq_getElem?_getD, List.getElem?_append, List.length_take, List.getElem?_take, List.getElem?_drop]
  rw [show min z l.length = z by omega]
  by_cases h : j < z
  · rw [if_pos h, if_pos h, if_pos h]
  · rw [if_neg h, if_neg h, show z + 1 + (j - z) = j + 1 by omega]
def cutBk (p : Bk) (z : Nat) : Bk := ⟨p.things, cutL p.bs z⟩
def leaveR (p : Bk) (s : Str) : Bk × Int :=
  if bookOk p = true then if idxB p s < 0 then (p, 3) else (cutBk p (idxB p s).toNat, 0) else (emptyBk, 1)
theorem cut_eqvO {bs : List Bt} {z : Nat} (hz : z < bs.length) : Eqv (.sl 105 3 (z + (bs.length - (z + 1))) (cutF z (fun j => (nth bs j).cells))) (btsO 105 (cutL bs z)) := by
  unfold btsO
  rw [cutL_len hz, show z + (bs.length - (z + 1)) = bs.length - 1 by omega]
  refine .rows fun j hj => ?_
  rw [nth_cutL hz]
  simp only [cutF]
  split <;> rfl
theorem bts_take (l : List Bt) (z : Nat) : ∀ q, q < (l.take z).length → (fun i => (nth l i).zcells) (0 + q) = (fun i => (nth (l.take z) i).zcells) q := by
  intro q hq
  rw [List.length_take] at hq
  simp only [nth, List.getD_eq_getElem?_getD, List.getElem?_take, Nat.zero_add, if_pos (show q < z by omega)]
theorem bts_drop (l : List Bt) (z : Nat) : ∀ q, q < (l.drop z).length → (fun i => (nth l i).zcells) (z + q) = (fun i => (nth (l.drop z) i).zcells) q := by
  intro q hq
  simp only [nth, List.getD_eq_getElem?_getD, List.getElem?_drop]
theorem bts_cat (e : Nat) (a b : List Bt) : Eqv (.sl e 3 (a.length + b.length) (catF a.length (fun i => (nth a i).zcells) (fun i => (nth b i).zcells))) (bts e (a ++ b)) := by
  unfold bts
  rw [List.length_append]
  refine .rows fun i hi => ?_
  simp only [catF]
  split
  · rename_i h1; rw [nth_append_left h1]
  · rename_i h1; rw [nth_append_right (by omega)]
theorem ylZs34 : zeroSz Tryz.prog 34 = some 2 := by kernel_rfl
theorem ylSt34 : structSz Tryz.prog 34 = some 2 := by kernel_rfl
theorem ylCo26 : callOk Tryz.prog 26 = true := by kernel_rfl
theorem ylPl34 : structPl Tryz.prog 34 = some [(0, 1), (1, 1)] := by kernel_rfl
theorem ylZc34 : zeroCs Tryz.prog 34 = some [.nil, .nil] := by kernel_rfl
theorem ylCs34 : cellsSz Tryz.prog 34 = some (1 + 1) := by kernel_rfl
theorem ylCo66 : callOk Tryz.prog 66 = true := by kernel_rfl
theorem ylCo70 : callOk Tryz.prog 70 = true := by kernel_rfl
theorem ylFo34_1 : fieldOff Tryz.prog 34 1 = some 1 := by kernel_rfl
theorem ylSc32 : scalarB Tryz.prog 32 = true := by kernel_rfl
theorem ylSl32 : sliceT Tryz.prog 32 = some ⟨105, 3, 64⟩ := by kernel_rfl
theorem ylCs32 : cellsSz Tryz.prog 32 = some (0 + 1) := by kernel_rfl
theorem ylMo : Tryz.prog.follows .mixedOrders = true := by kernel_rfl
theorem ylCo74 : callOk Tryz.prog 74 = true := by kernel_rfl
theorem ylCo75 : callOk Tryz.prog 75 = true := by kernel_rfl
theorem ylCo78 : callOk Tryz.prog 78 = true := by kernel_rfl
theorem leaveI (p : Bk) (s : Str) (hs : smallBk p) : ASpec Tryz.prog 23 [.agg (p.cells 105), .one (.str s)] (.tup [.agg ((leaveR p s).1.ocells 105), .one (.int .i64 (leaveR p s).2)]) := by
  refine ASpec.bodyC Tryz.func23 rfl 4 34 [5] rfl rfl 33 rfl rfl rfl ?_
  have hs1 := hs.2.1
  have hix := idxB_lt p s
  refine AWp.seq (AWp.region ?_)
  refine ARun.step rfl (step_box_p (m := 1) rfl (hn rfl) rfl rfl rfl rfl rfl) ?_
  refine ARun.step rfl (step_alloc_p rfl (hn rfl) rfl ylZs34) ?_
  refine ARun.step rfl (step_assignV rfl (hn rfl) rfl rfl) ?_
  refine ARun.nil ?_
  refine AWp.seq ?_
  refine AWp.seq (AWp.region ?_)
  refine ARun.step rfl (step_loadS_b rfl (hn rfl) rfl ylSt34 rfl rfl rfl (by decide)) ?_
  refine ARun.step rfl (call_step1 rfl (hn rfl) rfl ylCo26 (.cons rfl (.agg (.cons (.v _) (.cons (.v _) .nil))) (.nil)) (bookOkI _) rfl) ?_
  refine ARun.step rfl (step_not rfl (hn rfl) rfl rfl) ?_
  refine ARun.nil ?_
  refine AWp.cond rfl (fun c1 => ?_) (fun c1 => ?_)
  · try simp only [nrm] at c1
    refine AWp.seq (AWp.region ?_)
    refine ARun.step rfl (step_build rfl (hn rfl) rfl ylPl34 ylZc34 (.nil) rfl) ?_
    refine ARun.step rfl (step_store_p rfl rfl ylCs34 rfl rfl rfl rfl rfl rfl rfl) ?_
    refine ARun.step rfl (step_assignV rfl (hn rfl) rfl rfl) ?_
    refine ARun.nil ?_
    refine AWp.ret ?_
    refine ⟨.inr rfl, 4, 2, _, _, _, ylSt34, by decide, rfl, rfl, rfl, rfl, (.cons rfl (.agg (.cons (.nil 9 1 (fun i => [.str (nth [] i)]) _) (.cons (.nil 105 3 (fun i => (nth ([] : List Bt) i).cells) _) (.nil _)))) (.cons rfl (.one (.sc _ _ rfl)) (.nil _))), rfl, ?_⟩
    rw [show leaveR p s = (emptyBk, 1) by simp only [leaveR]; grind]
    rfl
  · try simp only [nrm] at c1
    refine AWp.skip ?_
    refine AWp.seq (AWp.region ?_)
    refine ARun.step rfl (step_loadS_b rfl (hn rfl) rfl ylSt34 rfl rfl rfl (by decide)) ?_
    refine ARun.step rfl (call_stepN rfl (hn rfl) rfl ylCo66 (.cons rfl (.agg (.cons (.v _) (.cons (.v _) .nil))) (.nil)) (copyI _ hs) rfl rfl) ?_
    refine ARun.step rfl (step_alloc_p rfl (hn rfl) rfl ylZs34) ?_
    refine ARun.step rfl (step_store_r rfl rfl ylCs34 rfl rfl rfl rfl rfl rfl rfl) ?_
    refine ARun.nil ?_
    refine AWp.seq (AWp.region ?_)
    refine ARun.step rfl (step_loadS_b rfl (hn rfl) rfl ylSt34 rfl rfl rfl (by decide)) ?_
    refine ARun.step rfl (step_moveV rfl (hn rfl) rfl rfl) ?_
    refine ARun.step rfl (call_step1 rfl (hn rfl) rfl ylCo70 (.cons rfl (.agg (.cons (.ref _ rfl) (.cons (.refz _ rfl (fz_bts _ _)) .nil))) (.cons rfl (.one (.v _)) (.nil))) (batchI _ _) rfl) ?_
    refine ARun.step rfl (step_assignV rfl (hn rfl) rfl rfl) ?_
    refine ARun.nil ?_
    refine AWp.seq ?_
    refine AWp.seq (AWp.region ?_)
    refine ARun.step rfl (step_moveV rfl (hn rfl) rfl rfl) ?_
    refine ARun.step rfl (step_lss rfl (hn rfl) rfl rfl rfl) ?_
    refine ARun.nil ?_
    refine AWp.cond rfl (fun c2 => ?_) (fun c2 => ?_)
    · try simp only [nrm] at c2
      refine AWp.seq (AWp.region ?_)
      refine ARun.step rfl (step_loadS_b rfl (hn rfl) rfl ylSt34 rfl rfl rfl (by decide)) ?_
      refine ARun.step rfl (step_store_r rfl rfl ylCs34 rfl rfl rfl rfl rfl rfl rfl) ?_
      refine ARun.step rfl (step_assignV rfl (hn rfl) rfl rfl) ?_
      refine ARun.nil ?_
      refine AWp.ret ?_
      refine ⟨.inr rfl, 4, 2, _, _, _, ylSt34, by decide, rfl, rfl, rfl, rfl, (.cons rfl (.agg (.cons (.ref _ _ rfl) (.cons (.ref _ _ rfl) (.nil _)))) (.cons rfl (.one (.sc _ _ rfl)) (.nil _))), rfl, ?_⟩
      rw [show leaveR p s = (p, 3) by simp only [leaveR]; grind]
      rfl
    · try simp only [nrm] at c2
      have hzz : (((idxB p s).toNat : Nat) : Int) = idxB p s := by omega
      have hzl : (idxB p s).toNat < p.bs.length := by omega
      refine AWp.skip ?_
      refine AWp.seq (AWp.drawM [⟨⟨[.s 6, .b 6], [.s 20], false⟩, none, []⟩, ⟨⟨[.s 20, .b 6], [.s 21], false⟩, none, []⟩, ⟨⟨[.s 7], [.s 22], false⟩, none, []⟩, ⟨⟨[.s 7], [.s 23], false⟩, none, []⟩, ⟨⟨[.s 21, .a 13 1, .s 22, .s 23], [.s 24], false⟩, none, []⟩, ⟨⟨[.s 6, .b 6], [.s 25], false⟩, none, []⟩, ⟨⟨[.s 25, .b 6], [.s 26], false⟩, none, []⟩, ⟨⟨[.s 7], [.s 27], false⟩, none, []⟩, ⟨⟨[.s 27], [.s 28], false⟩, none, []⟩, ⟨⟨[.s 26, .a 13 1, .s 28], [.s 29], false⟩, none, []⟩, ⟨⟨[], [], true⟩, none, []⟩, ⟨⟨[], [], true⟩, none, []⟩, ⟨⟨[], [], true⟩, none, []⟩] ylMo rfl rfl (Le.forgetR (n := 33) (sl := [(0, _), (1, _), (2, _), (4, _), (5, _), (6, _), (7, _), (8, _), (9, _), (10, _), (12, _), (13, _), (14, _), (15, _), (16, _), (17, _), (18, _)]) (bl := [(2, _), (4, _), (6, _)]) (al := [(13, 0, _), (13, 1, _)]) rfl ⟨rfl, rfl, rfl, rfl, rfl, rfl, rfl, rfl, rfl, rfl, rfl, rfl, rfl, rfl, rfl, rfl, rfl, trivial⟩ ⟨rfl, rfl, rfl, trivial⟩ ⟨.refl _, .refl _, trivial⟩) rfl ?_)
      refine FRun.slot rfl (fun τ hN hr => step_field_b rfl (rdN hN (hn rfl)) rfl ylFo34_1 (by exact rdS hr rfl rfl) (by exact rdBne hr rfl (by exact List.cons_ne_nil _ _))) (by exact rfl) ?_
      refine FRun.slot rfl (fun τ hN hr => step_load_b rfl (rdN hN (hn rfl)) rfl ylSc32 (by exact rdS hr rfl rfl) (by exact rdBget hr rfl rfl)) (by exact rfl) ?_
      refine FRun.slot rfl (fun τ hN hr => step_moveV rfl (rdN hN (hn rfl)) rfl (by exact rdS hr rfl rfl)) (by exact rfl) ?_
      refine FRun.slot rfl (fun τ hN hr => step_moveV rfl (rdN hN (hn rfl)) rfl (by exact rdS hr rfl rfl)) (by exact rfl) ?_
      refine FRun.slot rfl (fun τ hN hr => step_sub3 (m := (idxB p s).toNat) rfl (rdN hN (hn rfl)) rfl ylSl32 (by exact rdS hr rfl rfl) (by exact rdA hr rfl rfl) (.dflt _) (by exact rdS hr rfl rfl) (by exact rdS hr rfl rfl) (by omega) (by omega) (by omega)) (by exact rfl) ?_
      refine FRun.slot rfl (fun τ hN hr => step_field_b rfl (rdN hN (hn rfl)) rfl ylFo34_1 (by exact rdS hr rfl rfl) (by exact rdBne hr rfl (by exact List.cons_ne_nil _ _))) (by exact rfl) ?_
      refine FRun.slot rfl (fun τ hN hr => step_load_b rfl (rdN hN (hn rfl)) rfl ylSc32 (by exact rdS hr rfl rfl) (by exact rdBget hr rfl rfl)) (by exact rfl) ?_
      refine FRun.slot rfl (fun τ hN hr => step_moveV rfl (rdN hN (hn rfl)) rfl (by exact rdS hr rfl rfl)) (by exact rfl) ?_
      refine FRun.slot rfl (fun τ hN hr => step_addI rfl (rdN hN (hn rfl)) rfl (by exact rdS hr rfl rfl) rfl (by omega) (by omega)) (by exact rfl) ?_
      refine FRun.slot rfl (fun τ hN hr => step_subLo (lo := ((idxB p s).toNat + 1)) (m := (p.bs.length - ((idxB p s).toNat + 1))) rfl (rdN hN (hn rfl)) rfl ylSl32 (by exact rdS hr rfl rfl) (by exact rdA hr rfl rfl) (by exact rdS hr rfl rfl) (by omega) (by omega) (by omega)) (by exact rfl) ?_
      refine FRun.whole rfl (step_cut rfl (hn rfl) rfl ylSl32 rfl rfl rfl (by omega) (by omega) (by omega)) (by exact rfl) ?_
      refine FRun.whole rfl (step_field_b rfl (hn rfl) rfl ylFo34_1 rfl (by exact List.cons_ne_nil _ _)) (by exact rfl) ?_
      refine FRun.whole rfl (step_store_r rfl rfl ylCs32 rfl rfl rfl rfl rfl rfl rfl) (by exact rfl) ?_
      refine FRun.nil ?_
      refine AWp.le (Le.retree 13 1 (t := btsO 105 (cutL p.bs (idxB p s).toNat)) (cut_eqvO hzl)) ?_
      refine AWp.seq (AWp.region ?_)
      refine ARun.step rfl (step_loadS_b rfl (hn rfl) rfl ylSt34 rfl rfl rfl (by decide)) ?_
      refine ARun.step rfl (step_store_r rfl rfl ylCs34 rfl rfl rfl rfl rfl rfl rfl) ?_
      refine ARun.step rfl (step_assignV rfl (hn rfl) rfl rfl) ?_
      refine ARun.nil ?_
      refine AWp.ret ?_
      refine ⟨.inr rfl, 4, 2, _, _, _, ylSt34, by decide, rfl, rfl, rfl, rfl, (.cons rfl (.agg (.cons (.ref _ _ rfl) (.cons (.ref _ _ rfl) (.nil _)))) (.cons rfl (.one (.sc _ _ rfl)) (.nil _))), rfl, ?_⟩
      rw [show leaveR p s = (cutBk p (idxB p s).toNat, 0) by simp only [leaveR]; grind]
      rfl
theorem leaveS (p : Bk) (s : Str) (hs : smallBk p) : ASpec Tryz.prog 24 [.agg (p.cells 105), .one (.str s)] (.tup [.agg ((leaveR p s).1.cells 105), .one (.int .i64 (leaveR p s).2)]) := by
  refine ASpec.bodyC Tryz.func24 rfl 4 34 [5] rfl rfl 34 rfl rfl rfl ?_
  have hs1 := hs.2.1
  have hix := idxB_lt p s
  refine AWp.seq (AWp.region ?_)
  refine ARun.step rfl (step_box_p (m := 1) rfl (hn rfl) rfl rfl rfl rfl rfl) ?_
  refine ARun.step rfl (step_alloc_p rfl (hn rfl) rfl ylZs34) ?_
  refine ARun.step rfl (step_assignV rfl (hn rfl) rfl rfl) ?_
  refine ARun.nil ?_
  refine AWp.seq ?_
  refine AWp.seq (AWp.region ?_)
  refine ARun.step rfl (step_loadS_b rfl (hn rfl) rfl ylSt34 rfl rfl rfl (by decide)) ?_
  refine ARun.step rfl (call_step1 rfl (hn rfl) rfl ylCo74 (.cons rfl (.agg (.cons (.v _) (.cons (.v _) .nil))) (.nil)) (bookOkS _) rfl) ?_
  refine ARun.step rfl (step_not rfl (hn rfl) rfl rfl) ?_
  refine ARun.nil ?_
  refine AWp.cond rfl (fun c1 => ?_) (fun c1 => ?_)
  · try simp only [nrm] at c1
    refine AWp.seq (AWp.region ?_)
    refine ARun.step rfl (step_build rfl (hn rfl) rfl ylPl34 ylZc34 (.nil) rfl) ?_
    refine ARun.step rfl (step_store_p rfl rfl ylCs34 rfl rfl rfl rfl rfl rfl rfl) ?_
    refine ARun.step rfl (step_assignV rfl (hn rfl) rfl rfl) ?_
    refine ARun.nil ?_
    refine AWp.ret ?_
    refine ⟨.inr rfl, 4, 2, _, _, _, ylSt34, by decide, rfl, rfl, rfl, rfl, (.cons rfl (.agg (.cons (.nil 9 1 (fun i => [.str (nth [] i)]) _) (.cons (.nil 105 3 (fun i => (nth ([] : List Bt) i).zcells) _) (.nil _)))) (.cons rfl (.one (.sc _ _ rfl)) (.nil _))), rfl, ?_⟩
    rw [show leaveR p s = (emptyBk, 1) by simp only [leaveR]; grind]
    rfl
  · try simp only [nrm] at c1
    refine AWp.skip ?_
    refine AWp.seq (AWp.region ?_)
    refine ARun.step rfl (step_loadS_b rfl (hn rfl) rfl ylSt34 rfl rfl rfl (by decide)) ?_
    refine ARun.step rfl (call_stepN rfl (hn rfl) rfl ylCo75 (.cons rfl (.agg (.cons (.v _) (.cons (.v _) .nil))) (.nil)) (copyS _ hs) rfl rfl) ?_
    refine ARun.step rfl (step_alloc_p rfl (hn rfl) rfl ylZs34) ?_
    refine ARun.step rfl (step_store_r rfl rfl ylCs34 rfl rfl rfl rfl rfl rfl rfl) ?_
    refine ARun.nil ?_
    refine AWp.seq (AWp.region ?_)
    refine ARun.step rfl (step_loadS_b rfl (hn rfl) rfl ylSt34 rfl rfl rfl (by decide)) ?_
    refine ARun.step rfl (step_moveV rfl (hn rfl) rfl rfl) ?_
    refine ARun.step rfl (call_step1 rfl (hn rfl) rfl ylCo78 (.cons rfl (.agg (.cons (.v _) (.cons (.v _) .nil))) (.cons rfl (.one (.v _)) (.nil))) (l51At _ _) rfl) ?_
    refine ARun.step rfl (step_assignV rfl (hn rfl) rfl rfl) ?_
    refine ARun.nil ?_
    refine AWp.seq ?_
    refine AWp.le (Le.fzBelow ⟨.arr 13 1, []⟩ (fun i => (nth p.bs i).zcells) rfl (fun _ _ => rfl) (bt_fz p.bs)) ?_
    refine AWp.seq (AWp.region ?_)
    refine ARun.step rfl (step_moveV rfl (hn rfl) rfl rfl) ?_
    refine ARun.step rfl (step_lss rfl (hn rfl) rfl rfl rfl) ?_
    refine ARun.nil ?_
    refine AWp.cond rfl (fun c2 => ?_) (fun c2 => ?_)
    · try simp only [nrm] at c2
      refine AWp.seq (AWp.region ?_)
      refine ARun.step rfl (step_loadS_b rfl (hn rfl) rfl ylSt34 rfl rfl rfl (by decide)) ?_
      refine ARun.step rfl (step_store_r rfl rfl ylCs34 rfl rfl rfl rfl rfl rfl rfl) ?_
      refine ARun.step rfl (step_assignV rfl (hn rfl) rfl rfl) ?_
      refine ARun.nil ?_
      refine AWp.ret ?_
      refine ⟨.inr rfl, 4, 2, _, _, _, ylSt34, by decide, rfl, rfl, rfl, rfl, (.cons rfl (.agg (.cons (.ref _ _ rfl) (.cons (.ref _ _ rfl) (.nil _)))) (.cons rfl (.one (.sc _ _ rfl)) (.nil _))), rfl, ?_⟩
      rw [show leaveR p s = (p, 3) by simp only [leaveR]; grind]
      rfl
    · try simp only [nrm] at c2
      have hzz : (((idxB p s).toNat : Nat) : Int) = idxB p s := by omega
      have hzl : (idxB p s).toNat < p.bs.length := by omega
      have hl1 : ([] ++ List.take (idxB p s).toNat p.bs).length ≤ 1048576 := by simp only [List.nil_append, List.length_take]; omega
      have hl2 : (List.drop ((idxB p s).toNat + 1) p.bs).length ≤ 1048576 := by simp only [List.length_drop]; omega
      refine AWp.skip ?_
      refine AWp.le (Le.slotInt 7 rfl (show idxB p s = (((idxB p s).toNat : Nat) : Int) from by omega)) ?_
      refine AWp.le (Le.letGo 13 1 (g := fun i => (nth p.bs i).zcells) rfl (fun _ _ => rfl)) ?_
      refine AWp.seq (AWp.drawM [⟨⟨[], [.s 20, .a 20 0], false⟩, some 20, [25]⟩, ⟨⟨[.s 6, .b 6], [.s 21], false⟩, none, [20, 25]⟩, ⟨⟨[.s 21, .b 6], [.s 22], false⟩, none, [20, 25]⟩, ⟨⟨[.s 7], [.s 23], false⟩, none, [20, 25]⟩, ⟨⟨[.s 23, .s 22], [.s 24], false⟩, none, [20, 25]⟩, ⟨⟨[.s 20, .a 20 0, .s 24], [.s 25, .a 25 0, .a 20 0], false⟩, some 25, []⟩, ⟨⟨[.s 6, .b 6], [.s 26], false⟩, none, [20, 25]⟩, ⟨⟨[.s 26, .b 6], [.s 27], false⟩, none, [20, 25]⟩, ⟨⟨[.s 7], [.s 28], false⟩, none, [20, 25]⟩, ⟨⟨[.s 28], [.s 29], false⟩, none, [20, 25]⟩, ⟨⟨[.s 29, .s 27], [.s 30], false⟩, none, [20, 25]⟩, ⟨⟨[], [], true⟩, none, []⟩, ⟨⟨[], [], true⟩, none, []⟩, ⟨⟨[], [], true⟩, none, []⟩] ylMo rfl rfl (Le.forgetR (n := 34) (sl := [(0, _), (1, _), (2, _), (4, _), (5, _), (6, _), (7, _), (8, _), (9, _), (10, _), (12, _), (13, _), (14, _), (15, _), (16, _), (17, _), (18, _)]) (bl := [(2, _), (4, _), (6, _)]) (al := [(13, 0, _), (13, 1, _)]) rfl ⟨rfl, rfl, rfl, rfl, rfl, rfl, rfl, rfl, rfl, rfl, rfl, rfl, rfl, rfl, rfl, rfl, rfl, trivial⟩ ⟨rfl, rfl, rfl, trivial⟩ ⟨.refl _, .refl _, trivial⟩) rfl ?_)
      refine FRun.made (L := []) (t := bts 105 []) rfl (fun τ hN hr hF => step_buildE rfl (rdN hN (hn rfl)) rfl ylSl32 hF _) (by exact rfl) ?_
      refine FRun.slot rfl (fun τ hN hr => step_field_b rfl (rdN hN (hn rfl)) rfl ylFo34_1 (by exact rdS hr rfl rfl) (by exact rdBne hr rfl (by exact List.cons_ne_nil _ _))) (by exact rfl) ?_
      refine FRun.slot rfl (fun τ hN hr => step_load_b rfl (rdN hN (hn rfl)) rfl ylSc32 (by exact rdS hr rfl rfl) (by exact rdBget hr rfl rfl)) (by exact rfl) ?_
      refine FRun.slot rfl (fun τ hN hr => step_moveV rfl (rdN hN (hn rfl)) rfl (by exact rdS hr rfl rfl)) (by exact rfl) ?_
      refine FRun.slot rfl (fun τ hN hr => step_sliceF rfl (rdN hN (hn rfl)) rfl ylSl32 (bts 105 (p.bs.take (idxB p s).toNat)) (by exact rdS hr rfl rfl) (.dflt _) (.val _ (by exact rdS hr rfl rfl)) rfl (by rw [List.length_take]; omega) (by omega) (bts_take _ _)) (by exact rfl) ?_
      refine FRun.made (L := [(20, 0)]) (t := bts 105 ([] ++ p.bs.take (idxB p s).toNat)) rfl (fun τ hN hr hF => (step_appendF rfl (rdN hN (hn rfl)) rfl ylSl32 hF (by exact rdS hr rfl rfl) (by exact rdA hr rfl rfl) (by exact rdS hr rfl rfl) (.v _) (fun _ _ => rfl) (by first | omega | (simp only [List.length_cons, List.length_nil, List.length_append, List.length_take, List.length_drop]; omega)) (by first | omega | (simp only [List.length_cons, List.length_nil, List.length_append, List.length_take, List.length_drop]; omega))).le (Le.eqvArr (bts_cat _ [] _))) (by exact rfl) ?_
      refine FRun.slot rfl (fun τ hN hr => step_field_b rfl (rdN hN (hn rfl)) rfl ylFo34_1 (by exact rdS hr rfl rfl) (by exact rdBne hr rfl (by exact List.cons_ne_nil _ _))) (by exact rfl) ?_
      refine FRun.slot rfl (fun τ hN hr => step_load_b rfl (rdN hN (hn rfl)) rfl ylSc32 (by exact rdS hr rfl rfl) (by exact rdBget hr rfl rfl)) (by exact rfl) ?_
      refine FRun.slot rfl (fun τ hN hr => step_moveV rfl (rdN hN (hn rfl)) rfl (by exact rdS hr rfl rfl)) (by exact rfl) ?_
      refine FRun.slot rfl (fun τ hN hr => step_addN (n := 1) rfl (rdN hN (hn rfl)) rfl (by exact rdS hr rfl rfl) rfl (by omega)) (by exact rfl) ?_
      refine FRun.slot rfl (fun τ hN hr => step_sliceF rfl (rdN hN (hn rfl)) rfl ylSl32 (bts 105 (p.bs.drop ((idxB p s).toNat + 1))) (by exact rdS hr rfl rfl) (.val _ (by exact rdS hr rfl rfl)) (.dflt _) rfl (by rw [List.length_drop]; omega) (by omega) (bts_drop _ _)) (by exact rfl) ?_
      refine FRun.whole rfl (step_append rfl (hn rfl) rfl ylSl32 rfl rfl rfl (.v _) (fun _ _ => rfl) (by omega) (by omega)) (by exact rfl) ?_
      refine FRun.whole rfl (step_field_b rfl (hn rfl) rfl ylFo34_1 rfl (by exact List.cons_ne_nil _ _)) (by exact rfl) ?_
      refine FRun.whole rfl (step_store_r rfl rfl ylCs32 rfl rfl rfl rfl rfl rfl rfl) (by exact rfl) ?_
      refine FRun.nil ?_
      refine AWp.le (Le.retree 25 0 (t := bts 105 (cutL p.bs (idxB p s).toNat)) (bts_cat _ _ _)) ?_
      refine AWp.seq (AWp.region ?_)
      refine ARun.step rfl (step_loadS_b rfl (hn rfl) rfl ylSt34 rfl rfl rfl (by decide)) ?_
      refine ARun.step rfl (step_store_r rfl rfl ylCs34 rfl rfl rfl rfl rfl rfl rfl) ?_
      refine ARun.step rfl (step_assignV rfl (hn rfl) rfl rfl) ?_
      refine ARun.nil ?_
      refine AWp.ret ?_
      refine ⟨.inr rfl, 4, 2, _, _, _, ylSt34, by decide, rfl, rfl, rfl, rfl, (.cons rfl (.agg (.cons (.ref _ _ rfl) (.cons (.ref _ _ rfl) (.nil _)))) (.cons rfl (.one (.sc _ _ rfl)) (.nil _))), rfl, ?_⟩
      rw [show leaveR p s = (cutBk p (idxB p s).toNat, 0) by simp only [leaveR]; grind]
      rfl
theorem leaveSZ (p : Bk) (s : Str) (hs : smallBk p) : ASpec Tryz.prog 24 [.agg (p.cells 105), .one (.str s)] (.tup [.agg ((leaveR p s).1.zcells 105), .one (.int .i64 (leaveR p s).2)]) := (leaveS p s hs).letGo (.tup (.cons (.agg (.cons (.fz (.refl _)) (.cons (.fz (.refl _)) .nil))) (.cons (.one (.sc _ rfl)) .nil)))

end Go.Proofs.YtkmacjdigkaabaaGreat
