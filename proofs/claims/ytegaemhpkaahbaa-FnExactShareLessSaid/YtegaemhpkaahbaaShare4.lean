/- Contracts of functions of the program, each met by its body; conditions stand in each statement. No condition. -/
import Derived.Test.YtegaemhpkaahbaaShare3
import Derived.Test.YtegaemhpkaahbaaGh
import Derived.Test.YtegaemhpkaahbaaProg
import Derived.KernelRfl
set_option linter.unusedVariables false
set_option linter.unusedSimpArgs false
set_option linter.unnecessarySimpa false
set_option linter.unusedSimpArgs false
set_option maxRecDepth 100000
namespace Go.Proofs.Ytegaemhpkaahbaa
open Go Go.Mh

theorem eqv_strs_nil (l : List Str) : Eqv (strs ([] ++ l)) (strs l) := .refl _
/-- books copied so far -/
def btTo (l : List Bt) (i : Nat) : T := .sl 74 3 i (fun j => (nth l j).cells)
theorem btTo_next (l : List Bt) (i : Nat) (f : Nat → List T) (row : List T) (hf : ∀ j, j < i → f j = (nth l j).cells) (hr : row = (nth l i).cells) : Eqv (.sl 74 3 (i + 1) (catF i f (fun _ => row))) (btTo l (i + 1)) := by
  refine .rows fun j hj => ?_
  simp only [catF]
  split
  · rename_i h; exact hf j h
  · rename_i h; rw [hr, show j = i by omega]

def emptyBk : Bk := ⟨[], []⟩
def filtGo (a l : List Str) : Nat → List Str
  | 0 => []
  | i + 1 => if hasB a (nth l i) = true then filtGo a l i ++ [nth l i] else filtGo a l i
theorem filtGo_yes {a l : List Str} {i : Nat} (h : hasB a (nth l i) = true) : filtGo a l i ++ [nth l i] = filtGo a l (i + 1) := by simp only [filtGo, if_pos h]
theorem filtGo_no {a l : List Str} {i : Nat} (h : hasB a (nth l i) = false) : filtGo a l i = filtGo a l (i + 1) := by simp only [filtGo, h]; rfl
theorem filtGo_len (a l : List Str) (i : Nat) : (filtGo a l i).length ≤ i := by
  induction i with
  | zero => exact Nat.le_refl _
  | succ i ih =>
    simp only [filtGo]; split
    · simp; omega
    · omega
def lessBs (bs : List Bt) (z : Nat) (l needs : List Str) : List Bt := bs.set z ⟨(nth bs z).name, l, needs⟩
def lessAt (p : Bk) (z : Nat) (l : List Str) : Bk := ⟨p.things, lessBs p.bs z (filtGo l (nth p.bs z).has (nth p.bs z).has.length) l⟩
def lessR (p : Bk) (s : Str) (l : List Str) : Bk × Int :=
  if bookOk p = true then
    if idxB p s < 0 then (p, 3)
    else if (risingB l && withinB l (nth p.bs (idxB p s).toNat).needs) = true then (lessAt p (idxB p s).toNat l, 0) else (p, 2)
  else (emptyBk, 1)
theorem nth_lessBs {bs : List Bt} {z : Nat} (hz : z < bs.length) (l needs : List Str) (j : Nat) : nth (lessBs bs z l needs) j = if j = z then ⟨(nth bs z).name, l, needs⟩ else nth bs j := by
  unfold lessBs nth
  rw [List.getD_eq_getElem?_getD, List.getElem?_set]
  by_cases h : z = j
  · subst h; rw [if_pos rfl, if_pos rfl, if_pos hz]; rfl
  · rw [if_neg h, if_neg (fun e => h e.symm), List.getD_eq_getElem?_getD]
theorem less_eqv1 {bs : List Bt} {z : Nat} (hz : z < bs.length) (l needs : List Str) : Eqv (.sl 74 3 bs.length (setRow (setRow (fun j => (nth bs j).cells) z 1 (strs l)) z 2 (strs needs))) (btsO 74 (lessBs bs z l needs)) := by
  unfold btsO
  rw [show (lessBs bs z l needs).length = bs.length by simp [lessBs]]
  refine .rows fun j hj => ?_
  rw [nth_lessBs hz]
  by_cases h : j = z
  · subst h; rw [if_pos rfl, Mh.setRow_self, Mh.setRow_self]; rfl
  · rw [if_neg h, Mh.setRow_other _ _ _ _ h, Mh.setRow_other _ _ _ _ h]
theorem less_eqv2 {bs : List Bt} {z : Nat} (hz : z < bs.length) (l needs : List Str) : Eqv (.sl 74 3 bs.length (setRow (setRow (fun j => (nth bs j).cells) z 2 (strs needs)) z 1 (strs l))) (btsO 74 (lessBs bs z l needs)) := by
  unfold btsO
  rw [show (lessBs bs z l needs).length = bs.length by simp [lessBs]]
  refine .rows fun j hj => ?_
  rw [nth_lessBs hz]
  by_cases h : j = z
  · subst h; rw [if_pos rfl, Mh.setRow_self, Mh.setRow_self]; rfl
  · rw [if_neg h, Mh.setRow_other _ _ _ _ h, Mh.setRow_other _ _ _ _ h]
theorem small_less {p : Bk} {z : Nat} {l : List Str} (hs : smallBk p) (hl : l.length ≤ 1048576) (hz : z < p.bs.length) : smallBk (lessAt p z l) := by
  refine ⟨hs.1, by show (lessBs _ _ _ _).length ≤ _; simp only [lessBs, List.length_set]; exact hs.2.1, fun i hi => ?_⟩
  have hi' : i < p.bs.length := by simpa [lessAt, lessBs] using hi
  show smallBt (nth (lessBs _ _ _ _) i)
  rw [nth_lessBs hz]
  split
  · have := filtGo_len l (nth p.bs z).has (nth p.bs z).has.length
    have h2 := hs.2.2 z hz
    exact ⟨by simp only; exact Nat.le_trans this h2.1, hl⟩
  · exact hs.2.2 i hi'

theorem ydSl29 : sliceT Try.prog 29 = some ⟨9, 1, 16⟩ := by kernel_rfl
theorem ydZs37 : zeroSz Try.prog 37 = some 2 := by kernel_rfl
theorem ydFo37_0 : fieldOff Try.prog 37 0 = some 0 := by kernel_rfl
theorem ydSc29 : scalarB Try.prog 29 = true := by kernel_rfl
theorem ydCo94 : callOk Try.prog 94 = true := by kernel_rfl
theorem ydPl37 : structPl Try.prog 37 = some [(0, 1), (1, 1)] := by kernel_rfl
theorem ydZc37 : zeroCs Try.prog 37 = some [.nil, .nil] := by kernel_rfl
theorem ydCs37 : cellsSz Try.prog 37 = some (1 + 1) := by kernel_rfl
theorem ydFo37_1 : fieldOff Try.prog 37 1 = some 1 := by kernel_rfl
theorem ydSc35 : scalarB Try.prog 35 = true := by kernel_rfl
theorem ydSl35 : sliceT Try.prog 35 = some ⟨74, 3, 64⟩ := by kernel_rfl
theorem ydSt74 : structSz Try.prog 74 = some 3 := by kernel_rfl
theorem ydZs74 : zeroSz Try.prog 74 = some 3 := by kernel_rfl
theorem ydCs74 : cellsSz Try.prog 74 = some (2 + 1) := by kernel_rfl
theorem ydFo74_0 : fieldOff Try.prog 74 0 = some 0 := by kernel_rfl
theorem ydSc9 : scalarB Try.prog 9 = true := by kernel_rfl
theorem ydFo74_1 : fieldOff Try.prog 74 1 = some 1 := by kernel_rfl
theorem ydFo74_2 : fieldOff Try.prog 74 2 = some 2 := by kernel_rfl
theorem ydPl74 : structPl Try.prog 74 = some [(0, 1), (1, 1), (2, 1)] := by kernel_rfl
theorem ydZc74 : zeroCs Try.prog 74 = some [.v (.str ⟨#[]⟩), .nil, .nil] := by kernel_rfl
theorem ydCs35 : cellsSz Try.prog 35 = some (0 + 1) := by kernel_rfl
theorem ydMo : Try.prog.follows .mixedOrders = true := by kernel_rfl
theorem ydSt37 : structSz Try.prog 37 = some 2 := by kernel_rfl
theorem ydCo93 : callOk Try.prog 93 = true := by kernel_rfl
theorem ydCo23 : callOk Try.prog 23 = true := by kernel_rfl
theorem ydCo91 : callOk Try.prog 91 = true := by kernel_rfl
theorem ydCo84 : callOk Try.prog 84 = true := by kernel_rfl
theorem ydCo70 : callOk Try.prog 70 = true := by kernel_rfl
theorem ydCo71 : callOk Try.prog 71 = true := by kernel_rfl
theorem ydCo75 : callOk Try.prog 75 = true := by kernel_rfl
theorem ydCs29 : cellsSz Try.prog 29 = some (0 + 1) := by kernel_rfl
theorem ydCo21 : callOk Try.prog 21 = true := by kernel_rfl
theorem ydCo90 : callOk Try.prog 90 = true := by kernel_rfl
theorem ydCo82 : callOk Try.prog 82 = true := by kernel_rfl
theorem ydCo65 : callOk Try.prog 65 = true := by kernel_rfl
theorem ydCo74 : callOk Try.prog 74 = true := by kernel_rfl
theorem copiedI (l : List Str) (hl : l.length ≤ 1048576) : ASpec Try.prog 94 [.one (strs l)] (.one (strs l)) := by
  refine ASpec.body Try.func94 rfl [2] rfl 5 rfl rfl rfl ?_
  refine AWp.seq (AWp.region ?_)
  refine ARun.step rfl (step_assignV rfl (hn rfl) rfl rfl) ?_
  refine ARun.nil ?_
  refine AWp.seq (AWp.region ?_)
  refine ARun.step rfl (step_moveV rfl (hn rfl) rfl rfl) ?_
  refine ARun.step rfl (step_appendNil rfl (hn rfl) rfl ydSl29 rfl rfl (.v _) (fun _ _ => rfl) (by omega) (by omega)) ?_
  refine ARun.step rfl (step_assignV rfl (hn rfl) rfl rfl) ?_
  refine ARun.nil ?_
  refine AWp.ret ?_
  refine RetIs.ref (.inr rfl) rfl rfl ?_
  rfl
theorem namesC (l : List Str) (hl : l.length ≤ 1048576) : ASpec Try.prog 93 [.one (strs l)] (.one (strs l)) := by
  refine ASpec.body Try.func93 rfl [2] rfl 6 rfl rfl rfl ?_
  refine AWp.seq (AWp.region ?_)
  refine ARun.step rfl (step_assignV rfl (hn rfl) rfl rfl) ?_
  refine ARun.nil ?_
  refine AWp.seq (AWp.region ?_)
  refine ARun.step rfl (step_build0 rfl (hn rfl) rfl ydSl29) ?_
  refine ARun.step rfl (step_moveV rfl (hn rfl) rfl rfl) ?_
  refine ARun.step rfl (step_append_strs rfl (hn rfl) rfl ydSl29 rfl rfl rfl (.v _) (by simp only [List.length_cons, List.length_nil]; omega) (by simp only [List.length_cons, List.length_nil]; omega)) ?_
  refine ARun.step rfl (step_assignV rfl (hn rfl) rfl rfl) ?_
  refine ARun.nil ?_
  refine AWp.ret ?_
  refine RetIs.ref (.inr rfl) rfl rfl ?_
  rfl
theorem copyI (p : Bk) (hs : smallBk p) : ASpec Try.prog 91 [.agg (p.cells 74)] (.agg (p.ocells 74)) := by
  refine ASpec.bodyC Try.func91 rfl 2 37 [] rfl rfl 33 rfl rfl rfl ?_
  have hs1 := hs.2.1
  refine AWp.seq (AWp.region ?_)
  refine ARun.step rfl (step_box_p (m := 1) rfl (hn rfl) rfl rfl rfl rfl rfl) ?_
  refine ARun.step rfl (step_alloc_p rfl (hn rfl) rfl ydZs37) ?_
  refine ARun.nil ?_
  refine AWp.seq (AWp.region ?_)
  refine ARun.step rfl (step_field_b rfl (hn rfl) rfl ydFo37_0 rfl (by exact List.cons_ne_nil _ _)) ?_
  refine ARun.step rfl (step_load_b rfl (hn rfl) rfl ydSc29 rfl rfl) ?_
  refine ARun.step rfl (call_stepN rfl (hn rfl) rfl ydCo94 (.cons rfl (.one (.v _)) (.nil)) (copiedI _ hs.1) rfl rfl) ?_
  refine ARun.step rfl (step_build rfl (hn rfl) rfl ydPl37 ydZc37 (.cons rfl rfl rfl rfl (.nil)) rfl) ?_
  refine ARun.step rfl (step_alloc_p rfl (hn rfl) rfl ydZs37) ?_
  refine ARun.step rfl (step_store_r rfl rfl ydCs37 rfl rfl rfl rfl rfl rfl rfl) ?_
  refine ARun.nil ?_
  refine AWp.seq ?_
  refine AWp.seq (AWp.region ?_)
  refine ARun.step rfl (step_field_b rfl (hn rfl) rfl ydFo37_1 rfl (by exact List.cons_ne_nil _ _)) ?_
  refine ARun.step rfl (step_load_b rfl (hn rfl) rfl ydSc35 rfl rfl) ?_
  refine ARun.step rfl (step_len_f rfl (hn rfl) rfl ydSl35 rfl) ?_
  refine ARun.step rfl (step_moveV rfl (hn rfl) rfl rfl) ?_
  refine ARun.nil ?_
  refine AWp.block ?_
  refine AWp.le (Le.nilRefB 3 1 9 74 3 (fun j => (nth p.bs j).cells) _ rfl rfl rfl) ?_
  refine AWp.loopM (fun i : Nat => mkAS 33 [(2, ⟨true, .one (.bptr 2 0)⟩), (3, ⟨true, .one (.bptr 3 0)⟩), (11, ⟨true, .one (.v (bts 74 p.bs))⟩), (12, ⟨true, .one (.v (.int .i64 ((p.bs).length : Nat)))⟩), (13, ⟨true, .one (.v (.int .i64 (i : Nat)))⟩)] [(2, [.any, .any]), (3, [.ref ⟨.arr 8 0, []⟩, .ref ⟨.arr 9 0, []⟩])] [(8, 0, strs p.things), (9, 0, btTo p.bs i)]) (fun i => i ≤ p.bs.length) (fun i => p.bs.length - i) 0 ?_ (Le.forgetR rfl ⟨rfl, rfl, rfl, rfl, rfl, trivial⟩ ⟨rfl, rfl, trivial⟩ ⟨.refl _, .refl _, trivial⟩) ?_
  · try dsimp only
    omega
  rintro i hi
  refine AWp.seq (AWp.region ?_)
  refine ARun.step rfl (step_lss rfl (hn rfl) rfl rfl rfl) ?_
  refine ARun.nil ?_
  refine AWp.seq ?_
  refine AWp.cond rfl (fun c1 => ?_) (fun c1 => ?_)
  · try simp only [decide_eq_true_eq, decide_eq_false_iff_not, beq_iff_eq, bne_iff_ne, Bool.not_eq_true', Bool.not_eq_false', Bool.and_eq_true, Bool.or_eq_true, Bool.and_eq_false_iff, Bool.or_eq_false_iff, Int.not_lt, Int.not_le, gt_iff_lt, ge_iff_le, bne_eq_false_iff_eq, beq_eq_false_iff_ne, ne_eq, Int.toNat_natCast] at c1
    refine AWp.skip ?_
    refine AWp.seq ?_
    refine AWp.block ?_
    refine AWp.seq (AWp.region ?_)
    refine ARun.step rfl (step_index_fN rfl (hn rfl) rfl ydSl35 rfl rfl (by omega)) ?_
    refine ARun.step rfl (step_loadS_f rfl (hn rfl) rfl ydSt74 rfl (hn rfl) rfl rfl) ?_
    refine ARun.step rfl (step_alloc_p rfl (hn rfl) rfl ydZs74) ?_
    refine ARun.step rfl (step_store_p rfl rfl ydCs74 rfl rfl rfl rfl rfl rfl rfl) ?_
    refine ARun.nil ?_
    refine AWp.drawM [⟨⟨[.s 3, .b 3], [.s 17], false⟩, none, [23, 26, 28]⟩, ⟨⟨[.s 17, .b 3], [.s 18], false⟩, none, [23, 26, 28]⟩, ⟨⟨[.s 5, .b 5], [.s 19], false⟩, none, [23, 26, 28]⟩, ⟨⟨[.s 19, .b 5], [.s 20], false⟩, none, [23, 26, 28]⟩, ⟨⟨[.s 5, .b 5], [.s 21], false⟩, none, [23, 26, 28]⟩, ⟨⟨[.s 21, .b 5], [.s 22], false⟩, none, [23, 26, 28]⟩, ⟨⟨[.s 22], [.s 23, .a 23 0], false⟩, some 23, [26, 28]⟩, ⟨⟨[.s 5, .b 5], [.s 24], false⟩, none, [23, 26, 28]⟩, ⟨⟨[.s 24, .b 5], [.s 25], false⟩, none, [23, 26, 28]⟩, ⟨⟨[.s 25], [.s 26, .a 26 0], false⟩, some 26, [28]⟩, ⟨⟨[.s 26, .a 26 0, .s 23, .a 23 0, .s 20], [.s 27], false⟩, none, [28]⟩, ⟨⟨[.s 27, .a 23 0, .a 26 0], [.s 28, .a 28 0, .a 23 0, .a 26 0], false⟩, some 28, []⟩, ⟨⟨[], [], true⟩, none, []⟩, ⟨⟨[], [], true⟩, none, []⟩, ⟨⟨[], [], true⟩, none, []⟩] ydMo rfl rfl (Le.forgetR (n := 33) (sl := [(2, _), (3, _), (5, _), (11, _), (12, _), (13, _), (14, _), (15, _), (16, _)]) (bl := [(2, _), (3, _), (5, _)]) (al := [(8, 0, _), (9, 0, _)]) rfl ⟨rfl, rfl, rfl, rfl, rfl, rfl, rfl, rfl, rfl, trivial⟩ ⟨rfl, rfl, rfl, trivial⟩ ⟨.refl _, .refl _, trivial⟩) rfl ?_
    refine FRun.slot rfl (fun τ hN hr => step_field_b rfl (rdN hN (hn rfl)) rfl ydFo37_1 (by exact rdS hr rfl rfl) (by exact rdBne hr rfl (by exact List.cons_ne_nil _ _))) (by exact rfl) ?_
    refine FRun.slot rfl (fun τ hN hr => step_load_b rfl (rdN hN (hn rfl)) rfl ydSc35 (by exact rdS hr rfl rfl) (by exact rdBget hr rfl rfl)) (by exact rfl) ?_
    refine FRun.slot rfl (fun τ hN hr => step_field_b rfl (rdN hN (hn rfl)) rfl ydFo74_0 (by exact rdS hr rfl rfl) (by exact rdBne hr rfl (by exact List.cons_ne_nil _ _))) (by exact rfl) ?_
    refine FRun.slot rfl (fun τ hN hr => step_load_b rfl (rdN hN (hn rfl)) rfl ydSc9 (by exact rdS hr rfl rfl) (by exact rdBget hr rfl rfl)) (by exact rfl) ?_
    refine FRun.slot rfl (fun τ hN hr => step_field_b rfl (rdN hN (hn rfl)) rfl ydFo74_1 (by exact rdS hr rfl rfl) (by exact rdBne hr rfl (by exact List.cons_ne_nil _ _))) (by exact rfl) ?_
    refine FRun.slot rfl (fun τ hN hr => step_load_b rfl (rdN hN (hn rfl)) rfl ydSc29 (by exact rdS hr rfl rfl) (by exact rdBget hr rfl rfl)) (by exact rfl) ?_
    refine FRun.fresh rfl (fun τ hN hr => call_fresh rfl (rdN hN (hn rfl)) rfl ydCo94 (.cons (by exact rdS hr rfl rfl) (.one (.v _)) (.nil)) (copiedI _ (hs.2.2 i (by omega)).1) rfl (by exact rdNoRefs hr rfl rfl)) (by exact rfl) ?_
    refine FRun.slot rfl (fun τ hN hr => step_field_b rfl (rdN hN (hn rfl)) rfl ydFo74_2 (by exact rdS hr rfl rfl) (by exact rdBne hr rfl (by exact List.cons_ne_nil _ _))) (by exact rfl) ?_
    refine FRun.slot rfl (fun τ hN hr => step_load_b rfl (rdN hN (hn rfl)) rfl ydSc29 (by exact rdS hr rfl rfl) (by exact rdBget hr rfl rfl)) (by exact rfl) ?_
    refine FRun.fresh rfl (fun τ hN hr => call_fresh rfl (rdN hN (hn rfl)) rfl ydCo94 (.cons (by exact rdS hr rfl rfl) (.one (.v _)) (.nil)) (copiedI _ (hs.2.2 i (by omega)).2) rfl (by exact rdNoRefs hr rfl rfl)) (by exact rfl) ?_
    refine FRun.slot rfl (fun τ hN hr => step_build rfl (rdN hN (hn rfl)) rfl ydPl74 ydZc74 ((by exact .cons (by exact rdS hr rfl rfl) rfl rfl rfl (.cons (by exact rdS hr rfl rfl) rfl (by exact rdSolid hr rfl rfl) rfl (.cons (by exact rdS hr rfl rfl) rfl (by exact rdSolid hr rfl rfl) rfl (.nil))))) rfl) (by exact rfl) ?_
    refine FRun.build (cs := [.v _, .ref ⟨.arr 23 0, []⟩, .ref ⟨.arr 26 0, []⟩]) (ts := [_, _, _]) rfl rfl (hn rfl) rfl ydSl35 rfl rfl rfl rfl (by intro c hc; cases hc) rfl (by exact ⟨⟨rfl, rfl⟩, ⟨rfl, rfl, rfl, rfl⟩, ⟨rfl, rfl, rfl, rfl⟩, trivial⟩) (by exact rfl) (by exact rfl) ?_
    refine FRun.whole rfl (step_appendM rfl (hn rfl) rfl ydSl35 rfl rfl rfl rfl rfl (solidRows_const rfl) (by omega) (by omega)) (by exact rfl) ?_
    refine FRun.whole rfl (step_field_b rfl (hn rfl) rfl ydFo37_1 rfl (by exact List.cons_ne_nil _ _)) (by exact rfl) ?_
    refine FRun.whole rfl (step_store_r rfl rfl ydCs35 rfl rfl rfl rfl rfl rfl rfl) (by exact rfl) ?_
    refine FRun.nil ?_
    refine AWp.region ?_
    refine ARun.step rfl (step_addI rfl (hn rfl) rfl rfl rfl (by omega) (by omega)) ?_
    refine ARun.step rfl (step_moveV rfl (hn rfl) rfl rfl) ?_
    refine ARun.nil ?_
    refine ⟨i + 1, ?_, ?_, Le.forgetR rfl ⟨rfl, rfl, rfl, rfl, rfl, trivial⟩ ⟨rfl, rfl, trivial⟩ ⟨.refl _, (btTo_next _ _ _ _ (fun _ _ => rfl) rfl), trivial⟩⟩
    · try dsimp only
      omega
    · try dsimp only
      omega
  · try simp only [decide_eq_true_eq, decide_eq_false_iff_not, beq_iff_eq, bne_iff_ne, Bool.not_eq_true', Bool.not_eq_false', Bool.and_eq_true, Bool.or_eq_true, Bool.and_eq_false_iff, Bool.or_eq_false_iff, Int.not_lt, Int.not_le, gt_iff_lt, ge_iff_le, bne_eq_false_iff_eq, beq_eq_false_iff_ne, ne_eq, Int.toNat_natCast] at c1
    refine AWp.exit ?_
    refine AWp.seq (AWp.region ?_)
    refine ARun.step rfl (step_loadS_b rfl (hn rfl) rfl ydSt37 rfl rfl rfl (by decide)) ?_
    refine ARun.step rfl (step_store_r rfl rfl ydCs37 rfl rfl rfl rfl rfl rfl rfl) ?_
    refine ARun.nil ?_
    refine AWp.ret ?_
    refine ⟨.inr rfl, 2, 2, _, _, _, ydSt37, by decide, rfl, rfl, rfl, rfl, (.cons rfl (.agg (.cons (.ref _ _ rfl) (.cons (.ref _ _ rfl) (.nil _)))) (.nil _)), rfl, ?_⟩
    refine congrArg PV.agg ?_
    obtain rfl : i = p.bs.length := by omega
    rfl
theorem copyS (p : Bk) (hs : smallBk p) : ASpec Try.prog 90 [.agg (p.cells 74)] (.agg (p.ocells 74)) := by
  refine ASpec.bodyC Try.func90 rfl 2 37 [] rfl rfl 43 rfl rfl rfl ?_
  have hs1 := hs.2.1
  refine AWp.seq (AWp.region ?_)
  refine ARun.step rfl (step_box_p (m := 1) rfl (hn rfl) rfl rfl rfl rfl rfl) ?_
  refine ARun.step rfl (step_alloc_p rfl (hn rfl) rfl ydZs37) ?_
  refine ARun.nil ?_
  refine AWp.seq (AWp.region ?_)
  refine ARun.step rfl (step_field_b rfl (hn rfl) rfl ydFo37_0 rfl (by exact List.cons_ne_nil _ _)) ?_
  refine ARun.step rfl (step_load_b rfl (hn rfl) rfl ydSc29 rfl rfl) ?_
  refine ARun.step rfl (call_stepN rfl (hn rfl) rfl ydCo93 (.cons rfl (.one (.v _)) (.nil)) (namesC _ hs.1) rfl rfl) ?_
  refine ARun.step rfl (step_build rfl (hn rfl) rfl ydPl37 ydZc37 (.cons rfl rfl rfl rfl (.nil)) rfl) ?_
  refine ARun.step rfl (step_alloc_p rfl (hn rfl) rfl ydZs37) ?_
  refine ARun.step rfl (step_store_r rfl rfl ydCs37 rfl rfl rfl rfl rfl rfl rfl) ?_
  refine ARun.nil ?_
  refine AWp.seq ?_
  refine AWp.seq (AWp.region ?_)
  refine ARun.step rfl (step_assignV rfl (hn rfl) rfl rfl) ?_
  refine ARun.nil ?_
  refine AWp.block ?_
  refine AWp.le (Le.nilRefB 3 1 8 74 3 (fun j => (nth p.bs j).cells) _ rfl rfl rfl) ?_
  refine AWp.loopM (fun i : Nat => mkAS 43 [(1, ⟨true, .one (.bptr 1 0)⟩), (2, ⟨true, .one (.bptr 2 0)⟩), (3, ⟨true, .one (.bptr 3 0)⟩), (4, ⟨true, .one (.v (.int .i64 (i : Nat)))⟩)] [(1, ((p.cells 74)).map C.v), (2, [.any, .any]), (3, [.ref ⟨.arr 7 0, []⟩, .ref ⟨.arr 8 0, []⟩])] [(7, 0, strs p.things), (8, 0, btTo p.bs i)]) (fun i => i ≤ p.bs.length) (fun i => p.bs.length - i) 0 ?_ (Le.forgetR rfl ⟨rfl, rfl, rfl, rfl, trivial⟩ ⟨rfl, rfl, rfl, trivial⟩ ⟨.refl _, .refl _, trivial⟩) ?_
  · try dsimp only
    omega
  rintro i hi
  refine AWp.seq ?_
  refine AWp.seq (AWp.region ?_)
  refine ARun.step rfl (step_moveV rfl (hn rfl) rfl rfl) ?_
  refine ARun.step rfl (step_field_b rfl (hn rfl) rfl ydFo37_1 rfl (by exact List.cons_ne_nil _ _)) ?_
  refine ARun.step rfl (step_load_b rfl (hn rfl) rfl ydSc35 rfl rfl) ?_
  refine ARun.step rfl (step_len_f rfl (hn rfl) rfl ydSl35 rfl) ?_
  refine ARun.step rfl (step_lss rfl (hn rfl) rfl rfl rfl) ?_
  refine ARun.nil ?_
  refine AWp.cond rfl (fun c1 => ?_) (fun c1 => ?_)
  · try simp only [decide_eq_true_eq, decide_eq_false_iff_not, beq_iff_eq, bne_iff_ne, Bool.not_eq_true', Bool.not_eq_false', Bool.and_eq_true, Bool.or_eq_true, Bool.and_eq_false_iff, Bool.or_eq_false_iff, Int.not_lt, Int.not_le, gt_iff_lt, ge_iff_le, bne_eq_false_iff_eq, beq_eq_false_iff_ne, ne_eq, Int.toNat_natCast] at c1
    refine AWp.skip ?_
    refine AWp.seq ?_
    refine AWp.block ?_
    refine AWp.drawM [⟨⟨[.s 3, .b 3], [.s 16], false⟩, none, [30, 37, 39]⟩, ⟨⟨[.s 16, .b 3], [.s 17], false⟩, none, [30, 37, 39]⟩, ⟨⟨[.s 1, .b 1], [.s 18], false⟩, none, [30, 37, 39]⟩, ⟨⟨[.s 18, .b 1], [.s 19], false⟩, none, [30, 37, 39]⟩, ⟨⟨[.s 4], [.s 20], false⟩, none, [30, 37, 39]⟩, ⟨⟨[.s 19, .s 20], [.s 21], false⟩, none, [30, 37, 39]⟩, ⟨⟨[.s 21], [.s 22], false⟩, none, [30, 37, 39]⟩, ⟨⟨[.s 22], [.s 23], false⟩, none, [30, 37, 39]⟩, ⟨⟨[.s 1, .b 1], [.s 24], false⟩, none, [30, 37, 39]⟩, ⟨⟨[.s 24, .b 1], [.s 25], false⟩, none, [30, 37, 39]⟩, ⟨⟨[.s 4], [.s 26], false⟩, none, [30, 37, 39]⟩, ⟨⟨[.s 25, .s 26], [.s 27], false⟩, none, [30, 37, 39]⟩, ⟨⟨[.s 27], [.s 28], false⟩, none, [30, 37, 39]⟩, ⟨⟨[.s 28], [.s 29], false⟩, none, [30, 37, 39]⟩, ⟨⟨[.s 29], [.s 30, .a 30 0], false⟩, some 30, [37, 39]⟩, ⟨⟨[.s 1, .b 1], [.s 31], false⟩, none, [30, 37, 39]⟩, ⟨⟨[.s 31, .b 1], [.s 32], false⟩, none, [30, 37, 39]⟩, ⟨⟨[.s 4], [.s 33], false⟩, none, [30, 37, 39]⟩, ⟨⟨[.s 32, .s 33], [.s 34], false⟩, none, [30, 37, 39]⟩, ⟨⟨[.s 34], [.s 35], false⟩, none, [30, 37, 39]⟩, ⟨⟨[.s 35], [.s 36], false⟩, none, [30, 37, 39]⟩, ⟨⟨[.s 36], [.s 37, .a 37 0], false⟩, some 37, [39]⟩, ⟨⟨[.s 37, .a 37 0, .s 30, .a 30 0, .s 23], [.s 38], false⟩, none, [39]⟩, ⟨⟨[.s 38, .a 30 0, .a 37 0], [.s 39, .a 39 0, .a 30 0, .a 37 0], false⟩, some 39, []⟩, ⟨⟨[], [], true⟩, none, []⟩, ⟨⟨[], [], true⟩, none, []⟩, ⟨⟨[], [], true⟩, none, []⟩] ydMo rfl rfl (Le.forgetR (n := 43) (sl := [(1, _), (2, _), (3, _), (4, _), (9, _), (10, _), (11, _), (12, _), (13, _)]) (bl := [(1, _), (2, _), (3, _)]) (al := [(7, 0, _), (8, 0, _)]) rfl ⟨rfl, rfl, rfl, rfl, rfl, rfl, rfl, rfl, rfl, trivial⟩ ⟨rfl, rfl, rfl, trivial⟩ ⟨.refl _, .refl _, trivial⟩) rfl ?_
    refine FRun.slot rfl (fun τ hN hr => step_field_b rfl (rdN hN (hn rfl)) rfl ydFo37_1 (by exact rdS hr rfl rfl) (by exact rdBne hr rfl (by exact List.cons_ne_nil _ _))) (by exact rfl) ?_
    refine FRun.slot rfl (fun τ hN hr => step_load_b rfl (rdN hN (hn rfl)) rfl ydSc35 (by exact rdS hr rfl rfl) (by exact rdBget hr rfl rfl)) (by exact rfl) ?_
    refine FRun.slot rfl (fun τ hN hr => step_field_b rfl (rdN hN (hn rfl)) rfl ydFo37_1 (by exact rdS hr rfl rfl) (by exact rdBne hr rfl (by exact List.cons_ne_nil _ _))) (by exact rfl) ?_
    refine FRun.slot rfl (fun τ hN hr => step_load_b rfl (rdN hN (hn rfl)) rfl ydSc35 (by exact rdS hr rfl rfl) (by exact rdBget hr rfl rfl)) (by exact rfl) ?_
    refine FRun.slot rfl (fun τ hN hr => step_moveV rfl (rdN hN (hn rfl)) rfl (by exact rdS hr rfl rfl)) (by exact rfl) ?_
    refine FRun.slot rfl (fun τ hN hr => step_index_fN rfl (rdN hN (hn rfl)) rfl ydSl35 (by exact rdS hr rfl rfl) (by exact rdS hr rfl rfl) (by omega)) (by exact rfl) ?_
    refine FRun.slot rfl (fun τ hN hr => step_field_f rfl (rdN hN (hn rfl)) rfl ydFo74_0 (by exact rdS hr rfl rfl)) (by exact rfl) ?_
    refine FRun.slot rfl (fun τ hN hr => step_load_f rfl (rdN hN (hn rfl)) rfl ydSc9 (by exact rdS hr rfl rfl) (hn rfl) rfl) (by exact rfl) ?_
    refine FRun.slot rfl (fun τ hN hr => step_field_b rfl (rdN hN (hn rfl)) rfl ydFo37_1 (by exact rdS hr rfl rfl) (by exact rdBne hr rfl (by exact List.cons_ne_nil _ _))) (by exact rfl) ?_
    refine FRun.slot rfl (fun τ hN hr => step_load_b rfl (rdN hN (hn rfl)) rfl ydSc35 (by exact rdS hr rfl rfl) (by exact rdBget hr rfl rfl)) (by exact rfl) ?_
    refine FRun.slot rfl (fun τ hN hr => step_moveV rfl (rdN hN (hn rfl)) rfl (by exact rdS hr rfl rfl)) (by exact rfl) ?_
    refine FRun.slot rfl (fun τ hN hr => step_index_fN rfl (rdN hN (hn rfl)) rfl ydSl35 (by exact rdS hr rfl rfl) (by exact rdS hr rfl rfl) (by omega)) (by exact rfl) ?_
    refine FRun.slot rfl (fun τ hN hr => step_field_f rfl (rdN hN (hn rfl)) rfl ydFo74_1 (by exact rdS hr rfl rfl)) (by exact rfl) ?_
    refine FRun.slot rfl (fun τ hN hr => step_load_f rfl (rdN hN (hn rfl)) rfl ydSc29 (by exact rdS hr rfl rfl) (hn rfl) rfl) (by exact rfl) ?_
    refine FRun.fresh rfl (fun τ hN hr => call_fresh rfl (rdN hN (hn rfl)) rfl ydCo93 (.cons (by exact rdS hr rfl rfl) (.one (.v _)) (.nil)) (namesC _ (hs.2.2 i (by omega)).1) rfl (by exact rdNoRefs hr rfl rfl)) (by exact rfl) ?_
    refine FRun.slot rfl (fun τ hN hr => step_field_b rfl (rdN hN (hn rfl)) rfl ydFo37_1 (by exact rdS hr rfl rfl) (by exact rdBne hr rfl (by exact List.cons_ne_nil _ _))) (by exact rfl) ?_
    refine FRun.slot rfl (fun τ hN hr => step_load_b rfl (rdN hN (hn rfl)) rfl ydSc35 (by exact rdS hr rfl rfl) (by exact rdBget hr rfl rfl)) (by exact rfl) ?_
    refine FRun.slot rfl (fun τ hN hr => step_moveV rfl (rdN hN (hn rfl)) rfl (by exact rdS hr rfl rfl)) (by exact rfl) ?_
    refine FRun.slot rfl (fun τ hN hr => step_index_fN rfl (rdN hN (hn rfl)) rfl ydSl35 (by exact rdS hr rfl rfl) (by exact rdS hr rfl rfl) (by omega)) (by exact rfl) ?_
    refine FRun.slot rfl (fun τ hN hr => step_field_f rfl (rdN hN (hn rfl)) rfl ydFo74_2 (by exact rdS hr rfl rfl)) (by exact rfl) ?_
    refine FRun.slot rfl (fun τ hN hr => step_load_f rfl (rdN hN (hn rfl)) rfl ydSc29 (by exact rdS hr rfl rfl) (hn rfl) rfl) (by exact rfl) ?_
    refine FRun.fresh rfl (fun τ hN hr => call_fresh rfl (rdN hN (hn rfl)) rfl ydCo93 (.cons (by exact rdS hr rfl rfl) (.one (.v _)) (.nil)) (namesC _ (hs.2.2 i (by omega)).2) rfl (by exact rdNoRefs hr rfl rfl)) (by exact rfl) ?_
    refine FRun.slot rfl (fun τ hN hr => step_build rfl (rdN hN (hn rfl)) rfl ydPl74 ydZc74 ((by exact .cons (by exact rdS hr rfl rfl) rfl rfl rfl (.cons (by exact rdS hr rfl rfl) rfl (by exact rdSolid hr rfl rfl) rfl (.cons (by exact rdS hr rfl rfl) rfl (by exact rdSolid hr rfl rfl) rfl (.nil))))) rfl) (by exact rfl) ?_
    refine FRun.build (cs := [.v _, .ref ⟨.arr 30 0, []⟩, .ref ⟨.arr 37 0, []⟩]) (ts := [_, _, _]) rfl rfl (hn rfl) rfl ydSl35 rfl rfl rfl rfl (by intro c hc; cases hc) rfl (by exact ⟨⟨rfl, rfl⟩, ⟨rfl, rfl, rfl, rfl⟩, ⟨rfl, rfl, rfl, rfl⟩, trivial⟩) (by exact rfl) (by exact rfl) ?_
    refine FRun.whole rfl (step_appendM rfl (hn rfl) rfl ydSl35 rfl rfl rfl rfl rfl (solidRows_const rfl) (by omega) (by omega)) (by exact rfl) ?_
    refine FRun.whole rfl (step_field_b rfl (hn rfl) rfl ydFo37_1 rfl (by exact List.cons_ne_nil _ _)) (by exact rfl) ?_
    refine FRun.whole rfl (step_store_r rfl rfl ydCs35 rfl rfl rfl rfl rfl rfl rfl) (by exact rfl) ?_
    refine FRun.nil ?_
    refine AWp.region ?_
    refine ARun.step rfl (step_moveV rfl (hn rfl) rfl rfl) ?_
    refine ARun.step rfl (step_addI rfl (hn rfl) rfl rfl rfl (by omega) (by omega)) ?_
    refine ARun.step rfl (step_assignV rfl (hn rfl) rfl rfl) ?_
    refine ARun.nil ?_
    refine ⟨i + 1, ?_, ?_, Le.forgetR rfl ⟨rfl, rfl, rfl, rfl, trivial⟩ ⟨rfl, rfl, rfl, trivial⟩ ⟨.refl _, (btTo_next _ _ _ _ (fun _ _ => rfl) rfl), trivial⟩⟩
    · try dsimp only
      omega
    · try dsimp only
      omega
  · try simp only [decide_eq_true_eq, decide_eq_false_iff_not, beq_iff_eq, bne_iff_ne, Bool.not_eq_true', Bool.not_eq_false', Bool.and_eq_true, Bool.or_eq_true, Bool.and_eq_false_iff, Bool.or_eq_false_iff, Int.not_lt, Int.not_le, gt_iff_lt, ge_iff_le, bne_eq_false_iff_eq, beq_eq_false_iff_ne, ne_eq, Int.toNat_natCast] at c1
    refine AWp.exit ?_
    refine AWp.seq (AWp.region ?_)
    refine ARun.step rfl (step_loadS_b rfl (hn rfl) rfl ydSt37 rfl rfl rfl (by decide)) ?_
    refine ARun.step rfl (step_store_r rfl rfl ydCs37 rfl rfl rfl rfl rfl rfl rfl) ?_
    refine ARun.nil ?_
    refine AWp.ret ?_
    refine ⟨.inr rfl, 2, 2, _, _, _, ydSt37, by decide, rfl, rfl, rfl, rfl, (.cons rfl (.agg (.cons (.ref _ _ rfl) (.cons (.ref _ _ rfl) (.nil _)))) (.nil _)), rfl, ?_⟩
    refine congrArg PV.agg ?_
    obtain rfl : i = p.bs.length := by omega
    rfl
theorem lessI (p : Bk) (s : Str) (l : List Str) (hs : smallBk p) (hl : l.length ≤ 1048576) : ASpec Try.prog 54 [.agg (p.cells 74), .one (.str s), .one (strs l)] (.tup [.agg ((lessR p s l).1.ocells 74), .one (.int .i64 (lessR p s l).2)]) := by
  refine ASpec.bodyC Try.func54 rfl 6 37 [7] rfl rfl 70 rfl rfl rfl ?_
  have hs1 := hs.2.1
  have hix := idxB_lt p s
  refine AWp.seq (AWp.region ?_)
  refine ARun.step rfl (step_box_p (m := 1) rfl (hn rfl) rfl rfl rfl rfl rfl) ?_
  refine ARun.step rfl (step_alloc_p rfl (hn rfl) rfl ydZs37) ?_
  refine ARun.step rfl (step_assignV rfl (hn rfl) rfl rfl) ?_
  refine ARun.nil ?_
  refine AWp.seq ?_
  refine AWp.seq (AWp.region ?_)
  refine ARun.step rfl (step_loadS_b rfl (hn rfl) rfl ydSt37 rfl rfl rfl (by decide)) ?_
  refine ARun.step rfl (call_step1 rfl (hn rfl) rfl ydCo23 (.cons rfl (.agg (.cons (.v _) (.cons (.v _) .nil))) (.nil)) (bookOkI _) rfl) ?_
  refine ARun.step rfl (step_not rfl (hn rfl) rfl rfl) ?_
  refine ARun.nil ?_
  refine AWp.cond rfl (fun c1 => ?_) (fun c1 => ?_)
  · try simp only [decide_eq_true_eq, decide_eq_false_iff_not, beq_iff_eq, bne_iff_ne, Bool.not_eq_true', Bool.not_eq_false', Bool.and_eq_true, Bool.or_eq_true, Bool.and_eq_false_iff, Bool.or_eq_false_iff, Int.not_lt, Int.not_le, gt_iff_lt, ge_iff_le, bne_eq_false_iff_eq, beq_eq_false_iff_ne, ne_eq, Int.toNat_natCast] at c1
    refine AWp.seq (AWp.region ?_)
    refine ARun.step rfl (step_build rfl (hn rfl) rfl ydPl37 ydZc37 (.nil) rfl) ?_
    refine ARun.step rfl (step_store_p rfl rfl ydCs37 rfl rfl rfl rfl rfl rfl rfl) ?_
    refine ARun.step rfl (step_assignV rfl (hn rfl) rfl rfl) ?_
    refine ARun.nil ?_
    refine AWp.ret ?_
    refine ⟨.inr rfl, 6, 2, _, _, _, ydSt37, by decide, rfl, rfl, rfl, rfl, (.cons rfl (.agg (.cons (.nil 9 1 (fun i => [.str (nth [] i)]) _) (.cons (.nil 74 3 (fun i => (nth ([] : List Bt) i).cells) _) (.nil _)))) (.cons rfl (.one (.sc _ _ rfl)) (.nil _))), rfl, ?_⟩
    rw [show lessR p s l = (emptyBk, 1) by simp [lessR, *]]
    rfl
  · try simp only [decide_eq_true_eq, decide_eq_false_iff_not, beq_iff_eq, bne_iff_ne, Bool.not_eq_true', Bool.not_eq_false', Bool.and_eq_true, Bool.or_eq_true, Bool.and_eq_false_iff, Bool.or_eq_false_iff, Int.not_lt, Int.not_le, gt_iff_lt, ge_iff_le, bne_eq_false_iff_eq, beq_eq_false_iff_ne, ne_eq, Int.toNat_natCast] at c1
    refine AWp.skip ?_
    refine AWp.seq (AWp.region ?_)
    refine ARun.step rfl (step_loadS_b rfl (hn rfl) rfl ydSt37 rfl rfl rfl (by decide)) ?_
    refine ARun.step rfl (call_stepN rfl (hn rfl) rfl ydCo91 (.cons rfl (.agg (.cons (.v _) (.cons (.v _) .nil))) (.nil)) (copyI _ hs) rfl rfl) ?_
    refine ARun.step rfl (step_alloc_p rfl (hn rfl) rfl ydZs37) ?_
    refine ARun.step rfl (step_store_r rfl rfl ydCs37 rfl rfl rfl rfl rfl rfl rfl) ?_
    refine ARun.nil ?_
    refine AWp.seq (AWp.region ?_)
    refine ARun.step rfl (step_loadS_b rfl (hn rfl) rfl ydSt37 rfl rfl rfl (by decide)) ?_
    refine ARun.step rfl (step_moveV rfl (hn rfl) rfl rfl) ?_
    refine ARun.step rfl (call_step1 rfl (hn rfl) rfl ydCo84 (.cons rfl (.agg (.cons (.ref _ rfl) (.cons (.refz _ rfl (fz_bts _ _)) .nil))) (.cons rfl (.one (.v _)) (.nil))) (batchI _ _) rfl) ?_
    refine ARun.step rfl (step_assignV rfl (hn rfl) rfl rfl) ?_
    refine ARun.nil ?_
    refine AWp.seq ?_
    refine AWp.seq (AWp.region ?_)
    refine ARun.step rfl (step_moveV rfl (hn rfl) rfl rfl) ?_
    refine ARun.step rfl (step_lss rfl (hn rfl) rfl rfl rfl) ?_
    refine ARun.nil ?_
    refine AWp.cond rfl (fun c2 => ?_) (fun c2 => ?_)
    · try simp only [decide_eq_true_eq, decide_eq_false_iff_not, beq_iff_eq, bne_iff_ne, Bool.not_eq_true', Bool.not_eq_false', Bool.and_eq_true, Bool.or_eq_true, Bool.and_eq_false_iff, Bool.or_eq_false_iff, Int.not_lt, Int.not_le, gt_iff_lt, ge_iff_le, bne_eq_false_iff_eq, beq_eq_false_iff_ne, ne_eq, Int.toNat_natCast] at c2
      refine AWp.seq (AWp.region ?_)
      refine ARun.step rfl (step_loadS_b rfl (hn rfl) rfl ydSt37 rfl rfl rfl (by decide)) ?_
      refine ARun.step rfl (step_store_r rfl rfl ydCs37 rfl rfl rfl rfl rfl rfl rfl) ?_
      refine ARun.step rfl (step_assignV rfl (hn rfl) rfl rfl) ?_
      refine ARun.nil ?_
      refine AWp.ret ?_
      refine ⟨.inr rfl, 6, 2, _, _, _, ydSt37, by decide, rfl, rfl, rfl, rfl, (.cons rfl (.agg (.cons (.ref _ _ rfl) (.cons (.ref _ _ rfl) (.nil _)))) (.cons rfl (.one (.sc _ _ rfl)) (.nil _))), rfl, ?_⟩
      rw [show lessR p s l = (p, 3) by simp [lessR, *]]
      rfl
    · try simp only [decide_eq_true_eq, decide_eq_false_iff_not, beq_iff_eq, bne_iff_ne, Bool.not_eq_true', Bool.not_eq_false', Bool.and_eq_true, Bool.or_eq_true, Bool.and_eq_false_iff, Bool.or_eq_false_iff, Int.not_lt, Int.not_le, gt_iff_lt, ge_iff_le, bne_eq_false_iff_eq, beq_eq_false_iff_ne, ne_eq, Int.toNat_natCast] at c2
      have hzb := (hs.2.2 (idxB p s).toNat (by omega)).1
      refine AWp.skip ?_
      refine AWp.seq (AWp.region ?_)
      refine ARun.step rfl (step_field_b rfl (hn rfl) rfl ydFo37_1 rfl (by exact List.cons_ne_nil _ _)) ?_
      refine ARun.step rfl (step_load_b rfl (hn rfl) rfl ydSc35 rfl rfl) ?_
      refine ARun.step rfl (step_moveV rfl (hn rfl) rfl rfl) ?_
      refine ARun.step rfl (step_index_r rfl (hn rfl) rfl ydSl35 rfl rfl rfl (by omega) (by omega)) ?_
      refine ARun.step rfl (step_assignV rfl (hn rfl) rfl rfl) ?_
      refine ARun.nil ?_
      refine AWp.seq ?_
      refine AWp.seq (AWp.region ?_)
      refine ARun.step rfl (step_moveV rfl (hn rfl) rfl rfl) ?_
      refine ARun.step rfl (call_step1 rfl (hn rfl) rfl ydCo70 (.cons rfl (.one (.v _)) (.nil)) (risingI _) rfl) ?_
      refine ARun.step rfl (step_not rfl (hn rfl) rfl rfl) ?_
      refine ARun.step rfl (step_moveV rfl (hn rfl) rfl rfl) ?_
      refine guardS rfl rfl rfl rfl (hn rfl) (fun g1 g2 => step_moveV rfl (hn rfl) rfl rfl) ?_
      refine guardS rfl rfl rfl rfl (hn rfl) (fun g1 g2 => step_moveV rfl (hn rfl) rfl rfl) ?_
      refine guardS rfl rfl rfl rfl (hn rfl) (fun g1 g2 => step_nilE rfl (hn rfl) rfl (ev_true rfl (by exact flag2 g1 g2)) rfl) ?_
      refine guardS rfl rfl rfl rfl (hn rfl) (fun g1 g2 => step_field_e rfl (hn rfl) rfl ydFo74_2 (ev_true rfl (by exact flag2 g1 g2)) rfl) ?_
      refine guardS rfl rfl rfl rfl (hn rfl) (fun g1 g2 => step_load_e rfl (hn rfl) rfl ydSc29 (ev_true rfl (by exact flag2 g1 g2)) rfl (by omega) (hn rfl) rfl) ?_
      refine guardS rfl rfl rfl rfl (hn rfl) (fun g1 g2 => call_step1 rfl (hn rfl) rfl ydCo71 (.cons (ev_true rfl (by exact flag2 g1 g2)) (.one (.v _)) (.cons (ev_true rfl (by exact flag2 g1 g2)) (.one (.ref _ ((node_push _ _ _ _ rfl (by omega)).trans rfl))) (.nil))) (withinI _ _) rfl) ?_
      refine guardS rfl rfl rfl rfl (hn rfl) (fun g1 g2 => step_not rfl (hn rfl) rfl (ev_true rfl (by exact flag2 g1 g2))) ?_
      refine ARun.step rfl (step_or rfl (hn rfl) rfl rfl rfl (fun h => (by exact flag1 h))) ?_
      refine ARun.nil ?_
      refine AWp.cond rfl (fun c3 => ?_) (fun c3 => ?_)
      · try simp only [decide_eq_true_eq, decide_eq_false_iff_not, beq_iff_eq, bne_iff_ne, Bool.not_eq_true', Bool.not_eq_false', Bool.and_eq_true, Bool.or_eq_true, Bool.and_eq_false_iff, Bool.or_eq_false_iff, Int.not_lt, Int.not_le, gt_iff_lt, ge_iff_le, bne_eq_false_iff_eq, beq_eq_false_iff_ne, ne_eq, Int.toNat_natCast] at c3
        refine AWp.seq (AWp.region ?_)
        refine ARun.step rfl (step_loadS_b rfl (hn rfl) rfl ydSt37 rfl rfl rfl (by decide)) ?_
        refine ARun.step rfl (step_store_r rfl rfl ydCs37 rfl rfl rfl rfl rfl rfl rfl) ?_
        refine ARun.step rfl (step_assignV rfl (hn rfl) rfl rfl) ?_
        refine ARun.nil ?_
        refine AWp.ret ?_
        refine ⟨.inr rfl, 6, 2, _, _, _, ydSt37, by decide, rfl, rfl, rfl, rfl, (.cons rfl (.agg (.cons (.ref _ _ rfl) (.cons (.ref _ _ rfl) (.nil _)))) (.cons rfl (.one (.sc _ _ rfl)) (.nil _))), rfl, ?_⟩
        rw [show lessR p s l = (p, 2) by simp [lessR, *]; try grind]
        rfl
      · try simp only [decide_eq_true_eq, decide_eq_false_iff_not, beq_iff_eq, bne_iff_ne, Bool.not_eq_true', Bool.not_eq_false', Bool.and_eq_true, Bool.or_eq_true, Bool.and_eq_false_iff, Bool.or_eq_false_iff, Int.not_lt, Int.not_le, gt_iff_lt, ge_iff_le, bne_eq_false_iff_eq, beq_eq_false_iff_ne, ne_eq, Int.toNat_natCast] at c3
        refine AWp.skip ?_
        refine AWp.seq (AWp.region ?_)
        refine ARun.step rfl (step_assignV rfl (hn rfl) rfl rfl) ?_
        refine ARun.nil ?_
        refine AWp.seq ?_
        refine AWp.seq (AWp.region ?_)
        refine ARun.step rfl (step_moveV rfl (hn rfl) rfl rfl) ?_
        refine ARun.step rfl (step_nilE rfl (hn rfl) rfl rfl rfl) ?_
        refine ARun.step rfl (step_field_e rfl (hn rfl) rfl ydFo74_1 rfl rfl) ?_
        refine ARun.step rfl (step_load_e rfl (hn rfl) rfl ydSc29 rfl rfl (by omega) (hn rfl) rfl) ?_
        refine ARun.step rfl (step_len_r rfl (hn rfl) rfl ydSl29 rfl ((node_push _ _ _ _ rfl (by omega)).trans rfl)) ?_
        refine ARun.step rfl (step_moveV rfl (hn rfl) rfl rfl) ?_
        refine ARun.nil ?_
        refine AWp.block ?_
        refine AWp.le (Le.nilRef 11 11 9 1 (fun i => [.str (nth [] i)]) rfl rfl) ?_
        refine AWp.loopM (fun i : Nat => mkAS 70 [(2, ⟨true, .one (.v (strs l))⟩), (6, ⟨true, .one (.bptr 6 0)⟩), (8, ⟨true, .one (.bptr 8 0)⟩), (10, ⟨true, .one (.eptr ⟨.arr 19 1, []⟩ (idxB p s).toNat 0)⟩), (11, ⟨true, .one (.ref ⟨.arr 11 0, []⟩)⟩), (46, ⟨true, .one (.ref (Place.push ⟨.arr 19 1, []⟩ (idxB p s).toNat 1))⟩), (47, ⟨true, .one (.v (.int .i64 ((nth p.bs (idxB p s).toNat).has.length : Nat)))⟩), (48, ⟨true, .one (.v (.int .i64 (i : Nat)))⟩)] [(6, [.any, .any]), (8, [.ref ⟨.arr 19 0, []⟩, .ref ⟨.arr 19 1, []⟩])] [(11, 0, strs (filtGo l (nth p.bs (idxB p s).toNat).has i)), (19, 0, strs p.things), (19, 1, btsO 74 p.bs)]) (fun i => i ≤ (nth p.bs (idxB p s).toNat).has.length) (fun i => (nth p.bs (idxB p s).toNat).has.length - i) 0 ?_ (Le.forgetR rfl ⟨rfl, rfl, rfl, rfl, rfl, rfl, rfl, rfl, trivial⟩ ⟨rfl, rfl, trivial⟩ ⟨.refl _, .refl _, .refl _, trivial⟩) ?_
        · try dsimp only
          omega
        rintro i hi
        refine AWp.seq (AWp.region ?_)
        refine ARun.step rfl (step_lss rfl (hn rfl) rfl rfl rfl) ?_
        refine ARun.nil ?_
        refine AWp.seq ?_
        refine AWp.cond rfl (fun c4 => ?_) (fun c4 => ?_)
        · try simp only [decide_eq_true_eq, decide_eq_false_iff_not, beq_iff_eq, bne_iff_ne, Bool.not_eq_true', Bool.not_eq_false', Bool.and_eq_true, Bool.or_eq_true, Bool.and_eq_false_iff, Bool.or_eq_false_iff, Int.not_lt, Int.not_le, gt_iff_lt, ge_iff_le, bne_eq_false_iff_eq, beq_eq_false_iff_ne, ne_eq, Int.toNat_natCast] at c4
          have hfl := filtGo_len l (nth p.bs (idxB p s).toNat).has i
          refine AWp.skip ?_
          refine AWp.seq ?_
          refine AWp.block ?_
          refine AWp.seq (AWp.region ?_)
          refine ARun.step rfl (step_index_rN rfl (hn rfl) rfl ydSl29 rfl ((node_push _ _ _ _ rfl (by omega)).trans rfl) rfl (by omega)) ?_
          refine ARun.step rfl (step_load_e rfl (hn rfl) rfl ydSc9 rfl ((node_push _ _ _ _ rfl (by omega)).trans rfl) (by omega) (hn rfl) rfl) ?_
          refine ARun.step rfl (step_assignV rfl (hn rfl) rfl rfl) ?_
          refine ARun.nil ?_
          refine AWp.seq (AWp.region ?_)
          refine ARun.step rfl (step_moveV rfl (hn rfl) rfl rfl) ?_
          refine ARun.step rfl (step_moveV rfl (hn rfl) rfl rfl) ?_
          refine ARun.step rfl (call_step1 rfl (hn rfl) rfl ydCo75 (.cons rfl (.one (.v _)) (.cons rfl (.one (.v _)) (.nil))) (hasI _ _) rfl) ?_
          refine ARun.nil ?_
          refine AWp.cond rfl (fun c5 => ?_) (fun c5 => ?_)
          · try simp only [decide_eq_true_eq, decide_eq_false_iff_not, beq_iff_eq, bne_iff_ne, Bool.not_eq_true', Bool.not_eq_false', Bool.and_eq_true, Bool.or_eq_true, Bool.and_eq_false_iff, Bool.or_eq_false_iff, Int.not_lt, Int.not_le, gt_iff_lt, ge_iff_le, bne_eq_false_iff_eq, beq_eq_false_iff_ne, ne_eq, Int.toNat_natCast] at c5
            refine AWp.region ?_
            refine ARun.step rfl (step_moveV rfl (hn rfl) rfl rfl) ?_
            refine ARun.step rfl (step_moveV rfl (hn rfl) rfl rfl) ?_
            refine ARun.step rfl (step_buildVT rfl (hn rfl) rfl ydSl29 (strs [_]) (.cons rfl rfl rfl rfl (.nil _)) rfl rfl rfl (rows1 rfl)) ?_
            refine ARun.step rfl (step_append_strs rfl (hn rfl) rfl ydSl29 rfl rfl rfl (.v _) (by simp only [List.length_cons, List.length_nil]; omega) (by simp only [List.length_cons, List.length_nil]; omega)) ?_
            refine ARun.step rfl (step_assignV rfl (hn rfl) rfl rfl) ?_
            refine ARun.nil ?_
            refine AWp.region ?_
            refine ARun.step rfl (step_addI rfl (hn rfl) rfl rfl rfl (by omega) (by omega)) ?_
            refine ARun.step rfl (step_moveV rfl (hn rfl) rfl rfl) ?_
            refine ARun.nil ?_
            refine ⟨i + 1, ?_, ?_, Le.forgetR rfl ⟨rfl, rfl, rfl, rfl, rfl, rfl, rfl, rfl, trivial⟩ ⟨rfl, rfl, trivial⟩ ⟨(by first | exact eqv_strs (filtGo_yes (by assumption)) | exact eqv_strs (filtGo_no (by assumption))), .refl _, .refl _, trivial⟩⟩
            · try dsimp only
              omega
            · try dsimp only
              omega
          · try simp only [decide_eq_true_eq, decide_eq_false_iff_not, beq_iff_eq, bne_iff_ne, Bool.not_eq_true', Bool.not_eq_false', Bool.and_eq_true, Bool.or_eq_true, Bool.and_eq_false_iff, Bool.or_eq_false_iff, Int.not_lt, Int.not_le, gt_iff_lt, ge_iff_le, bne_eq_false_iff_eq, beq_eq_false_iff_ne, ne_eq, Int.toNat_natCast] at c5
            refine AWp.skip ?_
            refine AWp.region ?_
            refine ARun.step rfl (step_addI rfl (hn rfl) rfl rfl rfl (by omega) (by omega)) ?_
            refine ARun.step rfl (step_moveV rfl (hn rfl) rfl rfl) ?_
            refine ARun.nil ?_
            refine ⟨i + 1, ?_, ?_, Le.forgetR rfl ⟨rfl, rfl, rfl, rfl, rfl, rfl, rfl, rfl, trivial⟩ ⟨rfl, rfl, trivial⟩ ⟨(by first | exact eqv_strs (filtGo_yes (by assumption)) | exact eqv_strs (filtGo_no (by assumption))), .refl _, .refl _, trivial⟩⟩
            · try dsimp only
              omega
            · try dsimp only
              omega
        · try simp only [decide_eq_true_eq, decide_eq_false_iff_not, beq_iff_eq, bne_iff_ne, Bool.not_eq_true', Bool.not_eq_false', Bool.and_eq_true, Bool.or_eq_true, Bool.and_eq_false_iff, Bool.or_eq_false_iff, Int.not_lt, Int.not_le, gt_iff_lt, ge_iff_le, bne_eq_false_iff_eq, beq_eq_false_iff_ne, ne_eq, Int.toNat_natCast] at c4
          refine AWp.exit ?_
          refine AWp.seq (AWp.region ?_)
          refine ARun.step rfl (step_moveV rfl (hn rfl) rfl rfl) ?_
          refine ARun.step rfl (step_moveV rfl (hn rfl) rfl rfl) ?_
          refine ARun.step rfl (step_moveV rfl (hn rfl) rfl rfl) ?_
          refine ARun.step rfl (step_moveV rfl (hn rfl) rfl rfl) ?_
          refine ARun.step rfl (call_stepN rfl (hn rfl) rfl ydCo94 (.cons rfl (.one (.v _)) (.nil)) (copiedI _ hl) rfl rfl) ?_
          refine ARun.step rfl (step_nilE rfl (hn rfl) rfl rfl rfl) ?_
          refine ARun.step rfl (step_field_e rfl (hn rfl) rfl ydFo74_1 rfl rfl) ?_
          refine ARun.step rfl (step_store_e rfl rfl ydCs29 rfl rfl (by omega) (hn rfl) rfl rfl rfl) ?_
          refine ARun.step rfl (step_nilE rfl (hn rfl) rfl rfl rfl) ?_
          refine ARun.step rfl (step_field_e rfl (hn rfl) rfl ydFo74_2 rfl rfl) ?_
          refine ARun.step rfl (step_store_e rfl rfl ydCs29 rfl rfl (by omega) (hn rfl) rfl rfl rfl) ?_
          refine ARun.nil ?_
          refine AWp.seq (AWp.region ?_)
          refine ARun.step rfl (step_loadS_b rfl (hn rfl) rfl ydSt37 rfl rfl rfl (by decide)) ?_
          refine ARun.step rfl (step_store_r rfl rfl ydCs37 rfl rfl rfl rfl rfl rfl rfl) ?_
          refine ARun.step rfl (step_assignV rfl (hn rfl) rfl rfl) ?_
          refine ARun.nil ?_
          obtain rfl : i = (nth p.bs (idxB p s).toNat).has.length := by omega
          refine AWp.le (Le.retree 19 1 (t := btsO 74 (lessAt p (idxB p s).toNat l).bs) (less_eqv1 (by omega) _ _)) ?_
          refine AWp.ret ?_
          refine ⟨.inr rfl, 6, 2, _, _, _, ydSt37, by decide, rfl, rfl, rfl, rfl, (.cons rfl (.agg (.cons (.ref _ _ rfl) (.cons (.ref _ _ rfl) (.nil _)))) (.cons rfl (.one (.sc _ _ rfl)) (.nil _))), rfl, ?_⟩
          rw [show lessR p s l = (lessAt p (idxB p s).toNat l, 0) by simp [lessR, *]; try grind]
          rfl
theorem lessS (p : Bk) (s : Str) (l : List Str) (hs : smallBk p) (hl : l.length ≤ 1048576) : ASpec Try.prog 53 [.agg (p.cells 74), .one (.str s), .one (strs l)] (.tup [.agg ((lessR p s l).1.ocells 74), .one (.int .i64 (lessR p s l).2)]) := by
  refine ASpec.bodyC Try.func53 rfl 6 37 [7] rfl rfl 84 rfl rfl rfl ?_
  have hs1 := hs.2.1
  have hix := idxB_lt p s
  refine AWp.seq (AWp.region ?_)
  refine ARun.step rfl (step_box_p (m := 1) rfl (hn rfl) rfl rfl rfl rfl rfl) ?_
  refine ARun.step rfl (step_alloc_p rfl (hn rfl) rfl ydZs37) ?_
  refine ARun.step rfl (step_assignV rfl (hn rfl) rfl rfl) ?_
  refine ARun.nil ?_
  refine AWp.seq ?_
  refine AWp.seq (AWp.region ?_)
  refine ARun.step rfl (step_loadS_b rfl (hn rfl) rfl ydSt37 rfl rfl rfl (by decide)) ?_
  refine ARun.step rfl (call_step1 rfl (hn rfl) rfl ydCo21 (.cons rfl (.agg (.cons (.v _) (.cons (.v _) .nil))) (.nil)) (bookOkS _) rfl) ?_
  refine ARun.step rfl (step_not rfl (hn rfl) rfl rfl) ?_
  refine ARun.nil ?_
  refine AWp.cond rfl (fun c1 => ?_) (fun c1 => ?_)
  · try simp only [decide_eq_true_eq, decide_eq_false_iff_not, beq_iff_eq, bne_iff_ne, Bool.not_eq_true', Bool.not_eq_false', Bool.and_eq_true, Bool.or_eq_true, Bool.and_eq_false_iff, Bool.or_eq_false_iff, Int.not_lt, Int.not_le, gt_iff_lt, ge_iff_le, bne_eq_false_iff_eq, beq_eq_false_iff_ne, ne_eq, Int.toNat_natCast] at c1
    refine AWp.seq (AWp.region ?_)
    refine ARun.step rfl (step_build rfl (hn rfl) rfl ydPl37 ydZc37 (.nil) rfl) ?_
    refine ARun.step rfl (step_store_p rfl rfl ydCs37 rfl rfl rfl rfl rfl rfl rfl) ?_
    refine ARun.step rfl (step_assignV rfl (hn rfl) rfl rfl) ?_
    refine ARun.nil ?_
    refine AWp.ret ?_
    refine ⟨.inr rfl, 6, 2, _, _, _, ydSt37, by decide, rfl, rfl, rfl, rfl, (.cons rfl (.agg (.cons (.nil 9 1 (fun i => [.str (nth [] i)]) _) (.cons (.nil 74 3 (fun i => (nth ([] : List Bt) i).cells) _) (.nil _)))) (.cons rfl (.one (.sc _ _ rfl)) (.nil _))), rfl, ?_⟩
    rw [show lessR p s l = (emptyBk, 1) by simp [lessR, *]]
    rfl
  · try simp only [decide_eq_true_eq, decide_eq_false_iff_not, beq_iff_eq, bne_iff_ne, Bool.not_eq_true', Bool.not_eq_false', Bool.and_eq_true, Bool.or_eq_true, Bool.and_eq_false_iff, Bool.or_eq_false_iff, Int.not_lt, Int.not_le, gt_iff_lt, ge_iff_le, bne_eq_false_iff_eq, beq_eq_false_iff_ne, ne_eq, Int.toNat_natCast] at c1
    refine AWp.skip ?_
    refine AWp.seq (AWp.region ?_)
    refine ARun.step rfl (step_loadS_b rfl (hn rfl) rfl ydSt37 rfl rfl rfl (by decide)) ?_
    refine ARun.step rfl (call_stepN rfl (hn rfl) rfl ydCo90 (.cons rfl (.agg (.cons (.v _) (.cons (.v _) .nil))) (.nil)) (copyS _ hs) rfl rfl) ?_
    refine ARun.step rfl (step_alloc_p rfl (hn rfl) rfl ydZs37) ?_
    refine ARun.step rfl (step_store_r rfl rfl ydCs37 rfl rfl rfl rfl rfl rfl rfl) ?_
    refine ARun.nil ?_
    refine AWp.seq (AWp.region ?_)
    refine ARun.step rfl (step_loadS_b rfl (hn rfl) rfl ydSt37 rfl rfl rfl (by decide)) ?_
    refine ARun.step rfl (step_moveV rfl (hn rfl) rfl rfl) ?_
    refine ARun.step rfl (call_step1 rfl (hn rfl) rfl ydCo82 (.cons rfl (.agg (.cons (.v _) (.cons (.v _) .nil))) (.cons rfl (.one (.v _)) (.nil))) (l51At _ _) rfl) ?_
    refine ARun.step rfl (step_assignV rfl (hn rfl) rfl rfl) ?_
    refine ARun.nil ?_
    refine AWp.seq ?_
    refine AWp.seq (AWp.region ?_)
    refine ARun.step rfl (step_moveV rfl (hn rfl) rfl rfl) ?_
    refine ARun.step rfl (step_lss rfl (hn rfl) rfl rfl rfl) ?_
    refine ARun.nil ?_
    refine AWp.cond rfl (fun c2 => ?_) (fun c2 => ?_)
    · try simp only [decide_eq_true_eq, decide_eq_false_iff_not, beq_iff_eq, bne_iff_ne, Bool.not_eq_true', Bool.not_eq_false', Bool.and_eq_true, Bool.or_eq_true, Bool.and_eq_false_iff, Bool.or_eq_false_iff, Int.not_lt, Int.not_le, gt_iff_lt, ge_iff_le, bne_eq_false_iff_eq, beq_eq_false_iff_ne, ne_eq, Int.toNat_natCast] at c2
      refine AWp.seq (AWp.region ?_)
      refine ARun.step rfl (step_loadS_b rfl (hn rfl) rfl ydSt37 rfl rfl rfl (by decide)) ?_
      refine ARun.step rfl (step_store_r rfl rfl ydCs37 rfl rfl rfl rfl rfl rfl rfl) ?_
      refine ARun.step rfl (step_assignV rfl (hn rfl) rfl rfl) ?_
      refine ARun.nil ?_
      refine AWp.ret ?_
      refine ⟨.inr rfl, 6, 2, _, _, _, ydSt37, by decide, rfl, rfl, rfl, rfl, (.cons rfl (.agg (.cons (.ref _ _ rfl) (.cons (.ref _ _ rfl) (.nil _)))) (.cons rfl (.one (.sc _ _ rfl)) (.nil _))), rfl, ?_⟩
      rw [show lessR p s l = (p, 3) by simp [lessR, *]]
      rfl
    · try simp only [decide_eq_true_eq, decide_eq_false_iff_not, beq_iff_eq, bne_iff_ne, Bool.not_eq_true', Bool.not_eq_false', Bool.and_eq_true, Bool.or_eq_true, Bool.and_eq_false_iff, Bool.or_eq_false_iff, Int.not_lt, Int.not_le, gt_iff_lt, ge_iff_le, bne_eq_false_iff_eq, beq_eq_false_iff_ne, ne_eq, Int.toNat_natCast] at c2
      have hzb := (hs.2.2 (idxB p s).toNat (by omega)).1
      refine AWp.skip ?_
      refine AWp.seq ?_
      refine AWp.seq (AWp.region ?_)
      refine ARun.step rfl (step_moveV rfl (hn rfl) rfl rfl) ?_
      refine ARun.step rfl (step_field_b rfl (hn rfl) rfl ydFo37_1 rfl (by exact List.cons_ne_nil _ _)) ?_
      refine ARun.step rfl (step_load_b rfl (hn rfl) rfl ydSc35 rfl rfl) ?_
      refine ARun.step rfl (step_moveV rfl (hn rfl) rfl rfl) ?_
      refine ARun.step rfl (step_index_f rfl (hn rfl) rfl ydSl35 rfl rfl (by omega) (by omega)) ?_
      refine ARun.step rfl (step_field_f rfl (hn rfl) rfl ydFo74_2 rfl) ?_
      refine ARun.step rfl (step_load_f rfl (hn rfl) rfl ydSc29 rfl (hn rfl) rfl) ?_
      refine ARun.step rfl (call_step1 rfl (hn rfl) rfl ydCo65 (.cons rfl (.one (.v _)) (.cons rfl (.one (.v _)) (.nil))) (l51NamesOk _ _) rfl) ?_
      refine ARun.step rfl (step_not rfl (hn rfl) rfl rfl) ?_
      refine ARun.nil ?_
      refine AWp.cond rfl (fun c3 => ?_) (fun c3 => ?_)
      · try simp only [decide_eq_true_eq, decide_eq_false_iff_not, beq_iff_eq, bne_iff_ne, Bool.not_eq_true', Bool.not_eq_false', Bool.and_eq_true, Bool.or_eq_true, Bool.and_eq_false_iff, Bool.or_eq_false_iff, Int.not_lt, Int.not_le, gt_iff_lt, ge_iff_le, bne_eq_false_iff_eq, beq_eq_false_iff_ne, ne_eq, Int.toNat_natCast] at c3
        refine AWp.seq (AWp.region ?_)
        refine ARun.step rfl (step_loadS_b rfl (hn rfl) rfl ydSt37 rfl rfl rfl (by decide)) ?_
        refine ARun.step rfl (step_store_r rfl rfl ydCs37 rfl rfl rfl rfl rfl rfl rfl) ?_
        refine ARun.step rfl (step_assignV rfl (hn rfl) rfl rfl) ?_
        refine ARun.nil ?_
        refine AWp.ret ?_
        refine ⟨.inr rfl, 6, 2, _, _, _, ydSt37, by decide, rfl, rfl, rfl, rfl, (.cons rfl (.agg (.cons (.ref _ _ rfl) (.cons (.ref _ _ rfl) (.nil _)))) (.cons rfl (.one (.sc _ _ rfl)) (.nil _))), rfl, ?_⟩
        rw [show lessR p s l = (p, 2) by simp [lessR, *]; try grind]
        rfl
      · try simp only [decide_eq_true_eq, decide_eq_false_iff_not, beq_iff_eq, bne_iff_ne, Bool.not_eq_true', Bool.not_eq_false', Bool.and_eq_true, Bool.or_eq_true, Bool.and_eq_false_iff, Bool.or_eq_false_iff, Int.not_lt, Int.not_le, gt_iff_lt, ge_iff_le, bne_eq_false_iff_eq, beq_eq_false_iff_ne, ne_eq, Int.toNat_natCast] at c3
        refine AWp.skip ?_
        refine AWp.seq (AWp.region ?_)
        refine ARun.step rfl (step_build0 rfl (hn rfl) rfl ydSl29) ?_
        refine ARun.step rfl (step_assignV rfl (hn rfl) rfl rfl) ?_
        refine ARun.nil ?_
        refine AWp.seq ?_
        refine AWp.seq (AWp.region ?_)
        refine ARun.step rfl (step_assignV rfl (hn rfl) rfl rfl) ?_
        refine ARun.nil ?_
        refine AWp.block ?_
        refine AWp.loopM (fun i : Nat => mkAS 84 [(2, ⟨true, .one (.v (strs l))⟩), (3, ⟨true, .one (.bptr 3 0)⟩), (6, ⟨true, .one (.bptr 6 0)⟩), (8, ⟨true, .one (.bptr 8 0)⟩), (9, ⟨true, .one (.v (.int .i64 (idxB p s)))⟩), (10, ⟨true, .one (.ref ⟨.arr 34 0, []⟩)⟩), (11, ⟨true, .one (.v (.int .i64 (i : Nat)))⟩)] [(3, ((p.cells 74)).map C.v), (6, [.any, .any]), (8, [.ref ⟨.arr 17 0, []⟩, .ref ⟨.arr 17 1, []⟩])] [(17, 0, strs p.things), (17, 1, btsO 74 p.bs), (34, 0, strs (filtGo l (nth p.bs (idxB p s).toNat).has i))]) (fun i => i ≤ (nth p.bs (idxB p s).toNat).has.length) (fun i => (nth p.bs (idxB p s).toNat).has.length - i) 0 ?_ (Le.forgetR rfl ⟨rfl, rfl, rfl, rfl, rfl, rfl, rfl, trivial⟩ ⟨rfl, rfl, rfl, trivial⟩ ⟨.refl _, .refl _, .refl _, trivial⟩) ?_
        · try dsimp only
          omega
        rintro i hi
        refine AWp.seq ?_
        refine AWp.seq (AWp.region ?_)
        refine ARun.step rfl (step_moveV rfl (hn rfl) rfl rfl) ?_
        refine ARun.step rfl (step_field_b rfl (hn rfl) rfl ydFo37_1 rfl (by exact List.cons_ne_nil _ _)) ?_
        refine ARun.step rfl (step_load_b rfl (hn rfl) rfl ydSc35 rfl rfl) ?_
        refine ARun.step rfl (step_moveV rfl (hn rfl) rfl rfl) ?_
        refine ARun.step rfl (step_index_f rfl (hn rfl) rfl ydSl35 rfl rfl (by omega) (by omega)) ?_
        refine ARun.step rfl (step_field_f rfl (hn rfl) rfl ydFo74_1 rfl) ?_
        refine ARun.step rfl (step_load_f rfl (hn rfl) rfl ydSc29 rfl (hn rfl) rfl) ?_
        refine ARun.step rfl (step_len_f rfl (hn rfl) rfl ydSl29 rfl) ?_
        refine ARun.step rfl (step_lss rfl (hn rfl) rfl rfl rfl) ?_
        refine ARun.nil ?_
        refine AWp.cond rfl (fun c4 => ?_) (fun c4 => ?_)
        · try simp only [decide_eq_true_eq, decide_eq_false_iff_not, beq_iff_eq, bne_iff_ne, Bool.not_eq_true', Bool.not_eq_false', Bool.and_eq_true, Bool.or_eq_true, Bool.and_eq_false_iff, Bool.or_eq_false_iff, Int.not_lt, Int.not_le, gt_iff_lt, ge_iff_le, bne_eq_false_iff_eq, beq_eq_false_iff_ne, ne_eq, Int.toNat_natCast] at c4
          have hfl := filtGo_len l (nth p.bs (idxB p s).toNat).has i
          refine AWp.skip ?_
          refine AWp.seq ?_
          refine AWp.block ?_
          refine AWp.seq (AWp.region ?_)
          refine ARun.step rfl (step_moveV rfl (hn rfl) rfl rfl) ?_
          refine ARun.step rfl (step_field_b rfl (hn rfl) rfl ydFo37_1 rfl (by exact List.cons_ne_nil _ _)) ?_
          refine ARun.step rfl (step_load_b rfl (hn rfl) rfl ydSc35 rfl rfl) ?_
          refine ARun.step rfl (step_moveV rfl (hn rfl) rfl rfl) ?_
          refine ARun.step rfl (step_index_f rfl (hn rfl) rfl ydSl35 rfl rfl (by omega) (by omega)) ?_
          refine ARun.step rfl (step_field_f rfl (hn rfl) rfl ydFo74_1 rfl) ?_
          refine ARun.step rfl (step_load_f rfl (hn rfl) rfl ydSc29 rfl (hn rfl) rfl) ?_
          refine ARun.step rfl (step_moveV rfl (hn rfl) rfl rfl) ?_
          refine ARun.step rfl (step_index_fN rfl (hn rfl) rfl ydSl29 rfl rfl (by omega)) ?_
          refine ARun.step rfl (step_load_f rfl (hn rfl) rfl ydSc9 rfl (hn rfl) rfl) ?_
          refine ARun.step rfl (call_step1 rfl (hn rfl) rfl ydCo74 (.cons rfl (.one (.v _)) (.cons rfl (.one (.v _)) (.nil))) (l51Has _ _) rfl) ?_
          refine ARun.nil ?_
          refine AWp.cond rfl (fun c5 => ?_) (fun c5 => ?_)
          · try simp only [decide_eq_true_eq, decide_eq_false_iff_not, beq_iff_eq, bne_iff_ne, Bool.not_eq_true', Bool.not_eq_false', Bool.and_eq_true, Bool.or_eq_true, Bool.and_eq_false_iff, Bool.or_eq_false_iff, Int.not_lt, Int.not_le, gt_iff_lt, ge_iff_le, bne_eq_false_iff_eq, beq_eq_false_iff_ne, ne_eq, Int.toNat_natCast] at c5
            refine AWp.region ?_
            refine ARun.step rfl (step_moveV rfl (hn rfl) rfl rfl) ?_
            refine ARun.step rfl (step_field_b rfl (hn rfl) rfl ydFo37_1 rfl (by exact List.cons_ne_nil _ _)) ?_
            refine ARun.step rfl (step_load_b rfl (hn rfl) rfl ydSc35 rfl rfl) ?_
            refine ARun.step rfl (step_moveV rfl (hn rfl) rfl rfl) ?_
            refine ARun.step rfl (step_index_f rfl (hn rfl) rfl ydSl35 rfl rfl (by omega) (by omega)) ?_
            refine ARun.step rfl (step_field_f rfl (hn rfl) rfl ydFo74_1 rfl) ?_
            refine ARun.step rfl (step_load_f rfl (hn rfl) rfl ydSc29 rfl (hn rfl) rfl) ?_
            refine ARun.step rfl (step_moveV rfl (hn rfl) rfl rfl) ?_
            refine ARun.step rfl (step_index_fN rfl (hn rfl) rfl ydSl29 rfl rfl (by omega)) ?_
            refine ARun.step rfl (step_load_f rfl (hn rfl) rfl ydSc9 rfl (hn rfl) rfl) ?_
            refine ARun.step rfl (step_buildVT rfl (hn rfl) rfl ydSl29 (strs [_]) (.cons rfl rfl rfl rfl (.nil _)) rfl rfl rfl (rows1 rfl)) ?_
            refine ARun.step rfl (step_append_strs rfl (hn rfl) rfl ydSl29 rfl rfl rfl (.v _) (by simp only [List.length_cons, List.length_nil]; omega) (by simp only [List.length_cons, List.length_nil]; omega)) ?_
            refine ARun.step rfl (step_assignV rfl (hn rfl) rfl rfl) ?_
            refine ARun.nil ?_
            refine AWp.region ?_
            refine ARun.step rfl (step_moveV rfl (hn rfl) rfl rfl) ?_
            refine ARun.step rfl (step_addI rfl (hn rfl) rfl rfl rfl (by omega) (by omega)) ?_
            refine ARun.step rfl (step_assignV rfl (hn rfl) rfl rfl) ?_
            refine ARun.nil ?_
            refine ⟨i + 1, ?_, ?_, Le.forgetR rfl ⟨rfl, rfl, rfl, rfl, rfl, rfl, rfl, trivial⟩ ⟨rfl, rfl, rfl, trivial⟩ ⟨.refl _, .refl _, (by first | exact eqv_strs (filtGo_yes (by assumption)) | exact eqv_strs (filtGo_no (by assumption))), trivial⟩⟩
            · try dsimp only
              omega
            · try dsimp only
              omega
          · try simp only [decide_eq_true_eq, decide_eq_false_iff_not, beq_iff_eq, bne_iff_ne, Bool.not_eq_true', Bool.not_eq_false', Bool.and_eq_true, Bool.or_eq_true, Bool.and_eq_false_iff, Bool.or_eq_false_iff, Int.not_lt, Int.not_le, gt_iff_lt, ge_iff_le, bne_eq_false_iff_eq, beq_eq_false_iff_ne, ne_eq, Int.toNat_natCast] at c5
            refine AWp.skip ?_
            refine AWp.region ?_
            refine ARun.step rfl (step_moveV rfl (hn rfl) rfl rfl) ?_
            refine ARun.step rfl (step_addI rfl (hn rfl) rfl rfl rfl (by omega) (by omega)) ?_
            refine ARun.step rfl (step_assignV rfl (hn rfl) rfl rfl) ?_
            refine ARun.nil ?_
            refine ⟨i + 1, ?_, ?_, Le.forgetR rfl ⟨rfl, rfl, rfl, rfl, rfl, rfl, rfl, trivial⟩ ⟨rfl, rfl, rfl, trivial⟩ ⟨.refl _, .refl _, (by first | exact eqv_strs (filtGo_yes (by assumption)) | exact eqv_strs (filtGo_no (by assumption))), trivial⟩⟩
            · try dsimp only
              omega
            · try dsimp only
              omega
        · try simp only [decide_eq_true_eq, decide_eq_false_iff_not, beq_iff_eq, bne_iff_ne, Bool.not_eq_true', Bool.not_eq_false', Bool.and_eq_true, Bool.or_eq_true, Bool.and_eq_false_iff, Bool.or_eq_false_iff, Int.not_lt, Int.not_le, gt_iff_lt, ge_iff_le, bne_eq_false_iff_eq, beq_eq_false_iff_ne, ne_eq, Int.toNat_natCast] at c4
          refine AWp.exit ?_
          refine AWp.seq (AWp.drawM [⟨⟨[.s 8, .b 8], [.s 69], false⟩, none, [73]⟩, ⟨⟨[.s 69, .b 8], [.s 70], false⟩, none, [73]⟩, ⟨⟨[.s 9], [.s 71], false⟩, none, [73]⟩, ⟨⟨[.s 2], [.s 72], false⟩, none, [73]⟩, ⟨⟨[.s 72], [.s 73, .a 73 0], false⟩, some 73, []⟩, ⟨⟨[], [], true⟩, none, []⟩, ⟨⟨[], [], true⟩, none, []⟩, ⟨⟨[], [], true⟩, none, []⟩] ydMo rfl rfl (Le.forgetR (n := 84) (sl := [(2, _), (3, _), (6, _), (8, _), (9, _), (10, _), (11, _), (35, _), (36, _), (37, _), (38, _), (39, _), (40, _), (41, _), (42, _), (43, _)]) (bl := [(3, _), (6, _), (8, _)]) (al := [(17, 0, _), (17, 1, _), (34, 0, _)]) rfl ⟨rfl, rfl, rfl, rfl, rfl, rfl, rfl, rfl, rfl, rfl, rfl, rfl, rfl, rfl, rfl, rfl, trivial⟩ ⟨rfl, rfl, rfl, trivial⟩ ⟨.refl _, .refl _, .refl _, trivial⟩) rfl ?_)
          refine FRun.slot rfl (fun τ hN hr => step_field_b rfl (rdN hN (hn rfl)) rfl ydFo37_1 (by exact rdS hr rfl rfl) (by exact rdBne hr rfl (by exact List.cons_ne_nil _ _))) (by exact rfl) ?_
          refine FRun.slot rfl (fun τ hN hr => step_load_b rfl (rdN hN (hn rfl)) rfl ydSc35 (by exact rdS hr rfl rfl) (by exact rdBget hr rfl rfl)) (by exact rfl) ?_
          refine FRun.slot rfl (fun τ hN hr => step_moveV rfl (rdN hN (hn rfl)) rfl (by exact rdS hr rfl rfl)) (by exact rfl) ?_
          refine FRun.slot rfl (fun τ hN hr => step_moveV rfl (rdN hN (hn rfl)) rfl (by exact rdS hr rfl rfl)) (by exact rfl) ?_
          refine FRun.fresh rfl (fun τ hN hr => call_fresh rfl (rdN hN (hn rfl)) rfl ydCo93 (.cons (by exact rdS hr rfl rfl) (.one (.v _)) (.nil)) (namesC _ hl) rfl (by exact rdNoRefs hr rfl rfl)) (by exact rfl) ?_
          refine FRun.whole rfl (step_index_r rfl (hn rfl) rfl ydSl35 rfl rfl rfl (by omega) (by omega)) (by exact rfl) ?_
          refine FRun.whole rfl (step_field_e rfl (hn rfl) rfl ydFo74_2 rfl rfl) (by exact rfl) ?_
          refine FRun.whole rfl (step_store_e rfl rfl ydCs29 rfl rfl (by omega) (hn rfl) rfl rfl rfl) (by exact rfl) ?_
          refine FRun.nil ?_
          refine AWp.seq (AWp.region ?_)
          refine ARun.step rfl (step_field_b rfl (hn rfl) rfl ydFo37_1 rfl (by exact List.cons_ne_nil _ _)) ?_
          refine ARun.step rfl (step_load_b rfl (hn rfl) rfl ydSc35 rfl rfl) ?_
          refine ARun.step rfl (step_moveV rfl (hn rfl) rfl rfl) ?_
          refine ARun.step rfl (step_moveV rfl (hn rfl) rfl rfl) ?_
          refine ARun.step rfl (step_index_r rfl (hn rfl) rfl ydSl35 rfl rfl rfl (by omega) (by omega)) ?_
          refine ARun.step rfl (step_field_e rfl (hn rfl) rfl ydFo74_1 rfl rfl) ?_
          refine ARun.step rfl (step_store_e rfl rfl ydCs29 rfl rfl (by omega) (hn rfl) rfl rfl rfl) ?_
          refine ARun.nil ?_
          obtain rfl : i = (nth p.bs (idxB p s).toNat).has.length := by omega
          refine AWp.le (Le.retree 17 1 (t := btsO 74 (lessAt p (idxB p s).toNat l).bs) (less_eqv2 (by omega) _ _)) ?_
          refine AWp.seq (AWp.region ?_)
          refine ARun.step rfl (step_loadS_b rfl (hn rfl) rfl ydSt37 rfl rfl rfl (by decide)) ?_
          refine ARun.step rfl (call_stepC rfl (hn rfl) rfl ydCo90 (.cons rfl (.agg (.cons (.ref _ rfl) (.cons (.refz _ rfl (fz_bts _ _)) .nil))) (.nil)) (copyS (lessAt p (idxB p s).toNat l) (small_less hs hl (by omega))) rfl (CleanL.all (.cons (clean_strs _) (.cons (clean_btsO _ _) .nil)))) ?_
          refine ARun.step rfl (step_store_r rfl rfl ydCs37 rfl rfl rfl rfl rfl rfl rfl) ?_
          refine ARun.step rfl (step_assignV rfl (hn rfl) rfl rfl) ?_
          refine ARun.nil ?_
          refine AWp.ret ?_
          refine ⟨.inr rfl, 6, 2, _, _, _, ydSt37, by decide, rfl, rfl, rfl, rfl, (.cons rfl (.agg (.cons (.ref _ _ rfl) (.cons (.ref _ _ rfl) (.nil _)))) (.cons rfl (.one (.sc _ _ rfl)) (.nil _))), rfl, ?_⟩
          rw [show lessR p s l = (lessAt p (idxB p s).toNat l, 0) by simp [lessR, *]; try grind]
          rfl

end Go.Proofs.Ytegaemhpkaahbaa
