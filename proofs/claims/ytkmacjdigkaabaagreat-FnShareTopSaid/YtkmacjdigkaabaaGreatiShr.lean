/- Contracts of functions of the program, each met by its body; conditions stand in each statement. No condition. -/
import Derived.Test.YtkmacjdigkaabaaGreatiBase
import Derived.Test.YtkmacjdigkaabaaGreatHa
import Derived.Test.YtkmacjdigkaabaaGreatProg
import Derived.KernelRfl
set_option linter.unusedVariables false
set_option linter.unusedSimpArgs false
set_option linter.unnecessarySimpa false
set_option linter.unusedSimpArgs false
set_option maxRecDepth 100000
namespace Go.Proofs.YtkmacjdigkaabaaGreat
open Go Go.Mh

/-- books copied so far -/
def btTo (l : List Bt) (i : Nat) : T := .sl 105 3 i (fun j => (nth l j).cells)
theorem btTo_next (l : List Bt) (i : Nat) (f : Nat → List T) (row : List T) (hf : ∀ j, j < i → f j = (nth l j).cells) (hr : row = (nth l i).cells) : Eqv (.sl 105 3 (i + 1) (catF i f (fun _ => row))) (btTo l (i + 1)) := by
  refine .rows fun j hj => ?_
  simp only [catF]
  split
  · rename_i h; exact hf j h
  · rename_i h; rw [hr, show j = i by omega]

def emptyBk : Bk := ⟨[], []⟩
def filtGo (a l : List Str) : Nat → List Str
  | 0 => []
  | i + 1 => if hasB a (nth l i) = true then filtGo a l i ++ [nth l i] else filtGo a l i
theorem filtGo_yes {a l : List Str} {i : Nat} (h : hasB a (nth l i) = true) : filtGo a l i ++ [nth l i] = filtGo a l (i + 1) := by simp only [filtGo, if_pos h]
theorem filtGo_no {a l : List Str} {i : Nat} (h : hasB a (nth l i) = false) : filtGo a l i = filtGo a l (i + 1) := by simp only [filtGo, h]; rfl
theorem filtGo_len (a l : List Str) (i : Nat) : (filtGo a l i).length ≤ i := by
  induction i with
  | zero => exact Nat.le_refl _
  | succ i ih =>
    simp only [filtGo]; split
    · simp; omega
    · omega
def lessBs (bs : List Bt) (z : Nat) (l needs : List Str) : List Bt := bs.set z ⟨(nth bs z).name, l, needs⟩
def lessAt (p : Bk) (z : Nat) (l : List Str) : Bk := ⟨p.things, lessBs p.bs z (filtGo l (nth p.bs z).has (nth p.bs z).has.length) l⟩
def lessR (p : Bk) (s : Str) (l : List Str) : Bk × Int :=
  if bookOk p = true then
    if idxB p s < 0 then (p, 3)
    else if (risingB l && withinB l (nth p.bs (idxB p s).toNat).needs) = true then (lessAt p (idxB p s).toNat l, 0) else (p, 2)
  else (emptyBk, 1)
theorem nth_lessBs {bs : List Bt} {z : Nat} (hz : z < bs.length) (l needs : List Str) (j : Nat) : nth (lessBs bs z l needs) j = if j = z then ⟨(nth bs z).name, l, needs⟩ else nth bs j := by
  unfold lessBs nth
  rw [List.getD_eq_getElem?_getD, List.getElem?_set]
  by_cases h : z = j
  · subst h; rw [if_pos rfl, if_pos rfl, if_pos hz]; rfl
  · rw [if_neg h, if_neg (fun e => h e.symm), List.getD_eq_getElem?_getD]
theorem less_eqv1 {bs : List Bt} {z : Nat} (hz : z < bs.length) (l needs : List Str) : Eqv (.sl 105 3 bs.length (setRow (setRow (fun j => (nth bs j).cells) z 1 (strs l)) z 2 (strs needs))) (btsO 105 (lessBs bs z l needs)) := by
  unfold btsO
  rw [show (lessBs bs z l needs).length = bs.length by simp [lessBs]]
  refine .rows fun j hj => ?_
  rw [nth_lessBs hz]
  by_cases h : j = z
  · subst h; rw [if_pos rfl, Mh.setRow_self, Mh.setRow_self]; rfl
  · rw [if_neg h, Mh.setRow_other _ _ _ _ h, Mh.setRow_other _ _ _ _ h]
theorem less_eqv2 {bs : List Bt} {z : Nat} (hz : z < bs.length) (l needs : List Str) : Eqv (.sl 105 3 bs.length (setRow (setRow (fun j => (nth bs j).cells) z 2 (strs needs)) z 1 (strs l))) (btsO 105 (lessBs bs z l needs)) := by
  unfold btsO
  rw [show (lessBs bs z l needs).length = bs.length by simp [lessBs]]
  refine .rows fun j hj => ?_
  rw [nth_lessBs hz]
  by_cases h : j = z
  · subst h; rw [if_pos rfl, Mh.setRow_self, Mh.setRow_self]; rfl
  · rw [if_neg h, Mh.setRow_other _ _ _ _ h, Mh.setRow_other _ _ _ _ h]
theorem small_less {p : Bk} {z : Nat} {l : List Str} (hs : smallBk p) (hl : l.length ≤ 1048576) (hz : z < p.bs.length) : smallBk (lessAt p z l) := by
  refine ⟨hs.1, by show (lessBs _ _ _ _).length ≤ _; simp only [lessBs, List.length_set]; exact hs.2.1, fun i hi => ?_⟩
  have hi' : i < p.bs.length := by simpa [lessAt, lessBs] using hi
  show smallBt (nth (lessBs _ _ _ _) i)
  rw [nth_lessBs hz]
  split
  · have := filtGo_len l (nth p.bs z).has (nth p.bs z).has.length
    have h2 := hs.2.2 z hz
    exact ⟨by simp only; exact Nat.le_trans this h2.1, hl⟩
  · exact hs.2.2 i hi'

theorem yhUs9 : Tryz.prog.underlying 9 = some .string := by kernel_rfl
theorem yhCo145 : callOk Tryz.prog 145 = true := by kernel_rfl
theorem yhSl22 : sliceT Tryz.prog 22 = some ⟨9, 1, 16⟩ := by kernel_rfl
theorem yhSc9 : scalarB Tryz.prog 9 = true := by kernel_rfl
theorem yhCo87 : callOk Tryz.prog 87 = true := by kernel_rfl
theorem yhCo76 : callOk Tryz.prog 76 = true := by kernel_rfl
theorem yhMo : Tryz.prog.follows .mixedOrders = true := by kernel_rfl
theorem yhFo34_0 : fieldOff Tryz.prog 34 0 = some 0 := by kernel_rfl
theorem yhSc22 : scalarB Tryz.prog 22 = true := by kernel_rfl
theorem yhCo143 : callOk Tryz.prog 143 = true := by kernel_rfl
theorem yhFo34_1 : fieldOff Tryz.prog 34 1 = some 1 := by kernel_rfl
theorem yhSc32 : scalarB Tryz.prog 32 = true := by kernel_rfl
theorem yhSl32 : sliceT Tryz.prog 32 = some ⟨105, 3, 64⟩ := by kernel_rfl
theorem yhSt105 : structSz Tryz.prog 105 = some 3 := by kernel_rfl
theorem yhZs105 : zeroSz Tryz.prog 105 = some 3 := by kernel_rfl
theorem yhCs105 : cellsSz Tryz.prog 105 = some (2 + 1) := by kernel_rfl
theorem yhFo105_0 : fieldOff Tryz.prog 105 0 = some 0 := by kernel_rfl
theorem yhFo105_2 : fieldOff Tryz.prog 105 2 = some 2 := by kernel_rfl
theorem yhCo77 : callOk Tryz.prog 77 = true := by kernel_rfl
theorem yhFo105_1 : fieldOff Tryz.prog 105 1 = some 1 := by kernel_rfl
theorem yhCo144 : callOk Tryz.prog 144 = true := by kernel_rfl
theorem yhCo89 : callOk Tryz.prog 89 = true := by kernel_rfl
theorem yhCo67 : callOk Tryz.prog 67 = true := by kernel_rfl
theorem yhCo68 : callOk Tryz.prog 68 = true := by kernel_rfl
theorem yhCo69 : callOk Tryz.prog 69 = true := by kernel_rfl
theorem yhCo80 : callOk Tryz.prog 80 = true := by kernel_rfl
theorem yhCo86 : callOk Tryz.prog 86 = true := by kernel_rfl
theorem yhSt34 : structSz Tryz.prog 34 = some 2 := by kernel_rfl
theorem yhCo26 : callOk Tryz.prog 26 = true := by kernel_rfl
theorem yhCo91 : callOk Tryz.prog 91 = true := by kernel_rfl
theorem yhCo232 : callOk Tryz.prog 232 = true := by kernel_rfl
theorem yhCo81 : callOk Tryz.prog 81 = true := by kernel_rfl
theorem yhCo74 : callOk Tryz.prog 74 = true := by kernel_rfl
theorem yhCo204 : callOk Tryz.prog 204 = true := by kernel_rfl
theorem yhCo147 : callOk Tryz.prog 147 = true := by kernel_rfl
theorem yhCo90 : callOk Tryz.prog 90 = true := by kernel_rfl
theorem yhCo29 : callOk Tryz.prog 29 = true := by kernel_rfl
theorem yhZs34 : zeroSz Tryz.prog 34 = some 2 := by kernel_rfl
theorem yhCo71 : callOk Tryz.prog 71 = true := by kernel_rfl
theorem yhPl34 : structPl Tryz.prog 34 = some [(0, 1), (1, 1)] := by kernel_rfl
theorem yhZc34 : zeroCs Tryz.prog 34 = some [.nil, .nil] := by kernel_rfl
theorem yhCs34 : cellsSz Tryz.prog 34 = some (1 + 1) := by kernel_rfl
theorem yhPl105 : structPl Tryz.prog 105 = some [(0, 1), (1, 1), (2, 1)] := by kernel_rfl
theorem yhZc105 : zeroCs Tryz.prog 105 = some [.v (.str ⟨#[]⟩), .nil, .nil] := by kernel_rfl
theorem yhCs32 : cellsSz Tryz.prog 32 = some (0 + 1) := by kernel_rfl
theorem yhCo79 : callOk Tryz.prog 79 = true := by kernel_rfl
theorem yhCo66 : callOk Tryz.prog 66 = true := by kernel_rfl
theorem yhCo70 : callOk Tryz.prog 70 = true := by kernel_rfl
theorem yhCs22 : cellsSz Tryz.prog 22 = some (0 + 1) := by kernel_rfl
theorem yhCo75 : callOk Tryz.prog 75 = true := by kernel_rfl
theorem yhCo78 : callOk Tryz.prog 78 = true := by kernel_rfl
theorem l51In (x a b : Int)  : ASpec Tryz.prog 145 [.one (.int .i64 x), .one (.int .i64 a), .one (.int .i64 b)] (.one (.bool (inB x a b))) := by
  refine ASpec.body Tryz.func145 rfl [6] rfl 15 rfl rfl rfl ?_
  refine AWp.seq (AWp.region ?_)
  refine ARun.step rfl (step_assignV rfl (hn rfl) rfl rfl) ?_
  refine ARun.nil ?_
  refine AWp.seq (AWp.region ?_)
  refine ARun.step rfl (step_moveV rfl (hn rfl) rfl rfl) ?_
  refine ARun.step rfl (step_moveV rfl (hn rfl) rfl rfl) ?_
  refine ARun.step rfl (step_geq rfl (hn rfl) rfl rfl rfl) ?_
  refine ARun.step rfl (step_moveV rfl (hn rfl) rfl rfl) ?_
  refine guardS rfl rfl rfl rfl (hn rfl) (fun g1 g2 => step_moveV rfl (hn rfl) rfl rfl) ?_
  refine guardS rfl rfl rfl rfl (hn rfl) (fun g1 g2 => step_moveV rfl (hn rfl) rfl rfl) ?_
  refine guardS rfl rfl rfl rfl (hn rfl) (fun g1 g2 => step_leq rfl (hn rfl) rfl (ev_true rfl (by exact flag2 g1 g2)) (ev_true rfl (by exact flag2 g1 g2))) ?_
  refine ARun.step rfl (step_and rfl (hn rfl) rfl rfl rfl (fun h => (by exact flag1 h))) ?_
  refine ARun.step rfl (step_assignV rfl (hn rfl) rfl rfl) ?_
  refine ARun.nil ?_
  refine AWp.ret ?_
  refine RetIs.sc (.inr rfl) rfl rfl ?_
  refine congrArg T.bool ?_
  rfl
theorem l51NameOk (s : Str)  : ASpec Tryz.prog 76 [.one (.str s)] (.one (.bool (nameOk s))) := by
  refine ASpec.body Tryz.func76 rfl [2] rfl 37 rfl rfl rfl ?_
  refine AWp.strLe 0 rfl (fun hs => ?_)
  refine AWp.seq (AWp.region ?_)
  refine ARun.step rfl (step_assignV rfl (hn rfl) rfl rfl) ?_
  refine ARun.nil ?_
  refine AWp.seq ?_
  refine AWp.seq (AWp.region ?_)
  refine ARun.step rfl (step_moveV rfl (hn rfl) rfl rfl) ?_
  refine ARun.step rfl (step_len_str rfl (hn rfl) rfl yhUs9 rfl) ?_
  refine ARun.step rfl (call_step1 rfl (hn rfl) rfl yhCo145 (.cons rfl (.one (.v _)) (.cons rfl (.one (.v _)) (.cons rfl (.one (.v _)) (.nil)))) (l51In _ _ _) rfl) ?_
  refine ARun.step rfl (step_not rfl (hn rfl) rfl rfl) ?_
  refine ARun.nil ?_
  refine AWp.cond rfl (fun c1 => ?_) (fun c1 => ?_)
  · try simp only [nrm] at c1
    refine AWp.seq (AWp.region ?_)
    refine ARun.step rfl (step_assignV rfl (hn rfl) rfl rfl) ?_
    refine ARun.nil ?_
    refine AWp.ret ?_
    refine RetIs.sc (.inr rfl) rfl rfl ?_
    refine congrArg T.bool ?_
    simp [nameOk, c1]
  · try simp only [nrm] at c1
    refine AWp.skip ?_
    refine AWp.seq ?_
    refine AWp.seq (AWp.region ?_)
    refine ARun.step rfl (step_assignV rfl (hn rfl) rfl rfl) ?_
    refine ARun.nil ?_
    refine AWp.block ?_
    refine AWp.loopM (fun i : Nat => mkAS 37 [(0, ⟨true, .one (.v (.str s))⟩), (3, ⟨true, .one (.v (.int .i64 (i : Nat)))⟩)] [] []) (fun i => i ≤ s.size ∧ ∀ j, j < i → nmC (bAt s j) = true) (fun i => s.size - i) 0 ?_ (Le.forgetR rfl ⟨rfl, rfl, trivial⟩ trivial trivial) ?_
    · try dsimp only
      exact ⟨by omega, by omega⟩
    rintro i ⟨hi, hall⟩
    refine AWp.seq ?_
    refine AWp.seq (AWp.region ?_)
    refine ARun.step rfl (step_moveV rfl (hn rfl) rfl rfl) ?_
    refine ARun.step rfl (step_moveV rfl (hn rfl) rfl rfl) ?_
    refine ARun.step rfl (step_len_str rfl (hn rfl) rfl yhUs9 rfl) ?_
    refine ARun.step rfl (step_lss rfl (hn rfl) rfl rfl rfl) ?_
    refine ARun.nil ?_
    refine AWp.cond rfl (fun c2 => ?_) (fun c2 => ?_)
    · try simp only [nrm] at c2
      refine AWp.skip ?_
      refine AWp.seq ?_
      refine AWp.block ?_
      refine AWp.seq (AWp.region ?_)
      refine ARun.step rfl (step_moveV rfl (hn rfl) rfl rfl) ?_
      refine ARun.step rfl (step_moveV rfl (hn rfl) rfl rfl) ?_
      refine ARun.step rfl (step_index_str rfl (hn rfl) rfl yhUs9 rfl rfl (by omega) (by omega)) ?_
      refine ARun.step rfl (step_assignV rfl (hn rfl) rfl rfl) ?_
      refine ARun.nil ?_
      refine AWp.seq (AWp.region ?_)
      refine ARun.step rfl (step_moveV rfl (hn rfl) rfl rfl) ?_
      refine ARun.step rfl (step_geq rfl (hn rfl) rfl rfl rfl) ?_
      refine ARun.step rfl (step_moveV rfl (hn rfl) rfl rfl) ?_
      refine guardS rfl rfl rfl rfl (hn rfl) (fun g1 g2 => step_moveV rfl (hn rfl) rfl rfl) ?_
      refine guardS rfl rfl rfl rfl (hn rfl) (fun g1 g2 => step_leq rfl (hn rfl) rfl (ev_true rfl (by exact flag2 g1 g2)) rfl) ?_
      refine ARun.step rfl (step_and rfl (hn rfl) rfl rfl rfl (fun h => (by exact flag1 h))) ?_
      refine ARun.step rfl (step_moveV rfl (hn rfl) rfl rfl) ?_
      refine guardS rfl rfl rfl rfl (hn rfl) (fun g1 g2 => step_moveV rfl (hn rfl) rfl rfl) ?_
      refine guardS rfl rfl rfl rfl (hn rfl) (fun g1 g2 => step_geq rfl (hn rfl) rfl (ev_true rfl (by exact flag2 g1 g2)) rfl) ?_
      refine guardS rfl rfl rfl rfl (hn rfl) (fun g1 g2 => step_moveV rfl (hn rfl) rfl (ev_true rfl (by exact flag2 g1 g2))) ?_
      refine guardS rfl rfl rfl rfl (hn rfl) (fun g1 g2 => step_moveV rfl (hn rfl) rfl rfl) ?_
      refine guardS rfl rfl rfl rfl (hn rfl) (fun g1 g2 => step_leq rfl (hn rfl) rfl (ev_true rfl (by exact flag2 g1 g2)) rfl) ?_
      refine guardS rfl rfl rfl rfl (hn rfl) (fun g1 g2 => step_and rfl (hn rfl) rfl (ev_true rfl (by exact flag2 g1 g2)) rfl (fun h => (by exact flag2 (by exact flag2 g1 g2) h))) ?_
      refine ARun.step rfl (step_or rfl (hn rfl) rfl rfl rfl (fun h => (by exact flag1 h))) ?_
      refine ARun.step rfl (step_moveV rfl (hn rfl) rfl rfl) ?_
      refine guardS rfl rfl rfl rfl (hn rfl) (fun g1 g2 => step_moveV rfl (hn rfl) rfl rfl) ?_
      refine guardS rfl rfl rfl rfl (hn rfl) (fun g1 g2 => step_eql rfl (hn rfl) rfl (ev_true rfl (by exact flag2 g1 g2)) rfl) ?_
      refine ARun.step rfl (step_or rfl (hn rfl) rfl rfl rfl (fun h => (by exact flag1 h))) ?_
      refine ARun.step rfl (step_not rfl (hn rfl) rfl rfl) ?_
      refine ARun.nil ?_
      refine AWp.cond rfl (fun c3 => ?_) (fun c3 => ?_)
      · try simp only [nrm] at c3
        refine AWp.seq (AWp.region ?_)
        refine ARun.step rfl (step_assignV rfl (hn rfl) rfl rfl) ?_
        refine ARun.nil ?_
        refine AWp.ret ?_
        refine RetIs.sc (.inr rfl) rfl rfl ?_
        refine congrArg T.bool ?_
        rw [nameOk, nameB, all_not (i := i) (by omega) (by simp only [nmC, bAt] at *; grind), Bool.and_false]
      · try simp only [nrm] at c3
        refine AWp.skip ?_
        refine AWp.region ?_
        refine ARun.step rfl (step_moveV rfl (hn rfl) rfl rfl) ?_
        refine ARun.step rfl (step_addI rfl (hn rfl) rfl rfl rfl (by omega) (by omega)) ?_
        refine ARun.step rfl (step_assignV rfl (hn rfl) rfl rfl) ?_
        refine ARun.nil ?_
        refine ⟨i + 1, ?_, ?_, Le.forgetR rfl ⟨rfl, rfl, trivial⟩ trivial trivial⟩
        · try dsimp only
          exact ⟨by omega, upto hall (by simp only [nmC, bAt] at *; grind)⟩
        · try dsimp only
          omega
    · try simp only [nrm] at c2
      refine AWp.exit ?_
      refine AWp.seq (AWp.region ?_)
      refine ARun.step rfl (step_assignV rfl (hn rfl) rfl rfl) ?_
      refine ARun.nil ?_
      refine AWp.ret ?_
      refine RetIs.sc (.inr rfl) rfl rfl ?_
      refine congrArg T.bool ?_
      rw [nameOk, nameB, all_of (fun j hj => hall j (by omega)), Bool.and_true]; simpa using c1.symm
theorem l51Has (l : List Str) (s : Str)  : ASpec Tryz.prog 87 [.one (strs l), .one (.str s)] (.one (.bool (hasB l s))) := by
  refine ASpec.body Tryz.func87 rfl [4] rfl 18 rfl rfl rfl ?_
  refine AWp.lenLe 0 rfl (fun hl => ?_)
  refine AWp.seq (AWp.region ?_)
  refine ARun.step rfl (step_assignV rfl (hn rfl) rfl rfl) ?_
  refine ARun.nil ?_
  refine AWp.seq ?_
  refine AWp.seq (AWp.region ?_)
  refine ARun.step rfl (step_assignV rfl (hn rfl) rfl rfl) ?_
  refine ARun.nil ?_
  refine AWp.block ?_
  refine AWp.loopM (fun i : Nat => mkAS 18 [(0, ⟨true, .one (.v (strs l))⟩), (1, ⟨true, .one (.v (.str s))⟩), (5, ⟨true, .one (.v (.int .i64 (i : Nat)))⟩)] [] []) (fun i => i ≤ l.length ∧ ∀ j, j < i → strEq (nth l j) s = false) (fun i => l.length - i) 0 ?_ (Le.forgetR rfl ⟨rfl, rfl, rfl, trivial⟩ trivial trivial) ?_
  · try dsimp only
    exact ⟨by omega, by omega⟩
  rintro i ⟨hi, hall⟩
  refine AWp.seq ?_
  refine AWp.seq (AWp.region ?_)
  refine ARun.step rfl (step_moveV rfl (hn rfl) rfl rfl) ?_
  refine ARun.step rfl (step_moveV rfl (hn rfl) rfl rfl) ?_
  refine ARun.step rfl (step_len_f rfl (hn rfl) rfl yhSl22 rfl) ?_
  refine ARun.step rfl (step_lss rfl (hn rfl) rfl rfl rfl) ?_
  refine ARun.nil ?_
  refine AWp.cond rfl (fun c1 => ?_) (fun c1 => ?_)
  · try simp only [nrm] at c1
    refine AWp.skip ?_
    refine AWp.seq ?_
    refine AWp.block ?_
    refine AWp.seq (AWp.region ?_)
    refine ARun.step rfl (step_moveV rfl (hn rfl) rfl rfl) ?_
    refine ARun.step rfl (step_moveV rfl (hn rfl) rfl rfl) ?_
    refine ARun.step rfl (step_index_fN rfl (hn rfl) rfl yhSl22 rfl rfl (by omega)) ?_
    refine ARun.step rfl (step_load_f rfl (hn rfl) rfl yhSc9 rfl (hn rfl) rfl) ?_
    refine ARun.step rfl (step_moveV rfl (hn rfl) rfl rfl) ?_
    refine ARun.step rfl (step_seql rfl (hn rfl) rfl rfl rfl) ?_
    refine ARun.nil ?_
    refine AWp.cond rfl (fun c2 => ?_) (fun c2 => ?_)
    · try simp only [nrm] at c2
      refine AWp.seq (AWp.region ?_)
      refine ARun.step rfl (step_assignV rfl (hn rfl) rfl rfl) ?_
      refine ARun.nil ?_
      refine AWp.ret ?_
      refine RetIs.sc (.inr rfl) rfl rfl ?_
      refine congrArg T.bool ?_
      rw [hasB, any_of (i := i) (by omega) c2]
    · try simp only [nrm] at c2
      refine AWp.skip ?_
      refine AWp.region ?_
      refine ARun.step rfl (step_moveV rfl (hn rfl) rfl rfl) ?_
      refine ARun.step rfl (step_addI rfl (hn rfl) rfl rfl rfl (by omega) (by omega)) ?_
      refine ARun.step rfl (step_assignV rfl (hn rfl) rfl rfl) ?_
      refine ARun.nil ?_
      refine ⟨i + 1, ?_, ?_, Le.forgetR rfl ⟨rfl, rfl, rfl, trivial⟩ trivial trivial⟩
      · try dsimp only
        exact ⟨by omega, upto hall (by assumption)⟩
      · try dsimp only
        omega
  · try simp only [nrm] at c1
    refine AWp.exit ?_
    refine AWp.seq (AWp.region ?_)
    refine ARun.step rfl (step_assignV rfl (hn rfl) rfl rfl) ?_
    refine ARun.nil ?_
    refine AWp.ret ?_
    refine RetIs.sc (.inr rfl) rfl rfl ?_
    refine congrArg T.bool ?_
    rw [hasB, any_not (fun j hj => hall j (by omega))]
theorem l51Share (a b : List Str)  : ASpec Tryz.prog 144 [.one (strs a), .one (strs b)] (.one (.bool (meetsB a b))) := by
  refine ASpec.body Tryz.func144 rfl [4] rfl 18 rfl rfl rfl ?_
  refine AWp.lenLe 0 rfl (fun hl => ?_)
  refine AWp.seq (AWp.region ?_)
  refine ARun.step rfl (step_assignV rfl (hn rfl) rfl rfl) ?_
  refine ARun.nil ?_
  refine AWp.seq ?_
  refine AWp.seq (AWp.region ?_)
  refine ARun.step rfl (step_assignV rfl (hn rfl) rfl rfl) ?_
  refine ARun.nil ?_
  refine AWp.block ?_
  refine AWp.loopM (fun i : Nat => mkAS 18 [(0, ⟨true, .one (.v (strs a))⟩), (1, ⟨true, .one (.v (strs b))⟩), (5, ⟨true, .one (.v (.int .i64 (i : Nat)))⟩)] [] []) (fun i => i ≤ a.length ∧ ∀ j, j < i → hasB b (nth a j) = false) (fun i => a.length - i) 0 ?_ (Le.forgetR rfl ⟨rfl, rfl, rfl, trivial⟩ trivial trivial) ?_
  · try dsimp only
    exact ⟨by omega, by omega⟩
  rintro i ⟨hi, hall⟩
  refine AWp.seq ?_
  refine AWp.seq (AWp.region ?_)
  refine ARun.step rfl (step_moveV rfl (hn rfl) rfl rfl) ?_
  refine ARun.step rfl (step_moveV rfl (hn rfl) rfl rfl) ?_
  refine ARun.step rfl (step_len_f rfl (hn rfl) rfl yhSl22 rfl) ?_
  refine ARun.step rfl (step_lss rfl (hn rfl) rfl rfl rfl) ?_
  refine ARun.nil ?_
  refine AWp.cond rfl (fun c1 => ?_) (fun c1 => ?_)
  · try simp only [nrm] at c1
    refine AWp.skip ?_
    refine AWp.seq ?_
    refine AWp.block ?_
    refine AWp.seq (AWp.region ?_)
    refine ARun.step rfl (step_moveV rfl (hn rfl) rfl rfl) ?_
    refine ARun.step rfl (step_moveV rfl (hn rfl) rfl rfl) ?_
    refine ARun.step rfl (step_moveV rfl (hn rfl) rfl rfl) ?_
    refine ARun.step rfl (step_index_fN rfl (hn rfl) rfl yhSl22 rfl rfl (by omega)) ?_
    refine ARun.step rfl (step_load_f rfl (hn rfl) rfl yhSc9 rfl (hn rfl) rfl) ?_
    refine ARun.step rfl (call_step1 rfl (hn rfl) rfl yhCo87 (.cons rfl (.one (.v _)) (.cons rfl (.one (.v _)) (.nil))) (l51Has _ _) rfl) ?_
    refine ARun.nil ?_
    refine AWp.cond rfl (fun c2 => ?_) (fun c2 => ?_)
    · try simp only [nrm] at c2
      refine AWp.seq (AWp.region ?_)
      refine ARun.step rfl (step_assignV rfl (hn rfl) rfl rfl) ?_
      refine ARun.nil ?_
      refine AWp.ret ?_
      refine RetIs.sc (.inr rfl) rfl rfl ?_
      refine congrArg T.bool ?_
      rw [meetsB, any_of (i := i) (by omega) c2]
    · try simp only [nrm] at c2
      refine AWp.skip ?_
      refine AWp.region ?_
      refine ARun.step rfl (step_moveV rfl (hn rfl) rfl rfl) ?_
      refine ARun.step rfl (step_addI rfl (hn rfl) rfl rfl rfl (by omega) (by omega)) ?_
      refine ARun.step rfl (step_assignV rfl (hn rfl) rfl rfl) ?_
      refine ARun.nil ?_
      refine ⟨i + 1, ?_, ?_, Le.forgetR rfl ⟨rfl, rfl, rfl, trivial⟩ trivial trivial⟩
      · try dsimp only
        exact ⟨by omega, upto hall (by assumption)⟩
      · try dsimp only
        omega
  · try simp only [nrm] at c1
    refine AWp.exit ?_
    refine AWp.seq (AWp.region ?_)
    refine ARun.step rfl (step_assignV rfl (hn rfl) rfl rfl) ?_
    refine ARun.nil ?_
    refine AWp.ret ?_
    refine RetIs.sc (.inr rfl) rfl rfl ?_
    refine congrArg T.bool ?_
    rw [meetsB, any_not (fun j hj => hall j (by omega))]
theorem l51ThingsOk (l : List Str)  : ASpec Tryz.prog 143 [.one (strs l)] (.one (.bool (decide (l.length ≤ 8) && namesB l))) := by
  refine ASpec.body Tryz.func143 rfl [2] rfl 35 rfl rfl rfl ?_
  refine AWp.lenLe 0 rfl (fun hl => ?_)
  refine AWp.seq (AWp.region ?_)
  refine ARun.step rfl (step_assignV rfl (hn rfl) rfl rfl) ?_
  refine ARun.nil ?_
  refine AWp.seq ?_
  refine AWp.seq (AWp.region ?_)
  refine ARun.step rfl (step_moveV rfl (hn rfl) rfl rfl) ?_
  refine ARun.step rfl (step_len_f rfl (hn rfl) rfl yhSl22 rfl) ?_
  refine ARun.step rfl (step_gtr rfl (hn rfl) rfl rfl rfl) ?_
  refine ARun.nil ?_
  refine AWp.cond rfl (fun c1 => ?_) (fun c1 => ?_)
  · try simp only [nrm] at c1
    refine AWp.seq (AWp.region ?_)
    refine ARun.step rfl (step_assignV rfl (hn rfl) rfl rfl) ?_
    refine ARun.nil ?_
    refine AWp.ret ?_
    refine RetIs.sc (.inr rfl) rfl rfl ?_
    refine congrArg T.bool ?_
    rw [show decide (l.length ≤ 8) = false by simp; omega, Bool.false_and]
  · try simp only [nrm] at c1
    refine AWp.skip ?_
    refine AWp.seq ?_
    refine AWp.seq (AWp.region ?_)
    refine ARun.step rfl (step_assignV rfl (hn rfl) rfl rfl) ?_
    refine ARun.nil ?_
    refine AWp.block ?_
    refine AWp.loopM (fun i : Nat => mkAS 35 [(0, ⟨true, .one (.v (strs l))⟩), (3, ⟨true, .one (.v (.int .i64 (i : Nat)))⟩)] [] []) (fun i => i ≤ l.length ∧ ∀ j, j < i → (nameOk (nth l j) && risAt l j) = true) (fun i => l.length - i) 0 ?_ (Le.forgetR rfl ⟨rfl, rfl, trivial⟩ trivial trivial) ?_
    · try dsimp only
      exact ⟨by omega, by omega⟩
    rintro i ⟨hi, hall⟩
    refine AWp.seq ?_
    refine AWp.seq (AWp.region ?_)
    refine ARun.step rfl (step_moveV rfl (hn rfl) rfl rfl) ?_
    refine ARun.step rfl (step_moveV rfl (hn rfl) rfl rfl) ?_
    refine ARun.step rfl (step_len_f rfl (hn rfl) rfl yhSl22 rfl) ?_
    refine ARun.step rfl (step_lss rfl (hn rfl) rfl rfl rfl) ?_
    refine ARun.nil ?_
    refine AWp.cond rfl (fun c2 => ?_) (fun c2 => ?_)
    · try simp only [nrm] at c2
      refine AWp.skip ?_
      refine AWp.seq ?_
      refine AWp.block ?_
      refine AWp.seq (AWp.draw [⟨[.s 0], [.s 13], false⟩, ⟨[.s 3], [.s 14], false⟩, ⟨[.s 13, .s 14], [.s 15], false⟩, ⟨[.s 15], [.s 16], false⟩, ⟨[.s 16], [.s 17], false⟩, ⟨[.s 17], [.s 18], false⟩, ⟨[.s 18], [.s 19], false⟩, ⟨[.s 3, .s 19], [.s 20], false⟩, ⟨[.s 20, .s 19], [.s 21], false⟩, ⟨[.s 21, .s 19], [.s 22], false⟩, ⟨[.s 0, .s 22], [.s 23], false⟩, ⟨[.s 3, .s 22], [.s 24], false⟩, ⟨[.s 24, .s 22], [.s 25], false⟩, ⟨[.s 23, .s 25, .s 22], [.s 26], false⟩, ⟨[.s 26, .s 22], [.s 27], false⟩, ⟨[.s 0, .s 22], [.s 28], false⟩, ⟨[.s 3, .s 22], [.s 29], false⟩, ⟨[.s 28, .s 29, .s 22], [.s 30], false⟩, ⟨[.s 30, .s 22], [.s 31], false⟩, ⟨[.s 27, .s 31, .s 22], [.s 32], false⟩, ⟨[.s 22, .s 32, .s 19], [.s 33], false⟩, ⟨[.s 19, .s 33], [.s 34], false⟩] yhMo rfl ?_)
      refine DRun.step rfl (fun τ hN hr => step_moveV rfl (rdN hN (hn rfl)) rfl (by exact rdS hr rfl rfl)) ?_
      refine DRun.step rfl (fun τ hN hr => step_moveV rfl (rdN hN (hn rfl)) rfl (by exact rdS hr rfl rfl)) ?_
      refine DRun.step rfl (fun τ hN hr => step_index_fN rfl (rdN hN (hn rfl)) rfl yhSl22 (by exact rdS hr rfl rfl) (by exact rdS hr rfl rfl) (by omega)) ?_
      refine DRun.step rfl (fun τ hN hr => step_load_f rfl (rdN hN (hn rfl)) rfl yhSc9 (by exact rdS hr rfl rfl) (hn rfl) rfl) ?_
      refine DRun.step rfl (fun τ hN hr => call_step1 rfl (rdN hN (hn rfl)) rfl yhCo76 (.cons (by exact rdS hr rfl rfl) (.one (.v _)) (.nil)) (l51NameOk _) rfl) ?_
      refine DRun.step rfl (fun τ hN hr => step_not rfl (rdN hN (hn rfl)) rfl (by exact rdS hr rfl rfl)) ?_
      refine DRun.step rfl (fun τ hN hr => step_moveV rfl (rdN hN (hn rfl)) rfl (by exact rdS hr rfl rfl)) ?_
      refine guardD rfl rfl rfl rfl rfl (hn rfl) (fun τ hN hr g1 g2 => step_moveV rfl (rdN hN (hn rfl)) rfl (by exact rdS hr rfl rfl)) ?_
      refine guardD rfl rfl rfl rfl rfl (hn rfl) (fun τ hN hr g1 g2 => step_gtr rfl (rdN hN (hn rfl)) rfl (ev_true (by exact rdS hr rfl rfl) (by exact flag2 g1 g2)) rfl) ?_
      refine guardD rfl rfl rfl rfl rfl (hn rfl) (fun τ hN hr g1 g2 => step_moveV rfl (rdN hN (hn rfl)) rfl (ev_true (by exact rdS hr rfl rfl) (by exact flag2 g1 g2))) ?_
      refine guardD rfl rfl rfl rfl rfl (hn rfl) (fun τ hN hr g1 g2 => step_moveV rfl (rdN hN (hn rfl)) rfl (by exact rdS hr rfl rfl)) ?_
      refine guardD rfl rfl rfl rfl rfl (hn rfl) (fun τ hN hr g1 g2 => step_moveV rfl (rdN hN (hn rfl)) rfl (by exact rdS hr rfl rfl)) ?_
      refine guardD rfl rfl rfl rfl rfl (hn rfl) (fun τ hN hr g1 g2 => step_decN rfl (rdN hN (hn rfl)) rfl (ev_true (by exact rdS hr rfl rfl) (by exact flag2 g1 g2)) rfl (by have := of_decide_eq_true g2; omega) (by omega)) ?_
      refine guardD rfl rfl rfl rfl rfl (hn rfl) (fun τ hN hr g1 g2 => step_index_fN rfl (rdN hN (hn rfl)) rfl yhSl22 (ev_true (by exact rdS hr rfl rfl) (by exact flag2 g1 g2)) (ev_true (by exact rdS hr rfl rfl) (by exact flag2 g1 g2)) (by first | omega | (have := of_decide_eq_true g2; omega) | (have := of_decide_eq_false g2; omega) | (simp only [nrm] at g2; omega) | (simp only [nrm, Bool.true_and] at g1 g2; omega))) ?_
      refine guardD rfl rfl rfl rfl rfl (hn rfl) (fun τ hN hr g1 g2 => step_load_f rfl (rdN hN (hn rfl)) rfl yhSc9 (ev_true (by exact rdS hr rfl rfl) (by exact flag2 g1 g2)) (hn rfl) rfl) ?_
      refine guardD rfl rfl rfl rfl rfl (hn rfl) (fun τ hN hr g1 g2 => step_moveV rfl (rdN hN (hn rfl)) rfl (by exact rdS hr rfl rfl)) ?_
      refine guardD rfl rfl rfl rfl rfl (hn rfl) (fun τ hN hr g1 g2 => step_moveV rfl (rdN hN (hn rfl)) rfl (by exact rdS hr rfl rfl)) ?_
      refine guardD rfl rfl rfl rfl rfl (hn rfl) (fun τ hN hr g1 g2 => step_index_fN rfl (rdN hN (hn rfl)) rfl yhSl22 (ev_true (by exact rdS hr rfl rfl) (by exact flag2 g1 g2)) (ev_true (by exact rdS hr rfl rfl) (by exact flag2 g1 g2)) (by first | omega | (have := of_decide_eq_true g2; omega) | (have := of_decide_eq_false g2; omega) | (simp only [nrm] at g2; omega) | (simp only [nrm, Bool.true_and] at g1 g2; omega))) ?_
      refine guardD rfl rfl rfl rfl rfl (hn rfl) (fun τ hN hr g1 g2 => step_load_f rfl (rdN hN (hn rfl)) rfl yhSc9 (ev_true (by exact rdS hr rfl rfl) (by exact flag2 g1 g2)) (hn rfl) rfl) ?_
      refine guardD rfl rfl rfl rfl rfl (hn rfl) (fun τ hN hr g1 g2 => step_sgeq rfl (rdN hN (hn rfl)) rfl (ev_true (by exact rdS hr rfl rfl) (by exact flag2 g1 g2)) (ev_true (by exact rdS hr rfl rfl) (by exact flag2 g1 g2))) ?_
      refine guardD rfl rfl rfl rfl rfl (hn rfl) (fun τ hN hr g1 g2 => step_and rfl (rdN hN (hn rfl)) rfl (ev_true (by exact rdS hr rfl rfl) (by exact flag2 g1 g2)) (by exact rdS hr rfl rfl) (fun h => (by exact flag2 (by exact flag2 g1 g2) h))) ?_
      refine DRun.step rfl (fun τ hN hr => step_or rfl (rdN hN (hn rfl)) rfl (by exact rdS hr rfl rfl) (by exact rdS hr rfl rfl) (fun h => (by exact flag1 h))) ?_
      refine DRun.nil ?_
      refine AWp.cond rfl (fun c3 => ?_) (fun c3 => ?_)
      · try simp only [nrm] at c3
        refine AWp.seq (AWp.region ?_)
        refine ARun.step rfl (step_assignV rfl (hn rfl) rfl rfl) ?_
        refine ARun.nil ?_
        refine AWp.ret ?_
        refine RetIs.sc (.inr rfl) rfl rfl ?_
        refine congrArg T.bool ?_
        rw [namesB_eq, all_not (i := i) (by omega) (by simp only [risAt]; grind), Bool.and_false]
      · try simp only [nrm] at c3
        refine AWp.skip ?_
        refine AWp.region ?_
        refine ARun.step rfl (step_moveV rfl (hn rfl) rfl rfl) ?_
        refine ARun.step rfl (step_addI rfl (hn rfl) rfl rfl rfl (by omega) (by omega)) ?_
        refine ARun.step rfl (step_assignV rfl (hn rfl) rfl rfl) ?_
        refine ARun.nil ?_
        refine ⟨i + 1, ?_, ?_, Le.forgetR rfl ⟨rfl, rfl, trivial⟩ trivial trivial⟩
        · try dsimp only
          exact ⟨by omega, upto hall (by simp only [risAt]; grind)⟩
        · try dsimp only
          omega
    · try simp only [nrm] at c2
      refine AWp.exit ?_
      refine AWp.seq (AWp.region ?_)
      refine ARun.step rfl (step_assignV rfl (hn rfl) rfl rfl) ?_
      refine ARun.nil ?_
      refine AWp.ret ?_
      refine RetIs.sc (.inr rfl) rfl rfl ?_
      refine congrArg T.bool ?_
      rw [namesB_eq, all_of (fun j hj => hall j (by omega)), show decide (l.length ≤ 8) = true by simp; omega, Bool.and_true]
theorem l51NamesOk (a b : List Str)  : ASpec Tryz.prog 77 [.one (strs a), .one (strs b)] (.one (.bool (withinB a b && risingB a))) := by
  refine ASpec.body Tryz.func77 rfl [4] rfl 35 rfl rfl rfl ?_
  refine AWp.lenLe 0 rfl (fun hl => ?_)
  refine AWp.seq (AWp.region ?_)
  refine ARun.step rfl (step_assignV rfl (hn rfl) rfl rfl) ?_
  refine ARun.nil ?_
  refine AWp.seq ?_
  refine AWp.seq (AWp.region ?_)
  refine ARun.step rfl (step_assignV rfl (hn rfl) rfl rfl) ?_
  refine ARun.nil ?_
  refine AWp.block ?_
  refine AWp.loopM (fun i : Nat => mkAS 35 [(0, ⟨true, .one (.v (strs a))⟩), (1, ⟨true, .one (.v (strs b))⟩), (5, ⟨true, .one (.v (.int .i64 (i : Nat)))⟩)] [] []) (fun i => i ≤ a.length ∧ ∀ j, j < i → (hasB b (nth a j) && risAt a j) = true) (fun i => a.length - i) 0 ?_ (Le.forgetR rfl ⟨rfl, rfl, rfl, trivial⟩ trivial trivial) ?_
  · try dsimp only
    exact ⟨by omega, by omega⟩
  rintro i ⟨hi, hall⟩
  refine AWp.seq ?_
  refine AWp.seq (AWp.region ?_)
  refine ARun.step rfl (step_moveV rfl (hn rfl) rfl rfl) ?_
  refine ARun.step rfl (step_moveV rfl (hn rfl) rfl rfl) ?_
  refine ARun.step rfl (step_len_f rfl (hn rfl) rfl yhSl22 rfl) ?_
  refine ARun.step rfl (step_lss rfl (hn rfl) rfl rfl rfl) ?_
  refine ARun.nil ?_
  refine AWp.cond rfl (fun c1 => ?_) (fun c1 => ?_)
  · try simp only [nrm] at c1
    refine AWp.skip ?_
    refine AWp.seq ?_
    refine AWp.block ?_
    refine AWp.seq (AWp.draw [⟨[.s 1], [.s 12], false⟩, ⟨[.s 0], [.s 13], false⟩, ⟨[.s 5], [.s 14], false⟩, ⟨[.s 13, .s 14], [.s 15], false⟩, ⟨[.s 15], [.s 16], false⟩, ⟨[.s 16, .s 12], [.s 17], false⟩, ⟨[.s 17], [.s 18], false⟩, ⟨[.s 18], [.s 19], false⟩, ⟨[.s 5, .s 19], [.s 20], false⟩, ⟨[.s 20, .s 19], [.s 21], false⟩, ⟨[.s 21, .s 19], [.s 22], false⟩, ⟨[.s 0, .s 22], [.s 23], false⟩, ⟨[.s 5, .s 22], [.s 24], false⟩, ⟨[.s 24, .s 22], [.s 25], false⟩, ⟨[.s 23, .s 25, .s 22], [.s 26], false⟩, ⟨[.s 26, .s 22], [.s 27], false⟩, ⟨[.s 0, .s 22], [.s 28], false⟩, ⟨[.s 5, .s 22], [.s 29], false⟩, ⟨[.s 28, .s 29, .s 22], [.s 30], false⟩, ⟨[.s 30, .s 22], [.s 31], false⟩, ⟨[.s 27, .s 31, .s 22], [.s 32], false⟩, ⟨[.s 22, .s 32, .s 19], [.s 33], false⟩, ⟨[.s 19, .s 33], [.s 34], false⟩] yhMo rfl ?_)
    refine DRun.step rfl (fun τ hN hr => step_moveV rfl (rdN hN (hn rfl)) rfl (by exact rdS hr rfl rfl)) ?_
    refine DRun.step rfl (fun τ hN hr => step_moveV rfl (rdN hN (hn rfl)) rfl (by exact rdS hr rfl rfl)) ?_
    refine DRun.step rfl (fun τ hN hr => step_moveV rfl (rdN hN (hn rfl)) rfl (by exact rdS hr rfl rfl)) ?_
    refine DRun.step rfl (fun τ hN hr => step_index_fN rfl (rdN hN (hn rfl)) rfl yhSl22 (by exact rdS hr rfl rfl) (by exact rdS hr rfl rfl) (by omega)) ?_
    refine DRun.step rfl (fun τ hN hr => step_load_f rfl (rdN hN (hn rfl)) rfl yhSc9 (by exact rdS hr rfl rfl) (hn rfl) rfl) ?_
    refine DRun.step rfl (fun τ hN hr => call_step1 rfl (rdN hN (hn rfl)) rfl yhCo87 (.cons (by exact rdS hr rfl rfl) (.one (.v _)) (.cons (by exact rdS hr rfl rfl) (.one (.v _)) (.nil))) (l51Has _ _) rfl) ?_
    refine DRun.step rfl (fun τ hN hr => step_not rfl (rdN hN (hn rfl)) rfl (by exact rdS hr rfl rfl)) ?_
    refine DRun.step rfl (fun τ hN hr => step_moveV rfl (rdN hN (hn rfl)) rfl (by exact rdS hr rfl rfl)) ?_
    refine guardD rfl rfl rfl rfl rfl (hn rfl) (fun τ hN hr g1 g2 => step_moveV rfl (rdN hN (hn rfl)) rfl (by exact rdS hr rfl rfl)) ?_
    refine guardD rfl rfl rfl rfl rfl (hn rfl) (fun τ hN hr g1 g2 => step_gtr rfl (rdN hN (hn rfl)) rfl (ev_true (by exact rdS hr rfl rfl) (by exact flag2 g1 g2)) rfl) ?_
    refine guardD rfl rfl rfl rfl rfl (hn rfl) (fun τ hN hr g1 g2 => step_moveV rfl (rdN hN (hn rfl)) rfl (ev_true (by exact rdS hr rfl rfl) (by exact flag2 g1 g2))) ?_
    refine guardD rfl rfl rfl rfl rfl (hn rfl) (fun τ hN hr g1 g2 => step_moveV rfl (rdN hN (hn rfl)) rfl (by exact rdS hr rfl rfl)) ?_
    refine guardD rfl rfl rfl rfl rfl (hn rfl) (fun τ hN hr g1 g2 => step_moveV rfl (rdN hN (hn rfl)) rfl (by exact rdS hr rfl rfl)) ?_
    refine guardD rfl rfl rfl rfl rfl (hn rfl) (fun τ hN hr g1 g2 => step_decN rfl (rdN hN (hn rfl)) rfl (ev_true (by exact rdS hr rfl rfl) (by exact flag2 g1 g2)) rfl (by have := of_decide_eq_true g2; omega) (by omega)) ?_
    refine guardD rfl rfl rfl rfl rfl (hn rfl) (fun τ hN hr g1 g2 => step_index_fN rfl (rdN hN (hn rfl)) rfl yhSl22 (ev_true (by exact rdS hr rfl rfl) (by exact flag2 g1 g2)) (ev_true (by exact rdS hr rfl rfl) (by exact flag2 g1 g2)) (by first | omega | (have := of_decide_eq_true g2; omega) | (have := of_decide_eq_false g2; omega) | (simp only [nrm] at g2; omega) | (simp only [nrm, Bool.true_and] at g1 g2; omega))) ?_
    refine guardD rfl rfl rfl rfl rfl (hn rfl) (fun τ hN hr g1 g2 => step_load_f rfl (rdN hN (hn rfl)) rfl yhSc9 (ev_true (by exact rdS hr rfl rfl) (by exact flag2 g1 g2)) (hn rfl) rfl) ?_
    refine guardD rfl rfl rfl rfl rfl (hn rfl) (fun τ hN hr g1 g2 => step_moveV rfl (rdN hN (hn rfl)) rfl (by exact rdS hr rfl rfl)) ?_
    refine guardD rfl rfl rfl rfl rfl (hn rfl) (fun τ hN hr g1 g2 => step_moveV rfl (rdN hN (hn rfl)) rfl (by exact rdS hr rfl rfl)) ?_
    refine guardD rfl rfl rfl rfl rfl (hn rfl) (fun τ hN hr g1 g2 => step_index_fN rfl (rdN hN (hn rfl)) rfl yhSl22 (ev_true (by exact rdS hr rfl rfl) (by exact flag2 g1 g2)) (ev_true (by exact rdS hr rfl rfl) (by exact flag2 g1 g2)) (by first | omega | (have := of_decide_eq_true g2; omega) | (have := of_decide_eq_false g2; omega) | (simp only [nrm] at g2; omega) | (simp only [nrm, Bool.true_and] at g1 g2; omega))) ?_
    refine guardD rfl rfl rfl rfl rfl (hn rfl) (fun τ hN hr g1 g2 => step_load_f rfl (rdN hN (hn rfl)) rfl yhSc9 (ev_true (by exact rdS hr rfl rfl) (by exact flag2 g1 g2)) (hn rfl) rfl) ?_
    refine guardD rfl rfl rfl rfl rfl (hn rfl) (fun τ hN hr g1 g2 => step_sgeq rfl (rdN hN (hn rfl)) rfl (ev_true (by exact rdS hr rfl rfl) (by exact flag2 g1 g2)) (ev_true (by exact rdS hr rfl rfl) (by exact flag2 g1 g2))) ?_
    refine guardD rfl rfl rfl rfl rfl (hn rfl) (fun τ hN hr g1 g2 => step_and rfl (rdN hN (hn rfl)) rfl (ev_true (by exact rdS hr rfl rfl) (by exact flag2 g1 g2)) (by exact rdS hr rfl rfl) (fun h => (by exact flag2 (by exact flag2 g1 g2) h))) ?_
    refine DRun.step rfl (fun τ hN hr => step_or rfl (rdN hN (hn rfl)) rfl (by exact rdS hr rfl rfl) (by exact rdS hr rfl rfl) (fun h => (by exact flag1 h))) ?_
    refine DRun.nil ?_
    refine AWp.cond rfl (fun c2 => ?_) (fun c2 => ?_)
    · try simp only [nrm] at c2
      refine AWp.seq (AWp.region ?_)
      refine ARun.step rfl (step_assignV rfl (hn rfl) rfl rfl) ?_
      refine ARun.nil ?_
      refine AWp.ret ?_
      refine RetIs.sc (.inr rfl) rfl rfl ?_
      refine congrArg T.bool ?_
      rw [within_eq, all_not (i := i) (by omega) (by simp only [risAt]; grind)]
    · try simp only [nrm] at c2
      refine AWp.skip ?_
      refine AWp.region ?_
      refine ARun.step rfl (step_moveV rfl (hn rfl) rfl rfl) ?_
      refine ARun.step rfl (step_addI rfl (hn rfl) rfl rfl rfl (by omega) (by omega)) ?_
      refine ARun.step rfl (step_assignV rfl (hn rfl) rfl rfl) ?_
      refine ARun.nil ?_
      refine ⟨i + 1, ?_, ?_, Le.forgetR rfl ⟨rfl, rfl, rfl, trivial⟩ trivial trivial⟩
      · try dsimp only
        exact ⟨by omega, upto hall (by simp only [risAt]; grind)⟩
      · try dsimp only
        omega
  · try simp only [nrm] at c1
    refine AWp.exit ?_
    refine AWp.seq (AWp.region ?_)
    refine ARun.step rfl (step_assignV rfl (hn rfl) rfl rfl) ?_
    refine ARun.nil ?_
    refine AWp.ret ?_
    refine RetIs.sc (.inr rfl) rfl rfl ?_
    refine congrArg T.bool ?_
    rw [within_eq, all_of (fun j hj => hall j (by omega))]
theorem bookOkS (p : Bk)  : ASpec Tryz.prog 74 [.agg (p.cells 105)] (.one (.bool (bookOk p))) := by
  refine ASpec.body Tryz.func74 rfl [2] rfl 78 rfl rfl rfl ?_
  refine AWp.aggLe 0 rfl (fun hc => ?_)
  have hl : p.bs.length ≤ 9223372036854775807 := hc (.v (bts 105 p.bs)) (by exact List.mem_cons_of_mem _ List.mem_cons_self)
  have hl2 : p.things.length ≤ 9223372036854775807 := hc (.v (strs p.things)) (by exact List.mem_cons_self)
  clear hc
  refine AWp.seq (AWp.region ?_)
  refine ARun.step rfl (step_box_p (m := 1) rfl (hn rfl) rfl rfl rfl rfl rfl) ?_
  refine ARun.step rfl (step_assignV rfl (hn rfl) rfl rfl) ?_
  refine ARun.nil ?_
  refine AWp.seq ?_
  refine AWp.seq (AWp.region ?_)
  refine ARun.step rfl (step_field_b rfl (hn rfl) rfl yhFo34_0 rfl (by exact List.cons_ne_nil _ _)) ?_
  refine ARun.step rfl (step_load_b rfl (hn rfl) rfl yhSc22 rfl rfl) ?_
  refine ARun.step rfl (call_step1 rfl (hn rfl) rfl yhCo143 (.cons rfl (.one (.v _)) (.nil)) (l51ThingsOk _) rfl) ?_
  refine ARun.step rfl (step_not rfl (hn rfl) rfl rfl) ?_
  refine ARun.step rfl (step_moveV rfl (hn rfl) rfl rfl) ?_
  refine guardS rfl rfl rfl rfl (hn rfl) (fun g1 g2 => step_field_b rfl (hn rfl) rfl yhFo34_1 rfl (by exact List.cons_ne_nil _ _)) ?_
  refine guardS rfl rfl rfl rfl (hn rfl) (fun g1 g2 => step_load_b rfl (hn rfl) rfl yhSc32 (ev_true rfl (by exact flag2 g1 g2)) rfl) ?_
  refine guardS rfl rfl rfl rfl (hn rfl) (fun g1 g2 => step_len_f rfl (hn rfl) rfl yhSl32 (ev_true rfl (by exact flag2 g1 g2))) ?_
  refine guardS rfl rfl rfl rfl (hn rfl) (fun g1 g2 => step_gtr rfl (hn rfl) rfl (ev_true rfl (by exact flag2 g1 g2)) rfl) ?_
  refine ARun.step rfl (step_or rfl (hn rfl) rfl rfl rfl (fun h => (by exact flag1 h))) ?_
  refine ARun.nil ?_
  refine AWp.cond rfl (fun c1 => ?_) (fun c1 => ?_)
  · try simp only [nrm] at c1
    refine AWp.seq (AWp.region ?_)
    refine ARun.step rfl (step_assignV rfl (hn rfl) rfl rfl) ?_
    refine ARun.nil ?_
    refine AWp.ret ?_
    refine RetIs.sc (.inr rfl) rfl rfl ?_
    refine congrArg T.bool ?_
    simp only [bookOk]; grind
  · try simp only [nrm] at c1
    refine AWp.skip ?_
    refine AWp.seq ?_
    refine AWp.seq (AWp.region ?_)
    refine ARun.step rfl (step_assignV rfl (hn rfl) rfl rfl) ?_
    refine ARun.nil ?_
    refine AWp.block ?_
    refine AWp.loopM (fun i : Nat => mkAS 78 [(1, ⟨true, .one (.bptr 1 0)⟩), (3, ⟨true, .one (.v (.int .i64 (i : Nat)))⟩)] [(1, (p.cells 105).map C.v)] []) (fun i => i ≤ p.bs.length ∧ ∀ j, j < i → (btAt p j && btFree p j) = true) (fun i => p.bs.length - i) 0 ?_ (Le.forgetR rfl ⟨rfl, rfl, trivial⟩ ⟨rfl, trivial⟩ trivial) ?_
    · try dsimp only
      exact ⟨by omega, by omega⟩
    rintro i ⟨hi, hall⟩
    refine AWp.seq ?_
    refine AWp.seq (AWp.region ?_)
    refine ARun.step rfl (step_moveV rfl (hn rfl) rfl rfl) ?_
    refine ARun.step rfl (step_field_b rfl (hn rfl) rfl yhFo34_1 rfl (by exact List.cons_ne_nil _ _)) ?_
    refine ARun.step rfl (step_load_b rfl (hn rfl) rfl yhSc32 rfl rfl) ?_
    refine ARun.step rfl (step_len_f rfl (hn rfl) rfl yhSl32 rfl) ?_
    refine ARun.step rfl (step_lss rfl (hn rfl) rfl rfl rfl) ?_
    refine ARun.nil ?_
    refine AWp.cond rfl (fun c2 => ?_) (fun c2 => ?_)
    · try simp only [nrm] at c2
      refine AWp.skip ?_
      refine AWp.seq ?_
      refine AWp.block ?_
      refine AWp.seq (AWp.region ?_)
      refine ARun.step rfl (step_field_b rfl (hn rfl) rfl yhFo34_1 rfl (by exact List.cons_ne_nil _ _)) ?_
      refine ARun.step rfl (step_load_b rfl (hn rfl) rfl yhSc32 rfl rfl) ?_
      refine ARun.step rfl (step_moveV rfl (hn rfl) rfl rfl) ?_
      refine ARun.step rfl (step_index_fN rfl (hn rfl) rfl yhSl32 rfl rfl (by omega)) ?_
      refine ARun.step rfl (step_loadS_f rfl (hn rfl) rfl yhSt105 rfl (hn rfl) rfl rfl) ?_
      refine ARun.step rfl (step_alloc_p rfl (hn rfl) rfl yhZs105) ?_
      refine ARun.step rfl (step_store_p rfl rfl yhCs105 rfl rfl rfl rfl rfl rfl rfl) ?_
      refine ARun.nil ?_
      refine AWp.seq ?_
      refine AWp.seq (AWp.draw [⟨[.s 4, .b 4], [.s 28], false⟩, ⟨[.s 28, .b 4], [.s 29], false⟩, ⟨[.s 29], [.s 30], false⟩, ⟨[.s 30], [.s 31], false⟩, ⟨[.s 31], [.s 32], false⟩, ⟨[.s 3, .s 32], [.s 33], false⟩, ⟨[.s 33, .s 32], [.s 34], false⟩, ⟨[.s 34, .s 32], [.s 35], false⟩, ⟨[.s 1, .b 1, .s 35], [.s 36], false⟩, ⟨[.s 36, .b 1, .s 35], [.s 37], false⟩, ⟨[.s 3, .s 35], [.s 38], false⟩, ⟨[.s 38, .s 35], [.s 39], false⟩, ⟨[.s 37, .s 39, .s 35], [.s 40], false⟩, ⟨[.s 40, .s 35], [.s 41], false⟩, ⟨[.s 41, .s 35], [.s 42], false⟩, ⟨[.s 4, .b 4, .s 35], [.s 43], false⟩, ⟨[.s 43, .b 4, .s 35], [.s 44], false⟩, ⟨[.s 42, .s 44, .s 35], [.s 45], false⟩, ⟨[.s 35, .s 45, .s 32], [.s 46], false⟩, ⟨[.s 32, .s 46], [.s 47], false⟩, ⟨[.s 47], [.s 48], false⟩, ⟨[.s 4, .b 4, .s 48], [.s 49], false⟩, ⟨[.s 49, .b 4, .s 48], [.s 50], false⟩, ⟨[.s 1, .b 1, .s 48], [.s 51], false⟩, ⟨[.s 51, .b 1, .s 48], [.s 52], false⟩, ⟨[.s 52, .s 50, .s 48], [.s 53], false⟩, ⟨[.s 53, .s 48], [.s 54], false⟩, ⟨[.s 48, .s 54], [.s 55], false⟩, ⟨[.s 55], [.s 56], false⟩, ⟨[.s 4, .b 4, .s 56], [.s 57], false⟩, ⟨[.s 57, .b 4, .s 56], [.s 58], false⟩, ⟨[.s 4, .b 4, .s 56], [.s 59], false⟩, ⟨[.s 59, .b 4, .s 56], [.s 60], false⟩, ⟨[.s 60, .s 58, .s 56], [.s 61], false⟩, ⟨[.s 61, .s 56], [.s 62], false⟩, ⟨[.s 56, .s 62], [.s 63], false⟩] yhMo (by kernel_rfl) ?_)
      refine DRun.step rfl (fun τ hN hr => step_field_b rfl (rdN hN (hn rfl)) rfl yhFo105_0 (by exact rdS hr rfl rfl) (by exact rdBne hr rfl (by exact List.cons_ne_nil _ _))) ?_
      refine DRun.step rfl (fun τ hN hr => step_load_b rfl (rdN hN (hn rfl)) rfl yhSc9 (by exact rdS hr rfl rfl) (by exact rdBget hr rfl rfl)) ?_
      refine DRun.step rfl (fun τ hN hr => call_step1 rfl (rdN hN (hn rfl)) rfl yhCo76 (.cons (by exact rdS hr rfl rfl) (.one (.v _)) (.nil)) (l51NameOk _) rfl) ?_
      refine DRun.step rfl (fun τ hN hr => step_not rfl (rdN hN (hn rfl)) rfl (by exact rdS hr rfl rfl)) ?_
      refine DRun.step rfl (fun τ hN hr => step_moveV rfl (rdN hN (hn rfl)) rfl (by exact rdS hr rfl rfl)) ?_
      refine guardD rfl rfl rfl rfl rfl (hn rfl) (fun τ hN hr g1 g2 => step_moveV rfl (rdN hN (hn rfl)) rfl (by exact rdS hr rfl rfl)) ?_
      refine guardD rfl rfl rfl rfl rfl (hn rfl) (fun τ hN hr g1 g2 => step_gtr rfl (rdN hN (hn rfl)) rfl (ev_true (by exact rdS hr rfl rfl) (by exact flag2 g1 g2)) rfl) ?_
      refine guardD rfl rfl rfl rfl rfl (hn rfl) (fun τ hN hr g1 g2 => step_moveV rfl (rdN hN (hn rfl)) rfl (ev_true (by exact rdS hr rfl rfl) (by exact flag2 g1 g2))) ?_
      refine guardD rfl rfl rfl rfl rfl (hn rfl) (fun τ hN hr g1 g2 => step_field_b rfl (rdN hN (hn rfl)) rfl yhFo34_1 (by exact rdS hr rfl rfl) (by exact rdBne hr rfl (by exact List.cons_ne_nil _ _))) ?_
      refine guardD rfl rfl rfl rfl rfl (hn rfl) (fun τ hN hr g1 g2 => step_load_b rfl (rdN hN (hn rfl)) rfl yhSc32 (ev_true (by exact rdS hr rfl rfl) (by exact flag2 g1 g2)) (by exact rdBget hr rfl rfl)) ?_
      refine guardD rfl rfl rfl rfl rfl (hn rfl) (fun τ hN hr g1 g2 => step_moveV rfl (rdN hN (hn rfl)) rfl (by exact rdS hr rfl rfl)) ?_
      refine guardD rfl rfl rfl rfl rfl (hn rfl) (fun τ hN hr g1 g2 => step_decN rfl (rdN hN (hn rfl)) rfl (ev_true (by exact rdS hr rfl rfl) (by exact flag2 g1 g2)) rfl (by have := of_decide_eq_true g2; omega) (by omega)) ?_
      refine guardD rfl rfl rfl rfl rfl (hn rfl) (fun τ hN hr g1 g2 => step_index_fN rfl (rdN hN (hn rfl)) rfl yhSl32 (ev_true (by exact rdS hr rfl rfl) (by exact flag2 g1 g2)) (ev_true (by exact rdS hr rfl rfl) (by exact flag2 g1 g2)) (by first | omega | (have := of_decide_eq_true g2; omega) | (have := of_decide_eq_false g2; omega) | (simp only [nrm] at g2; omega) | (simp only [nrm, Bool.true_and] at g1 g2; omega))) ?_
      refine guardD rfl rfl rfl rfl rfl (hn rfl) (fun τ hN hr g1 g2 => step_field_f rfl (rdN hN (hn rfl)) rfl yhFo105_0 (ev_true (by exact rdS hr rfl rfl) (by exact flag2 g1 g2))) ?_
      refine guardD rfl rfl rfl rfl rfl (hn rfl) (fun τ hN hr g1 g2 => step_load_f rfl (rdN hN (hn rfl)) rfl yhSc9 (ev_true (by exact rdS hr rfl rfl) (by exact flag2 g1 g2)) (hn rfl) rfl) ?_
      refine guardD rfl rfl rfl rfl rfl (hn rfl) (fun τ hN hr g1 g2 => step_field_b rfl (rdN hN (hn rfl)) rfl yhFo105_0 (by exact rdS hr rfl rfl) (by exact rdBne hr rfl (by exact List.cons_ne_nil _ _))) ?_
      refine guardD rfl rfl rfl rfl rfl (hn rfl) (fun τ hN hr g1 g2 => step_load_b rfl (rdN hN (hn rfl)) rfl yhSc9 (ev_true (by exact rdS hr rfl rfl) (by exact flag2 g1 g2)) (by exact rdBget hr rfl rfl)) ?_
      refine guardD rfl rfl rfl rfl rfl (hn rfl) (fun τ hN hr g1 g2 => step_sgeq rfl (rdN hN (hn rfl)) rfl (ev_true (by exact rdS hr rfl rfl) (by exact flag2 g1 g2)) (ev_true (by exact rdS hr rfl rfl) (by exact flag2 g1 g2))) ?_
      refine guardD rfl rfl rfl rfl rfl (hn rfl) (fun τ hN hr g1 g2 => step_and rfl (rdN hN (hn rfl)) rfl (ev_true (by exact rdS hr rfl rfl) (by exact flag2 g1 g2)) (by exact rdS hr rfl rfl) (fun h => (by exact flag2 (by exact flag2 g1 g2) h))) ?_
      refine DRun.step rfl (fun τ hN hr => step_or rfl (rdN hN (hn rfl)) rfl (by exact rdS hr rfl rfl) (by exact rdS hr rfl rfl) (fun h => (by exact flag1 h))) ?_
      refine DRun.step rfl (fun τ hN hr => step_moveV rfl (rdN hN (hn rfl)) rfl (by exact rdS hr rfl rfl)) ?_
      refine guardD rfl rfl rfl rfl rfl (hn rfl) (fun τ hN hr g1 g2 => step_field_b rfl (rdN hN (hn rfl)) rfl yhFo105_2 (by exact rdS hr rfl rfl) (by exact rdBne hr rfl (by exact List.cons_ne_nil _ _))) ?_
      refine guardD rfl rfl rfl rfl rfl (hn rfl) (fun τ hN hr g1 g2 => step_load_b rfl (rdN hN (hn rfl)) rfl yhSc22 (ev_true (by exact rdS hr rfl rfl) (by exact flag2 g1 g2)) (by exact rdBget hr rfl rfl)) ?_
      refine guardD rfl rfl rfl rfl rfl (hn rfl) (fun τ hN hr g1 g2 => step_field_b rfl (rdN hN (hn rfl)) rfl yhFo34_0 (by exact rdS hr rfl rfl) (by exact rdBne hr rfl (by exact List.cons_ne_nil _ _))) ?_
      refine guardD rfl rfl rfl rfl rfl (hn rfl) (fun τ hN hr g1 g2 => step_load_b rfl (rdN hN (hn rfl)) rfl yhSc22 (ev_true (by exact rdS hr rfl rfl) (by exact flag2 g1 g2)) (by exact rdBget hr rfl rfl)) ?_
      refine guardD rfl rfl rfl rfl rfl (hn rfl) (fun τ hN hr g1 g2 => call_step1 rfl (rdN hN (hn rfl)) rfl yhCo77 (.cons (ev_true (by exact rdS hr rfl rfl) (by exact flag2 g1 g2)) (.one (.v _)) (.cons (ev_true (by exact rdS hr rfl rfl) (by exact flag2 g1 g2)) (.one (.v _)) (.nil))) (l51NamesOk _ _) rfl) ?_
      refine guardD rfl rfl rfl rfl rfl (hn rfl) (fun τ hN hr g1 g2 => step_not rfl (rdN hN (hn rfl)) rfl (ev_true (by exact rdS hr rfl rfl) (by exact flag2 g1 g2))) ?_
      refine DRun.step rfl (fun τ hN hr => step_or rfl (rdN hN (hn rfl)) rfl (by exact rdS hr rfl rfl) (by exact rdS hr rfl rfl) (fun h => (by exact flag1 h))) ?_
      refine DRun.step rfl (fun τ hN hr => step_moveV rfl (rdN hN (hn rfl)) rfl (by exact rdS hr rfl rfl)) ?_
      refine guardD rfl rfl rfl rfl rfl (hn rfl) (fun τ hN hr g1 g2 => step_field_b rfl (rdN hN (hn rfl)) rfl yhFo105_1 (by exact rdS hr rfl rfl) (by exact rdBne hr rfl (by exact List.cons_ne_nil _ _))) ?_
      refine guardD rfl rfl rfl rfl rfl (hn rfl) (fun τ hN hr g1 g2 => step_load_b rfl (rdN hN (hn rfl)) rfl yhSc22 (ev_true (by exact rdS hr rfl rfl) (by exact flag2 g1 g2)) (by exact rdBget hr rfl rfl)) ?_
      refine guardD rfl rfl rfl rfl rfl (hn rfl) (fun τ hN hr g1 g2 => step_field_b rfl (rdN hN (hn rfl)) rfl yhFo105_2 (by exact rdS hr rfl rfl) (by exact rdBne hr rfl (by exact List.cons_ne_nil _ _))) ?_
      refine guardD rfl rfl rfl rfl rfl (hn rfl) (fun τ hN hr g1 g2 => step_load_b rfl (rdN hN (hn rfl)) rfl yhSc22 (ev_true (by exact rdS hr rfl rfl) (by exact flag2 g1 g2)) (by exact rdBget hr rfl rfl)) ?_
      refine guardD rfl rfl rfl rfl rfl (hn rfl) (fun τ hN hr g1 g2 => call_step1 rfl (rdN hN (hn rfl)) rfl yhCo77 (.cons (ev_true (by exact rdS hr rfl rfl) (by exact flag2 g1 g2)) (.one (.v _)) (.cons (ev_true (by exact rdS hr rfl rfl) (by exact flag2 g1 g2)) (.one (.v _)) (.nil))) (l51NamesOk _ _) rfl) ?_
      refine guardD rfl rfl rfl rfl rfl (hn rfl) (fun τ hN hr g1 g2 => step_not rfl (rdN hN (hn rfl)) rfl (ev_true (by exact rdS hr rfl rfl) (by exact flag2 g1 g2))) ?_
      refine DRun.step rfl (fun τ hN hr => step_or rfl (rdN hN (hn rfl)) rfl (by exact rdS hr rfl rfl) (by exact rdS hr rfl rfl) (fun h => (by exact flag1 h))) ?_
      refine DRun.nil ?_
      refine AWp.cond rfl (fun c3 => ?_) (fun c3 => ?_)
      · try simp only [nrm] at c3
        refine AWp.seq (AWp.region ?_)
        refine ARun.step rfl (step_assignV rfl (hn rfl) rfl rfl) ?_
        refine ARun.nil ?_
        refine AWp.ret ?_
        refine RetIs.sc (.inr rfl) rfl rfl ?_
        refine congrArg T.bool ?_
        exact (bookOk_not (i := i) (by omega) (by simp only [btAt]; grind)).symm
      · try simp only [nrm] at c3
        refine AWp.skip ?_
        refine AWp.seq (AWp.region ?_)
        refine ARun.step rfl (step_assignV rfl (hn rfl) rfl rfl) ?_
        refine ARun.nil ?_
        refine AWp.block ?_
        refine AWp.loopM (fun j : Nat => mkAS 78 [(1, ⟨true, .one (.bptr 1 0)⟩), (3, ⟨true, .one (.v (.int .i64 (i : Nat)))⟩), (4, ⟨true, .one (.bptr 4 0)⟩), (5, ⟨true, .one (.v (.int .i64 (j : Nat)))⟩)] [(1, (p.cells 105).map C.v), (4, (nth p.bs i).cells.map C.v)] []) (fun j => j ≤ i ∧ ∀ q, q < j → (!meetsB (nth p.bs i).has (nth p.bs q).has) = true) (fun j => i - j) 0 ?_ (Le.forgetR rfl ⟨rfl, rfl, rfl, rfl, trivial⟩ ⟨rfl, rfl, trivial⟩ trivial) ?_
        · try dsimp only
          exact ⟨by omega, by omega⟩
        rintro j ⟨hj, hfree⟩
        refine AWp.seq ?_
        refine AWp.seq (AWp.region ?_)
        refine ARun.step rfl (step_moveV rfl (hn rfl) rfl rfl) ?_
        refine ARun.step rfl (step_moveV rfl (hn rfl) rfl rfl) ?_
        refine ARun.step rfl (step_lss rfl (hn rfl) rfl rfl rfl) ?_
        refine ARun.nil ?_
        refine AWp.cond rfl (fun c4 => ?_) (fun c4 => ?_)
        · try simp only [nrm] at c4
          refine AWp.skip ?_
          refine AWp.seq ?_
          refine AWp.block ?_
          refine AWp.seq (AWp.draw [⟨[.s 4, .b 4], [.s 69], false⟩, ⟨[.s 69, .b 4], [.s 70], false⟩, ⟨[.s 1, .b 1], [.s 71], false⟩, ⟨[.s 71, .b 1], [.s 72], false⟩, ⟨[.s 5], [.s 73], false⟩, ⟨[.s 72, .s 73], [.s 74], false⟩, ⟨[.s 74], [.s 75], false⟩, ⟨[.s 75], [.s 76], false⟩, ⟨[.s 76, .s 70], [.s 77], false⟩] yhMo rfl ?_)
          refine DRun.step rfl (fun τ hN hr => step_field_b rfl (rdN hN (hn rfl)) rfl yhFo105_1 (by exact rdS hr rfl rfl) (by exact rdBne hr rfl (by exact List.cons_ne_nil _ _))) ?_
          refine DRun.step rfl (fun τ hN hr => step_load_b rfl (rdN hN (hn rfl)) rfl yhSc22 (by exact rdS hr rfl rfl) (by exact rdBget hr rfl rfl)) ?_
          refine DRun.step rfl (fun τ hN hr => step_field_b rfl (rdN hN (hn rfl)) rfl yhFo34_1 (by exact rdS hr rfl rfl) (by exact rdBne hr rfl (by exact List.cons_ne_nil _ _))) ?_
          refine DRun.step rfl (fun τ hN hr => step_load_b rfl (rdN hN (hn rfl)) rfl yhSc32 (by exact rdS hr rfl rfl) (by exact rdBget hr rfl rfl)) ?_
          refine DRun.step rfl (fun τ hN hr => step_moveV rfl (rdN hN (hn rfl)) rfl (by exact rdS hr rfl rfl)) ?_
          refine DRun.step rfl (fun τ hN hr => step_index_fN rfl (rdN hN (hn rfl)) rfl yhSl32 (by exact rdS hr rfl rfl) (by exact rdS hr rfl rfl) (by omega)) ?_
          refine DRun.step rfl (fun τ hN hr => step_field_f rfl (rdN hN (hn rfl)) rfl yhFo105_1 (by exact rdS hr rfl rfl)) ?_
          refine DRun.step rfl (fun τ hN hr => step_load_f rfl (rdN hN (hn rfl)) rfl yhSc22 (by exact rdS hr rfl rfl) (hn rfl) rfl) ?_
          refine DRun.step rfl (fun τ hN hr => call_step1 rfl (rdN hN (hn rfl)) rfl yhCo144 (.cons (by exact rdS hr rfl rfl) (.one (.v _)) (.cons (by exact rdS hr rfl rfl) (.one (.v _)) (.nil))) (l51Share _ _) rfl) ?_
          refine DRun.nil ?_
          refine AWp.cond rfl (fun c5 => ?_) (fun c5 => ?_)
          · try simp only [nrm] at c5
            refine AWp.seq (AWp.region ?_)
            refine ARun.step rfl (step_assignV rfl (hn rfl) rfl rfl) ?_
            refine ARun.nil ?_
            refine AWp.ret ?_
            refine RetIs.sc (.inr rfl) rfl rfl ?_
            refine congrArg T.bool ?_
            exact (bookOk_not (i := i) (by omega) (by rw [btFree, all_not (i := j) (by omega) (by grind), Bool.and_false])).symm
          · try simp only [nrm] at c5
            refine AWp.skip ?_
            refine AWp.region ?_
            refine ARun.step rfl (step_moveV rfl (hn rfl) rfl rfl) ?_
            refine ARun.step rfl (step_addI rfl (hn rfl) rfl rfl rfl (by omega) (by omega)) ?_
            refine ARun.step rfl (step_assignV rfl (hn rfl) rfl rfl) ?_
            refine ARun.nil ?_
            refine ⟨j + 1, ?_, ?_, Le.forgetR rfl ⟨rfl, rfl, rfl, rfl, trivial⟩ ⟨rfl, rfl, trivial⟩ trivial⟩
            · try dsimp only
              exact ⟨by omega, upto hfree (by grind)⟩
            · try dsimp only
              omega
        · try simp only [nrm] at c4
          refine AWp.exit ?_
          refine AWp.region ?_
          refine ARun.step rfl (step_moveV rfl (hn rfl) rfl rfl) ?_
          refine ARun.step rfl (step_addI rfl (hn rfl) rfl rfl rfl (by omega) (by omega)) ?_
          refine ARun.step rfl (step_assignV rfl (hn rfl) rfl rfl) ?_
          refine ARun.nil ?_
          refine ⟨i + 1, ?_, ?_, Le.forgetR rfl ⟨rfl, rfl, trivial⟩ ⟨rfl, trivial⟩ trivial⟩
          · try dsimp only
            exact ⟨by omega, upto hall (by have hf : btFree p i = true := all_of (fun q hq => hfree q (by omega)); simp only [btAt]; grind)⟩
          · try dsimp only
            omega
    · try simp only [nrm] at c2
      refine AWp.exit ?_
      refine AWp.seq (AWp.region ?_)
      refine ARun.step rfl (step_assignV rfl (hn rfl) rfl rfl) ?_
      refine ARun.nil ?_
      refine AWp.ret ?_
      refine RetIs.sc (.inr rfl) rfl rfl ?_
      refine congrArg T.bool ?_
      rw [bookOk, all_of (fun j hj => hall j (by omega))]; grind
theorem bookOkI (p : Bk)  : ASpec Tryz.prog 26 [.agg (p.cells 105)] (.one (.bool (bookOk p))) := by
  refine ASpec.body Tryz.func26 rfl [2] rfl 95 rfl rfl rfl ?_
  refine AWp.aggLe 0 rfl (fun hc => ?_)
  have hl : p.bs.length ≤ 9223372036854775807 := hc (.v (bts 105 p.bs)) (by exact List.mem_cons_of_mem _ List.mem_cons_self)
  have hl2 : p.things.length ≤ 9223372036854775807 := hc (.v (strs p.things)) (by exact List.mem_cons_self)
  clear hc
  refine AWp.seq (AWp.region ?_)
  refine ARun.step rfl (step_box_p (m := 1) rfl (hn rfl) rfl rfl rfl rfl rfl) ?_
  refine ARun.step rfl (step_assignV rfl (hn rfl) rfl rfl) ?_
  refine ARun.nil ?_
  refine AWp.seq ?_
  refine AWp.seq (AWp.region ?_)
  refine ARun.step rfl (step_field_b rfl (hn rfl) rfl yhFo34_0 rfl (by exact List.cons_ne_nil _ _)) ?_
  refine ARun.step rfl (step_load_b rfl (hn rfl) rfl yhSc22 rfl rfl) ?_
  refine ARun.step rfl (step_len_f rfl (hn rfl) rfl yhSl22 rfl) ?_
  refine ARun.step rfl (step_gtr rfl (hn rfl) rfl rfl rfl) ?_
  refine ARun.step rfl (step_moveV rfl (hn rfl) rfl rfl) ?_
  refine guardS rfl rfl rfl rfl (hn rfl) (fun g1 g2 => step_field_b rfl (hn rfl) rfl yhFo34_0 rfl (by exact List.cons_ne_nil _ _)) ?_
  refine guardS rfl rfl rfl rfl (hn rfl) (fun g1 g2 => step_load_b rfl (hn rfl) rfl yhSc22 (ev_true rfl (by exact flag2 g1 g2)) rfl) ?_
  refine guardS rfl rfl rfl rfl (hn rfl) (fun g1 g2 => call_step1 rfl (hn rfl) rfl yhCo89 (.cons (ev_true rfl (by exact flag2 g1 g2)) (.one (.v _)) (.nil)) (namesI _) rfl) ?_
  refine guardS rfl rfl rfl rfl (hn rfl) (fun g1 g2 => step_not rfl (hn rfl) rfl (ev_true rfl (by exact flag2 g1 g2))) ?_
  refine ARun.step rfl (step_or rfl (hn rfl) rfl rfl rfl (fun h => (by exact flag1 h))) ?_
  refine ARun.step rfl (step_moveV rfl (hn rfl) rfl rfl) ?_
  refine guardS rfl rfl rfl rfl (hn rfl) (fun g1 g2 => step_field_b rfl (hn rfl) rfl yhFo34_1 rfl (by exact List.cons_ne_nil _ _)) ?_
  refine guardS rfl rfl rfl rfl (hn rfl) (fun g1 g2 => step_load_b rfl (hn rfl) rfl yhSc32 (ev_true rfl (by exact flag2 g1 g2)) rfl) ?_
  refine guardS rfl rfl rfl rfl (hn rfl) (fun g1 g2 => step_len_f rfl (hn rfl) rfl yhSl32 (ev_true rfl (by exact flag2 g1 g2))) ?_
  refine guardS rfl rfl rfl rfl (hn rfl) (fun g1 g2 => step_gtr rfl (hn rfl) rfl (ev_true rfl (by exact flag2 g1 g2)) rfl) ?_
  refine ARun.step rfl (step_or rfl (hn rfl) rfl rfl rfl (fun h => (by exact flag1 h))) ?_
  refine ARun.nil ?_
  refine AWp.cond rfl (fun c1 => ?_) (fun c1 => ?_)
  · try simp only [nrm] at c1
    refine AWp.seq (AWp.region ?_)
    refine ARun.step rfl (step_assignV rfl (hn rfl) rfl rfl) ?_
    refine ARun.nil ?_
    refine AWp.ret ?_
    refine RetIs.sc (.inr rfl) rfl rfl ?_
    refine congrArg T.bool ?_
    simp only [bookOk]; grind
  · try simp only [nrm] at c1
    refine AWp.skip ?_
    refine AWp.seq ?_
    refine AWp.seq (AWp.region ?_)
    refine ARun.step rfl (step_field_b rfl (hn rfl) rfl yhFo34_1 rfl (by exact List.cons_ne_nil _ _)) ?_
    refine ARun.step rfl (step_load_b rfl (hn rfl) rfl yhSc32 rfl rfl) ?_
    refine ARun.step rfl (step_len_f rfl (hn rfl) rfl yhSl32 rfl) ?_
    refine ARun.step rfl (step_moveV rfl (hn rfl) rfl rfl) ?_
    refine ARun.nil ?_
    refine AWp.block ?_
    refine AWp.loopM (fun i : Nat => mkAS 95 [(1, ⟨true, .one (.bptr 1 0)⟩), (24, ⟨true, .one (.v (bts 105 p.bs))⟩), (25, ⟨true, .one (.v (.int .i64 (p.bs.length : Nat)))⟩), (26, ⟨true, .one (.v (.int .i64 (i : Nat)))⟩)] [(1, (p.cells 105).map C.v)] []) (fun i => i ≤ p.bs.length ∧ ∀ j, j < i → (btAt p j && btFree p j) = true) (fun i => p.bs.length - i) 0 ?_ (Le.forgetR rfl ⟨rfl, rfl, rfl, rfl, trivial⟩ ⟨rfl, trivial⟩ trivial) ?_
    · try dsimp only
      exact ⟨by omega, by omega⟩
    rintro i ⟨hi, hall⟩
    refine AWp.seq (AWp.region ?_)
    refine ARun.step rfl (step_lss rfl (hn rfl) rfl rfl rfl) ?_
    refine ARun.nil ?_
    refine AWp.seq ?_
    refine AWp.cond rfl (fun c2 => ?_) (fun c2 => ?_)
    · try simp only [nrm] at c2
      refine AWp.skip ?_
      refine AWp.seq ?_
      refine AWp.block ?_
      refine AWp.seq (AWp.region ?_)
      refine ARun.step rfl (step_moveV rfl (hn rfl) rfl rfl) ?_
      refine ARun.step rfl (step_index_fN rfl (hn rfl) rfl yhSl32 rfl rfl (by omega)) ?_
      refine ARun.step rfl (step_loadS_f rfl (hn rfl) rfl yhSt105 rfl (hn rfl) rfl rfl) ?_
      refine ARun.step rfl (step_alloc_p rfl (hn rfl) rfl yhZs105) ?_
      refine ARun.step rfl (step_assignV rfl (hn rfl) rfl rfl) ?_
      refine ARun.step rfl (step_store_p rfl rfl yhCs105 rfl rfl rfl rfl rfl rfl rfl) ?_
      refine ARun.nil ?_
      refine AWp.seq ?_
      refine AWp.seq (AWp.draw [⟨[.s 4, .b 4], [.s 31], false⟩, ⟨[.s 31, .b 4], [.s 32], false⟩, ⟨[.s 32], [.s 33], false⟩, ⟨[.s 33], [.s 34], false⟩, ⟨[.s 34], [.s 35], false⟩, ⟨[.s 3, .s 35], [.s 36], false⟩, ⟨[.s 36, .s 35], [.s 37], false⟩, ⟨[.s 37, .s 35], [.s 38], false⟩, ⟨[.s 1, .b 1, .s 38], [.s 39], false⟩, ⟨[.s 39, .b 1, .s 38], [.s 40], false⟩, ⟨[.s 3, .s 38], [.s 41], false⟩, ⟨[.s 41, .s 38], [.s 42], false⟩, ⟨[.s 40, .s 42, .s 38], [.s 43], false⟩, ⟨[.s 43, .s 38], [.s 44], false⟩, ⟨[.s 44, .s 38], [.s 45], false⟩, ⟨[.s 4, .b 4, .s 38], [.s 46], false⟩, ⟨[.s 46, .b 4, .s 38], [.s 47], false⟩, ⟨[.s 45, .s 47, .s 38], [.s 48], false⟩, ⟨[.s 38, .s 48, .s 35], [.s 49], false⟩, ⟨[.s 35, .s 49], [.s 50], false⟩, ⟨[.s 50], [.s 51], false⟩, ⟨[.s 4, .b 4, .s 51], [.s 52], false⟩, ⟨[.s 52, .b 4, .s 51], [.s 53], false⟩, ⟨[.s 53, .s 51], [.s 54], false⟩, ⟨[.s 54, .s 51], [.s 55], false⟩, ⟨[.s 51, .s 55], [.s 56], false⟩, ⟨[.s 56], [.s 57], false⟩, ⟨[.s 4, .b 4, .s 57], [.s 58], false⟩, ⟨[.s 58, .b 4, .s 57], [.s 59], false⟩, ⟨[.s 1, .b 1, .s 57], [.s 60], false⟩, ⟨[.s 60, .b 1, .s 57], [.s 61], false⟩, ⟨[.s 61, .s 59, .s 57], [.s 62], false⟩, ⟨[.s 62, .s 57], [.s 63], false⟩, ⟨[.s 57, .s 63], [.s 64], false⟩, ⟨[.s 64], [.s 65], false⟩, ⟨[.s 4, .b 4, .s 65], [.s 66], false⟩, ⟨[.s 66, .b 4, .s 65], [.s 67], false⟩, ⟨[.s 67, .s 65], [.s 68], false⟩, ⟨[.s 68, .s 65], [.s 69], false⟩, ⟨[.s 65, .s 69], [.s 70], false⟩, ⟨[.s 70], [.s 71], false⟩, ⟨[.s 4, .b 4, .s 71], [.s 72], false⟩, ⟨[.s 72, .b 4, .s 71], [.s 73], false⟩, ⟨[.s 4, .b 4, .s 71], [.s 74], false⟩, ⟨[.s 74, .b 4, .s 71], [.s 75], false⟩, ⟨[.s 75, .s 73, .s 71], [.s 76], false⟩, ⟨[.s 76, .s 71], [.s 77], false⟩, ⟨[.s 71, .s 77], [.s 78], false⟩] yhMo (by kernel_rfl) ?_)
      refine DRun.step rfl (fun τ hN hr => step_field_b rfl (rdN hN (hn rfl)) rfl yhFo105_0 (by exact rdS hr rfl rfl) (by exact rdBne hr rfl (by exact List.cons_ne_nil _ _))) ?_
      refine DRun.step rfl (fun τ hN hr => step_load_b rfl (rdN hN (hn rfl)) rfl yhSc9 (by exact rdS hr rfl rfl) (by exact rdBget hr rfl rfl)) ?_
      refine DRun.step rfl (fun τ hN hr => call_step1 rfl (rdN hN (hn rfl)) rfl yhCo67 (.cons (by exact rdS hr rfl rfl) (.one (.v _)) (.nil)) (isNameI _) rfl) ?_
      refine DRun.step rfl (fun τ hN hr => step_not rfl (rdN hN (hn rfl)) rfl (by exact rdS hr rfl rfl)) ?_
      refine DRun.step rfl (fun τ hN hr => step_moveV rfl (rdN hN (hn rfl)) rfl (by exact rdS hr rfl rfl)) ?_
      refine guardD rfl rfl rfl rfl rfl (hn rfl) (fun τ hN hr g1 g2 => step_moveV rfl (rdN hN (hn rfl)) rfl (by exact rdS hr rfl rfl)) ?_
      refine guardD rfl rfl rfl rfl rfl (hn rfl) (fun τ hN hr g1 g2 => step_gtr rfl (rdN hN (hn rfl)) rfl (ev_true (by exact rdS hr rfl rfl) (by exact flag2 g1 g2)) rfl) ?_
      refine guardD rfl rfl rfl rfl rfl (hn rfl) (fun τ hN hr g1 g2 => step_moveV rfl (rdN hN (hn rfl)) rfl (ev_true (by exact rdS hr rfl rfl) (by exact flag2 g1 g2))) ?_
      refine guardD rfl rfl rfl rfl rfl (hn rfl) (fun τ hN hr g1 g2 => step_field_b rfl (rdN hN (hn rfl)) rfl yhFo34_1 (by exact rdS hr rfl rfl) (by exact rdBne hr rfl (by exact List.cons_ne_nil _ _))) ?_
      refine guardD rfl rfl rfl rfl rfl (hn rfl) (fun τ hN hr g1 g2 => step_load_b rfl (rdN hN (hn rfl)) rfl yhSc32 (ev_true (by exact rdS hr rfl rfl) (by exact flag2 g1 g2)) (by exact rdBget hr rfl rfl)) ?_
      refine guardD rfl rfl rfl rfl rfl (hn rfl) (fun τ hN hr g1 g2 => step_moveV rfl (rdN hN (hn rfl)) rfl (by exact rdS hr rfl rfl)) ?_
      refine guardD rfl rfl rfl rfl rfl (hn rfl) (fun τ hN hr g1 g2 => step_decN rfl (rdN hN (hn rfl)) rfl (ev_true (by exact rdS hr rfl rfl) (by exact flag2 g1 g2)) rfl (by have := of_decide_eq_true g2; omega) (by omega)) ?_
      refine guardD rfl rfl rfl rfl rfl (hn rfl) (fun τ hN hr g1 g2 => step_index_fN rfl (rdN hN (hn rfl)) rfl yhSl32 (ev_true (by exact rdS hr rfl rfl) (by exact flag2 g1 g2)) (ev_true (by exact rdS hr rfl rfl) (by exact flag2 g1 g2)) (by first | omega | (have := of_decide_eq_true g2; omega) | (have := of_decide_eq_false g2; omega) | (simp only [nrm] at g2; omega) | (simp only [nrm, Bool.true_and] at g1 g2; omega))) ?_
      refine guardD rfl rfl rfl rfl rfl (hn rfl) (fun τ hN hr g1 g2 => step_field_f rfl (rdN hN (hn rfl)) rfl yhFo105_0 (ev_true (by exact rdS hr rfl rfl) (by exact flag2 g1 g2))) ?_
      refine guardD rfl rfl rfl rfl rfl (hn rfl) (fun τ hN hr g1 g2 => step_load_f rfl (rdN hN (hn rfl)) rfl yhSc9 (ev_true (by exact rdS hr rfl rfl) (by exact flag2 g1 g2)) (hn rfl) rfl) ?_
      refine guardD rfl rfl rfl rfl rfl (hn rfl) (fun τ hN hr g1 g2 => step_field_b rfl (rdN hN (hn rfl)) rfl yhFo105_0 (by exact rdS hr rfl rfl) (by exact rdBne hr rfl (by exact List.cons_ne_nil _ _))) ?_
      refine guardD rfl rfl rfl rfl rfl (hn rfl) (fun τ hN hr g1 g2 => step_load_b rfl (rdN hN (hn rfl)) rfl yhSc9 (ev_true (by exact rdS hr rfl rfl) (by exact flag2 g1 g2)) (by exact rdBget hr rfl rfl)) ?_
      refine guardD rfl rfl rfl rfl rfl (hn rfl) (fun τ hN hr g1 g2 => step_sgeq rfl (rdN hN (hn rfl)) rfl (ev_true (by exact rdS hr rfl rfl) (by exact flag2 g1 g2)) (ev_true (by exact rdS hr rfl rfl) (by exact flag2 g1 g2))) ?_
      refine guardD rfl rfl rfl rfl rfl (hn rfl) (fun τ hN hr g1 g2 => step_and rfl (rdN hN (hn rfl)) rfl (ev_true (by exact rdS hr rfl rfl) (by exact flag2 g1 g2)) (by exact rdS hr rfl rfl) (fun h => (by exact flag2 (by exact flag2 g1 g2) h))) ?_
      refine DRun.step rfl (fun τ hN hr => step_or rfl (rdN hN (hn rfl)) rfl (by exact rdS hr rfl rfl) (by exact rdS hr rfl rfl) (fun h => (by exact flag1 h))) ?_
      refine DRun.step rfl (fun τ hN hr => step_moveV rfl (rdN hN (hn rfl)) rfl (by exact rdS hr rfl rfl)) ?_
      refine guardD rfl rfl rfl rfl rfl (hn rfl) (fun τ hN hr g1 g2 => step_field_b rfl (rdN hN (hn rfl)) rfl yhFo105_2 (by exact rdS hr rfl rfl) (by exact rdBne hr rfl (by exact List.cons_ne_nil _ _))) ?_
      refine guardD rfl rfl rfl rfl rfl (hn rfl) (fun τ hN hr g1 g2 => step_load_b rfl (rdN hN (hn rfl)) rfl yhSc22 (ev_true (by exact rdS hr rfl rfl) (by exact flag2 g1 g2)) (by exact rdBget hr rfl rfl)) ?_
      refine guardD rfl rfl rfl rfl rfl (hn rfl) (fun τ hN hr g1 g2 => call_step1 rfl (rdN hN (hn rfl)) rfl yhCo68 (.cons (ev_true (by exact rdS hr rfl rfl) (by exact flag2 g1 g2)) (.one (.v _)) (.nil)) (risingI _) rfl) ?_
      refine guardD rfl rfl rfl rfl rfl (hn rfl) (fun τ hN hr g1 g2 => step_not rfl (rdN hN (hn rfl)) rfl (ev_true (by exact rdS hr rfl rfl) (by exact flag2 g1 g2))) ?_
      refine DRun.step rfl (fun τ hN hr => step_or rfl (rdN hN (hn rfl)) rfl (by exact rdS hr rfl rfl) (by exact rdS hr rfl rfl) (fun h => (by exact flag1 h))) ?_
      refine DRun.step rfl (fun τ hN hr => step_moveV rfl (rdN hN (hn rfl)) rfl (by exact rdS hr rfl rfl)) ?_
      refine guardD rfl rfl rfl rfl rfl (hn rfl) (fun τ hN hr g1 g2 => step_field_b rfl (rdN hN (hn rfl)) rfl yhFo105_2 (by exact rdS hr rfl rfl) (by exact rdBne hr rfl (by exact List.cons_ne_nil _ _))) ?_
      refine guardD rfl rfl rfl rfl rfl (hn rfl) (fun τ hN hr g1 g2 => step_load_b rfl (rdN hN (hn rfl)) rfl yhSc22 (ev_true (by exact rdS hr rfl rfl) (by exact flag2 g1 g2)) (by exact rdBget hr rfl rfl)) ?_
      refine guardD rfl rfl rfl rfl rfl (hn rfl) (fun τ hN hr g1 g2 => step_field_b rfl (rdN hN (hn rfl)) rfl yhFo34_0 (by exact rdS hr rfl rfl) (by exact rdBne hr rfl (by exact List.cons_ne_nil _ _))) ?_
      refine guardD rfl rfl rfl rfl rfl (hn rfl) (fun τ hN hr g1 g2 => step_load_b rfl (rdN hN (hn rfl)) rfl yhSc22 (ev_true (by exact rdS hr rfl rfl) (by exact flag2 g1 g2)) (by exact rdBget hr rfl rfl)) ?_
      refine guardD rfl rfl rfl rfl rfl (hn rfl) (fun τ hN hr g1 g2 => call_step1 rfl (rdN hN (hn rfl)) rfl yhCo69 (.cons (ev_true (by exact rdS hr rfl rfl) (by exact flag2 g1 g2)) (.one (.v _)) (.cons (ev_true (by exact rdS hr rfl rfl) (by exact flag2 g1 g2)) (.one (.v _)) (.nil))) (withinI _ _) rfl) ?_
      refine guardD rfl rfl rfl rfl rfl (hn rfl) (fun τ hN hr g1 g2 => step_not rfl (rdN hN (hn rfl)) rfl (ev_true (by exact rdS hr rfl rfl) (by exact flag2 g1 g2))) ?_
      refine DRun.step rfl (fun τ hN hr => step_or rfl (rdN hN (hn rfl)) rfl (by exact rdS hr rfl rfl) (by exact rdS hr rfl rfl) (fun h => (by exact flag1 h))) ?_
      refine DRun.step rfl (fun τ hN hr => step_moveV rfl (rdN hN (hn rfl)) rfl (by exact rdS hr rfl rfl)) ?_
      refine guardD rfl rfl rfl rfl rfl (hn rfl) (fun τ hN hr g1 g2 => step_field_b rfl (rdN hN (hn rfl)) rfl yhFo105_1 (by exact rdS hr rfl rfl) (by exact rdBne hr rfl (by exact List.cons_ne_nil _ _))) ?_
      refine guardD rfl rfl rfl rfl rfl (hn rfl) (fun τ hN hr g1 g2 => step_load_b rfl (rdN hN (hn rfl)) rfl yhSc22 (ev_true (by exact rdS hr rfl rfl) (by exact flag2 g1 g2)) (by exact rdBget hr rfl rfl)) ?_
      refine guardD rfl rfl rfl rfl rfl (hn rfl) (fun τ hN hr g1 g2 => call_step1 rfl (rdN hN (hn rfl)) rfl yhCo68 (.cons (ev_true (by exact rdS hr rfl rfl) (by exact flag2 g1 g2)) (.one (.v _)) (.nil)) (risingI _) rfl) ?_
      refine guardD rfl rfl rfl rfl rfl (hn rfl) (fun τ hN hr g1 g2 => step_not rfl (rdN hN (hn rfl)) rfl (ev_true (by exact rdS hr rfl rfl) (by exact flag2 g1 g2))) ?_
      refine DRun.step rfl (fun τ hN hr => step_or rfl (rdN hN (hn rfl)) rfl (by exact rdS hr rfl rfl) (by exact rdS hr rfl rfl) (fun h => (by exact flag1 h))) ?_
      refine DRun.step rfl (fun τ hN hr => step_moveV rfl (rdN hN (hn rfl)) rfl (by exact rdS hr rfl rfl)) ?_
      refine guardD rfl rfl rfl rfl rfl (hn rfl) (fun τ hN hr g1 g2 => step_field_b rfl (rdN hN (hn rfl)) rfl yhFo105_1 (by exact rdS hr rfl rfl) (by exact rdBne hr rfl (by exact List.cons_ne_nil _ _))) ?_
      refine guardD rfl rfl rfl rfl rfl (hn rfl) (fun τ hN hr g1 g2 => step_load_b rfl (rdN hN (hn rfl)) rfl yhSc22 (ev_true (by exact rdS hr rfl rfl) (by exact flag2 g1 g2)) (by exact rdBget hr rfl rfl)) ?_
      refine guardD rfl rfl rfl rfl rfl (hn rfl) (fun τ hN hr g1 g2 => step_field_b rfl (rdN hN (hn rfl)) rfl yhFo105_2 (by exact rdS hr rfl rfl) (by exact rdBne hr rfl (by exact List.cons_ne_nil _ _))) ?_
      refine guardD rfl rfl rfl rfl rfl (hn rfl) (fun τ hN hr g1 g2 => step_load_b rfl (rdN hN (hn rfl)) rfl yhSc22 (ev_true (by exact rdS hr rfl rfl) (by exact flag2 g1 g2)) (by exact rdBget hr rfl rfl)) ?_
      refine guardD rfl rfl rfl rfl rfl (hn rfl) (fun τ hN hr g1 g2 => call_step1 rfl (rdN hN (hn rfl)) rfl yhCo69 (.cons (ev_true (by exact rdS hr rfl rfl) (by exact flag2 g1 g2)) (.one (.v _)) (.cons (ev_true (by exact rdS hr rfl rfl) (by exact flag2 g1 g2)) (.one (.v _)) (.nil))) (withinI _ _) rfl) ?_
      refine guardD rfl rfl rfl rfl rfl (hn rfl) (fun τ hN hr g1 g2 => step_not rfl (rdN hN (hn rfl)) rfl (ev_true (by exact rdS hr rfl rfl) (by exact flag2 g1 g2))) ?_
      refine DRun.step rfl (fun τ hN hr => step_or rfl (rdN hN (hn rfl)) rfl (by exact rdS hr rfl rfl) (by exact rdS hr rfl rfl) (fun h => (by exact flag1 h))) ?_
      refine DRun.nil ?_
      refine AWp.cond rfl (fun c3 => ?_) (fun c3 => ?_)
      · try simp only [nrm] at c3
        refine AWp.seq (AWp.region ?_)
        refine ARun.step rfl (step_assignV rfl (hn rfl) rfl rfl) ?_
        refine ARun.nil ?_
        refine AWp.ret ?_
        refine RetIs.sc (.inr rfl) rfl rfl ?_
        refine congrArg T.bool ?_
        exact (bookOk_not (i := i) (by omega) (by simp only [btAt]; grind)).symm
      · try simp only [nrm] at c3
        refine AWp.skip ?_
        refine AWp.seq (AWp.region ?_)
        refine ARun.step rfl (step_field_b rfl (hn rfl) rfl yhFo34_1 rfl (by exact List.cons_ne_nil _ _)) ?_
        refine ARun.step rfl (step_load_b rfl (hn rfl) rfl yhSc32 rfl rfl) ?_
        refine ARun.step rfl (step_moveV rfl (hn rfl) rfl rfl) ?_
        refine ARun.step rfl (step_slice_hf rfl (hn rfl) rfl yhSl32 rfl rfl (by omega)) ?_
        refine ARun.step rfl (step_len_f rfl (hn rfl) rfl yhSl32 rfl) ?_
        refine ARun.step rfl (step_moveV rfl (hn rfl) rfl rfl) ?_
        refine ARun.nil ?_
        refine AWp.block ?_
        refine AWp.loopM (fun j : Nat => mkAS 95 [(1, ⟨true, .one (.bptr 1 0)⟩), (3, ⟨true, .one (.v (.int .i64 (i : Nat)))⟩), (4, ⟨true, .one (.bptr 4 0)⟩), (24, ⟨true, .one (.v (bts 105 p.bs))⟩), (25, ⟨true, .one (.v (.int .i64 (p.bs.length : Nat)))⟩), (26, ⟨true, .one (.v (.int .i64 (i : Nat)))⟩), (82, ⟨true, .one (.v (.sl 105 3 i (fun q => (nth p.bs q).zcells)))⟩), (83, ⟨true, .one (.v (.int .i64 (i : Nat)))⟩), (84, ⟨true, .one (.v (.int .i64 (j : Nat)))⟩)] [(1, (p.cells 105).map C.v), (4, (nth p.bs i).cells.map C.v)] []) (fun j => j ≤ i ∧ ∀ q, q < j → (!meetsB (nth p.bs i).has (nth p.bs q).has) = true) (fun j => i - j) 0 ?_ (Le.forgetR rfl ⟨rfl, rfl, rfl, rfl, rfl, rfl, rfl, rfl, rfl, trivial⟩ ⟨rfl, rfl, trivial⟩ trivial) ?_
        · try dsimp only
          exact ⟨by omega, by omega⟩
        rintro j ⟨hj, hfree⟩
        refine AWp.seq (AWp.region ?_)
        refine ARun.step rfl (step_lss rfl (hn rfl) rfl rfl rfl) ?_
        refine ARun.nil ?_
        refine AWp.seq ?_
        refine AWp.cond rfl (fun c4 => ?_) (fun c4 => ?_)
        · try simp only [nrm] at c4
          refine AWp.skip ?_
          refine AWp.seq ?_
          refine AWp.block ?_
          refine AWp.seq (AWp.region ?_)
          refine ARun.step rfl (step_index_fN rfl (hn rfl) rfl yhSl32 rfl rfl (by omega)) ?_
          refine ARun.step rfl (step_loadS_f rfl (hn rfl) rfl yhSt105 rfl (hn rfl) rfl rfl) ?_
          refine ARun.step rfl (step_alloc_p rfl (hn rfl) rfl yhZs105) ?_
          refine ARun.step rfl (step_store_p rfl rfl yhCs105 rfl rfl rfl rfl rfl rfl rfl) ?_
          refine ARun.nil ?_
          refine AWp.seq (AWp.region ?_)
          refine ARun.step rfl (step_field_b rfl (hn rfl) rfl yhFo105_1 rfl (by exact List.cons_ne_nil _ _)) ?_
          refine ARun.step rfl (step_load_b rfl (hn rfl) rfl yhSc22 rfl rfl) ?_
          refine ARun.step rfl (step_field_b rfl (hn rfl) rfl yhFo105_1 rfl (by exact List.cons_ne_nil _ _)) ?_
          refine ARun.step rfl (step_load_b rfl (hn rfl) rfl yhSc22 rfl rfl) ?_
          refine ARun.step rfl (call_step1 rfl (hn rfl) rfl yhCo80 (.cons rfl (.one (.v _)) (.cons rfl (.one (.v _)) (.nil))) (meetsI _ _) rfl) ?_
          refine ARun.nil ?_
          refine AWp.cond rfl (fun c5 => ?_) (fun c5 => ?_)
          · try simp only [nrm] at c5
            refine AWp.seq (AWp.region ?_)
            refine ARun.step rfl (step_assignV rfl (hn rfl) rfl rfl) ?_
            refine ARun.nil ?_
            refine AWp.ret ?_
            refine RetIs.sc (.inr rfl) rfl rfl ?_
            refine congrArg T.bool ?_
            exact (bookOk_not (i := i) (by omega) (by rw [btFree, all_not (i := j) (by omega) (by grind), Bool.and_false])).symm
          · try simp only [nrm] at c5
            refine AWp.skip ?_
            refine AWp.region ?_
            refine ARun.step rfl (step_addI rfl (hn rfl) rfl rfl rfl (by omega) (by omega)) ?_
            refine ARun.step rfl (step_moveV rfl (hn rfl) rfl rfl) ?_
            refine ARun.nil ?_
            refine ⟨j + 1, ?_, ?_, Le.forgetR rfl ⟨rfl, rfl, rfl, rfl, rfl, rfl, rfl, rfl, rfl, trivial⟩ ⟨rfl, rfl, trivial⟩ trivial⟩
            · try dsimp only
              exact ⟨by omega, upto hfree (by grind)⟩
            · try dsimp only
              omega
        · try simp only [nrm] at c4
          refine AWp.exit ?_
          refine AWp.region ?_
          refine ARun.step rfl (step_addI rfl (hn rfl) rfl rfl rfl (by omega) (by omega)) ?_
          refine ARun.step rfl (step_moveV rfl (hn rfl) rfl rfl) ?_
          refine ARun.nil ?_
          refine ⟨i + 1, ?_, ?_, Le.forgetR rfl ⟨rfl, rfl, rfl, rfl, trivial⟩ ⟨rfl, trivial⟩ trivial⟩
          · try dsimp only
            exact ⟨by omega, upto hall (by have hf : btFree p i = true := all_of (fun q hq => hfree q (by omega)); simp only [btAt]; grind)⟩
          · try dsimp only
            omega
    · try simp only [nrm] at c2
      refine AWp.exit ?_
      refine AWp.seq (AWp.region ?_)
      refine ARun.step rfl (step_assignV rfl (hn rfl) rfl rfl) ?_
      refine ARun.nil ?_
      refine AWp.ret ?_
      refine RetIs.sc (.inr rfl) rfl rfl ?_
      refine congrArg T.bool ?_
      rw [bookOk, all_of (fun j hj => hall j (by omega))]; grind
theorem l51At (p : Bk) (s : Str)  : ASpec Tryz.prog 78 [.agg (p.cells 105), .one (.str s)] (.one (.int .i64 (idxB p s))) := by
  refine ASpec.body Tryz.func78 rfl [4] rfl 22 rfl rfl rfl ?_
  refine AWp.aggLe 0 rfl (fun hc => ?_)
  have hl : p.bs.length ≤ 9223372036854775807 := hc (.v (bts 105 p.bs)) (by exact List.mem_cons_of_mem _ List.mem_cons_self)
  clear hc
  refine AWp.seq (AWp.region ?_)
  refine ARun.step rfl (step_box_p (m := 1) rfl (hn rfl) rfl rfl rfl rfl rfl) ?_
  refine ARun.step rfl (step_assignV rfl (hn rfl) rfl rfl) ?_
  refine ARun.nil ?_
  refine AWp.seq ?_
  refine AWp.seq (AWp.region ?_)
  refine ARun.step rfl (step_assignV rfl (hn rfl) rfl rfl) ?_
  refine ARun.nil ?_
  refine AWp.block ?_
  refine AWp.loopM (fun i : Nat => mkAS 22 [(1, ⟨true, .one (.v (.str s))⟩), (2, ⟨true, .one (.bptr 2 0)⟩), (5, ⟨true, .one (.v (.int .i64 (i : Nat)))⟩)] [(2, ((p.cells 105)).map C.v)] []) (fun i => i ≤ p.bs.length ∧ ∀ j, j < i → nameAt p s j = false) (fun i => p.bs.length - i) 0 ?_ (Le.forgetR rfl ⟨rfl, rfl, rfl, trivial⟩ ⟨rfl, trivial⟩ trivial) ?_
  · try dsimp only
    exact ⟨by omega, by omega⟩
  rintro i ⟨hi, hall⟩
  refine AWp.seq ?_
  refine AWp.seq (AWp.region ?_)
  refine ARun.step rfl (step_moveV rfl (hn rfl) rfl rfl) ?_
  refine ARun.step rfl (step_field_b rfl (hn rfl) rfl yhFo34_1 rfl (by exact List.cons_ne_nil _ _)) ?_
  refine ARun.step rfl (step_load_b rfl (hn rfl) rfl yhSc32 rfl rfl) ?_
  refine ARun.step rfl (step_len_f rfl (hn rfl) rfl yhSl32 rfl) ?_
  refine ARun.step rfl (step_lss rfl (hn rfl) rfl rfl rfl) ?_
  refine ARun.nil ?_
  refine AWp.cond rfl (fun c1 => ?_) (fun c1 => ?_)
  · try simp only [nrm] at c1
    refine AWp.skip ?_
    refine AWp.seq ?_
    refine AWp.block ?_
    refine AWp.seq (AWp.region ?_)
    refine ARun.step rfl (step_field_b rfl (hn rfl) rfl yhFo34_1 rfl (by exact List.cons_ne_nil _ _)) ?_
    refine ARun.step rfl (step_load_b rfl (hn rfl) rfl yhSc32 rfl rfl) ?_
    refine ARun.step rfl (step_moveV rfl (hn rfl) rfl rfl) ?_
    refine ARun.step rfl (step_index_fN rfl (hn rfl) rfl yhSl32 rfl rfl (by omega)) ?_
    refine ARun.step rfl (step_field_f rfl (hn rfl) rfl yhFo105_0 rfl) ?_
    refine ARun.step rfl (step_load_f rfl (hn rfl) rfl yhSc9 rfl (hn rfl) rfl) ?_
    refine ARun.step rfl (step_moveV rfl (hn rfl) rfl rfl) ?_
    refine ARun.step rfl (step_seql rfl (hn rfl) rfl rfl rfl) ?_
    refine ARun.nil ?_
    refine AWp.cond rfl (fun c2 => ?_) (fun c2 => ?_)
    · try simp only [nrm] at c2
      refine AWp.seq (AWp.region ?_)
      refine ARun.step rfl (step_moveV rfl (hn rfl) rfl rfl) ?_
      refine ARun.step rfl (step_assignV rfl (hn rfl) rfl rfl) ?_
      refine ARun.nil ?_
      refine AWp.ret ?_
      refine RetIs.sc (.inr rfl) rfl rfl ?_
      refine congrArg (T.int _) ?_
      exact idxB_some hall (by omega) (by assumption)
    · try simp only [nrm] at c2
      refine AWp.skip ?_
      refine AWp.region ?_
      refine ARun.step rfl (step_moveV rfl (hn rfl) rfl rfl) ?_
      refine ARun.step rfl (step_addI rfl (hn rfl) rfl rfl rfl (by omega) (by omega)) ?_
      refine ARun.step rfl (step_assignV rfl (hn rfl) rfl rfl) ?_
      refine ARun.nil ?_
      refine ⟨i + 1, ?_, ?_, Le.forgetR rfl ⟨rfl, rfl, rfl, trivial⟩ ⟨rfl, trivial⟩ trivial⟩
      · try dsimp only
        exact ⟨by omega, upto hall (by assumption)⟩
      · try dsimp only
        omega
  · try simp only [nrm] at c1
    refine AWp.exit ?_
    refine AWp.seq (AWp.region ?_)
    refine ARun.step rfl (step_assignV rfl (hn rfl) rfl rfl) ?_
    refine ARun.nil ?_
    refine AWp.ret ?_
    refine RetIs.sc (.inr rfl) rfl rfl ?_
    refine congrArg (T.int _) ?_
    exact idxB_none hall (by omega)
theorem batchI (p : Bk) (s : Str)  : ASpec Tryz.prog 70 [.agg (p.cells 105), .one (.str s)] (.one (.int .i64 (idxB p s))) := by
  refine ASpec.body Tryz.func70 rfl [4] rfl 21 rfl rfl rfl ?_
  refine AWp.aggLe 0 rfl (fun hc => ?_)
  have hl : p.bs.length ≤ 9223372036854775807 := hc (.v (bts 105 p.bs)) (by exact List.mem_cons_of_mem _ List.mem_cons_self)
  clear hc
  refine AWp.seq (AWp.region ?_)
  refine ARun.step rfl (step_box_p (m := 1) rfl (hn rfl) rfl rfl rfl rfl rfl) ?_
  refine ARun.step rfl (step_assignV rfl (hn rfl) rfl rfl) ?_
  refine ARun.nil ?_
  refine AWp.seq ?_
  refine AWp.seq (AWp.region ?_)
  refine ARun.step rfl (step_field_b rfl (hn rfl) rfl yhFo34_1 rfl (by exact List.cons_ne_nil _ _)) ?_
  refine ARun.step rfl (step_load_b rfl (hn rfl) rfl yhSc32 rfl rfl) ?_
  refine ARun.step rfl (step_len_f rfl (hn rfl) rfl yhSl32 rfl) ?_
  refine ARun.step rfl (step_moveV rfl (hn rfl) rfl rfl) ?_
  refine ARun.nil ?_
  refine AWp.block ?_
  refine AWp.loopM (fun i : Nat => mkAS 21 [(1, ⟨true, .one (.v (.str s))⟩), (8, ⟨true, .one (.v (bts 105 p.bs))⟩), (9, ⟨true, .one (.v (.int .i64 ((p.bs).length : Nat)))⟩), (10, ⟨true, .one (.v (.int .i64 (i : Nat)))⟩)] [] []) (fun i => i ≤ p.bs.length ∧ ∀ j, j < i → nameAt p s j = false) (fun i => p.bs.length - i) 0 ?_ (Le.forgetR rfl ⟨rfl, rfl, rfl, rfl, trivial⟩ trivial trivial) ?_
  · try dsimp only
    exact ⟨by omega, by omega⟩
  rintro i ⟨hi, hall⟩
  refine AWp.seq (AWp.region ?_)
  refine ARun.step rfl (step_lss rfl (hn rfl) rfl rfl rfl) ?_
  refine ARun.nil ?_
  refine AWp.seq ?_
  refine AWp.cond rfl (fun c1 => ?_) (fun c1 => ?_)
  · try simp only [nrm] at c1
    refine AWp.skip ?_
    refine AWp.seq ?_
    refine AWp.block ?_
    refine AWp.seq (AWp.region ?_)
    refine ARun.step rfl (step_moveV rfl (hn rfl) rfl rfl) ?_
    refine ARun.step rfl (step_index_fN rfl (hn rfl) rfl yhSl32 rfl rfl (by omega)) ?_
    refine ARun.step rfl (step_loadS_f rfl (hn rfl) rfl yhSt105 rfl (hn rfl) rfl rfl) ?_
    refine ARun.step rfl (step_alloc_p rfl (hn rfl) rfl yhZs105) ?_
    refine ARun.step rfl (step_assignV rfl (hn rfl) rfl rfl) ?_
    refine ARun.step rfl (step_store_p rfl rfl yhCs105 rfl rfl rfl rfl rfl rfl rfl) ?_
    refine ARun.nil ?_
    refine AWp.seq (AWp.region ?_)
    refine ARun.step rfl (step_field_b rfl (hn rfl) rfl yhFo105_0 rfl (by exact List.cons_ne_nil _ _)) ?_
    refine ARun.step rfl (step_load_b rfl (hn rfl) rfl yhSc9 rfl rfl) ?_
    refine ARun.step rfl (step_moveV rfl (hn rfl) rfl rfl) ?_
    refine ARun.step rfl (step_seql rfl (hn rfl) rfl rfl rfl) ?_
    refine ARun.nil ?_
    refine AWp.cond rfl (fun c2 => ?_) (fun c2 => ?_)
    · try simp only [nrm] at c2
      refine AWp.seq (AWp.region ?_)
      refine ARun.step rfl (step_moveV rfl (hn rfl) rfl rfl) ?_
      refine ARun.step rfl (step_assignV rfl (hn rfl) rfl rfl) ?_
      refine ARun.nil ?_
      refine AWp.ret ?_
      refine RetIs.sc (.inr rfl) rfl rfl ?_
      refine congrArg (T.int _) ?_
      exact idxB_some hall (by omega) (by assumption)
    · try simp only [nrm] at c2
      refine AWp.skip ?_
      refine AWp.region ?_
      refine ARun.step rfl (step_addI rfl (hn rfl) rfl rfl rfl (by omega) (by omega)) ?_
      refine ARun.step rfl (step_moveV rfl (hn rfl) rfl rfl) ?_
      refine ARun.nil ?_
      refine ⟨i + 1, ?_, ?_, Le.forgetR rfl ⟨rfl, rfl, rfl, rfl, trivial⟩ trivial trivial⟩
      · try dsimp only
        exact ⟨by omega, upto hall (by assumption)⟩
      · try dsimp only
        omega
  · try simp only [nrm] at c1
    refine AWp.exit ?_
    refine AWp.seq (AWp.region ?_)
    refine ARun.step rfl (step_assignV rfl (hn rfl) rfl rfl) ?_
    refine ARun.nil ?_
    refine AWp.ret ?_
    refine RetIs.sc (.inr rfl) rfl rfl ?_
    refine congrArg (T.int _) ?_
    exact idxB_none hall (by omega)
theorem l52Can (p : Bk) (z : Int) (l : List Str) (h0 : 0 ≤ z) (h1 : z < p.bs.length) : ASpec Tryz.prog 232 [.agg (p.cells 105), .one (.int .i64 z), .one (strs l)] (.one (.bool (canB p z.toNat l))) := by
  refine ASpec.body Tryz.func232 rfl [6] rfl 44 rfl rfl rfl ?_
  refine AWp.aggLe 0 rfl (fun hc => ?_)
  have hl : p.bs.length ≤ 9223372036854775807 := hc (.v (bts 105 p.bs)) (by exact List.mem_cons_of_mem _ List.mem_cons_self)
  clear hc
  refine AWp.seq (AWp.region ?_)
  refine ARun.step rfl (step_box_p (m := 1) rfl (hn rfl) rfl rfl rfl rfl rfl) ?_
  refine ARun.step rfl (step_assignV rfl (hn rfl) rfl rfl) ?_
  refine ARun.nil ?_
  refine AWp.seq ?_
  refine AWp.seq (AWp.region ?_)
  refine ARun.step rfl (step_assignV rfl (hn rfl) rfl rfl) ?_
  refine ARun.nil ?_
  refine AWp.block ?_
  refine AWp.loopM (fun i : Nat => mkAS 44 [(1, ⟨true, .one (.v (.int .i64 z))⟩), (2, ⟨true, .one (.v (strs l))⟩), (3, ⟨true, .one (.bptr 3 0)⟩), (7, ⟨true, .one (.v (.int .i64 (i : Nat)))⟩)] [(3, ((p.cells 105)).map C.v)] []) (fun i => i ≤ p.bs.length ∧ ∀ j, j < i → blk p z.toNat l j = false) (fun i => p.bs.length - i) 0 ?_ (Le.forgetR rfl ⟨rfl, rfl, rfl, rfl, trivial⟩ ⟨rfl, trivial⟩ trivial) ?_
  · try dsimp only
    exact ⟨by omega, by omega⟩
  rintro i ⟨hi, hall⟩
  refine AWp.seq ?_
  refine AWp.seq (AWp.region ?_)
  refine ARun.step rfl (step_moveV rfl (hn rfl) rfl rfl) ?_
  refine ARun.step rfl (step_field_b rfl (hn rfl) rfl yhFo34_1 rfl (by exact List.cons_ne_nil _ _)) ?_
  refine ARun.step rfl (step_load_b rfl (hn rfl) rfl yhSc32 rfl rfl) ?_
  refine ARun.step rfl (step_len_f rfl (hn rfl) rfl yhSl32 rfl) ?_
  refine ARun.step rfl (step_lss rfl (hn rfl) rfl rfl rfl) ?_
  refine ARun.nil ?_
  refine AWp.cond rfl (fun c1 => ?_) (fun c1 => ?_)
  · try simp only [nrm] at c1
    refine AWp.skip ?_
    refine AWp.seq ?_
    refine AWp.block ?_
    refine AWp.seq (AWp.draw [⟨[.s 7], [.s 15], false⟩, ⟨[.s 1], [.s 16], false⟩, ⟨[.s 15, .s 16], [.s 17], false⟩, ⟨[.s 17], [.s 18], false⟩, ⟨[.s 2, .s 18], [.s 19], false⟩, ⟨[.s 3, .b 3, .s 18], [.s 20], false⟩, ⟨[.s 20, .b 3, .s 18], [.s 21], false⟩, ⟨[.s 7, .s 18], [.s 22], false⟩, ⟨[.s 21, .s 22, .s 18], [.s 23], false⟩, ⟨[.s 23, .s 18], [.s 24], false⟩, ⟨[.s 24, .s 18], [.s 25], false⟩, ⟨[.s 25, .s 19, .s 18], [.s 26], false⟩, ⟨[.s 26, .s 18], [.s 27], false⟩, ⟨[.s 18, .s 27], [.s 28], false⟩, ⟨[.s 28], [.s 29], false⟩, ⟨[.s 3, .b 3, .s 29], [.s 30], false⟩, ⟨[.s 30, .b 3, .s 29], [.s 31], false⟩, ⟨[.s 7, .s 29], [.s 32], false⟩, ⟨[.s 31, .s 32, .s 29], [.s 33], false⟩, ⟨[.s 33, .s 29], [.s 34], false⟩, ⟨[.s 34, .s 29], [.s 35], false⟩, ⟨[.s 3, .b 3, .s 29], [.s 36], false⟩, ⟨[.s 36, .b 3, .s 29], [.s 37], false⟩, ⟨[.s 1, .s 29], [.s 38], false⟩, ⟨[.s 37, .s 38, .s 29], [.s 39], false⟩, ⟨[.s 39, .s 29], [.s 40], false⟩, ⟨[.s 40, .s 29], [.s 41], false⟩, ⟨[.s 41, .s 35, .s 29], [.s 42], false⟩, ⟨[.s 29, .s 42], [.s 43], false⟩] yhMo (by kernel_rfl) ?_)
    refine DRun.step rfl (fun τ hN hr => step_moveV rfl (rdN hN (hn rfl)) rfl (by exact rdS hr rfl rfl)) ?_
    refine DRun.step rfl (fun τ hN hr => step_moveV rfl (rdN hN (hn rfl)) rfl (by exact rdS hr rfl rfl)) ?_
    refine DRun.step rfl (fun τ hN hr => step_neq rfl (rdN hN (hn rfl)) rfl (by exact rdS hr rfl rfl) (by exact rdS hr rfl rfl)) ?_
    refine DRun.step rfl (fun τ hN hr => step_moveV rfl (rdN hN (hn rfl)) rfl (by exact rdS hr rfl rfl)) ?_
    refine guardD rfl rfl rfl rfl rfl (hn rfl) (fun τ hN hr g1 g2 => step_moveV rfl (rdN hN (hn rfl)) rfl (by exact rdS hr rfl rfl)) ?_
    refine guardD rfl rfl rfl rfl rfl (hn rfl) (fun τ hN hr g1 g2 => step_field_b rfl (rdN hN (hn rfl)) rfl yhFo34_1 (by exact rdS hr rfl rfl) (by exact rdBne hr rfl (by exact List.cons_ne_nil _ _))) ?_
    refine guardD rfl rfl rfl rfl rfl (hn rfl) (fun τ hN hr g1 g2 => step_load_b rfl (rdN hN (hn rfl)) rfl yhSc32 (ev_true (by exact rdS hr rfl rfl) (by exact flag2 g1 g2)) (by exact rdBget hr rfl rfl)) ?_
    refine guardD rfl rfl rfl rfl rfl (hn rfl) (fun τ hN hr g1 g2 => step_moveV rfl (rdN hN (hn rfl)) rfl (by exact rdS hr rfl rfl)) ?_
    refine guardD rfl rfl rfl rfl rfl (hn rfl) (fun τ hN hr g1 g2 => step_index_fN rfl (rdN hN (hn rfl)) rfl yhSl32 (ev_true (by exact rdS hr rfl rfl) (by exact flag2 g1 g2)) (ev_true (by exact rdS hr rfl rfl) (by exact flag2 g1 g2)) (by first | omega | (have := of_decide_eq_true g2; omega) | (have := of_decide_eq_false g2; omega) | (simp only [nrm] at g2; omega) | (simp only [nrm, Bool.true_and] at g1 g2; omega))) ?_
    refine guardD rfl rfl rfl rfl rfl (hn rfl) (fun τ hN hr g1 g2 => step_field_f rfl (rdN hN (hn rfl)) rfl yhFo105_0 (ev_true (by exact rdS hr rfl rfl) (by exact flag2 g1 g2))) ?_
    refine guardD rfl rfl rfl rfl rfl (hn rfl) (fun τ hN hr g1 g2 => step_load_f rfl (rdN hN (hn rfl)) rfl yhSc9 (ev_true (by exact rdS hr rfl rfl) (by exact flag2 g1 g2)) (hn rfl) rfl) ?_
    refine guardD rfl rfl rfl rfl rfl (hn rfl) (fun τ hN hr g1 g2 => call_step1 rfl (rdN hN (hn rfl)) rfl yhCo87 (.cons (ev_true (by exact rdS hr rfl rfl) (by exact flag2 g1 g2)) (.one (.v _)) (.cons (ev_true (by exact rdS hr rfl rfl) (by exact flag2 g1 g2)) (.one (.v _)) (.nil))) (l51Has _ _) rfl) ?_
    refine guardD rfl rfl rfl rfl rfl (hn rfl) (fun τ hN hr g1 g2 => step_not rfl (rdN hN (hn rfl)) rfl (ev_true (by exact rdS hr rfl rfl) (by exact flag2 g1 g2))) ?_
    refine DRun.step rfl (fun τ hN hr => step_and rfl (rdN hN (hn rfl)) rfl (by exact rdS hr rfl rfl) (by exact rdS hr rfl rfl) (fun h => (by exact flag1 h))) ?_
    refine DRun.step rfl (fun τ hN hr => step_moveV rfl (rdN hN (hn rfl)) rfl (by exact rdS hr rfl rfl)) ?_
    refine guardD rfl rfl rfl rfl rfl (hn rfl) (fun τ hN hr g1 g2 => step_field_b rfl (rdN hN (hn rfl)) rfl yhFo34_1 (by exact rdS hr rfl rfl) (by exact rdBne hr rfl (by exact List.cons_ne_nil _ _))) ?_
    refine guardD rfl rfl rfl rfl rfl (hn rfl) (fun τ hN hr g1 g2 => step_load_b rfl (rdN hN (hn rfl)) rfl yhSc32 (ev_true (by exact rdS hr rfl rfl) (by exact flag2 g1 g2)) (by exact rdBget hr rfl rfl)) ?_
    refine guardD rfl rfl rfl rfl rfl (hn rfl) (fun τ hN hr g1 g2 => step_moveV rfl (rdN hN (hn rfl)) rfl (by exact rdS hr rfl rfl)) ?_
    refine guardD rfl rfl rfl rfl rfl (hn rfl) (fun τ hN hr g1 g2 => step_index_fN rfl (rdN hN (hn rfl)) rfl yhSl32 (ev_true (by exact rdS hr rfl rfl) (by exact flag2 g1 g2)) (ev_true (by exact rdS hr rfl rfl) (by exact flag2 g1 g2)) (by first | omega | (have := of_decide_eq_true g2; omega) | (have := of_decide_eq_false g2; omega) | (simp only [nrm] at g2; omega) | (simp only [nrm, Bool.true_and] at g1 g2; omega))) ?_
    refine guardD rfl rfl rfl rfl rfl (hn rfl) (fun τ hN hr g1 g2 => step_field_f rfl (rdN hN (hn rfl)) rfl yhFo105_1 (ev_true (by exact rdS hr rfl rfl) (by exact flag2 g1 g2))) ?_
    refine guardD rfl rfl rfl rfl rfl (hn rfl) (fun τ hN hr g1 g2 => step_load_f rfl (rdN hN (hn rfl)) rfl yhSc22 (ev_true (by exact rdS hr rfl rfl) (by exact flag2 g1 g2)) (hn rfl) rfl) ?_
    refine guardD rfl rfl rfl rfl rfl (hn rfl) (fun τ hN hr g1 g2 => step_field_b rfl (rdN hN (hn rfl)) rfl yhFo34_1 (by exact rdS hr rfl rfl) (by exact rdBne hr rfl (by exact List.cons_ne_nil _ _))) ?_
    refine guardD rfl rfl rfl rfl rfl (hn rfl) (fun τ hN hr g1 g2 => step_load_b rfl (rdN hN (hn rfl)) rfl yhSc32 (ev_true (by exact rdS hr rfl rfl) (by exact flag2 g1 g2)) (by exact rdBget hr rfl rfl)) ?_
    refine guardD rfl rfl rfl rfl rfl (hn rfl) (fun τ hN hr g1 g2 => step_moveV rfl (rdN hN (hn rfl)) rfl (by exact rdS hr rfl rfl)) ?_
    refine guardD rfl rfl rfl rfl rfl (hn rfl) (fun τ hN hr g1 g2 => step_index_f rfl (rdN hN (hn rfl)) rfl yhSl32 (ev_true (by exact rdS hr rfl rfl) (by exact flag2 g1 g2)) (ev_true (by exact rdS hr rfl rfl) (by exact flag2 g1 g2)) (by first | omega | (have := of_decide_eq_true g2; omega) | (have := of_decide_eq_false g2; omega) | (simp only [nrm] at g2; omega) | (simp only [nrm, Bool.true_and] at g1 g2; omega)) (by first | omega | (have := of_decide_eq_true g2; omega) | (have := of_decide_eq_false g2; omega) | (simp only [nrm] at g2; omega) | (simp only [nrm, Bool.true_and] at g1 g2; omega))) ?_
    refine guardD rfl rfl rfl rfl rfl (hn rfl) (fun τ hN hr g1 g2 => step_field_f rfl (rdN hN (hn rfl)) rfl yhFo105_2 (ev_true (by exact rdS hr rfl rfl) (by exact flag2 g1 g2))) ?_
    refine guardD rfl rfl rfl rfl rfl (hn rfl) (fun τ hN hr g1 g2 => step_load_f rfl (rdN hN (hn rfl)) rfl yhSc22 (ev_true (by exact rdS hr rfl rfl) (by exact flag2 g1 g2)) (hn rfl) rfl) ?_
    refine guardD rfl rfl rfl rfl rfl (hn rfl) (fun τ hN hr g1 g2 => call_step1 rfl (rdN hN (hn rfl)) rfl yhCo144 (.cons (ev_true (by exact rdS hr rfl rfl) (by exact flag2 g1 g2)) (.one (.v _)) (.cons (ev_true (by exact rdS hr rfl rfl) (by exact flag2 g1 g2)) (.one (.v _)) (.nil))) (l51Share _ _) rfl) ?_
    refine DRun.step rfl (fun τ hN hr => step_and rfl (rdN hN (hn rfl)) rfl (by exact rdS hr rfl rfl) (by exact rdS hr rfl rfl) (fun h => (by exact flag1 h))) ?_
    refine DRun.nil ?_
    refine AWp.cond rfl (fun c2 => ?_) (fun c2 => ?_)
    · try simp only [nrm] at c2
      refine AWp.seq (AWp.region ?_)
      refine ARun.step rfl (step_assignV rfl (hn rfl) rfl rfl) ?_
      refine ARun.nil ?_
      refine AWp.ret ?_
      refine RetIs.sc (.inr rfl) rfl rfl ?_
      refine congrArg T.bool ?_
      rw [canB, all_not (i := i) (by omega) (by rw [blk, beq_toNat h0]; grind)]
    · try simp only [nrm] at c2
      refine AWp.skip ?_
      refine AWp.region ?_
      refine ARun.step rfl (step_moveV rfl (hn rfl) rfl rfl) ?_
      refine ARun.step rfl (step_addI rfl (hn rfl) rfl rfl rfl (by omega) (by omega)) ?_
      refine ARun.step rfl (step_assignV rfl (hn rfl) rfl rfl) ?_
      refine ARun.nil ?_
      refine ⟨i + 1, ?_, ?_, Le.forgetR rfl ⟨rfl, rfl, rfl, rfl, trivial⟩ ⟨rfl, trivial⟩ trivial⟩
      · try dsimp only
        exact ⟨by omega, upto hall (by rw [blk, beq_toNat h0]; grind)⟩
      · try dsimp only
        omega
  · try simp only [nrm] at c1
    refine AWp.exit ?_
    refine AWp.seq (AWp.region ?_)
    refine ARun.step rfl (step_assignV rfl (hn rfl) rfl rfl) ?_
    refine ARun.nil ?_
    refine AWp.ret ?_
    refine RetIs.sc (.inr rfl) rfl rfl ?_
    refine congrArg T.bool ?_
    rw [canB, all_of (fun j hj => by rw [hall j (by omega)]; rfl)]
theorem canI (p : Bk) (z : Int) (l : List Str) (h0 : 0 ≤ z) (h1 : z < p.bs.length) : ASpec Tryz.prog 91 [.agg (p.cells 105), .one (.int .i64 z), .one (strs l)] (.one (.bool (canB p z.toNat l))) := by
  refine ASpec.body Tryz.func91 rfl [6] rfl 39 rfl rfl rfl ?_
  refine AWp.aggLe 0 rfl (fun hc => ?_)
  have hl : p.bs.length ≤ 9223372036854775807 := hc (.v (bts 105 p.bs)) (by exact List.mem_cons_of_mem _ List.mem_cons_self)
  clear hc
  refine AWp.seq (AWp.region ?_)
  refine ARun.step rfl (step_box_p (m := 1) rfl (hn rfl) rfl rfl rfl rfl rfl) ?_
  refine ARun.step rfl (step_assignV rfl (hn rfl) rfl rfl) ?_
  refine ARun.nil ?_
  refine AWp.seq ?_
  refine AWp.seq (AWp.region ?_)
  refine ARun.step rfl (step_field_b rfl (hn rfl) rfl yhFo34_1 rfl (by exact List.cons_ne_nil _ _)) ?_
  refine ARun.step rfl (step_load_b rfl (hn rfl) rfl yhSc32 rfl rfl) ?_
  refine ARun.step rfl (step_len_f rfl (hn rfl) rfl yhSl32 rfl) ?_
  refine ARun.step rfl (step_moveV rfl (hn rfl) rfl rfl) ?_
  refine ARun.nil ?_
  refine AWp.block ?_
  refine AWp.loopM (fun i : Nat => mkAS 39 [(1, ⟨true, .one (.v (.int .i64 z))⟩), (2, ⟨true, .one (.v (strs l))⟩), (3, ⟨true, .one (.bptr 3 0)⟩), (10, ⟨true, .one (.v (bts 105 p.bs))⟩), (11, ⟨true, .one (.v (.int .i64 ((p.bs).length : Nat)))⟩), (12, ⟨true, .one (.v (.int .i64 (i : Nat)))⟩)] [(3, ((p.cells 105)).map C.v)] []) (fun i => i ≤ p.bs.length ∧ ∀ j, j < i → blk p z.toNat l j = false) (fun i => p.bs.length - i) 0 ?_ (Le.forgetR rfl ⟨rfl, rfl, rfl, rfl, rfl, rfl, trivial⟩ ⟨rfl, trivial⟩ trivial) ?_
  · try dsimp only
    exact ⟨by omega, by omega⟩
  rintro i ⟨hi, hall⟩
  refine AWp.seq (AWp.region ?_)
  refine ARun.step rfl (step_lss rfl (hn rfl) rfl rfl rfl) ?_
  refine ARun.nil ?_
  refine AWp.seq ?_
  refine AWp.cond rfl (fun c1 => ?_) (fun c1 => ?_)
  · try simp only [nrm] at c1
    refine AWp.skip ?_
    refine AWp.seq ?_
    refine AWp.block ?_
    refine AWp.seq (AWp.region ?_)
    refine ARun.step rfl (step_moveV rfl (hn rfl) rfl rfl) ?_
    refine ARun.step rfl (step_index_fN rfl (hn rfl) rfl yhSl32 rfl rfl (by omega)) ?_
    refine ARun.step rfl (step_loadS_f rfl (hn rfl) rfl yhSt105 rfl (hn rfl) rfl rfl) ?_
    refine ARun.step rfl (step_alloc_p rfl (hn rfl) rfl yhZs105) ?_
    refine ARun.step rfl (step_assignV rfl (hn rfl) rfl rfl) ?_
    refine ARun.step rfl (step_store_p rfl rfl yhCs105 rfl rfl rfl rfl rfl rfl rfl) ?_
    refine ARun.nil ?_
    refine AWp.seq (AWp.draw [⟨[.s 7], [.s 17], false⟩, ⟨[.s 1], [.s 18], false⟩, ⟨[.s 17, .s 18], [.s 19], false⟩, ⟨[.s 19], [.s 20], false⟩, ⟨[.s 2, .s 20], [.s 21], false⟩, ⟨[.s 8, .b 8, .s 20], [.s 22], false⟩, ⟨[.s 22, .b 8, .s 20], [.s 23], false⟩, ⟨[.s 23, .s 21, .s 20], [.s 24], false⟩, ⟨[.s 24, .s 20], [.s 25], false⟩, ⟨[.s 20, .s 25], [.s 26], false⟩, ⟨[.s 26], [.s 27], false⟩, ⟨[.s 8, .b 8, .s 27], [.s 28], false⟩, ⟨[.s 28, .b 8, .s 27], [.s 29], false⟩, ⟨[.s 3, .b 3, .s 27], [.s 30], false⟩, ⟨[.s 30, .b 3, .s 27], [.s 31], false⟩, ⟨[.s 1, .s 27], [.s 32], false⟩, ⟨[.s 31, .s 32, .s 27], [.s 33], false⟩, ⟨[.s 33, .s 27], [.s 34], false⟩, ⟨[.s 34, .s 27], [.s 35], false⟩, ⟨[.s 35, .s 29, .s 27], [.s 36], false⟩, ⟨[.s 27, .s 36], [.s 37], false⟩] yhMo rfl ?_)
    refine DRun.step rfl (fun τ hN hr => step_moveV rfl (rdN hN (hn rfl)) rfl (by exact rdS hr rfl rfl)) ?_
    refine DRun.step rfl (fun τ hN hr => step_moveV rfl (rdN hN (hn rfl)) rfl (by exact rdS hr rfl rfl)) ?_
    refine DRun.step rfl (fun τ hN hr => step_neq rfl (rdN hN (hn rfl)) rfl (by exact rdS hr rfl rfl) (by exact rdS hr rfl rfl)) ?_
    refine DRun.step rfl (fun τ hN hr => step_moveV rfl (rdN hN (hn rfl)) rfl (by exact rdS hr rfl rfl)) ?_
    refine guardD rfl rfl rfl rfl rfl (hn rfl) (fun τ hN hr g1 g2 => step_moveV rfl (rdN hN (hn rfl)) rfl (by exact rdS hr rfl rfl)) ?_
    refine guardD rfl rfl rfl rfl rfl (hn rfl) (fun τ hN hr g1 g2 => step_field_b rfl (rdN hN (hn rfl)) rfl yhFo105_0 (by exact rdS hr rfl rfl) (by exact rdBne hr rfl (by exact List.cons_ne_nil _ _))) ?_
    refine guardD rfl rfl rfl rfl rfl (hn rfl) (fun τ hN hr g1 g2 => step_load_b rfl (rdN hN (hn rfl)) rfl yhSc9 (ev_true (by exact rdS hr rfl rfl) (by exact flag2 g1 g2)) (by exact rdBget hr rfl rfl)) ?_
    refine guardD rfl rfl rfl rfl rfl (hn rfl) (fun τ hN hr g1 g2 => call_step1 rfl (rdN hN (hn rfl)) rfl yhCo86 (.cons (ev_true (by exact rdS hr rfl rfl) (by exact flag2 g1 g2)) (.one (.v _)) (.cons (ev_true (by exact rdS hr rfl rfl) (by exact flag2 g1 g2)) (.one (.v _)) (.nil))) (hasI _ _) rfl) ?_
    refine guardD rfl rfl rfl rfl rfl (hn rfl) (fun τ hN hr g1 g2 => step_not rfl (rdN hN (hn rfl)) rfl (ev_true (by exact rdS hr rfl rfl) (by exact flag2 g1 g2))) ?_
    refine DRun.step rfl (fun τ hN hr => step_and rfl (rdN hN (hn rfl)) rfl (by exact rdS hr rfl rfl) (by exact rdS hr rfl rfl) (fun h => (by exact flag1 h))) ?_
    refine DRun.step rfl (fun τ hN hr => step_moveV rfl (rdN hN (hn rfl)) rfl (by exact rdS hr rfl rfl)) ?_
    refine guardD rfl rfl rfl rfl rfl (hn rfl) (fun τ hN hr g1 g2 => step_field_b rfl (rdN hN (hn rfl)) rfl yhFo105_1 (by exact rdS hr rfl rfl) (by exact rdBne hr rfl (by exact List.cons_ne_nil _ _))) ?_
    refine guardD rfl rfl rfl rfl rfl (hn rfl) (fun τ hN hr g1 g2 => step_load_b rfl (rdN hN (hn rfl)) rfl yhSc22 (ev_true (by exact rdS hr rfl rfl) (by exact flag2 g1 g2)) (by exact rdBget hr rfl rfl)) ?_
    refine guardD rfl rfl rfl rfl rfl (hn rfl) (fun τ hN hr g1 g2 => step_field_b rfl (rdN hN (hn rfl)) rfl yhFo34_1 (by exact rdS hr rfl rfl) (by exact rdBne hr rfl (by exact List.cons_ne_nil _ _))) ?_
    refine guardD rfl rfl rfl rfl rfl (hn rfl) (fun τ hN hr g1 g2 => step_load_b rfl (rdN hN (hn rfl)) rfl yhSc32 (ev_true (by exact rdS hr rfl rfl) (by exact flag2 g1 g2)) (by exact rdBget hr rfl rfl)) ?_
    refine guardD rfl rfl rfl rfl rfl (hn rfl) (fun τ hN hr g1 g2 => step_moveV rfl (rdN hN (hn rfl)) rfl (by exact rdS hr rfl rfl)) ?_
    refine guardD rfl rfl rfl rfl rfl (hn rfl) (fun τ hN hr g1 g2 => step_index_f rfl (rdN hN (hn rfl)) rfl yhSl32 (ev_true (by exact rdS hr rfl rfl) (by exact flag2 g1 g2)) (ev_true (by exact rdS hr rfl rfl) (by exact flag2 g1 g2)) (by first | omega | (have := of_decide_eq_true g2; omega) | (have := of_decide_eq_false g2; omega) | (simp only [nrm] at g2; omega) | (simp only [nrm, Bool.true_and] at g1 g2; omega)) (by first | omega | (have := of_decide_eq_true g2; omega) | (have := of_decide_eq_false g2; omega) | (simp only [nrm] at g2; omega) | (simp only [nrm, Bool.true_and] at g1 g2; omega))) ?_
    refine guardD rfl rfl rfl rfl rfl (hn rfl) (fun τ hN hr g1 g2 => step_field_f rfl (rdN hN (hn rfl)) rfl yhFo105_2 (ev_true (by exact rdS hr rfl rfl) (by exact flag2 g1 g2))) ?_
    refine guardD rfl rfl rfl rfl rfl (hn rfl) (fun τ hN hr g1 g2 => step_load_f rfl (rdN hN (hn rfl)) rfl yhSc22 (ev_true (by exact rdS hr rfl rfl) (by exact flag2 g1 g2)) (hn rfl) rfl) ?_
    refine guardD rfl rfl rfl rfl rfl (hn rfl) (fun τ hN hr g1 g2 => call_step1 rfl (rdN hN (hn rfl)) rfl yhCo80 (.cons (ev_true (by exact rdS hr rfl rfl) (by exact flag2 g1 g2)) (.one (.v _)) (.cons (ev_true (by exact rdS hr rfl rfl) (by exact flag2 g1 g2)) (.one (.v _)) (.nil))) (meetsI _ _) rfl) ?_
    refine DRun.step rfl (fun τ hN hr => step_and rfl (rdN hN (hn rfl)) rfl (by exact rdS hr rfl rfl) (by exact rdS hr rfl rfl) (fun h => (by exact flag1 h))) ?_
    refine DRun.nil ?_
    refine AWp.cond rfl (fun c2 => ?_) (fun c2 => ?_)
    · try simp only [nrm] at c2
      refine AWp.seq (AWp.region ?_)
      refine ARun.step rfl (step_assignV rfl (hn rfl) rfl rfl) ?_
      refine ARun.nil ?_
      refine AWp.ret ?_
      refine RetIs.sc (.inr rfl) rfl rfl ?_
      refine congrArg T.bool ?_
      rw [canB, all_not (i := i) (by omega) (by rw [blk, beq_toNat h0]; grind)]
    · try simp only [nrm] at c2
      refine AWp.skip ?_
      refine AWp.region ?_
      refine ARun.step rfl (step_addI rfl (hn rfl) rfl rfl rfl (by omega) (by omega)) ?_
      refine ARun.step rfl (step_moveV rfl (hn rfl) rfl rfl) ?_
      refine ARun.nil ?_
      refine ⟨i + 1, ?_, ?_, Le.forgetR rfl ⟨rfl, rfl, rfl, rfl, rfl, rfl, trivial⟩ ⟨rfl, trivial⟩ trivial⟩
      · try dsimp only
        exact ⟨by omega, upto hall (by rw [blk, beq_toNat h0]; grind)⟩
      · try dsimp only
        omega
  · try simp only [nrm] at c1
    refine AWp.exit ?_
    refine AWp.seq (AWp.region ?_)
    refine ARun.step rfl (step_assignV rfl (hn rfl) rfl rfl) ?_
    refine ARun.nil ?_
    refine AWp.ret ?_
    refine RetIs.sc (.inr rfl) rfl rfl ?_
    refine congrArg T.bool ?_
    rw [canB, all_of (fun j hj => by rw [hall j (by omega)]; rfl)]
theorem movesI (p : Bk)  : ASpec Tryz.prog 29 [.agg (p.cells 105)] (.one (strs (movesB p))) := by
  refine ASpec.body Tryz.func29 rfl [2] rfl 27 rfl rfl rfl ?_
  refine AWp.aggLe 0 rfl (fun hc => ?_)
  have hl : p.bs.length ≤ 9223372036854775807 := hc (.v (bts 105 p.bs)) (by exact List.mem_cons_of_mem _ List.mem_cons_self)
  clear hc
  have hml := movesGo_len p
  refine AWp.seq (AWp.region ?_)
  refine ARun.step rfl (step_box_p (m := 1) rfl (hn rfl) rfl rfl rfl rfl rfl) ?_
  refine ARun.step rfl (step_assignV rfl (hn rfl) rfl rfl) ?_
  refine ARun.nil ?_
  refine AWp.seq ?_
  refine AWp.seq (AWp.region ?_)
  refine ARun.step rfl (step_loadS_b rfl (hn rfl) rfl yhSt34 rfl rfl rfl (by decide)) ?_
  refine ARun.step rfl (call_step1 rfl (hn rfl) rfl yhCo26 (.cons rfl (.agg (.cons (.v _) (.cons (.v _) .nil))) (.nil)) (bookOkI _) rfl) ?_
  refine ARun.step rfl (step_not rfl (hn rfl) rfl rfl) ?_
  refine ARun.nil ?_
  refine AWp.cond rfl (fun c1 => ?_) (fun c1 => ?_)
  · try simp only [nrm] at c1
    try have hb5 := bookOk_bs c1
    refine AWp.seq (AWp.region ?_)
    refine ARun.step rfl (step_assignV rfl (hn rfl) rfl rfl) ?_
    refine ARun.nil ?_
    refine AWp.ret ?_
    refine ⟨.inr rfl, [.one (.sl 9 1 0 (fun i => [.str (nth [] i)]))], [], .cons rfl (.one (.nil _ _ _ _)) (.nil _), rfl, ?_⟩
    rw [movesB, if_neg (by simp [c1])]; rfl
  · try simp only [nrm] at c1
    try have hb5 := bookOk_bs c1
    refine AWp.skip ?_
    refine AWp.seq (AWp.region ?_)
    refine ARun.step rfl (step_assignV rfl (hn rfl) rfl rfl) ?_
    refine ARun.nil ?_
    refine AWp.seq ?_
    refine AWp.seq (AWp.region ?_)
    refine ARun.step rfl (step_field_b rfl (hn rfl) rfl yhFo34_1 rfl (by exact List.cons_ne_nil _ _)) ?_
    refine ARun.step rfl (step_load_b rfl (hn rfl) rfl yhSc32 rfl rfl) ?_
    refine ARun.step rfl (step_len_f rfl (hn rfl) rfl yhSl32 rfl) ?_
    refine ARun.step rfl (step_moveV rfl (hn rfl) rfl rfl) ?_
    refine ARun.nil ?_
    refine AWp.block ?_
    refine AWp.le (Le.nilRef 3 3 9 1 (fun i => [.str (nth [] i)]) rfl rfl) ?_
    refine AWp.loopM (fun i : Nat => mkAS 27 [(1, ⟨true, .one (.bptr 1 0)⟩), (3, ⟨true, .one (.ref ⟨.arr 3 0, []⟩)⟩), (10, ⟨true, .one (.v (bts 105 p.bs))⟩), (11, ⟨true, .one (.v (.int .i64 ((p.bs).length : Nat)))⟩), (12, ⟨true, .one (.v (.int .i64 (i : Nat)))⟩)] [(1, ((p.cells 105)).map C.v)] [(3, 0, strs (movesGo p i))]) (fun i => i ≤ p.bs.length) (fun i => p.bs.length - i) 0 ?_ (Le.forgetR rfl ⟨rfl, rfl, rfl, rfl, rfl, trivial⟩ ⟨rfl, trivial⟩ ⟨.refl _, trivial⟩) ?_
    · try dsimp only
      omega
    rintro i hi
    refine AWp.seq (AWp.region ?_)
    refine ARun.step rfl (step_lss rfl (hn rfl) rfl rfl rfl) ?_
    refine ARun.nil ?_
    refine AWp.seq ?_
    refine AWp.cond rfl (fun c2 => ?_) (fun c2 => ?_)
    · try simp only [nrm] at c2
      try have hml := movesGo_len p i
      refine AWp.skip ?_
      refine AWp.seq ?_
      refine AWp.block ?_
      refine AWp.seq (AWp.region ?_)
      refine ARun.step rfl (step_moveV rfl (hn rfl) rfl rfl) ?_
      refine ARun.step rfl (step_index_fN rfl (hn rfl) rfl yhSl32 rfl rfl (by omega)) ?_
      refine ARun.step rfl (step_loadS_f rfl (hn rfl) rfl yhSt105 rfl (hn rfl) rfl rfl) ?_
      refine ARun.step rfl (step_alloc_p rfl (hn rfl) rfl yhZs105) ?_
      refine ARun.step rfl (step_assignV rfl (hn rfl) rfl rfl) ?_
      refine ARun.step rfl (step_store_p rfl rfl yhCs105 rfl rfl rfl rfl rfl rfl rfl) ?_
      refine ARun.nil ?_
      refine AWp.seq (AWp.region ?_)
      refine ARun.step rfl (step_loadS_b rfl (hn rfl) rfl yhSt34 rfl rfl rfl (by decide)) ?_
      refine ARun.step rfl (step_moveV rfl (hn rfl) rfl rfl) ?_
      refine ARun.step rfl (call_step1 rfl (hn rfl) rfl yhCo91 (.cons rfl (.agg (.cons (.v _) (.cons (.v _) .nil))) (.cons rfl (.one (.v _)) (.cons rfl (.one (.nil _ _ _)) (.nil)))) (canI _ _ [] (by omega) (by omega)) rfl) ?_
      refine ARun.nil ?_
      refine AWp.cond rfl (fun c3 => ?_) (fun c3 => ?_)
      · try simp only [nrm] at c3
        refine AWp.region ?_
        refine ARun.step rfl (step_moveV rfl (hn rfl) rfl rfl) ?_
        refine ARun.step rfl (step_field_b rfl (hn rfl) rfl yhFo105_0 rfl (by exact List.cons_ne_nil _ _)) ?_
        refine ARun.step rfl (step_load_b rfl (hn rfl) rfl yhSc9 rfl rfl) ?_
        refine ARun.step rfl (step_buildVT rfl (hn rfl) rfl yhSl22 (strs [_]) (.cons rfl rfl rfl rfl (.nil _)) rfl rfl rfl (rows1 rfl)) ?_
        refine ARun.step rfl (step_append_strs rfl (hn rfl) rfl yhSl22 rfl rfl rfl (.v _) (by first | omega | (simp only [List.length_cons, List.length_nil, List.length_append, List.length_take, List.length_drop]; omega)) (by first | omega | (simp only [List.length_cons, List.length_nil, List.length_append, List.length_take, List.length_drop]; omega))) ?_
        refine ARun.step rfl (step_assignV rfl (hn rfl) rfl rfl) ?_
        refine ARun.nil ?_
        refine AWp.region ?_
        refine ARun.step rfl (step_addI rfl (hn rfl) rfl rfl rfl (by omega) (by omega)) ?_
        refine ARun.step rfl (step_moveV rfl (hn rfl) rfl rfl) ?_
        refine ARun.nil ?_
        refine ⟨i + 1, ?_, ?_, Le.forgetR rfl ⟨rfl, rfl, rfl, rfl, rfl, trivial⟩ ⟨rfl, trivial⟩ ⟨(by first | exact eqv_strs (movesGo_yes (by assumption)) | exact eqv_strs (movesGo_no (by assumption))), trivial⟩⟩
        · try dsimp only
          omega
        · try dsimp only
          omega
      · try simp only [nrm] at c3
        refine AWp.skip ?_
        refine AWp.region ?_
        refine ARun.step rfl (step_addI rfl (hn rfl) rfl rfl rfl (by omega) (by omega)) ?_
        refine ARun.step rfl (step_moveV rfl (hn rfl) rfl rfl) ?_
        refine ARun.nil ?_
        refine ⟨i + 1, ?_, ?_, Le.forgetR rfl ⟨rfl, rfl, rfl, rfl, rfl, trivial⟩ ⟨rfl, trivial⟩ ⟨(by first | exact eqv_strs (movesGo_yes (by assumption)) | exact eqv_strs (movesGo_no (by assumption))), trivial⟩⟩
        · try dsimp only
          omega
        · try dsimp only
          omega
    · try simp only [nrm] at c2
      try have hml := movesGo_len p i
      refine AWp.exit ?_
      refine AWp.seq (AWp.region ?_)
      refine ARun.step rfl (step_moveV rfl (hn rfl) rfl rfl) ?_
      refine ARun.step rfl (step_assignV rfl (hn rfl) rfl rfl) ?_
      refine ARun.nil ?_
      refine AWp.ret ?_
      refine RetIs.ref (.inr rfl) rfl rfl ?_
      rw [show movesB p = movesGo p i by rw [movesB, if_pos c1, show i = p.bs.length by omega]]; rfl
theorem movesIZ (p : Bk) : ASpec Tryz.prog 29 [.agg (p.cells 105)] (.one (.fz (strs (movesB p)))) := (movesI p).letGo (.p (.one (.fz (.refl _))))
theorem l52Next (p : Bk) (l : List Str)  : ASpec Tryz.prog 204 [.agg (p.cells 105), .one (strs l)] (.one (.int .i64 (nextI p l))) := by
  refine ASpec.body Tryz.func204 rfl [4] rfl 29 rfl rfl rfl ?_
  refine AWp.aggLe 0 rfl (fun hc => ?_)
  have hl : p.bs.length ≤ 9223372036854775807 := hc (.v (bts 105 p.bs)) (by exact List.mem_cons_of_mem _ List.mem_cons_self)
  clear hc
  refine AWp.seq (AWp.region ?_)
  refine ARun.step rfl (step_box_p (m := 1) rfl (hn rfl) rfl rfl rfl rfl rfl) ?_
  refine ARun.step rfl (step_assignV rfl (hn rfl) rfl rfl) ?_
  refine ARun.nil ?_
  refine AWp.seq ?_
  refine AWp.seq (AWp.region ?_)
  refine ARun.step rfl (step_assignV rfl (hn rfl) rfl rfl) ?_
  refine ARun.nil ?_
  refine AWp.block ?_
  refine AWp.loopM (fun i : Nat => mkAS 29 [(1, ⟨true, .one (.v (strs l))⟩), (2, ⟨true, .one (.bptr 2 0)⟩), (5, ⟨true, .one (.v (.int .i64 (i : Nat)))⟩)] [(2, ((p.cells 105)).map C.v)] []) (fun i => i ≤ p.bs.length ∧ ∀ j, j < i → nextOk p l j = false) (fun i => p.bs.length - i) 0 ?_ (Le.forgetR rfl ⟨rfl, rfl, rfl, trivial⟩ ⟨rfl, trivial⟩ trivial) ?_
  · try dsimp only
    exact ⟨by omega, by omega⟩
  rintro i ⟨hi, hall⟩
  refine AWp.seq ?_
  refine AWp.seq (AWp.region ?_)
  refine ARun.step rfl (step_moveV rfl (hn rfl) rfl rfl) ?_
  refine ARun.step rfl (step_field_b rfl (hn rfl) rfl yhFo34_1 rfl (by exact List.cons_ne_nil _ _)) ?_
  refine ARun.step rfl (step_load_b rfl (hn rfl) rfl yhSc32 rfl rfl) ?_
  refine ARun.step rfl (step_len_f rfl (hn rfl) rfl yhSl32 rfl) ?_
  refine ARun.step rfl (step_lss rfl (hn rfl) rfl rfl rfl) ?_
  refine ARun.nil ?_
  refine AWp.cond rfl (fun c1 => ?_) (fun c1 => ?_)
  · try simp only [nrm] at c1
    refine AWp.skip ?_
    refine AWp.seq ?_
    refine AWp.block ?_
    refine AWp.seq (AWp.region ?_)
    refine ARun.step rfl (step_moveV rfl (hn rfl) rfl rfl) ?_
    refine ARun.step rfl (step_field_b rfl (hn rfl) rfl yhFo34_1 rfl (by exact List.cons_ne_nil _ _)) ?_
    refine ARun.step rfl (step_load_b rfl (hn rfl) rfl yhSc32 rfl rfl) ?_
    refine ARun.step rfl (step_moveV rfl (hn rfl) rfl rfl) ?_
    refine ARun.step rfl (step_index_fN rfl (hn rfl) rfl yhSl32 rfl rfl (by omega)) ?_
    refine ARun.step rfl (step_field_f rfl (hn rfl) rfl yhFo105_0 rfl) ?_
    refine ARun.step rfl (step_load_f rfl (hn rfl) rfl yhSc9 rfl (hn rfl) rfl) ?_
    refine ARun.step rfl (call_step1 rfl (hn rfl) rfl yhCo87 (.cons rfl (.one (.v _)) (.cons rfl (.one (.v _)) (.nil))) (l51Has _ _) rfl) ?_
    refine ARun.step rfl (step_not rfl (hn rfl) rfl rfl) ?_
    refine ARun.step rfl (step_moveV rfl (hn rfl) rfl rfl) ?_
    refine guardS rfl rfl rfl rfl (hn rfl) (fun g1 g2 => step_loadS_b rfl (hn rfl) rfl yhSt34 rfl rfl rfl (by decide)) ?_
    refine guardS rfl rfl rfl rfl (hn rfl) (fun g1 g2 => step_moveV rfl (hn rfl) rfl rfl) ?_
    refine guardS rfl rfl rfl rfl (hn rfl) (fun g1 g2 => step_moveV rfl (hn rfl) rfl rfl) ?_
    refine guardS rfl rfl rfl rfl (hn rfl) (fun g1 g2 => call_step1 rfl (hn rfl) rfl yhCo232 (.cons (ev_true rfl (by exact flag2 g1 g2)) (.agg (.cons (.v _) (.cons (.v _) .nil))) (.cons (ev_true rfl (by exact flag2 g1 g2)) (.one (.v _)) (.cons (ev_true rfl (by exact flag2 g1 g2)) (.one (.v _)) (.nil)))) (l52Can _ _ _ (by omega) (by omega)) rfl) ?_
    refine ARun.step rfl (step_and rfl (hn rfl) rfl rfl rfl (fun h => (by exact flag1 h))) ?_
    refine ARun.nil ?_
    refine AWp.cond rfl (fun c2 => ?_) (fun c2 => ?_)
    · try simp only [nrm] at c2
      refine AWp.seq (AWp.region ?_)
      refine ARun.step rfl (step_moveV rfl (hn rfl) rfl rfl) ?_
      refine ARun.step rfl (step_assignV rfl (hn rfl) rfl rfl) ?_
      refine ARun.nil ?_
      refine AWp.ret ?_
      refine RetIs.sc (.inr rfl) rfl rfl ?_
      refine congrArg (T.int _) ?_
      rw [nextI, nextB_some hall (by omega) (by rw [nextOk]; grind)]
    · try simp only [nrm] at c2
      refine AWp.skip ?_
      refine AWp.region ?_
      refine ARun.step rfl (step_moveV rfl (hn rfl) rfl rfl) ?_
      refine ARun.step rfl (step_addI rfl (hn rfl) rfl rfl rfl (by omega) (by omega)) ?_
      refine ARun.step rfl (step_assignV rfl (hn rfl) rfl rfl) ?_
      refine ARun.nil ?_
      refine ⟨i + 1, ?_, ?_, Le.forgetR rfl ⟨rfl, rfl, rfl, trivial⟩ ⟨rfl, trivial⟩ trivial⟩
      · try dsimp only
        exact ⟨by omega, upto hall (by rw [nextOk]; grind)⟩
      · try dsimp only
        omega
  · try simp only [nrm] at c1
    refine AWp.exit ?_
    refine AWp.seq (AWp.region ?_)
    refine ARun.step rfl (step_assignV rfl (hn rfl) rfl rfl) ?_
    refine ARun.nil ?_
    refine AWp.ret ?_
    refine RetIs.sc (.inr rfl) rfl rfl ?_
    refine congrArg (T.int _) ?_
    rw [nextI, nextB_none hall (by omega)]
theorem orderI (p : Bk) (hok : bookOk p = true) : ASpec Tryz.prog 81 [.agg (p.cells 105)] (.tup [.one (strs ((orderB p).getD [])), .one (.bool (orderB p).isSome)]) := by
  refine ASpec.body Tryz.func81 rfl [2, 3] rfl 42 rfl rfl rfl ?_
  refine AWp.aggLe 0 rfl (fun hc => ?_)
  have hl : p.bs.length ≤ 9223372036854775807 := hc (.v (bts 105 p.bs)) (by exact List.mem_cons_of_mem _ List.mem_cons_self)
  clear hc
  have hb5 := bookOk_bs hok
  have hgo0 : orderGo p p.bs.length [] = orderB p := by rw [orderB, if_pos hok]
  refine AWp.seq (AWp.region ?_)
  refine ARun.step rfl (step_box_p (m := 1) rfl (hn rfl) rfl rfl rfl rfl rfl) ?_
  refine ARun.step rfl (step_assignV rfl (hn rfl) rfl rfl) ?_
  refine ARun.step rfl (step_assignV rfl (hn rfl) rfl rfl) ?_
  refine ARun.nil ?_
  refine AWp.seq (AWp.region ?_)
  refine ARun.step rfl (step_assignV rfl (hn rfl) rfl rfl) ?_
  refine ARun.nil ?_
  refine AWp.seq ?_
  refine AWp.block ?_
  refine AWp.le (Le.nilRef 4 4 9 1 (fun i => [.str (nth [] i)]) rfl rfl) ?_
  refine AWp.loopM (fun x : List Str => mkAS 42 [(1, ⟨true, .one (.bptr 1 0)⟩), (4, ⟨true, .one (.ref ⟨.arr 4 0, []⟩)⟩)] [(1, ((p.cells 105)).map C.v)] [(4, 0, strs x)]) (fun x => x.length ≤ p.bs.length ∧ orderGo p (p.bs.length - x.length) x = orderB p) (fun x => p.bs.length - x.length) [] ?_ (Le.forgetR rfl ⟨rfl, rfl, trivial⟩ ⟨rfl, trivial⟩ ⟨.refl _, trivial⟩) ?_
  · try dsimp only
    exact ⟨by simp, hgo0⟩
  rintro x ⟨hx5, hgo⟩
  refine AWp.seq ?_
  refine AWp.seq (AWp.region ?_)
  refine ARun.step rfl (step_moveV rfl (hn rfl) rfl rfl) ?_
  refine ARun.step rfl (step_len_r rfl (hn rfl) rfl yhSl22 rfl rfl) ?_
  refine ARun.step rfl (step_field_b rfl (hn rfl) rfl yhFo34_1 rfl (by exact List.cons_ne_nil _ _)) ?_
  refine ARun.step rfl (step_load_b rfl (hn rfl) rfl yhSc32 rfl rfl) ?_
  refine ARun.step rfl (step_len_f rfl (hn rfl) rfl yhSl32 rfl) ?_
  refine ARun.step rfl (step_lss rfl (hn rfl) rfl rfl rfl) ?_
  refine ARun.nil ?_
  refine AWp.cond rfl (fun c1 => ?_) (fun c1 => ?_)
  · try simp only [nrm] at c1
    refine AWp.skip ?_
    refine AWp.block ?_
    refine AWp.seq (AWp.region ?_)
    refine ARun.step rfl (step_assignV rfl (hn rfl) rfl rfl) ?_
    refine ARun.nil ?_
    refine AWp.seq ?_
    refine AWp.seq (AWp.region ?_)
    refine ARun.step rfl (step_field_b rfl (hn rfl) rfl yhFo34_1 rfl (by exact List.cons_ne_nil _ _)) ?_
    refine ARun.step rfl (step_load_b rfl (hn rfl) rfl yhSc32 rfl rfl) ?_
    refine ARun.step rfl (step_len_f rfl (hn rfl) rfl yhSl32 rfl) ?_
    refine ARun.step rfl (step_moveV rfl (hn rfl) rfl rfl) ?_
    refine ARun.nil ?_
    refine AWp.block ?_
    refine AWp.loopM (fun i : Nat => mkAS 42 [(1, ⟨true, .one (.bptr 1 0)⟩), (4, ⟨true, .one (.ref ⟨.arr 4 0, []⟩)⟩), (5, ⟨true, .one (.v (.bool false))⟩), (15, ⟨true, .one (.v (bts 105 p.bs))⟩), (16, ⟨true, .one (.v (.int .i64 ((p.bs).length : Nat)))⟩), (17, ⟨true, .one (.v (.int .i64 (i : Nat)))⟩)] [(1, ((p.cells 105)).map C.v)] [(4, 0, strs x)]) (fun i => i ≤ p.bs.length ∧ ∀ j, j < i → nextOk p x j = false) (fun i => p.bs.length - i) 0 ?_ (Le.forgetR rfl ⟨rfl, rfl, rfl, rfl, rfl, rfl, trivial⟩ ⟨rfl, trivial⟩ ⟨.refl _, trivial⟩) ?_
    · try dsimp only
      exact ⟨by omega, by omega⟩
    rintro i ⟨hi, hall⟩
    refine AWp.seq (AWp.region ?_)
    refine ARun.step rfl (step_lss rfl (hn rfl) rfl rfl rfl) ?_
    refine ARun.nil ?_
    refine AWp.seq ?_
    refine AWp.cond rfl (fun c2 => ?_) (fun c2 => ?_)
    · try simp only [nrm] at c2
      refine AWp.skip ?_
      refine AWp.seq ?_
      refine AWp.block ?_
      refine AWp.seq (AWp.region ?_)
      refine ARun.step rfl (step_moveV rfl (hn rfl) rfl rfl) ?_
      refine ARun.step rfl (step_index_fN rfl (hn rfl) rfl yhSl32 rfl rfl (by omega)) ?_
      refine ARun.step rfl (step_loadS_f rfl (hn rfl) rfl yhSt105 rfl (hn rfl) rfl rfl) ?_
      refine ARun.step rfl (step_alloc_p rfl (hn rfl) rfl yhZs105) ?_
      refine ARun.step rfl (step_assignV rfl (hn rfl) rfl rfl) ?_
      refine ARun.step rfl (step_store_p rfl rfl yhCs105 rfl rfl rfl rfl rfl rfl rfl) ?_
      refine ARun.nil ?_
      refine AWp.seq (AWp.region ?_)
      refine ARun.step rfl (step_moveV rfl (hn rfl) rfl rfl) ?_
      refine ARun.step rfl (step_field_b rfl (hn rfl) rfl yhFo105_0 rfl (by exact List.cons_ne_nil _ _)) ?_
      refine ARun.step rfl (step_load_b rfl (hn rfl) rfl yhSc9 rfl rfl) ?_
      refine ARun.step rfl (call_step1 rfl (hn rfl) rfl yhCo86 (.cons rfl (.one (.ref _ rfl)) (.cons rfl (.one (.v _)) (.nil))) (hasI _ _) rfl) ?_
      refine ARun.step rfl (step_not rfl (hn rfl) rfl rfl) ?_
      refine ARun.step rfl (step_moveV rfl (hn rfl) rfl rfl) ?_
      refine guardS rfl rfl rfl rfl (hn rfl) (fun g1 g2 => step_loadS_b rfl (hn rfl) rfl yhSt34 rfl rfl rfl (by decide)) ?_
      refine guardS rfl rfl rfl rfl (hn rfl) (fun g1 g2 => step_moveV rfl (hn rfl) rfl rfl) ?_
      refine guardS rfl rfl rfl rfl (hn rfl) (fun g1 g2 => step_moveV rfl (hn rfl) rfl rfl) ?_
      refine guardS rfl rfl rfl rfl (hn rfl) (fun g1 g2 => call_step1 rfl (hn rfl) rfl yhCo91 (.cons (ev_true rfl (by exact flag2 g1 g2)) (.agg (.cons (.v _) (.cons (.v _) .nil))) (.cons (ev_true rfl (by exact flag2 g1 g2)) (.one (.v _)) (.cons (ev_true rfl (by exact flag2 g1 g2)) (.one (.ref _ rfl)) (.nil)))) (canI _ _ _ (by omega) (by omega)) rfl) ?_
      refine ARun.step rfl (step_and rfl (hn rfl) rfl rfl rfl (fun h => (by exact flag1 h))) ?_
      refine ARun.nil ?_
      refine AWp.cond rfl (fun c3 => ?_) (fun c3 => ?_)
      · try simp only [nrm] at c3
        refine AWp.seq (AWp.region ?_)
        refine ARun.step rfl (step_moveV rfl (hn rfl) rfl rfl) ?_
        refine ARun.step rfl (step_field_b rfl (hn rfl) rfl yhFo105_0 rfl (by exact List.cons_ne_nil _ _)) ?_
        refine ARun.step rfl (step_load_b rfl (hn rfl) rfl yhSc9 rfl rfl) ?_
        refine ARun.step rfl (step_buildVT rfl (hn rfl) rfl yhSl22 (strs [_]) (.cons rfl rfl rfl rfl (.nil _)) rfl rfl rfl (rows1 rfl)) ?_
        refine ARun.step rfl (step_append_strs rfl (hn rfl) rfl yhSl22 rfl rfl rfl (.v _) (by first | omega | (simp only [List.length_cons, List.length_nil, List.length_append, List.length_take, List.length_drop]; omega)) (by first | omega | (simp only [List.length_cons, List.length_nil, List.length_append, List.length_take, List.length_drop]; omega))) ?_
        refine ARun.step rfl (step_assignV rfl (hn rfl) rfl rfl) ?_
        refine ARun.nil ?_
        refine AWp.seq (AWp.region ?_)
        refine ARun.step rfl (step_assignV rfl (hn rfl) rfl rfl) ?_
        refine ARun.nil ?_
        refine AWp.exit ?_
        refine AWp.seq (AWp.region ?_)
        refine ARun.step rfl (step_moveV rfl (hn rfl) rfl rfl) ?_
        refine ARun.step rfl (step_not rfl (hn rfl) rfl rfl) ?_
        refine ARun.nil ?_
        refine AWp.cond rfl (fun c4 => ?_) (fun c4 => ?_)
        · exact absurd c4 (by decide)
        · try simp only [nrm] at c4
          refine AWp.skip ?_
          refine ⟨x ++ [(nth p.bs i).name], ?_, ?_, Le.forgetR rfl ⟨rfl, rfl, trivial⟩ ⟨rfl, trivial⟩ ⟨.refl _, trivial⟩⟩
          · try dsimp only
            first
              | (exact ⟨by simp; omega, by rw [← orderGo_step (nextB_some hall (by omega) (by rw [nextOk]; grind)) (by omega)]; exact hgo⟩)
              | (exfalso; simp at c5; done)
              | (exfalso; simp at c4; done)
          · try dsimp only
            first
              | (simp; omega)
              | (exfalso; simp at c5; done)
              | (exfalso; simp at c4; done)
      · try simp only [nrm] at c3
        refine AWp.skip ?_
        refine AWp.region ?_
        refine ARun.step rfl (step_addI rfl (hn rfl) rfl rfl rfl (by omega) (by omega)) ?_
        refine ARun.step rfl (step_moveV rfl (hn rfl) rfl rfl) ?_
        refine ARun.nil ?_
        refine ⟨i + 1, ?_, ?_, Le.forgetR rfl ⟨rfl, rfl, rfl, rfl, rfl, rfl, trivial⟩ ⟨rfl, trivial⟩ ⟨.refl _, trivial⟩⟩
        · try dsimp only
          exact ⟨by omega, upto hall (by rw [nextOk]; grind)⟩
        · try dsimp only
          omega
    · try simp only [nrm] at c2
      refine AWp.exit ?_
      refine AWp.seq (AWp.region ?_)
      refine ARun.step rfl (step_moveV rfl (hn rfl) rfl rfl) ?_
      refine ARun.step rfl (step_not rfl (hn rfl) rfl rfl) ?_
      refine ARun.nil ?_
      refine AWp.cond rfl (fun c5 => ?_) (fun c5 => ?_)
      · try simp only [nrm] at c5
        refine AWp.seq (AWp.region ?_)
        refine ARun.step rfl (step_assignV rfl (hn rfl) rfl rfl) ?_
        refine ARun.step rfl (step_assignV rfl (hn rfl) rfl rfl) ?_
        refine ARun.nil ?_
        refine AWp.ret ?_
        refine ⟨.inr rfl, _, _, (.cons rfl (.one (.nil 9 1 (fun i => [.str (nth [] i)]) _)) (.cons rfl (.one (.sc _ _ rfl)) (.nil _))), rfl, ?_⟩
        first
          | (exfalso; simp at c4; done)
          | (rw [show orderB p = none by rw [← hgo]; exact orderGo_stuck (nextB_none hall (by omega)) (by omega)]; rfl)
          | (rw [show orderB p = some x by rw [← hgo]; exact orderGo_end (by omega)]; rfl)
      · exact absurd c5 (by decide)
  · try simp only [nrm] at c1
    refine AWp.exit ?_
    refine AWp.seq (AWp.region ?_)
    refine ARun.step rfl (step_moveV rfl (hn rfl) rfl rfl) ?_
    refine ARun.step rfl (step_assignV rfl (hn rfl) rfl rfl) ?_
    refine ARun.step rfl (step_assignV rfl (hn rfl) rfl rfl) ?_
    refine ARun.nil ?_
    refine AWp.ret ?_
    refine ⟨.inr rfl, _, _, (.cons rfl (.one (.ref _ _ rfl)) (.cons rfl (.one (.sc _ _ rfl)) (.nil _))), rfl, ?_⟩
    first
      | (exfalso; simp at c4; done)
      | (rw [show orderB p = none by rw [← hgo]; exact orderGo_stuck (nextB_none hall (by omega)) (by omega)]; rfl)
      | (rw [show orderB p = some x by rw [← hgo]; exact orderGo_end (by omega)]; rfl)
theorem shareOrderI (p : Bk)  : ASpec Tryz.prog 90 [.agg (p.cells 105)] (.tup [.one (strs ((orderB p).getD [])), .one (.bool (orderB p).isSome)]) := by
  refine ASpec.body Tryz.func90 rfl [2, 3] rfl 11 rfl rfl rfl ?_
  refine AWp.seq (AWp.region ?_)
  refine ARun.step rfl (step_box_p (m := 1) rfl (hn rfl) rfl rfl rfl rfl rfl) ?_
  refine ARun.step rfl (step_assignV rfl (hn rfl) rfl rfl) ?_
  refine ARun.step rfl (step_assignV rfl (hn rfl) rfl rfl) ?_
  refine ARun.nil ?_
  refine AWp.seq ?_
  refine AWp.seq (AWp.region ?_)
  refine ARun.step rfl (step_loadS_b rfl (hn rfl) rfl yhSt34 rfl rfl rfl (by decide)) ?_
  refine ARun.step rfl (call_step1 rfl (hn rfl) rfl yhCo26 (.cons rfl (.agg (.cons (.v _) (.cons (.v _) .nil))) (.nil)) (bookOkI _) rfl) ?_
  refine ARun.step rfl (step_not rfl (hn rfl) rfl rfl) ?_
  refine ARun.nil ?_
  refine AWp.cond rfl (fun c1 => ?_) (fun c1 => ?_)
  · try simp only [nrm] at c1
    refine AWp.seq (AWp.region ?_)
    refine ARun.step rfl (step_assignV rfl (hn rfl) rfl rfl) ?_
    refine ARun.step rfl (step_assignV rfl (hn rfl) rfl rfl) ?_
    refine ARun.nil ?_
    refine AWp.ret ?_
    refine ⟨.inr rfl, _, _, (.cons rfl (.one (.nil 9 1 (fun i => [.str (nth [] i)]) _)) (.cons rfl (.one (.sc _ _ rfl)) (.nil _))), rfl, ?_⟩
    rw [show orderB p = none by rw [orderB, if_neg (by simp [c1])]]
    rfl
  · try simp only [nrm] at c1
    refine AWp.skip ?_
    refine AWp.seq (AWp.region ?_)
    refine ARun.step rfl (step_loadS_b rfl (hn rfl) rfl yhSt34 rfl rfl rfl (by decide)) ?_
    refine ARun.step rfl (call_stepN rfl (hn rfl) rfl yhCo81 (.cons rfl (.agg (.cons (.v _) (.cons (.v _) .nil))) (.nil)) (orderI _ (by assumption)) rfl rfl) ?_
    refine ARun.step rfl (step_extract rfl (hn rfl) rfl rfl rfl (by intro l h; cases h)) ?_
    refine ARun.step rfl (step_extract rfl (hn rfl) rfl rfl rfl (by intro l h; cases h)) ?_
    refine ARun.step rfl (step_assignV rfl (hn rfl) rfl rfl) ?_
    refine ARun.step rfl (step_assignV rfl (hn rfl) rfl rfl) ?_
    refine ARun.nil ?_
    refine AWp.ret ?_
    refine ⟨.inr rfl, _, _, (.cons rfl (.one (.ref _ _ rfl)) (.cons rfl (.one (.sc _ _ rfl)) (.nil _))), rfl, ?_⟩
    rfl
theorem shareOrderS (p : Bk)  : ASpec Tryz.prog 147 [.agg (p.cells 105)] (.tup [.one (strs ((orderB p).getD [])), .one (.bool (orderB p).isSome)]) := by
  refine ASpec.body Tryz.func147 rfl [2, 3] rfl 33 rfl rfl rfl ?_
  refine AWp.aggLe 0 rfl (fun hc => ?_)
  have hl : p.bs.length ≤ 9223372036854775807 := hc (.v (bts 105 p.bs)) (by exact List.mem_cons_of_mem _ List.mem_cons_self)
  clear hc
  refine AWp.seq (AWp.region ?_)
  refine ARun.step rfl (step_box_p (m := 1) rfl (hn rfl) rfl rfl rfl rfl rfl) ?_
  refine ARun.step rfl (step_assignV rfl (hn rfl) rfl rfl) ?_
  refine ARun.step rfl (step_assignV rfl (hn rfl) rfl rfl) ?_
  refine ARun.nil ?_
  refine AWp.seq (AWp.region ?_)
  refine ARun.step rfl (step_build0 rfl (hn rfl) rfl yhSl22) ?_
  refine ARun.step rfl (step_assignV rfl (hn rfl) rfl rfl) ?_
  refine ARun.nil ?_
  refine AWp.seq ?_
  refine AWp.seq (AWp.region ?_)
  refine ARun.step rfl (step_loadS_b rfl (hn rfl) rfl yhSt34 rfl rfl rfl (by decide)) ?_
  refine ARun.step rfl (call_step1 rfl (hn rfl) rfl yhCo74 (.cons rfl (.agg (.cons (.v _) (.cons (.v _) .nil))) (.nil)) (bookOkS _) rfl) ?_
  refine ARun.step rfl (step_not rfl (hn rfl) rfl rfl) ?_
  refine ARun.nil ?_
  refine AWp.cond rfl (fun c1 => ?_) (fun c1 => ?_)
  · try simp only [nrm] at c1
    try have hb5 := bookOk_bs c1
    refine AWp.seq (AWp.region ?_)
    refine ARun.step rfl (step_moveV rfl (hn rfl) rfl rfl) ?_
    refine ARun.step rfl (step_assignV rfl (hn rfl) rfl rfl) ?_
    refine ARun.step rfl (step_assignV rfl (hn rfl) rfl rfl) ?_
    refine ARun.nil ?_
    refine AWp.ret ?_
    refine ⟨.inr rfl, _, _, (.cons rfl (.one (.ref _ _ rfl)) (.cons rfl (.one (.sc _ _ rfl)) (.nil _))), rfl, ?_⟩
    rw [show orderB p = none by rw [orderB, if_neg (by simp [c1])]]
    rfl
  · try simp only [nrm] at c1
    try have hb5 := bookOk_bs c1
    refine AWp.skip ?_
    refine AWp.seq ?_
    refine AWp.block ?_
    refine AWp.loopM (fun x : List Str => mkAS 33 [(1, ⟨true, .one (.bptr 1 0)⟩), (4, ⟨true, .one (.ref ⟨.arr 6 0, []⟩)⟩)] [(1, ((p.cells 105)).map C.v)] [(6, 0, strs x)]) (fun x => x.length ≤ p.bs.length ∧ orderGo p (p.bs.length - x.length) x = orderB p) (fun x => p.bs.length - x.length) [] ?_ (Le.forgetR rfl ⟨rfl, rfl, trivial⟩ ⟨rfl, trivial⟩ ⟨.refl _, trivial⟩) ?_
    · try dsimp only
      exact ⟨by simp, by rw [orderB, if_pos c1]; rfl⟩
    rintro x ⟨hx5, hgo⟩
    refine AWp.seq ?_
    refine AWp.seq (AWp.region ?_)
    refine ARun.step rfl (step_moveV rfl (hn rfl) rfl rfl) ?_
    refine ARun.step rfl (step_len_r rfl (hn rfl) rfl yhSl22 rfl rfl) ?_
    refine ARun.step rfl (step_field_b rfl (hn rfl) rfl yhFo34_1 rfl (by exact List.cons_ne_nil _ _)) ?_
    refine ARun.step rfl (step_load_b rfl (hn rfl) rfl yhSc32 rfl rfl) ?_
    refine ARun.step rfl (step_len_f rfl (hn rfl) rfl yhSl32 rfl) ?_
    refine ARun.step rfl (step_lss rfl (hn rfl) rfl rfl rfl) ?_
    refine ARun.nil ?_
    refine AWp.cond rfl (fun c2 => ?_) (fun c2 => ?_)
    · try simp only [nrm] at c2
      refine AWp.skip ?_
      refine AWp.block ?_
      refine AWp.seq (AWp.region ?_)
      refine ARun.step rfl (step_loadS_b rfl (hn rfl) rfl yhSt34 rfl rfl rfl (by decide)) ?_
      refine ARun.step rfl (step_moveV rfl (hn rfl) rfl rfl) ?_
      refine ARun.step rfl (call_step1 rfl (hn rfl) rfl yhCo204 (.cons rfl (.agg (.cons (.v _) (.cons (.v _) .nil))) (.cons rfl (.one (.ref _ rfl)) (.nil))) (l52Next _ _) rfl) ?_
      refine ARun.step rfl (step_assignV rfl (hn rfl) rfl rfl) ?_
      refine ARun.nil ?_
      refine AWp.seq ?_
      refine AWp.seq (AWp.region ?_)
      refine ARun.step rfl (step_moveV rfl (hn rfl) rfl rfl) ?_
      refine ARun.step rfl (step_lss rfl (hn rfl) rfl rfl rfl) ?_
      refine ARun.nil ?_
      refine AWp.cond rfl (fun c3 => ?_) (fun c3 => ?_)
      · try simp only [nrm] at c3
        have hnx := nextI_neg c3
        refine AWp.seq (AWp.region ?_)
        refine ARun.step rfl (step_build0 rfl (hn rfl) rfl yhSl22) ?_
        refine ARun.step rfl (step_assignV rfl (hn rfl) rfl rfl) ?_
        refine ARun.step rfl (step_assignV rfl (hn rfl) rfl rfl) ?_
        refine ARun.nil ?_
        refine AWp.ret ?_
        refine ⟨.inr rfl, _, _, (.cons rfl (.one (.ref _ _ rfl)) (.cons rfl (.one (.sc _ _ rfl)) (.nil _))), rfl, ?_⟩
        rw [show orderB p = none by rw [← hgo]; exact orderGo_stuck hnx (by omega)]
        rfl
      · try simp only [nrm] at c3
        obtain ⟨i, hnx, hni⟩ := nextI_nn c3
        have hil := nextB_lt hnx
        refine AWp.skip ?_
        refine AWp.region ?_
        refine ARun.step rfl (step_moveV rfl (hn rfl) rfl rfl) ?_
        refine ARun.step rfl (step_field_b rfl (hn rfl) rfl yhFo34_1 rfl (by exact List.cons_ne_nil _ _)) ?_
        refine ARun.step rfl (step_load_b rfl (hn rfl) rfl yhSc32 rfl rfl) ?_
        refine ARun.step rfl (step_moveV rfl (hn rfl) rfl rfl) ?_
        refine ARun.step rfl (step_index_f rfl (hn rfl) rfl yhSl32 rfl rfl (by omega) (by omega)) ?_
        refine ARun.step rfl (step_field_f rfl (hn rfl) rfl yhFo105_0 rfl) ?_
        refine ARun.step rfl (step_load_f rfl (hn rfl) rfl yhSc9 rfl (hn rfl) rfl) ?_
        refine ARun.step rfl (step_buildVT rfl (hn rfl) rfl yhSl22 (strs [_]) (.cons rfl rfl rfl rfl (.nil _)) rfl rfl rfl (rows1 rfl)) ?_
        refine ARun.step rfl (step_append_strs rfl (hn rfl) rfl yhSl22 rfl rfl rfl (.v _) (by first | omega | (simp only [List.length_cons, List.length_nil, List.length_append, List.length_take, List.length_drop]; omega)) (by first | omega | (simp only [List.length_cons, List.length_nil, List.length_append, List.length_take, List.length_drop]; omega))) ?_
        refine ARun.step rfl (step_assignV rfl (hn rfl) rfl rfl) ?_
        refine ARun.nil ?_
        refine ⟨x ++ [(nth p.bs i).name], ?_, ?_, Le.forgetR rfl ⟨rfl, rfl, trivial⟩ ⟨rfl, trivial⟩ ⟨(by rw [hni, Int.toNat_natCast]; exact .refl _), trivial⟩⟩
        · try dsimp only
          exact ⟨by simp; omega, by rw [← orderGo_step hnx (by omega)]; exact hgo⟩
        · try dsimp only
          simp; omega
    · try simp only [nrm] at c2
      refine AWp.exit ?_
      refine AWp.seq (AWp.region ?_)
      refine ARun.step rfl (step_moveV rfl (hn rfl) rfl rfl) ?_
      refine ARun.step rfl (step_assignV rfl (hn rfl) rfl rfl) ?_
      refine ARun.step rfl (step_assignV rfl (hn rfl) rfl rfl) ?_
      refine ARun.nil ?_
      refine AWp.ret ?_
      refine ⟨.inr rfl, _, _, (.cons rfl (.one (.ref _ _ rfl)) (.cons rfl (.one (.sc _ _ rfl)) (.nil _))), rfl, ?_⟩
      rw [show orderB p = some x by rw [← hgo]; exact orderGo_end (by omega)]
      rfl
theorem safeS (p : Bk)  : ASpec Tryz.prog 85 [.agg (p.cells 105)] (.one (.bool (orderB p).isSome)) := by
  refine ASpec.body Tryz.func85 rfl [2] rfl 11 rfl rfl rfl ?_
  refine AWp.seq (AWp.region ?_)
  refine ARun.step rfl (step_box_p (m := 1) rfl (hn rfl) rfl rfl rfl rfl rfl) ?_
  refine ARun.step rfl (step_assignV rfl (hn rfl) rfl rfl) ?_
  refine ARun.nil ?_
  refine AWp.seq (AWp.region ?_)
  refine ARun.step rfl (step_loadS_b rfl (hn rfl) rfl yhSt34 rfl rfl rfl (by decide)) ?_
  refine ARun.step rfl (call_stepN rfl (hn rfl) rfl yhCo147 (.cons rfl (.agg (.cons (.v _) (.cons (.v _) .nil))) (.nil)) (shareOrderS _) rfl rfl) ?_
  refine ARun.step rfl (step_moveV rfl (hn rfl) rfl rfl) ?_
  refine ARun.step rfl (step_extract rfl (hn rfl) rfl rfl rfl (by intro l h; cases h)) ?_
  refine ARun.step rfl (step_extract rfl (hn rfl) rfl rfl rfl (by intro l h; cases h)) ?_
  refine ARun.step rfl (step_assignV rfl (hn rfl) rfl rfl) ?_
  refine ARun.step rfl (step_assignV rfl (hn rfl) rfl rfl) ?_
  refine ARun.nil ?_
  refine AWp.seq (AWp.region ?_)
  refine ARun.step rfl (step_moveV rfl (hn rfl) rfl rfl) ?_
  refine ARun.step rfl (step_assignV rfl (hn rfl) rfl rfl) ?_
  refine ARun.nil ?_
  refine AWp.ret ?_
  refine RetIs.sc (.inr rfl) rfl rfl ?_
  refine congrArg T.bool ?_
  rfl
theorem safeI (p : Bk)  : ASpec Tryz.prog 27 [.agg (p.cells 105)] (.one (.bool (orderB p).isSome)) := by
  refine ASpec.body Tryz.func27 rfl [2] rfl 11 rfl rfl rfl ?_
  refine AWp.seq (AWp.region ?_)
  refine ARun.step rfl (step_box_p (m := 1) rfl (hn rfl) rfl rfl rfl rfl rfl) ?_
  refine ARun.step rfl (step_assignV rfl (hn rfl) rfl rfl) ?_
  refine ARun.nil ?_
  refine AWp.seq (AWp.region ?_)
  refine ARun.step rfl (step_loadS_b rfl (hn rfl) rfl yhSt34 rfl rfl rfl (by decide)) ?_
  refine ARun.step rfl (call_stepN rfl (hn rfl) rfl yhCo90 (.cons rfl (.agg (.cons (.v _) (.cons (.v _) .nil))) (.nil)) (shareOrderI _) rfl rfl) ?_
  refine ARun.step rfl (step_moveV rfl (hn rfl) rfl rfl) ?_
  refine ARun.step rfl (step_extract rfl (hn rfl) rfl rfl rfl (by intro l h; cases h)) ?_
  refine ARun.step rfl (step_extract rfl (hn rfl) rfl rfl rfl (by intro l h; cases h)) ?_
  refine ARun.step rfl (step_assignV rfl (hn rfl) rfl rfl) ?_
  refine ARun.step rfl (step_assignV rfl (hn rfl) rfl rfl) ?_
  refine ARun.nil ?_
  refine AWp.seq (AWp.region ?_)
  refine ARun.step rfl (step_moveV rfl (hn rfl) rfl rfl) ?_
  refine ARun.step rfl (step_assignV rfl (hn rfl) rfl rfl) ?_
  refine ARun.nil ?_
  refine AWp.ret ?_
  refine RetIs.sc (.inr rfl) rfl rfl ?_
  refine congrArg T.bool ?_
  rfl
theorem stuckI (p : Bk)  : ASpec Tryz.prog 28 [.agg (p.cells 105)] (.one (.bool (stuckB p))) := by
  refine ASpec.body Tryz.func28 rfl [2] rfl 17 rfl rfl rfl ?_
  refine AWp.seq (AWp.region ?_)
  refine ARun.step rfl (step_box_p (m := 1) rfl (hn rfl) rfl rfl rfl rfl rfl) ?_
  refine ARun.step rfl (step_assignV rfl (hn rfl) rfl rfl) ?_
  refine ARun.nil ?_
  refine AWp.seq (AWp.region ?_)
  refine ARun.step rfl (step_loadS_b rfl (hn rfl) rfl yhSt34 rfl rfl rfl (by decide)) ?_
  refine ARun.step rfl (call_step1 rfl (hn rfl) rfl yhCo26 (.cons rfl (.agg (.cons (.v _) (.cons (.v _) .nil))) (.nil)) (bookOkI _) rfl) ?_
  refine ARun.step rfl (step_moveV rfl (hn rfl) rfl rfl) ?_
  refine guardS rfl rfl rfl rfl (hn rfl) (fun g1 g2 => step_field_b rfl (hn rfl) rfl yhFo34_1 rfl (by exact List.cons_ne_nil _ _)) ?_
  refine guardS rfl rfl rfl rfl (hn rfl) (fun g1 g2 => step_load_b rfl (hn rfl) rfl yhSc32 (ev_true rfl (by exact flag2 g1 g2)) rfl) ?_
  refine guardS rfl rfl rfl rfl (hn rfl) (fun g1 g2 => step_len_f rfl (hn rfl) rfl yhSl32 (ev_true rfl (by exact flag2 g1 g2))) ?_
  refine guardS rfl rfl rfl rfl (hn rfl) (fun g1 g2 => step_gtr rfl (hn rfl) rfl (ev_true rfl (by exact flag2 g1 g2)) rfl) ?_
  refine ARun.step rfl (step_and rfl (hn rfl) rfl rfl rfl (fun h => (by exact flag1 h))) ?_
  refine ARun.step rfl (step_moveV rfl (hn rfl) rfl rfl) ?_
  refine guardS rfl rfl rfl rfl (hn rfl) (fun g1 g2 => step_loadS_b rfl (hn rfl) rfl yhSt34 rfl rfl rfl (by decide)) ?_
  refine guardS rfl rfl rfl rfl (hn rfl) (fun g1 g2 => call_stepZ rfl (hn rfl) rfl yhCo29 (.cons (ev_true rfl (by exact flag2 g1 g2)) (.agg (.cons (.v _) (.cons (.v _) .nil))) (.nil)) (movesIZ _) rfl rfl) ?_
  refine guardS rfl rfl rfl rfl (hn rfl) (fun g1 g2 => step_len_f rfl (hn rfl) rfl yhSl22 (ev_true rfl (by exact flag2 g1 g2))) ?_
  refine guardS rfl rfl rfl rfl (hn rfl) (fun g1 g2 => step_eql rfl (hn rfl) rfl (ev_true rfl (by exact flag2 g1 g2)) rfl) ?_
  refine ARun.step rfl (step_and rfl (hn rfl) rfl rfl rfl (fun h => (by exact flag1 h))) ?_
  refine ARun.step rfl (step_assignV rfl (hn rfl) rfl rfl) ?_
  refine ARun.nil ?_
  refine AWp.ret ?_
  refine RetIs.sc (.inr rfl) rfl rfl ?_
  refine congrArg T.bool ?_
  rw [stuckB]; simp only [beq_len0, Int.natCast_pos]
theorem copiedI (l : List Str) (hl : l.length ≤ 1048576) : ASpec Tryz.prog 71 [.one (strs l)] (.one (strs l)) := by
  refine ASpec.body Tryz.func71 rfl [2] rfl 5 rfl rfl rfl ?_
  refine AWp.seq (AWp.region ?_)
  refine ARun.step rfl (step_assignV rfl (hn rfl) rfl rfl) ?_
  refine ARun.nil ?_
  refine AWp.seq (AWp.region ?_)
  refine ARun.step rfl (step_moveV rfl (hn rfl) rfl rfl) ?_
  refine ARun.step rfl (step_appendNil rfl (hn rfl) rfl yhSl22 rfl rfl (.v _) (fun _ _ => rfl) (by omega) (by omega)) ?_
  refine ARun.step rfl (step_assignV rfl (hn rfl) rfl rfl) ?_
  refine ARun.nil ?_
  refine AWp.ret ?_
  refine RetIs.ref (.inr rfl) rfl rfl ?_
  rfl
theorem namesC (l : List Str) (hl : l.length ≤ 1048576) : ASpec Tryz.prog 79 [.one (strs l)] (.one (strs l)) := by
  refine ASpec.body Tryz.func79 rfl [2] rfl 6 rfl rfl rfl ?_
  refine AWp.seq (AWp.region ?_)
  refine ARun.step rfl (step_assignV rfl (hn rfl) rfl rfl) ?_
  refine ARun.nil ?_
  refine AWp.seq (AWp.region ?_)
  refine ARun.step rfl (step_build0 rfl (hn rfl) rfl yhSl22) ?_
  refine ARun.step rfl (step_moveV rfl (hn rfl) rfl rfl) ?_
  refine ARun.step rfl (step_append_strs rfl (hn rfl) rfl yhSl22 rfl rfl rfl (.v _) (by first | omega | (simp only [List.length_cons, List.length_nil, List.length_append, List.length_take, List.length_drop]; omega)) (by first | omega | (simp only [List.length_cons, List.length_nil, List.length_append, List.length_take, List.length_drop]; omega))) ?_
  refine ARun.step rfl (step_assignV rfl (hn rfl) rfl rfl) ?_
  refine ARun.nil ?_
  refine AWp.ret ?_
  refine RetIs.ref (.inr rfl) rfl rfl ?_
  rfl
theorem copyI (p : Bk) (hs : smallBk p) : ASpec Tryz.prog 66 [.agg (p.cells 105)] (.agg (p.ocells 105)) := by
  refine ASpec.bodyC Tryz.func66 rfl 2 34 [] rfl rfl 33 rfl rfl rfl ?_
  have hs1 := hs.2.1
  refine AWp.seq (AWp.region ?_)
  refine ARun.step rfl (step_box_p (m := 1) rfl (hn rfl) rfl rfl rfl rfl rfl) ?_
  refine ARun.step rfl (step_alloc_p rfl (hn rfl) rfl yhZs34) ?_
  refine ARun.nil ?_
  refine AWp.seq (AWp.region ?_)
  refine ARun.step rfl (step_field_b rfl (hn rfl) rfl yhFo34_0 rfl (by exact List.cons_ne_nil _ _)) ?_
  refine ARun.step rfl (step_load_b rfl (hn rfl) rfl yhSc22 rfl rfl) ?_
  refine ARun.step rfl (call_stepN rfl (hn rfl) rfl yhCo71 (.cons rfl (.one (.v _)) (.nil)) (copiedI _ hs.1) rfl rfl) ?_
  refine ARun.step rfl (step_build rfl (hn rfl) rfl yhPl34 yhZc34 (.cons rfl rfl rfl rfl (.nil)) rfl) ?_
  refine ARun.step rfl (step_alloc_p rfl (hn rfl) rfl yhZs34) ?_
  refine ARun.step rfl (step_store_r rfl rfl yhCs34 rfl rfl rfl rfl rfl rfl rfl) ?_
  refine ARun.nil ?_
  refine AWp.seq ?_
  refine AWp.seq (AWp.region ?_)
  refine ARun.step rfl (step_field_b rfl (hn rfl) rfl yhFo34_1 rfl (by exact List.cons_ne_nil _ _)) ?_
  refine ARun.step rfl (step_load_b rfl (hn rfl) rfl yhSc32 rfl rfl) ?_
  refine ARun.step rfl (step_len_f rfl (hn rfl) rfl yhSl32 rfl) ?_
  refine ARun.step rfl (step_moveV rfl (hn rfl) rfl rfl) ?_
  refine ARun.nil ?_
  refine AWp.block ?_
  refine AWp.le (Le.nilRefB 3 1 9 105 3 (fun j => (nth p.bs j).cells) _ rfl rfl rfl) ?_
  refine AWp.loopM (fun i : Nat => mkAS 33 [(2, ⟨true, .one (.bptr 2 0)⟩), (3, ⟨true, .one (.bptr 3 0)⟩), (11, ⟨true, .one (.v (bts 105 p.bs))⟩), (12, ⟨true, .one (.v (.int .i64 ((p.bs).length : Nat)))⟩), (13, ⟨true, .one (.v (.int .i64 (i : Nat)))⟩)] [(2, [.any, .any]), (3, [.ref ⟨.arr 8 0, []⟩, .ref ⟨.arr 9 0, []⟩])] [(8, 0, strs p.things), (9, 0, btTo p.bs i)]) (fun i => i ≤ p.bs.length) (fun i => p.bs.length - i) 0 ?_ (Le.forgetR rfl ⟨rfl, rfl, rfl, rfl, rfl, trivial⟩ ⟨rfl, rfl, trivial⟩ ⟨.refl _, .refl _, trivial⟩) ?_
  · try dsimp only
    omega
  rintro i hi
  refine AWp.seq (AWp.region ?_)
  refine ARun.step rfl (step_lss rfl (hn rfl) rfl rfl rfl) ?_
  refine ARun.nil ?_
  refine AWp.seq ?_
  refine AWp.cond rfl (fun c1 => ?_) (fun c1 => ?_)
  · try simp only [nrm] at c1
    refine AWp.skip ?_
    refine AWp.seq ?_
    refine AWp.block ?_
    refine AWp.seq (AWp.region ?_)
    refine ARun.step rfl (step_index_fN rfl (hn rfl) rfl yhSl32 rfl rfl (by omega)) ?_
    refine ARun.step rfl (step_loadS_f rfl (hn rfl) rfl yhSt105 rfl (hn rfl) rfl rfl) ?_
    refine ARun.step rfl (step_alloc_p rfl (hn rfl) rfl yhZs105) ?_
    refine ARun.step rfl (step_store_p rfl rfl yhCs105 rfl rfl rfl rfl rfl rfl rfl) ?_
    refine ARun.nil ?_
    refine AWp.drawM [⟨⟨[.s 3, .b 3], [.s 17], false⟩, none, [23, 26, 28]⟩, ⟨⟨[.s 17, .b 3], [.s 18], false⟩, none, [23, 26, 28]⟩, ⟨⟨[.s 5, .b 5], [.s 19], false⟩, none, [23, 26, 28]⟩, ⟨⟨[.s 19, .b 5], [.s 20], false⟩, none, [23, 26, 28]⟩, ⟨⟨[.s 5, .b 5], [.s 21], false⟩, none, [23, 26, 28]⟩, ⟨⟨[.s 21, .b 5], [.s 22], false⟩, none, [23, 26, 28]⟩, ⟨⟨[.s 22], [.s 23, .a 23 0], false⟩, some 23, [26, 28]⟩, ⟨⟨[.s 5, .b 5], [.s 24], false⟩, none, [23, 26, 28]⟩, ⟨⟨[.s 24, .b 5], [.s 25], false⟩, none, [23, 26, 28]⟩, ⟨⟨[.s 25], [.s 26, .a 26 0], false⟩, some 26, [28]⟩, ⟨⟨[.s 26, .a 26 0, .s 23, .a 23 0, .s 20], [.s 27], false⟩, none, [28]⟩, ⟨⟨[.s 27, .a 23 0, .a 26 0], [.s 28, .a 28 0, .a 23 0, .a 26 0], false⟩, some 28, []⟩, ⟨⟨[], [], true⟩, none, []⟩, ⟨⟨[], [], true⟩, none, []⟩, ⟨⟨[], [], true⟩, none, []⟩] yhMo rfl rfl (Le.forgetR (n := 33) (sl := [(2, _), (3, _), (5, _), (11, _), (12, _), (13, _), (14, _), (15, _), (16, _)]) (bl := [(2, _), (3, _), (5, _)]) (al := [(8, 0, _), (9, 0, _)]) rfl ⟨rfl, rfl, rfl, rfl, rfl, rfl, rfl, rfl, rfl, trivial⟩ ⟨rfl, rfl, rfl, trivial⟩ ⟨.refl _, .refl _, trivial⟩) rfl ?_
    refine FRun.slot rfl (fun τ hN hr => step_field_b rfl (rdN hN (hn rfl)) rfl yhFo34_1 (by exact rdS hr rfl rfl) (by exact rdBne hr rfl (by exact List.cons_ne_nil _ _))) (by exact rfl) ?_
    refine FRun.slot rfl (fun τ hN hr => step_load_b rfl (rdN hN (hn rfl)) rfl yhSc32 (by exact rdS hr rfl rfl) (by exact rdBget hr rfl rfl)) (by exact rfl) ?_
    refine FRun.slot rfl (fun τ hN hr => step_field_b rfl (rdN hN (hn rfl)) rfl yhFo105_0 (by exact rdS hr rfl rfl) (by exact rdBne hr rfl (by exact List.cons_ne_nil _ _))) (by exact rfl) ?_
    refine FRun.slot rfl (fun τ hN hr => step_load_b rfl (rdN hN (hn rfl)) rfl yhSc9 (by exact rdS hr rfl rfl) (by exact rdBget hr rfl rfl)) (by exact rfl) ?_
    refine FRun.slot rfl (fun τ hN hr => step_field_b rfl (rdN hN (hn rfl)) rfl yhFo105_1 (by exact rdS hr rfl rfl) (by exact rdBne hr rfl (by exact List.cons_ne_nil _ _))) (by exact rfl) ?_
    refine FRun.slot rfl (fun τ hN hr => step_load_b rfl (rdN hN (hn rfl)) rfl yhSc22 (by exact rdS hr rfl rfl) (by exact rdBget hr rfl rfl)) (by exact rfl) ?_
    refine FRun.fresh rfl (fun τ hN hr => call_fresh rfl (rdN hN (hn rfl)) rfl yhCo71 (.cons (by exact rdS hr rfl rfl) (.one (.v _)) (.nil)) (copiedI _ (hs.2.2 i (by omega)).1) rfl (by exact rdNoRefs hr rfl rfl)) (by exact rfl) ?_
    refine FRun.slot rfl (fun τ hN hr => step_field_b rfl (rdN hN (hn rfl)) rfl yhFo105_2 (by exact rdS hr rfl rfl) (by exact rdBne hr rfl (by exact List.cons_ne_nil _ _))) (by exact rfl) ?_
    refine FRun.slot rfl (fun τ hN hr => step_load_b rfl (rdN hN (hn rfl)) rfl yhSc22 (by exact rdS hr rfl rfl) (by exact rdBget hr rfl rfl)) (by exact rfl) ?_
    refine FRun.fresh rfl (fun τ hN hr => call_fresh rfl (rdN hN (hn rfl)) rfl yhCo71 (.cons (by exact rdS hr rfl rfl) (.one (.v _)) (.nil)) (copiedI _ (hs.2.2 i (by omega)).2) rfl (by exact rdNoRefs hr rfl rfl)) (by exact rfl) ?_
    refine FRun.slot rfl (fun τ hN hr => step_build rfl (rdN hN (hn rfl)) rfl yhPl105 yhZc105 ((by exact .cons (by exact rdS hr rfl rfl) rfl rfl rfl (.cons (by exact rdS hr rfl rfl) rfl (by exact rdSolid hr rfl rfl) rfl (.cons (by exact rdS hr rfl rfl) rfl (by exact rdSolid hr rfl rfl) rfl (.nil))))) rfl) (by exact rfl) ?_
    refine FRun.build (cs := [.v _, .ref ⟨.arr 23 0, []⟩, .ref ⟨.arr 26 0, []⟩]) (ts := [_, _, _]) rfl rfl (hn rfl) rfl yhSl32 rfl rfl rfl rfl (by intro c hc; cases hc) rfl (by exact ⟨⟨rfl, rfl⟩, ⟨rfl, rfl, rfl, rfl⟩, ⟨rfl, rfl, rfl, rfl⟩, trivial⟩) (by exact rfl) (by exact rfl) ?_
    refine FRun.whole rfl (step_appendM rfl (hn rfl) rfl yhSl32 rfl rfl rfl rfl rfl (solidRows_const rfl) (by omega) (by omega)) (by exact rfl) ?_
    refine FRun.whole rfl (step_field_b rfl (hn rfl) rfl yhFo34_1 rfl (by exact List.cons_ne_nil _ _)) (by exact rfl) ?_
    refine FRun.whole rfl (step_store_r rfl rfl yhCs32 rfl rfl rfl rfl rfl rfl rfl) (by exact rfl) ?_
    refine FRun.nil ?_
    refine AWp.region ?_
    refine ARun.step rfl (step_addI rfl (hn rfl) rfl rfl rfl (by omega) (by omega)) ?_
    refine ARun.step rfl (step_moveV rfl (hn rfl) rfl rfl) ?_
    refine ARun.nil ?_
    refine ⟨i + 1, ?_, ?_, Le.forgetR rfl ⟨rfl, rfl, rfl, rfl, rfl, trivial⟩ ⟨rfl, rfl, trivial⟩ ⟨.refl _, (btTo_next _ _ _ _ (fun _ _ => rfl) rfl), trivial⟩⟩
    · try dsimp only
      omega
    · try dsimp only
      omega
  · try simp only [nrm] at c1
    refine AWp.exit ?_
    refine AWp.seq (AWp.region ?_)
    refine ARun.step rfl (step_loadS_b rfl (hn rfl) rfl yhSt34 rfl rfl rfl (by decide)) ?_
    refine ARun.step rfl (step_store_r rfl rfl yhCs34 rfl rfl rfl rfl rfl rfl rfl) ?_
    refine ARun.nil ?_
    refine AWp.ret ?_
    refine ⟨.inr rfl, 2, 2, _, _, _, yhSt34, by decide, rfl, rfl, rfl, rfl, (.cons rfl (.agg (.cons (.ref _ _ rfl) (.cons (.ref _ _ rfl) (.nil _)))) (.nil _)), rfl, ?_⟩
    refine congrArg PV.agg ?_
    obtain rfl : i = p.bs.length := by omega
    rfl
theorem copyS (p : Bk) (hs : smallBk p) : ASpec Tryz.prog 75 [.agg (p.cells 105)] (.agg (p.ocells 105)) := by
  refine ASpec.bodyC Tryz.func75 rfl 2 34 [] rfl rfl 43 rfl rfl rfl ?_
  have hs1 := hs.2.1
  refine AWp.seq (AWp.region ?_)
  refine ARun.step rfl (step_box_p (m := 1) rfl (hn rfl) rfl rfl rfl rfl rfl) ?_
  refine ARun.step rfl (step_alloc_p rfl (hn rfl) rfl yhZs34) ?_
  refine ARun.nil ?_
  refine AWp.seq (AWp.region ?_)
  refine ARun.step rfl (step_field_b rfl (hn rfl) rfl yhFo34_0 rfl (by exact List.cons_ne_nil _ _)) ?_
  refine ARun.step rfl (step_load_b rfl (hn rfl) rfl yhSc22 rfl rfl) ?_
  refine ARun.step rfl (call_stepN rfl (hn rfl) rfl yhCo79 (.cons rfl (.one (.v _)) (.nil)) (namesC _ hs.1) rfl rfl) ?_
  refine ARun.step rfl (step_build rfl (hn rfl) rfl yhPl34 yhZc34 (.cons rfl rfl rfl rfl (.nil)) rfl) ?_
  refine ARun.step rfl (step_alloc_p rfl (hn rfl) rfl yhZs34) ?_
  refine ARun.step rfl (step_store_r rfl rfl yhCs34 rfl rfl rfl rfl rfl rfl rfl) ?_
  refine ARun.nil ?_
  refine AWp.seq ?_
  refine AWp.seq (AWp.region ?_)
  refine ARun.step rfl (step_assignV rfl (hn rfl) rfl rfl) ?_
  refine ARun.nil ?_
  refine AWp.block ?_
  refine AWp.le (Le.nilRefB 3 1 8 105 3 (fun j => (nth p.bs j).cells) _ rfl rfl rfl) ?_
  refine AWp.loopM (fun i : Nat => mkAS 43 [(1, ⟨true, .one (.bptr 1 0)⟩), (2, ⟨true, .one (.bptr 2 0)⟩), (3, ⟨true, .one (.bptr 3 0)⟩), (4, ⟨true, .one (.v (.int .i64 (i : Nat)))⟩)] [(1, ((p.cells 105)).map C.v), (2, [.any, .any]), (3, [.ref ⟨.arr 7 0, []⟩, .ref ⟨.arr 8 0, []⟩])] [(7, 0, strs p.things), (8, 0, btTo p.bs i)]) (fun i => i ≤ p.bs.length) (fun i => p.bs.length - i) 0 ?_ (Le.forgetR rfl ⟨rfl, rfl, rfl, rfl, trivial⟩ ⟨rfl, rfl, rfl, trivial⟩ ⟨.refl _, .refl _, trivial⟩) ?_
  · try dsimp only
    omega
  rintro i hi
  refine AWp.seq ?_
  refine AWp.seq (AWp.region ?_)
  refine ARun.step rfl (step_moveV rfl (hn rfl) rfl rfl) ?_
  refine ARun.step rfl (step_field_b rfl (hn rfl) rfl yhFo34_1 rfl (by exact List.cons_ne_nil _ _)) ?_
  refine ARun.step rfl (step_load_b rfl (hn rfl) rfl yhSc32 rfl rfl) ?_
  refine ARun.step rfl (step_len_f rfl (hn rfl) rfl yhSl32 rfl) ?_
  refine ARun.step rfl (step_lss rfl (hn rfl) rfl rfl rfl) ?_
  refine ARun.nil ?_
  refine AWp.cond rfl (fun c1 => ?_) (fun c1 => ?_)
  · try simp only [nrm] at c1
    refine AWp.skip ?_
    refine AWp.seq ?_
    refine AWp.block ?_
    refine AWp.drawM [⟨⟨[.s 3, .b 3], [.s 16], false⟩, none, [30, 37, 39]⟩, ⟨⟨[.s 16, .b 3], [.s 17], false⟩, none, [30, 37, 39]⟩, ⟨⟨[.s 1, .b 1], [.s 18], false⟩, none, [30, 37, 39]⟩, ⟨⟨[.s 18, .b 1], [.s 19], false⟩, none, [30, 37, 39]⟩, ⟨⟨[.s 4], [.s 20], false⟩, none, [30, 37, 39]⟩, ⟨⟨[.s 19, .s 20], [.s 21], false⟩, none, [30, 37, 39]⟩, ⟨⟨[.s 21], [.s 22], false⟩, none, [30, 37, 39]⟩, ⟨⟨[.s 22], [.s 23], false⟩, none, [30, 37, 39]⟩, ⟨⟨[.s 1, .b 1], [.s 24], false⟩, none, [30, 37, 39]⟩, ⟨⟨[.s 24, .b 1], [.s 25], false⟩, none, [30, 37, 39]⟩, ⟨⟨[.s 4], [.s 26], false⟩, none, [30, 37, 39]⟩, ⟨⟨[.s 25, .s 26], [.s 27], false⟩, none, [30, 37, 39]⟩, ⟨⟨[.s 27], [.s 28], false⟩, none, [30, 37, 39]⟩, ⟨⟨[.s 28], [.s 29], false⟩, none, [30, 37, 39]⟩, ⟨⟨[.s 29], [.s 30, .a 30 0], false⟩, some 30, [37, 39]⟩, ⟨⟨[.s 1, .b 1], [.s 31], false⟩, none, [30, 37, 39]⟩, ⟨⟨[.s 31, .b 1], [.s 32], false⟩, none, [30, 37, 39]⟩, ⟨⟨[.s 4], [.s 33], false⟩, none, [30, 37, 39]⟩, ⟨⟨[.s 32, .s 33], [.s 34], false⟩, none, [30, 37, 39]⟩, ⟨⟨[.s 34], [.s 35], false⟩, none, [30, 37, 39]⟩, ⟨⟨[.s 35], [.s 36], false⟩, none, [30, 37, 39]⟩, ⟨⟨[.s 36], [.s 37, .a 37 0], false⟩, some 37, [39]⟩, ⟨⟨[.s 37, .a 37 0, .s 30, .a 30 0, .s 23], [.s 38], false⟩, none, [39]⟩, ⟨⟨[.s 38, .a 30 0, .a 37 0], [.s 39, .a 39 0, .a 30 0, .a 37 0], false⟩, some 39, []⟩, ⟨⟨[], [], true⟩, none, []⟩, ⟨⟨[], [], true⟩, none, []⟩, ⟨⟨[], [], true⟩, none, []⟩] yhMo rfl rfl (Le.forgetR (n := 43) (sl := [(1, _), (2, _), (3, _), (4, _), (9, _), (10, _), (11, _), (12, _), (13, _)]) (bl := [(1, _), (2, _), (3, _)]) (al := [(7, 0, _), (8, 0, _)]) rfl ⟨rfl, rfl, rfl, rfl, rfl, rfl, rfl, rfl, rfl, trivial⟩ ⟨rfl, rfl, rfl, trivial⟩ ⟨.refl _, .refl _, trivial⟩) rfl ?_
    refine FRun.slot rfl (fun τ hN hr => step_field_b rfl (rdN hN (hn rfl)) rfl yhFo34_1 (by exact rdS hr rfl rfl) (by exact rdBne hr rfl (by exact List.cons_ne_nil _ _))) (by exact rfl) ?_
    refine FRun.slot rfl (fun τ hN hr => step_load_b rfl (rdN hN (hn rfl)) rfl yhSc32 (by exact rdS hr rfl rfl) (by exact rdBget hr rfl rfl)) (by exact rfl) ?_
    refine FRun.slot rfl (fun τ hN hr => step_field_b rfl (rdN hN (hn rfl)) rfl yhFo34_1 (by exact rdS hr rfl rfl) (by exact rdBne hr rfl (by exact List.cons_ne_nil _ _))) (by exact rfl) ?_
    refine FRun.slot rfl (fun τ hN hr => step_load_b rfl (rdN hN (hn rfl)) rfl yhSc32 (by exact rdS hr rfl rfl) (by exact rdBget hr rfl rfl)) (by exact rfl) ?_
    refine FRun.slot rfl (fun τ hN hr => step_moveV rfl (rdN hN (hn rfl)) rfl (by exact rdS hr rfl rfl)) (by exact rfl) ?_
    refine FRun.slot rfl (fun τ hN hr => step_index_fN rfl (rdN hN (hn rfl)) rfl yhSl32 (by exact rdS hr rfl rfl) (by exact rdS hr rfl rfl) (by omega)) (by exact rfl) ?_
    refine FRun.slot rfl (fun τ hN hr => step_field_f rfl (rdN hN (hn rfl)) rfl yhFo105_0 (by exact rdS hr rfl rfl)) (by exact rfl) ?_
    refine FRun.slot rfl (fun τ hN hr => step_load_f rfl (rdN hN (hn rfl)) rfl yhSc9 (by exact rdS hr rfl rfl) (hn rfl) rfl) (by exact rfl) ?_
    refine FRun.slot rfl (fun τ hN hr => step_field_b rfl (rdN hN (hn rfl)) rfl yhFo34_1 (by exact rdS hr rfl rfl) (by exact rdBne hr rfl (by exact List.cons_ne_nil _ _))) (by exact rfl) ?_
    refine FRun.slot rfl (fun τ hN hr => step_load_b rfl (rdN hN (hn rfl)) rfl yhSc32 (by exact rdS hr rfl rfl) (by exact rdBget hr rfl rfl)) (by exact rfl) ?_
    refine FRun.slot rfl (fun τ hN hr => step_moveV rfl (rdN hN (hn rfl)) rfl (by exact rdS hr rfl rfl)) (by exact rfl) ?_
    refine FRun.slot rfl (fun τ hN hr => step_index_fN rfl (rdN hN (hn rfl)) rfl yhSl32 (by exact rdS hr rfl rfl) (by exact rdS hr rfl rfl) (by omega)) (by exact rfl) ?_
    refine FRun.slot rfl (fun τ hN hr => step_field_f rfl (rdN hN (hn rfl)) rfl yhFo105_1 (by exact rdS hr rfl rfl)) (by exact rfl) ?_
    refine FRun.slot rfl (fun τ hN hr => step_load_f rfl (rdN hN (hn rfl)) rfl yhSc22 (by exact rdS hr rfl rfl) (hn rfl) rfl) (by exact rfl) ?_
    refine FRun.fresh rfl (fun τ hN hr => call_fresh rfl (rdN hN (hn rfl)) rfl yhCo79 (.cons (by exact rdS hr rfl rfl) (.one (.v _)) (.nil)) (namesC _ (hs.2.2 i (by omega)).1) rfl (by exact rdNoRefs hr rfl rfl)) (by exact rfl) ?_
    refine FRun.slot rfl (fun τ hN hr => step_field_b rfl (rdN hN (hn rfl)) rfl yhFo34_1 (by exact rdS hr rfl rfl) (by exact rdBne hr rfl (by exact List.cons_ne_nil _ _))) (by exact rfl) ?_
    refine FRun.slot rfl (fun τ hN hr => step_load_b rfl (rdN hN (hn rfl)) rfl yhSc32 (by exact rdS hr rfl rfl) (by exact rdBget hr rfl rfl)) (by exact rfl) ?_
    refine FRun.slot rfl (fun τ hN hr => step_moveV rfl (rdN hN (hn rfl)) rfl (by exact rdS hr rfl rfl)) (by exact rfl) ?_
    refine FRun.slot rfl (fun τ hN hr => step_index_fN rfl (rdN hN (hn rfl)) rfl yhSl32 (by exact rdS hr rfl rfl) (by exact rdS hr rfl rfl) (by omega)) (by exact rfl) ?_
    refine FRun.slot rfl (fun τ hN hr => step_field_f rfl (rdN hN (hn rfl)) rfl yhFo105_2 (by exact rdS hr rfl rfl)) (by exact rfl) ?_
    refine FRun.slot rfl (fun τ hN hr => step_load_f rfl (rdN hN (hn rfl)) rfl yhSc22 (by exact rdS hr rfl rfl) (hn rfl) rfl) (by exact rfl) ?_
    refine FRun.fresh rfl (fun τ hN hr => call_fresh rfl (rdN hN (hn rfl)) rfl yhCo79 (.cons (by exact rdS hr rfl rfl) (.one (.v _)) (.nil)) (namesC _ (hs.2.2 i (by omega)).2) rfl (by exact rdNoRefs hr rfl rfl)) (by exact rfl) ?_
    refine FRun.slot rfl (fun τ hN hr => step_build rfl (rdN hN (hn rfl)) rfl yhPl105 yhZc105 ((by exact .cons (by exact rdS hr rfl rfl) rfl rfl rfl (.cons (by exact rdS hr rfl rfl) rfl (by exact rdSolid hr rfl rfl) rfl (.cons (by exact rdS hr rfl rfl) rfl (by exact rdSolid hr rfl rfl) rfl (.nil))))) rfl) (by exact rfl) ?_
    refine FRun.build (cs := [.v _, .ref ⟨.arr 30 0, []⟩, .ref ⟨.arr 37 0, []⟩]) (ts := [_, _, _]) rfl rfl (hn rfl) rfl yhSl32 rfl rfl rfl rfl (by intro c hc; cases hc) rfl (by exact ⟨⟨rfl, rfl⟩, ⟨rfl, rfl, rfl, rfl⟩, ⟨rfl, rfl, rfl, rfl⟩, trivial⟩) (by exact rfl) (by exact rfl) ?_
    refine FRun.whole rfl (step_appendM rfl (hn rfl) rfl yhSl32 rfl rfl rfl rfl rfl (solidRows_const rfl) (by omega) (by omega)) (by exact rfl) ?_
    refine FRun.whole rfl (step_field_b rfl (hn rfl) rfl yhFo34_1 rfl (by exact List.cons_ne_nil _ _)) (by exact rfl) ?_
    refine FRun.whole rfl (step_store_r rfl rfl yhCs32 rfl rfl rfl rfl rfl rfl rfl) (by exact rfl) ?_
    refine FRun.nil ?_
    refine AWp.region ?_
    refine ARun.step rfl (step_moveV rfl (hn rfl) rfl rfl) ?_
    refine ARun.step rfl (step_addI rfl (hn rfl) rfl rfl rfl (by omega) (by omega)) ?_
    refine ARun.step rfl (step_assignV rfl (hn rfl) rfl rfl) ?_
    refine ARun.nil ?_
    refine ⟨i + 1, ?_, ?_, Le.forgetR rfl ⟨rfl, rfl, rfl, rfl, trivial⟩ ⟨rfl, rfl, rfl, trivial⟩ ⟨.refl _, (btTo_next _ _ _ _ (fun _ _ => rfl) rfl), trivial⟩⟩
    · try dsimp only
      omega
    · try dsimp only
      omega
  · try simp only [nrm] at c1
    refine AWp.exit ?_
    refine AWp.seq (AWp.region ?_)
    refine ARun.step rfl (step_loadS_b rfl (hn rfl) rfl yhSt34 rfl rfl rfl (by decide)) ?_
    refine ARun.step rfl (step_store_r rfl rfl yhCs34 rfl rfl rfl rfl rfl rfl rfl) ?_
    refine ARun.nil ?_
    refine AWp.ret ?_
    refine ⟨.inr rfl, 2, 2, _, _, _, yhSt34, by decide, rfl, rfl, rfl, rfl, (.cons rfl (.agg (.cons (.ref _ _ rfl) (.cons (.ref _ _ rfl) (.nil _)))) (.nil _)), rfl, ?_⟩
    refine congrArg PV.agg ?_
    obtain rfl : i = p.bs.length := by omega
    rfl
theorem lessI (p : Bk) (s : Str) (l : List Str) (hs : smallBk p) (hl : l.length ≤ 1048576) : ASpec Tryz.prog 21 [.agg (p.cells 105), .one (.str s), .one (strs l)] (.tup [.agg ((lessR p s l).1.ocells 105), .one (.int .i64 (lessR p s l).2)]) := by
  refine ASpec.bodyC Tryz.func21 rfl 6 34 [7] rfl rfl 70 rfl rfl rfl ?_
  have hs1 := hs.2.1
  have hix := idxB_lt p s
  refine AWp.seq (AWp.region ?_)
  refine ARun.step rfl (step_box_p (m := 1) rfl (hn rfl) rfl rfl rfl rfl rfl) ?_
  refine ARun.step rfl (step_alloc_p rfl (hn rfl) rfl yhZs34) ?_
  refine ARun.step rfl (step_assignV rfl (hn rfl) rfl rfl) ?_
  refine ARun.nil ?_
  refine AWp.seq ?_
  refine AWp.seq (AWp.region ?_)
  refine ARun.step rfl (step_loadS_b rfl (hn rfl) rfl yhSt34 rfl rfl rfl (by decide)) ?_
  refine ARun.step rfl (call_step1 rfl (hn rfl) rfl yhCo26 (.cons rfl (.agg (.cons (.v _) (.cons (.v _) .nil))) (.nil)) (bookOkI _) rfl) ?_
  refine ARun.step rfl (step_not rfl (hn rfl) rfl rfl) ?_
  refine ARun.nil ?_
  refine AWp.cond rfl (fun c1 => ?_) (fun c1 => ?_)
  · try simp only [nrm] at c1
    refine AWp.seq (AWp.region ?_)
    refine ARun.step rfl (step_build rfl (hn rfl) rfl yhPl34 yhZc34 (.nil) rfl) ?_
    refine ARun.step rfl (step_store_p rfl rfl yhCs34 rfl rfl rfl rfl rfl rfl rfl) ?_
    refine ARun.step rfl (step_assignV rfl (hn rfl) rfl rfl) ?_
    refine ARun.nil ?_
    refine AWp.ret ?_
    refine ⟨.inr rfl, 6, 2, _, _, _, yhSt34, by decide, rfl, rfl, rfl, rfl, (.cons rfl (.agg (.cons (.nil 9 1 (fun i => [.str (nth [] i)]) _) (.cons (.nil 105 3 (fun i => (nth ([] : List Bt) i).cells) _) (.nil _)))) (.cons rfl (.one (.sc _ _ rfl)) (.nil _))), rfl, ?_⟩
    rw [show lessR p s l = (emptyBk, 1) by simp [lessR, *]]
    rfl
  · try simp only [nrm] at c1
    refine AWp.skip ?_
    refine AWp.seq (AWp.region ?_)
    refine ARun.step rfl (step_loadS_b rfl (hn rfl) rfl yhSt34 rfl rfl rfl (by decide)) ?_
    refine ARun.step rfl (call_stepN rfl (hn rfl) rfl yhCo66 (.cons rfl (.agg (.cons (.v _) (.cons (.v _) .nil))) (.nil)) (copyI _ hs) rfl rfl) ?_
    refine ARun.step rfl (step_alloc_p rfl (hn rfl) rfl yhZs34) ?_
    refine ARun.step rfl (step_store_r rfl rfl yhCs34 rfl rfl rfl rfl rfl rfl rfl) ?_
    refine ARun.nil ?_
    refine AWp.seq (AWp.region ?_)
    refine ARun.step rfl (step_loadS_b rfl (hn rfl) rfl yhSt34 rfl rfl rfl (by decide)) ?_
    refine ARun.step rfl (step_moveV rfl (hn rfl) rfl rfl) ?_
    refine ARun.step rfl (call_step1 rfl (hn rfl) rfl yhCo70 (.cons rfl (.agg (.cons (.ref _ rfl) (.cons (.refz _ rfl (fz_bts _ _)) .nil))) (.cons rfl (.one (.v _)) (.nil))) (batchI _ _) rfl) ?_
    refine ARun.step rfl (step_assignV rfl (hn rfl) rfl rfl) ?_
    refine ARun.nil ?_
    refine AWp.seq ?_
    refine AWp.seq (AWp.region ?_)
    refine ARun.step rfl (step_moveV rfl (hn rfl) rfl rfl) ?_
    refine ARun.step rfl (step_lss rfl (hn rfl) rfl rfl rfl) ?_
    refine ARun.nil ?_
    refine AWp.cond rfl (fun c2 => ?_) (fun c2 => ?_)
    · try simp only [nrm] at c2
      refine AWp.seq (AWp.region ?_)
      refine ARun.step rfl (step_loadS_b rfl (hn rfl) rfl yhSt34 rfl rfl rfl (by decide)) ?_
      refine ARun.step rfl (step_store_r rfl rfl yhCs34 rfl rfl rfl rfl rfl rfl rfl) ?_
      refine ARun.step rfl (step_assignV rfl (hn rfl) rfl rfl) ?_
      refine ARun.nil ?_
      refine AWp.ret ?_
      refine ⟨.inr rfl, 6, 2, _, _, _, yhSt34, by decide, rfl, rfl, rfl, rfl, (.cons rfl (.agg (.cons (.ref _ _ rfl) (.cons (.ref _ _ rfl) (.nil _)))) (.cons rfl (.one (.sc _ _ rfl)) (.nil _))), rfl, ?_⟩
      rw [show lessR p s l = (p, 3) by simp [lessR, *]]
      rfl
    · try simp only [nrm] at c2
      have hzb := (hs.2.2 (idxB p s).toNat (by omega)).1
      refine AWp.skip ?_
      refine AWp.seq (AWp.region ?_)
      refine ARun.step rfl (step_field_b rfl (hn rfl) rfl yhFo34_1 rfl (by exact List.cons_ne_nil _ _)) ?_
      refine ARun.step rfl (step_load_b rfl (hn rfl) rfl yhSc32 rfl rfl) ?_
      refine ARun.step rfl (step_moveV rfl (hn rfl) rfl rfl) ?_
      refine ARun.step rfl (step_index_r rfl (hn rfl) rfl yhSl32 rfl rfl rfl (by omega) (by omega)) ?_
      refine ARun.step rfl (step_assignV rfl (hn rfl) rfl rfl) ?_
      refine ARun.nil ?_
      refine AWp.seq ?_
      refine AWp.seq (AWp.region ?_)
      refine ARun.step rfl (step_moveV rfl (hn rfl) rfl rfl) ?_
      refine ARun.step rfl (call_step1 rfl (hn rfl) rfl yhCo68 (.cons rfl (.one (.v _)) (.nil)) (risingI _) rfl) ?_
      refine ARun.step rfl (step_not rfl (hn rfl) rfl rfl) ?_
      refine ARun.step rfl (step_moveV rfl (hn rfl) rfl rfl) ?_
      refine guardS rfl rfl rfl rfl (hn rfl) (fun g1 g2 => step_moveV rfl (hn rfl) rfl rfl) ?_
      refine guardS rfl rfl rfl rfl (hn rfl) (fun g1 g2 => step_moveV rfl (hn rfl) rfl rfl) ?_
      refine guardS rfl rfl rfl rfl (hn rfl) (fun g1 g2 => step_nilE rfl (hn rfl) rfl (ev_true rfl (by exact flag2 g1 g2)) rfl) ?_
      refine guardS rfl rfl rfl rfl (hn rfl) (fun g1 g2 => step_field_e rfl (hn rfl) rfl yhFo105_2 (ev_true rfl (by exact flag2 g1 g2)) rfl) ?_
      refine guardS rfl rfl rfl rfl (hn rfl) (fun g1 g2 => step_load_e rfl (hn rfl) rfl yhSc22 (ev_true rfl (by exact flag2 g1 g2)) rfl (by first | omega | (have := of_decide_eq_true g2; omega) | (have := of_decide_eq_false g2; omega) | (simp only [nrm] at g2; omega) | (simp only [nrm, Bool.true_and] at g1 g2; omega)) (hn rfl) rfl) ?_
      refine guardS rfl rfl rfl rfl (hn rfl) (fun g1 g2 => call_step1 rfl (hn rfl) rfl yhCo69 (.cons (ev_true rfl (by exact flag2 g1 g2)) (.one (.v _)) (.cons (ev_true rfl (by exact flag2 g1 g2)) (.one (.ref _ ((node_push _ _ _ _ rfl (by omega)).trans rfl))) (.nil))) (withinI _ _) rfl) ?_
      refine guardS rfl rfl rfl rfl (hn rfl) (fun g1 g2 => step_not rfl (hn rfl) rfl (ev_true rfl (by exact flag2 g1 g2))) ?_
      refine ARun.step rfl (step_or rfl (hn rfl) rfl rfl rfl (fun h => (by exact flag1 h))) ?_
      refine ARun.nil ?_
      refine AWp.cond rfl (fun c3 => ?_) (fun c3 => ?_)
      · try simp only [nrm] at c3
        refine AWp.seq (AWp.region ?_)
        refine ARun.step rfl (step_loadS_b rfl (hn rfl) rfl yhSt34 rfl rfl rfl (by decide)) ?_
        refine ARun.step rfl (step_store_r rfl rfl yhCs34 rfl rfl rfl rfl rfl rfl rfl) ?_
        refine ARun.step rfl (step_assignV rfl (hn rfl) rfl rfl) ?_
        refine ARun.nil ?_
        refine AWp.ret ?_
        refine ⟨.inr rfl, 6, 2, _, _, _, yhSt34, by decide, rfl, rfl, rfl, rfl, (.cons rfl (.agg (.cons (.ref _ _ rfl) (.cons (.ref _ _ rfl) (.nil _)))) (.cons rfl (.one (.sc _ _ rfl)) (.nil _))), rfl, ?_⟩
        rw [show lessR p s l = (p, 2) by simp [lessR, *]; try grind]
        rfl
      · try simp only [nrm] at c3
        refine AWp.skip ?_
        refine AWp.seq (AWp.region ?_)
        refine ARun.step rfl (step_assignV rfl (hn rfl) rfl rfl) ?_
        refine ARun.nil ?_
        refine AWp.seq ?_
        refine AWp.seq (AWp.region ?_)
        refine ARun.step rfl (step_moveV rfl (hn rfl) rfl rfl) ?_
        refine ARun.step rfl (step_nilE rfl (hn rfl) rfl rfl rfl) ?_
        refine ARun.step rfl (step_field_e rfl (hn rfl) rfl yhFo105_1 rfl rfl) ?_
        refine ARun.step rfl (step_load_e rfl (hn rfl) rfl yhSc22 rfl rfl (by omega) (hn rfl) rfl) ?_
        refine ARun.step rfl (step_len_r rfl (hn rfl) rfl yhSl22 rfl ((node_push _ _ _ _ rfl (by omega)).trans rfl)) ?_
        refine ARun.step rfl (step_moveV rfl (hn rfl) rfl rfl) ?_
        refine ARun.nil ?_
        refine AWp.block ?_
        refine AWp.le (Le.nilRef 11 11 9 1 (fun i => [.str (nth [] i)]) rfl rfl) ?_
        refine AWp.loopM (fun i : Nat => mkAS 70 [(2, ⟨true, .one (.v (strs l))⟩), (6, ⟨true, .one (.bptr 6 0)⟩), (8, ⟨true, .one (.bptr 8 0)⟩), (10, ⟨true, .one (.eptr ⟨.arr 19 1, []⟩ (idxB p s).toNat 0)⟩), (11, ⟨true, .one (.ref ⟨.arr 11 0, []⟩)⟩), (46, ⟨true, .one (.ref (Place.push ⟨.arr 19 1, []⟩ (idxB p s).toNat 1))⟩), (47, ⟨true, .one (.v (.int .i64 ((nth p.bs (idxB p s).toNat).has.length : Nat)))⟩), (48, ⟨true, .one (.v (.int .i64 (i : Nat)))⟩)] [(6, [.any, .any]), (8, [.ref ⟨.arr 19 0, []⟩, .ref ⟨.arr 19 1, []⟩])] [(11, 0, strs (filtGo l (nth p.bs (idxB p s).toNat).has i)), (19, 0, strs p.things), (19, 1, btsO 105 p.bs)]) (fun i => i ≤ (nth p.bs (idxB p s).toNat).has.length) (fun i => (nth p.bs (idxB p s).toNat).has.length - i) 0 ?_ (Le.forgetR rfl ⟨rfl, rfl, rfl, rfl, rfl, rfl, rfl, rfl, trivial⟩ ⟨rfl, rfl, trivial⟩ ⟨.refl _, .refl _, .refl _, trivial⟩) ?_
        · try dsimp only
          omega
        rintro i hi
        refine AWp.seq (AWp.region ?_)
        refine ARun.step rfl (step_lss rfl (hn rfl) rfl rfl rfl) ?_
        refine ARun.nil ?_
        refine AWp.seq ?_
        refine AWp.cond rfl (fun c4 => ?_) (fun c4 => ?_)
        · try simp only [nrm] at c4
          have hfl := filtGo_len l (nth p.bs (idxB p s).toNat).has i
          refine AWp.skip ?_
          refine AWp.seq ?_
          refine AWp.block ?_
          refine AWp.seq (AWp.region ?_)
          refine ARun.step rfl (step_index_rN rfl (hn rfl) rfl yhSl22 rfl ((node_push _ _ _ _ rfl (by omega)).trans rfl) rfl (by omega)) ?_
          refine ARun.step rfl (step_load_e rfl (hn rfl) rfl yhSc9 rfl ((node_push _ _ _ _ rfl (by omega)).trans rfl) (by omega) (hn rfl) rfl) ?_
          refine ARun.step rfl (step_assignV rfl (hn rfl) rfl rfl) ?_
          refine ARun.nil ?_
          refine AWp.seq (AWp.region ?_)
          refine ARun.step rfl (step_moveV rfl (hn rfl) rfl rfl) ?_
          refine ARun.step rfl (step_moveV rfl (hn rfl) rfl rfl) ?_
          refine ARun.step rfl (call_step1 rfl (hn rfl) rfl yhCo86 (.cons rfl (.one (.v _)) (.cons rfl (.one (.v _)) (.nil))) (hasI _ _) rfl) ?_
          refine ARun.nil ?_
          refine AWp.cond rfl (fun c5 => ?_) (fun c5 => ?_)
          · try simp only [nrm] at c5
            refine AWp.region ?_
            refine ARun.step rfl (step_moveV rfl (hn rfl) rfl rfl) ?_
            refine ARun.step rfl (step_moveV rfl (hn rfl) rfl rfl) ?_
            refine ARun.step rfl (step_buildVT rfl (hn rfl) rfl yhSl22 (strs [_]) (.cons rfl rfl rfl rfl (.nil _)) rfl rfl rfl (rows1 rfl)) ?_
            refine ARun.step rfl (step_append_strs rfl (hn rfl) rfl yhSl22 rfl rfl rfl (.v _) (by first | omega | (simp only [List.length_cons, List.length_nil, List.length_append, List.length_take, List.length_drop]; omega)) (by first | omega | (simp only [List.length_cons, List.length_nil, List.length_append, List.length_take, List.length_drop]; omega))) ?_
            refine ARun.step rfl (step_assignV rfl (hn rfl) rfl rfl) ?_
            refine ARun.nil ?_
            refine AWp.region ?_
            refine ARun.step rfl (step_addI rfl (hn rfl) rfl rfl rfl (by omega) (by omega)) ?_
            refine ARun.step rfl (step_moveV rfl (hn rfl) rfl rfl) ?_
            refine ARun.nil ?_
            refine ⟨i + 1, ?_, ?_, Le.forgetR rfl ⟨rfl, rfl, rfl, rfl, rfl, rfl, rfl, rfl, trivial⟩ ⟨rfl, rfl, trivial⟩ ⟨(by first | exact eqv_strs (filtGo_yes (by assumption)) | exact eqv_strs (filtGo_no (by assumption))), .refl _, .refl _, trivial⟩⟩
            · try dsimp only
              omega
            · try dsimp only
              omega
          · try simp only [nrm] at c5
            refine AWp.skip ?_
            refine AWp.region ?_
            refine ARun.step rfl (step_addI rfl (hn rfl) rfl rfl rfl (by omega) (by omega)) ?_
            refine ARun.step rfl (step_moveV rfl (hn rfl) rfl rfl) ?_
            refine ARun.nil ?_
            refine ⟨i + 1, ?_, ?_, Le.forgetR rfl ⟨rfl, rfl, rfl, rfl, rfl, rfl, rfl, rfl, trivial⟩ ⟨rfl, rfl, trivial⟩ ⟨(by first | exact eqv_strs (filtGo_yes (by assumption)) | exact eqv_strs (filtGo_no (by assumption))), .refl _, .refl _, trivial⟩⟩
            · try dsimp only
              omega
            · try dsimp only
              omega
        · try simp only [nrm] at c4
          refine AWp.exit ?_
          refine AWp.seq (AWp.region ?_)
          refine ARun.step rfl (step_moveV rfl (hn rfl) rfl rfl) ?_
          refine ARun.step rfl (step_moveV rfl (hn rfl) rfl rfl) ?_
          refine ARun.step rfl (step_moveV rfl (hn rfl) rfl rfl) ?_
          refine ARun.step rfl (step_moveV rfl (hn rfl) rfl rfl) ?_
          refine ARun.step rfl (call_stepN rfl (hn rfl) rfl yhCo71 (.cons rfl (.one (.v _)) (.nil)) (copiedI _ hl) rfl rfl) ?_
          refine ARun.step rfl (step_nilE rfl (hn rfl) rfl rfl rfl) ?_
          refine ARun.step rfl (step_field_e rfl (hn rfl) rfl yhFo105_1 rfl rfl) ?_
          refine ARun.step rfl (step_store_e rfl rfl yhCs22 rfl rfl (by omega) (hn rfl) rfl rfl rfl) ?_
          refine ARun.step rfl (step_nilE rfl (hn rfl) rfl rfl rfl) ?_
          refine ARun.step rfl (step_field_e rfl (hn rfl) rfl yhFo105_2 rfl rfl) ?_
          refine ARun.step rfl (step_store_e rfl rfl yhCs22 rfl rfl (by omega) (hn rfl) rfl rfl rfl) ?_
          refine ARun.nil ?_
          refine AWp.seq (AWp.region ?_)
          refine ARun.step rfl (step_loadS_b rfl (hn rfl) rfl yhSt34 rfl rfl rfl (by decide)) ?_
          refine ARun.step rfl (step_store_r rfl rfl yhCs34 rfl rfl rfl rfl rfl rfl rfl) ?_
          refine ARun.step rfl (step_assignV rfl (hn rfl) rfl rfl) ?_
          refine ARun.nil ?_
          obtain rfl : i = (nth p.bs (idxB p s).toNat).has.length := by omega
          refine AWp.le (Le.retree 19 1 (t := btsO 105 (lessAt p (idxB p s).toNat l).bs) (less_eqv1 (by omega) _ _)) ?_
          refine AWp.ret ?_
          refine ⟨.inr rfl, 6, 2, _, _, _, yhSt34, by decide, rfl, rfl, rfl, rfl, (.cons rfl (.agg (.cons (.ref _ _ rfl) (.cons (.ref _ _ rfl) (.nil _)))) (.cons rfl (.one (.sc _ _ rfl)) (.nil _))), rfl, ?_⟩
          rw [show lessR p s l = (lessAt p (idxB p s).toNat l, 0) by simp [lessR, *]; try grind]
          rfl
theorem lessS (p : Bk) (s : Str) (l : List Str) (hs : smallBk p) (hl : l.length ≤ 1048576) : ASpec Tryz.prog 22 [.agg (p.cells 105), .one (.str s), .one (strs l)] (.tup [.agg ((lessR p s l).1.ocells 105), .one (.int .i64 (lessR p s l).2)]) := by
  refine ASpec.bodyC Tryz.func22 rfl 6 34 [7] rfl rfl 84 rfl rfl rfl ?_
  have hs1 := hs.2.1
  have hix := idxB_lt p s
  refine AWp.seq (AWp.region ?_)
  refine ARun.step rfl (step_box_p (m := 1) rfl (hn rfl) rfl rfl rfl rfl rfl) ?_
  refine ARun.step rfl (step_alloc_p rfl (hn rfl) rfl yhZs34) ?_
  refine ARun.step rfl (step_assignV rfl (hn rfl) rfl rfl) ?_
  refine ARun.nil ?_
  refine AWp.seq ?_
  refine AWp.seq (AWp.region ?_)
  refine ARun.step rfl (step_loadS_b rfl (hn rfl) rfl yhSt34 rfl rfl rfl (by decide)) ?_
  refine ARun.step rfl (call_step1 rfl (hn rfl) rfl yhCo74 (.cons rfl (.agg (.cons (.v _) (.cons (.v _) .nil))) (.nil)) (bookOkS _) rfl) ?_
  refine ARun.step rfl (step_not rfl (hn rfl) rfl rfl) ?_
  refine ARun.nil ?_
  refine AWp.cond rfl (fun c1 => ?_) (fun c1 => ?_)
  · try simp only [nrm] at c1
    refine AWp.seq (AWp.region ?_)
    refine ARun.step rfl (step_build rfl (hn rfl) rfl yhPl34 yhZc34 (.nil) rfl) ?_
    refine ARun.step rfl (step_store_p rfl rfl yhCs34 rfl rfl rfl rfl rfl rfl rfl) ?_
    refine ARun.step rfl (step_assignV rfl (hn rfl) rfl rfl) ?_
    refine ARun.nil ?_
    refine AWp.ret ?_
    refine ⟨.inr rfl, 6, 2, _, _, _, yhSt34, by decide, rfl, rfl, rfl, rfl, (.cons rfl (.agg (.cons (.nil 9 1 (fun i => [.str (nth [] i)]) _) (.cons (.nil 105 3 (fun i => (nth ([] : List Bt) i).cells) _) (.nil _)))) (.cons rfl (.one (.sc _ _ rfl)) (.nil _))), rfl, ?_⟩
    rw [show lessR p s l = (emptyBk, 1) by simp [lessR, *]]
    rfl
  · try simp only [nrm] at c1
    refine AWp.skip ?_
    refine AWp.seq (AWp.region ?_)
    refine ARun.step rfl (step_loadS_b rfl (hn rfl) rfl yhSt34 rfl rfl rfl (by decide)) ?_
    refine ARun.step rfl (call_stepN rfl (hn rfl) rfl yhCo75 (.cons rfl (.agg (.cons (.v _) (.cons (.v _) .nil))) (.nil)) (copyS _ hs) rfl rfl) ?_
    refine ARun.step rfl (step_alloc_p rfl (hn rfl) rfl yhZs34) ?_
    refine ARun.step rfl (step_store_r rfl rfl yhCs34 rfl rfl rfl rfl rfl rfl rfl) ?_
    refine ARun.nil ?_
    refine AWp.seq (AWp.region ?_)
    refine ARun.step rfl (step_loadS_b rfl (hn rfl) rfl yhSt34 rfl rfl rfl (by decide)) ?_
    refine ARun.step rfl (step_moveV rfl (hn rfl) rfl rfl) ?_
    refine ARun.step rfl (call_step1 rfl (hn rfl) rfl yhCo78 (.cons rfl (.agg (.cons (.v _) (.cons (.v _) .nil))) (.cons rfl (.one (.v _)) (.nil))) (l51At _ _) rfl) ?_
    refine ARun.step rfl (step_assignV rfl (hn rfl) rfl rfl) ?_
    refine ARun.nil ?_
    refine AWp.seq ?_
    refine AWp.seq (AWp.region ?_)
    refine ARun.step rfl (step_moveV rfl (hn rfl) rfl rfl) ?_
    refine ARun.step rfl (step_lss rfl (hn rfl) rfl rfl rfl) ?_
    refine ARun.nil ?_
    refine AWp.cond rfl (fun c2 => ?_) (fun c2 => ?_)
    · try simp only [nrm] at c2
      refine AWp.seq (AWp.region ?_)
      refine ARun.step rfl (step_loadS_b rfl (hn rfl) rfl yhSt34 rfl rfl rfl (by decide)) ?_
      refine ARun.step rfl (step_store_r rfl rfl yhCs34 rfl rfl rfl rfl rfl rfl rfl) ?_
      refine ARun.step rfl (step_assignV rfl (hn rfl) rfl rfl) ?_
      refine ARun.nil ?_
      refine AWp.ret ?_
      refine ⟨.inr rfl, 6, 2, _, _, _, yhSt34, by decide, rfl, rfl, rfl, rfl, (.cons rfl (.agg (.cons (.ref _ _ rfl) (.cons (.ref _ _ rfl) (.nil _)))) (.cons rfl (.one (.sc _ _ rfl)) (.nil _))), rfl, ?_⟩
      rw [show lessR p s l = (p, 3) by simp [lessR, *]]
      rfl
    · try simp only [nrm] at c2
      have hzb := (hs.2.2 (idxB p s).toNat (by omega)).1
      refine AWp.skip ?_
      refine AWp.seq ?_
      refine AWp.seq (AWp.region ?_)
      refine ARun.step rfl (step_moveV rfl (hn rfl) rfl rfl) ?_
      refine ARun.step rfl (step_field_b rfl (hn rfl) rfl yhFo34_1 rfl (by exact List.cons_ne_nil _ _)) ?_
      refine ARun.step rfl (step_load_b rfl (hn rfl) rfl yhSc32 rfl rfl) ?_
      refine ARun.step rfl (step_moveV rfl (hn rfl) rfl rfl) ?_
      refine ARun.step rfl (step_index_f rfl (hn rfl) rfl yhSl32 rfl rfl (by omega) (by omega)) ?_
      refine ARun.step rfl (step_field_f rfl (hn rfl) rfl yhFo105_2 rfl) ?_
      refine ARun.step rfl (step_load_f rfl (hn rfl) rfl yhSc22 rfl (hn rfl) rfl) ?_
      refine ARun.step rfl (call_step1 rfl (hn rfl) rfl yhCo77 (.cons rfl (.one (.v _)) (.cons rfl (.one (.v _)) (.nil))) (l51NamesOk _ _) rfl) ?_
      refine ARun.step rfl (step_not rfl (hn rfl) rfl rfl) ?_
      refine ARun.nil ?_
      refine AWp.cond rfl (fun c3 => ?_) (fun c3 => ?_)
      · try simp only [nrm] at c3
        refine AWp.seq (AWp.region ?_)
        refine ARun.step rfl (step_loadS_b rfl (hn rfl) rfl yhSt34 rfl rfl rfl (by decide)) ?_
        refine ARun.step rfl (step_store_r rfl rfl yhCs34 rfl rfl rfl rfl rfl rfl rfl) ?_
        refine ARun.step rfl (step_assignV rfl (hn rfl) rfl rfl) ?_
        refine ARun.nil ?_
        refine AWp.ret ?_
        refine ⟨.inr rfl, 6, 2, _, _, _, yhSt34, by decide, rfl, rfl, rfl, rfl, (.cons rfl (.agg (.cons (.ref _ _ rfl) (.cons (.ref _ _ rfl) (.nil _)))) (.cons rfl (.one (.sc _ _ rfl)) (.nil _))), rfl, ?_⟩
        rw [show lessR p s l = (p, 2) by simp [lessR, *]; try grind]
        rfl
      · try simp only [nrm] at c3
        refine AWp.skip ?_
        refine AWp.seq (AWp.region ?_)
        refine ARun.step rfl (step_build0 rfl (hn rfl) rfl yhSl22) ?_
        refine ARun.step rfl (step_assignV rfl (hn rfl) rfl rfl) ?_
        refine ARun.nil ?_
        refine AWp.seq ?_
        refine AWp.seq (AWp.region ?_)
        refine ARun.step rfl (step_assignV rfl (hn rfl) rfl rfl) ?_
        refine ARun.nil ?_
        refine AWp.block ?_
        refine AWp.loopM (fun i : Nat => mkAS 84 [(2, ⟨true, .one (.v (strs l))⟩), (3, ⟨true, .one (.bptr 3 0)⟩), (6, ⟨true, .one (.bptr 6 0)⟩), (8, ⟨true, .one (.bptr 8 0)⟩), (9, ⟨true, .one (.v (.int .i64 (idxB p s)))⟩), (10, ⟨true, .one (.ref ⟨.arr 34 0, []⟩)⟩), (11, ⟨true, .one (.v (.int .i64 (i : Nat)))⟩)] [(3, ((p.cells 105)).map C.v), (6, [.any, .any]), (8, [.ref ⟨.arr 17 0, []⟩, .ref ⟨.arr 17 1, []⟩])] [(17, 0, strs p.things), (17, 1, btsO 105 p.bs), (34, 0, strs (filtGo l (nth p.bs (idxB p s).toNat).has i))]) (fun i => i ≤ (nth p.bs (idxB p s).toNat).has.length) (fun i => (nth p.bs (idxB p s).toNat).has.length - i) 0 ?_ (Le.forgetR rfl ⟨rfl, rfl, rfl, rfl, rfl, rfl, rfl, trivial⟩ ⟨rfl, rfl, rfl, trivial⟩ ⟨.refl _, .refl _, .refl _, trivial⟩) ?_
        · try dsimp only
          omega
        rintro i hi
        refine AWp.seq ?_
        refine AWp.seq (AWp.region ?_)
        refine ARun.step rfl (step_moveV rfl (hn rfl) rfl rfl) ?_
        refine ARun.step rfl (step_field_b rfl (hn rfl) rfl yhFo34_1 rfl (by exact List.cons_ne_nil _ _)) ?_
        refine ARun.step rfl (step_load_b rfl (hn rfl) rfl yhSc32 rfl rfl) ?_
        refine ARun.step rfl (step_moveV rfl (hn rfl) rfl rfl) ?_
        refine ARun.step rfl (step_index_f rfl (hn rfl) rfl yhSl32 rfl rfl (by omega) (by omega)) ?_
        refine ARun.step rfl (step_field_f rfl (hn rfl) rfl yhFo105_1 rfl) ?_
        refine ARun.step rfl (step_load_f rfl (hn rfl) rfl yhSc22 rfl (hn rfl) rfl) ?_
        refine ARun.step rfl (step_len_f rfl (hn rfl) rfl yhSl22 rfl) ?_
        refine ARun.step rfl (step_lss rfl (hn rfl) rfl rfl rfl) ?_
        refine ARun.nil ?_
        refine AWp.cond rfl (fun c4 => ?_) (fun c4 => ?_)
        · try simp only [nrm] at c4
          have hfl := filtGo_len l (nth p.bs (idxB p s).toNat).has i
          refine AWp.skip ?_
          refine AWp.seq ?_
          refine AWp.block ?_
          refine AWp.seq (AWp.region ?_)
          refine ARun.step rfl (step_moveV rfl (hn rfl) rfl rfl) ?_
          refine ARun.step rfl (step_field_b rfl (hn rfl) rfl yhFo34_1 rfl (by exact List.cons_ne_nil _ _)) ?_
          refine ARun.step rfl (step_load_b rfl (hn rfl) rfl yhSc32 rfl rfl) ?_
          refine ARun.step rfl (step_moveV rfl (hn rfl) rfl rfl) ?_
          refine ARun.step rfl (step_index_f rfl (hn rfl) rfl yhSl32 rfl rfl (by omega) (by omega)) ?_
          refine ARun.step rfl (step_field_f rfl (hn rfl) rfl yhFo105_1 rfl) ?_
          refine ARun.step rfl (step_load_f rfl (hn rfl) rfl yhSc22 rfl (hn rfl) rfl) ?_
          refine ARun.step rfl (step_moveV rfl (hn rfl) rfl rfl) ?_
          refine ARun.step rfl (step_index_fN rfl (hn rfl) rfl yhSl22 rfl rfl (by omega)) ?_
          refine ARun.step rfl (step_load_f rfl (hn rfl) rfl yhSc9 rfl (hn rfl) rfl) ?_
          refine ARun.step rfl (call_step1 rfl (hn rfl) rfl yhCo87 (.cons rfl (.one (.v _)) (.cons rfl (.one (.v _)) (.nil))) (l51Has _ _) rfl) ?_
          refine ARun.nil ?_
          refine AWp.cond rfl (fun c5 => ?_) (fun c5 => ?_)
          · try simp only [nrm] at c5
            refine AWp.region ?_
            refine ARun.step rfl (step_moveV rfl (hn rfl) rfl rfl) ?_
            refine ARun.step rfl (step_field_b rfl (hn rfl) rfl yhFo34_1 rfl (by exact List.cons_ne_nil _ _)) ?_
            refine ARun.step rfl (step_load_b rfl (hn rfl) rfl yhSc32 rfl rfl) ?_
            refine ARun.step rfl (step_moveV rfl (hn rfl) rfl rfl) ?_
            refine ARun.step rfl (step_index_f rfl (hn rfl) rfl yhSl32 rfl rfl (by omega) (by omega)) ?_
            refine ARun.step rfl (step_field_f rfl (hn rfl) rfl yhFo105_1 rfl) ?_
            refine ARun.step rfl (step_load_f rfl (hn rfl) rfl yhSc22 rfl (hn rfl) rfl) ?_
            refine ARun.step rfl (step_moveV rfl (hn rfl) rfl rfl) ?_
            refine ARun.step rfl (step_index_fN rfl (hn rfl) rfl yhSl22 rfl rfl (by omega)) ?_
            refine ARun.step rfl (step_load_f rfl (hn rfl) rfl yhSc9 rfl (hn rfl) rfl) ?_
            refine ARun.step rfl (step_buildVT rfl (hn rfl) rfl yhSl22 (strs [_]) (.cons rfl rfl rfl rfl (.nil _)) rfl rfl rfl (rows1 rfl)) ?_
            refine ARun.step rfl (step_append_strs rfl (hn rfl) rfl yhSl22 rfl rfl rfl (.v _) (by first | omega | (simp only [List.length_cons, List.length_nil, List.length_append, List.length_take, List.length_drop]; omega)) (by first | omega | (simp only [List.length_cons, List.length_nil, List.length_append, List.length_take, List.length_drop]; omega))) ?_
            refine ARun.step rfl (step_assignV rfl (hn rfl) rfl rfl) ?_
            refine ARun.nil ?_
            refine AWp.region ?_
            refine ARun.step rfl (step_moveV rfl (hn rfl) rfl rfl) ?_
            refine ARun.step rfl (step_addI rfl (hn rfl) rfl rfl rfl (by omega) (by omega)) ?_
            refine ARun.step rfl (step_assignV rfl (hn rfl) rfl rfl) ?_
            refine ARun.nil ?_
            refine ⟨i + 1, ?_, ?_, Le.forgetR rfl ⟨rfl, rfl, rfl, rfl, rfl, rfl, rfl, trivial⟩ ⟨rfl, rfl, rfl, trivial⟩ ⟨.refl _, .refl _, (by first | exact eqv_strs (filtGo_yes (by assumption)) | exact eqv_strs (filtGo_no (by assumption))), trivial⟩⟩
            · try dsimp only
              omega
            · try dsimp only
              omega
          · try simp only [nrm] at c5
            refine AWp.skip ?_
            refine AWp.region ?_
            refine ARun.step rfl (step_moveV rfl (hn rfl) rfl rfl) ?_
            refine ARun.step rfl (step_addI rfl (hn rfl) rfl rfl rfl (by omega) (by omega)) ?_
            refine ARun.step rfl (step_assignV rfl (hn rfl) rfl rfl) ?_
            refine ARun.nil ?_
            refine ⟨i + 1, ?_, ?_, Le.forgetR rfl ⟨rfl, rfl, rfl, rfl, rfl, rfl, rfl, trivial⟩ ⟨rfl, rfl, rfl, trivial⟩ ⟨.refl _, .refl _, (by first | exact eqv_strs (filtGo_yes (by assumption)) | exact eqv_strs (filtGo_no (by assumption))), trivial⟩⟩
            · try dsimp only
              omega
            · try dsimp only
              omega
        · try simp only [nrm] at c4
          refine AWp.exit ?_
          refine AWp.seq (AWp.drawM [⟨⟨[.s 8, .b 8], [.s 69], false⟩, none, [73]⟩, ⟨⟨[.s 69, .b 8], [.s 70], false⟩, none, [73]⟩, ⟨⟨[.s 9], [.s 71], false⟩, none, [73]⟩, ⟨⟨[.s 2], [.s 72], false⟩, none, [73]⟩, ⟨⟨[.s 72], [.s 73, .a 73 0], false⟩, some 73, []⟩, ⟨⟨[], [], true⟩, none, []⟩, ⟨⟨[], [], true⟩, none, []⟩, ⟨⟨[], [], true⟩, none, []⟩] yhMo rfl rfl (Le.forgetR (n := 84) (sl := [(2, _), (3, _), (6, _), (8, _), (9, _), (10, _), (11, _), (35, _), (36, _), (37, _), (38, _), (39, _), (40, _), (41, _), (42, _), (43, _)]) (bl := [(3, _), (6, _), (8, _)]) (al := [(17, 0, _), (17, 1, _), (34, 0, _)]) rfl ⟨rfl, rfl, rfl, rfl, rfl, rfl, rfl, rfl, rfl, rfl, rfl, rfl, rfl, rfl, rfl, rfl, trivial⟩ ⟨rfl, rfl, rfl, trivial⟩ ⟨.refl _, .refl _, .refl _, trivial⟩) rfl ?_)
          refine FRun.slot rfl (fun τ hN hr => step_field_b rfl (rdN hN (hn rfl)) rfl yhFo34_1 (by exact rdS hr rfl rfl) (by exact rdBne hr rfl (by exact List.cons_ne_nil _ _))) (by exact rfl) ?_
          refine FRun.slot rfl (fun τ hN hr => step_load_b rfl (rdN hN (hn rfl)) rfl yhSc32 (by exact rdS hr rfl rfl) (by exact rdBget hr rfl rfl)) (by exact rfl) ?_
          refine FRun.slot rfl (fun τ hN hr => step_moveV rfl (rdN hN (hn rfl)) rfl (by exact rdS hr rfl rfl)) (by exact rfl) ?_
          refine FRun.slot rfl (fun τ hN hr => step_moveV rfl (rdN hN (hn rfl)) rfl (by exact rdS hr rfl rfl)) (by exact rfl) ?_
          refine FRun.fresh rfl (fun τ hN hr => call_fresh rfl (rdN hN (hn rfl)) rfl yhCo79 (.cons (by exact rdS hr rfl rfl) (.one (.v _)) (.nil)) (namesC _ hl) rfl (by exact rdNoRefs hr rfl rfl)) (by exact rfl) ?_
          refine FRun.whole rfl (step_index_r rfl (hn rfl) rfl yhSl32 rfl rfl rfl (by omega) (by omega)) (by exact rfl) ?_
          refine FRun.whole rfl (step_field_e rfl (hn rfl) rfl yhFo105_2 rfl rfl) (by exact rfl) ?_
          refine FRun.whole rfl (step_store_e rfl rfl yhCs22 rfl rfl (by omega) (hn rfl) rfl rfl rfl) (by exact rfl) ?_
          refine FRun.nil ?_
          refine AWp.seq (AWp.region ?_)
          refine ARun.step rfl (step_field_b rfl (hn rfl) rfl yhFo34_1 rfl (by exact List.cons_ne_nil _ _)) ?_
          refine ARun.step rfl (step_load_b rfl (hn rfl) rfl yhSc32 rfl rfl) ?_
          refine ARun.step rfl (step_moveV rfl (hn rfl) rfl rfl) ?_
          refine ARun.step rfl (step_moveV rfl (hn rfl) rfl rfl) ?_
          refine ARun.step rfl (step_index_r rfl (hn rfl) rfl yhSl32 rfl rfl rfl (by omega) (by omega)) ?_
          refine ARun.step rfl (step_field_e rfl (hn rfl) rfl yhFo105_1 rfl rfl) ?_
          refine ARun.step rfl (step_store_e rfl rfl yhCs22 rfl rfl (by omega) (hn rfl) rfl rfl rfl) ?_
          refine ARun.nil ?_
          obtain rfl : i = (nth p.bs (idxB p s).toNat).has.length := by omega
          refine AWp.le (Le.retree 17 1 (t := btsO 105 (lessAt p (idxB p s).toNat l).bs) (less_eqv2 (by omega) _ _)) ?_
          refine AWp.seq (AWp.region ?_)
          refine ARun.step rfl (step_loadS_b rfl (hn rfl) rfl yhSt34 rfl rfl rfl (by decide)) ?_
          refine ARun.step rfl (call_stepC rfl (hn rfl) rfl yhCo75 (.cons rfl (.agg (.cons (.ref _ rfl) (.cons (.refz _ rfl (fz_bts _ _)) .nil))) (.nil)) (copyS (lessAt p (idxB p s).toNat l) (small_less hs hl (by omega))) rfl (CleanL.all (.cons (clean_strs _) (.cons (clean_btsO _ _) .nil)))) ?_
          refine ARun.step rfl (step_store_r rfl rfl yhCs34 rfl rfl rfl rfl rfl rfl rfl) ?_
          refine ARun.step rfl (step_assignV rfl (hn rfl) rfl rfl) ?_
          refine ARun.nil ?_
          refine AWp.ret ?_
          refine ⟨.inr rfl, 6, 2, _, _, _, yhSt34, by decide, rfl, rfl, rfl, rfl, (.cons rfl (.agg (.cons (.ref _ _ rfl) (.cons (.ref _ _ rfl) (.nil _)))) (.cons rfl (.one (.sc _ _ rfl)) (.nil _))), rfl, ?_⟩
          rw [show lessR p s l = (lessAt p (idxB p s).toNat l, 0) by simp [lessR, *]; try grind]
          rfl

end Go.Proofs.YtkmacjdigkaabaaGreat
