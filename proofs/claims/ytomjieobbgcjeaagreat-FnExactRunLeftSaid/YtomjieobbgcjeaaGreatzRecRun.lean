/- Contracts of functions of the program, each met by its body; conditions stand in each statement. No condition. -/
import Derived.Test.YtomjieobbgcjeaaGreatzRecB
import Derived.Test.YtomjieobbgcjeaaGreatGh
import Derived.Test.YtomjieobbgcjeaaGreatProg
import Derived.KernelRfl
set_option linter.unusedVariables false
set_option linter.unusedSimpArgs false
set_option linter.unnecessarySimpa false
set_option linter.unusedSimpArgs false
set_option maxRecDepth 100000
namespace Go.Proofs.YtomjieobbgcjeaaGreat
open Go Go.Mh
theorem clean_phs (e : Nat) (l : List Ph) : Mh.Clean (phs e l) := .sl (fun i j hi hj => match j with | 0 => .str _ | 1 => .int _ _ | 2 => .str _ | 3 => .str _ | 4 => .int _ _ | 5 => .int _ _ | 6 => .str _ | 7 => .str _ | _ + 8 => (by omega))
def mkPh (k : Int) : List T := [.str (markT (k + 0)), .int .i64 (k + 1), .str (markT (k + 2)), .str (markT (k + 3)), .int .i64 (k + 4), .int .i64 (k + 5), .str (markT (k + 6)), .str (markT (k + 7))]
def mkLPh (n : Nat) (k : Int) : T := .sl 85 8 n (fun i => mkPh (k + 8 * (i : Nat)))
def mkToPh (l : List Ph) (k : Int) (i : Nat) : Nat → List T := fun j => if j < i then mkPh (k + 8 * (j : Nat)) else (nth l j).cells
theorem mkToPh_at (l : List Ph) (k : Int) (i : Nat) : mkToPh l k i i = (nth l i).cells := by simp only [mkToPh, if_neg (Nat.lt_irrefl i)]
theorem mkToPh_next (l : List Ph) (k : Int) (i j : Nat) (r : List T) (hr : r = mkPh (k + 8 * (i : Nat))) : putRow (mkToPh l k i) i r j = mkToPh l k (i + 1) j := by
  by_cases h : j = i
  · subst h; rw [putRow_self]; simp only [mkToPh]; rw [if_pos (by omega), hr]
  · rw [putRow_other _ _ _ h]; simp only [mkToPh]
    by_cases h2 : j < i
    · rw [if_pos h2, if_pos (by omega)]
    · rw [if_neg h2, if_neg (by omega)]
theorem mkToPh_all (l : List Ph) (k : Int) (i j : Nat) (h : j < i) : mkToPh l k i j = mkPh (k + 8 * (j : Nat)) := by simp only [mkToPh, if_pos h]
theorem setRowN8 {f : Nat → List T} {i : Nat} {a0 a1 a2 a3 a4 a5 a6 a7 : T} (h : (f i).length = 8) : setRow (setRow (setRow (setRow (setRow (setRow (setRow (setRow f i 0 a0) i 1 a1) i 2 a2) i 3 a3) i 4 a4) i 5 a5) i 6 a6) i 7 a7 = putRow f i [a0, a1, a2, a3, a4, a5, a6, a7] := by
  funext k
  by_cases hk : k = i
  · subst hk
    simp only [Mh.setRow_self, putRow_self]
    match f k, h with
    | [x0, x1, x2, x3, x4, x5, x6, x7], _ => rfl
  · simp only [Mh.setRow_other _ _ _ _ hk, putRow_other _ _ _ hk]
structure Say where
  ticks : Int
  well : Bool
deriving Inhabited
def Say.cells (p : Say) : List T := [.int .i64 p.ticks, .bool p.well]
def says (e : Nat) (l : List Say) : T := .sl e 2 l.length (fun i => (nth l i).cells)
def eqSay (p q : Say) : Bool := p.ticks == q.ticks && p.well == q.well
theorem eqSay_refl (p : Say) : eqSay p p = true := by simp [eqSay, strEq_refl]
theorem clean_says (e : Nat) (l : List Say) : Mh.Clean (says e l) := .sl (fun i j hi hj => match j with | 0 => .int _ _ | 1 => .bool _ | _ + 2 => (by omega))
def szNSay (l : List Say) (m : Int) : Int := if m - l.length < 0 then -1 else m - l.length
def mkSay (k : Int) : List T := [.int .i64 (k + 0), .bool ((k + 1).tmod 3 == 0)]
def mkLSay (n : Nat) (k : Int) : T := .sl 0 2 n (fun i => mkSay (k + 2 * (i : Nat)))
def mkToSay (l : List Say) (k : Int) (i : Nat) : Nat → List T := fun j => if j < i then mkSay (k + 2 * (j : Nat)) else (nth l j).cells
theorem mkToSay_at (l : List Say) (k : Int) (i : Nat) : mkToSay l k i i = (nth l i).cells := by simp only [mkToSay, if_neg (Nat.lt_irrefl i)]
theorem mkToSay_next (l : List Say) (k : Int) (i j : Nat) (r : List T) (hr : r = mkSay (k + 2 * (i : Nat))) : putRow (mkToSay l k i) i r j = mkToSay l k (i + 1) j := by
  by_cases h : j = i
  · subst h; rw [putRow_self]; simp only [mkToSay]; rw [if_pos (by omega), hr]
  · rw [putRow_other _ _ _ h]; simp only [mkToSay]
    by_cases h2 : j < i
    · rw [if_pos h2, if_pos (by omega)]
    · rw [if_neg h2, if_neg (by omega)]
theorem mkToSay_all (l : List Say) (k : Int) (i j : Nat) (h : j < i) : mkToSay l k i j = mkSay (k + 2 * (j : Nat)) := by simp only [mkToSay, if_pos h]
theorem setRowN2 {f : Nat → List T} {i : Nat} {a0 a1 : T} (h : (f i).length = 2) : setRow (setRow f i 0 a0) i 1 a1 = putRow f i [a0, a1] := by
  funext k
  by_cases hk : k = i
  · subst hk
    simp only [Mh.setRow_self, putRow_self]
    match f k, h with
    | [x0, x1], _ => rfl
  · simp only [Mh.setRow_other _ _ _ _ hk, putRow_other _ _ _ hk]

structure RSt where
  at_ : Str
  now : Int
  left : Int
deriving Inhabited
def RSt.cells (p : RSt) : List T := [.str p.at_, .int .i64 p.now, .int .i64 p.left]
def eqRSt (p q : RSt) : Bool := strEq p.at_ q.at_ && p.now == q.now && p.left == q.left
theorem eqRSt_refl (p : RSt) : eqRSt p p = true := by simp [eqRSt, strEq_refl]
/-- the most ticks from a phase on -/
def boundG (l : List Ph) : Nat → Str → Int
  | 0, _ => 0
  | n + 1, s => if atP l s < 0 then 0 else (nth l (atP l s).toNat).within + max (boundG l n (nth l (atP l s).toNat).thn) (boundG l n (nth l (atP l s).toNat).els)
def bnd (l : List Ph) (s : Str) : Int := boundG l (l.length + 1) s
theorem boundG_eq {l : List Ph} (hl : recOk l = true) : ∀ (n m : Nat) (s : Str), rank l s < n → rank l s < m → boundG l n s = boundG l m s
  | 0, _, _, h, _ => absurd h (Nat.not_lt_zero _)
  | _, 0, _, _, h => absurd h (Nat.not_lt_zero _)
  | n + 1, m + 1, s, h1, h2 => by
    simp only [boundG]
    split
    · rfl
    · have := rank_thn hl (s := s) (by omega)
      rw [boundG_eq hl n m _ (by omega) (by omega), boundG_eq hl n m _ (by omega) (by omega)]
theorem okAt_of {l : List Ph} (hl : recOk l = true) {i : Nat} (hi : i < l.length) : okAt l i = true := by
  rw [recOk_eq, Bool.and_eq_true, List.all_eq_true] at hl
  exact hl.2 i (List.mem_range.2 hi)
theorem recOk_len {l : List Ph} (hl : recOk l = true) : 1 ≤ l.length ∧ l.length ≤ 12 := by
  rw [recOk_eq, Bool.and_eq_true] at hl
  have := hl.1
  simp only [inB, Bool.and_eq_true, decide_eq_true_eq] at this
  omega
theorem within_ok {l : List Ph} (hl : recOk l = true) {i : Nat} (hi : i < l.length) : 1 ≤ (nth l i).within ∧ (nth l i).within ≤ 1000 := by
  have h := okAt_of hl hi
  simp only [okAt, phaseOk, inB, Bool.and_eq_true, decide_eq_true_eq] at h
  omega
theorem boundG_le {l : List Ph} (hl : recOk l = true) : ∀ (n : Nat) (s : Str), 0 ≤ boundG l n s ∧ boundG l n s ≤ 1000 * (rank l s : Nat)
  | 0, _ => by simp only [boundG]; omega
  | n + 1, s => by
    simp only [boundG]
    split
    · omega
    · have ha := atP_lt l s
      have h1 := within_ok hl (i := (atP l s).toNat) (by omega)
      have hr := rank_thn hl (s := s) (by omega)
      have h2 := boundG_le hl n (nth l (atP l s).toNat).thn
      have h3 := boundG_le hl n (nth l (atP l s).toNat).els
      omega
/-- a phase goes -/
def goT (p : Ph) (y : Say) : Int := if (y.well && p.kind == 3) = true then max (max 0 y.ticks) p.n else max 0 y.ticks
def goSt (l : List Ph) (st : RSt) (y : Say) : RSt :=
  let p := nth l (atP l st.at_).toNat
  if p.within < goT p y then ⟨p.els, st.now + p.within, bnd l p.els⟩
  else if y.well = true then ⟨p.thn, st.now + goT p y, bnd l p.thn⟩ else ⟨p.els, st.now + goT p y, bnd l p.els⟩
def goOk (l : List Ph) (st : RSt) : Bool := recOk l && (decide (0 ≤ atP l st.at_) && (decide (0 ≤ st.now) && decide (st.now ≤ 12000)))
def begSt (l : List Ph) : RSt := if recOk l = true then ⟨(nth l 0).name, 0, bnd l (nth l 0).name⟩ else ⟨⟨#[]⟩, 0, 0⟩
def noSay : Say := ⟨1001, false⟩
def runG (l : List Ph) : Nat → RSt → List Say → RSt × List Str
  | 0, st, _ => (st, [])
  | n + 1, st, y => if atP l st.at_ < 0 then (st, []) else ((runG l n (goSt l st (y.headD noSay)) y.tail).1, st.at_ :: (runG l n (goSt l st (y.headD noSay)) y.tail).2)
def recRun (l : List Ph) (y : List Say) : RSt × List Str := if recOk l = true then runG l (l.length + 1) (begSt l) y else (begSt l, [])

theorem end_iff {l : List Ph} (hl : recOk l = true) {s : Str} {i : Nat} (h : refOk l i s = true) : recEnd s = 0 ↔ 0 ≤ atP l s := by
  constructor
  · intro h0
    simp only [refOk, h0, beq_self_eq_true, Bool.true_and, Bool.not_eq_true', decide_eq_false_iff_not] at h
    omega
  · intro h0
    have ha := atP_lt l s
    have hn := atP_name (l := l) (s := s) h0
    have hk := okAt_of hl (i := (atP l s).toNat) (by omega)
    simp only [okAt, phaseOk, plainOk, Bool.and_eq_true, beq_iff_eq] at hk
    have := hk.1.1.1.1.1.1.1.2
    rwa [strEq_eq hn] at this
def stOk (l : List Ph) (st : RSt) : Prop := (0 ≤ st.now ∧ st.now + 1000 * (rank l st.at_ : Nat) ≤ 1000 * (l.length : Nat)) ∧ (recEnd st.at_ = 0 ↔ 0 ≤ atP l st.at_)
theorem goT_nn (p : Ph) (y : Say) : 0 ≤ goT p y := by unfold goT; split <;> omega
theorem go_ok {l : List Ph} (hl : recOk l = true) {st : RSt} (h : stOk l st) (h0 : 0 ≤ atP l st.at_) (y : Say) : stOk l (goSt l st y) ∧ rank l (goSt l st y).at_ < rank l st.at_ := by
  have ha := atP_lt l st.at_
  have hw := within_ok hl (i := (atP l st.at_).toNat) (by omega)
  have hr := rank_thn hl h0
  have hk := okAt_of hl (i := (atP l st.at_).toNat) (by omega)
  simp only [okAt, Bool.and_eq_true] at hk
  have e1 := end_iff hl hk.1.2
  have e2 := end_iff hl hk.2
  have ht := goT_nn (nth l (atP l st.at_).toNat) y
  obtain ⟨⟨h1, h2⟩, h3⟩ := h
  unfold goSt
  simp only
  split
  · exact ⟨⟨⟨by simp only; omega, by simp only; omega⟩, e2⟩, hr.2⟩
  · split
    · exact ⟨⟨⟨by simp only; omega, by simp only; omega⟩, e1⟩, hr.1⟩
    · exact ⟨⟨⟨by simp only; omega, by simp only; omega⟩, e2⟩, hr.2⟩
theorem beg_ok {l : List Ph} (hl : recOk l = true) : stOk l (begSt l) := by
  have hl' := hl
  rw [recOk_eq, Bool.and_eq_true] at hl'
  have hlen : 1 ≤ l.length := by
    have := hl'.1
    simp only [inB, Bool.and_eq_true, decide_eq_true_eq] at this
    omega
  have hk := okAt_of hl (i := 0) (by omega)
  simp only [okAt, phaseOk, plainOk, Bool.and_eq_true, beq_iff_eq] at hk
  have hr := rank_le l (nth l 0).name
  have hat : atP l (nth l 0).name = 0 := by simpa using hk.1.1.2
  have hrk : rank l (nth l 0).name = l.length := by simp [rank, hat]
  unfold begSt
  rw [if_pos hl]
  refine ⟨⟨Int.le_refl _, by simp only; rw [hrk]; omega⟩, ?_⟩
  simp only
  exact ⟨fun _ => by omega, fun _ => hk.1.1.1.1.1.1.1.2⟩
theorem runG_end {l : List Ph} {n : Nat} {st : RSt} {y : List Say} (h : atP l st.at_ < 0) : runG l n st y = (st, []) := by
  cases n with
  | zero => rfl
  | succ n => simp only [runG, if_pos h]
theorem runG_step {l : List Ph} {n : Nat} {st : RSt} {y : List Say} (h : 0 ≤ atP l st.at_) : runG l (n + 1) st y = ((runG l n (goSt l st (y.headD noSay)) y.tail).1, st.at_ :: (runG l n (goSt l st (y.headD noSay)) y.tail).2) := by
  simp only [runG]; rw [if_neg (by omega)]
theorem goOk_of {l : List Ph} (hl : recOk l = true) {st : RSt} (h : stOk l st) (h0 : 0 ≤ atP l st.at_) : goOk l st = true := by
  have hl' := hl
  rw [recOk_eq, Bool.and_eq_true] at hl'
  have hlen : l.length ≤ 12 := by
    have := hl'.1
    simp only [inB, Bool.and_eq_true, decide_eq_true_eq] at this
    omega
  obtain ⟨⟨h1, h2⟩, h3⟩ := h
  simp only [goOk, hl, Bool.true_and, Bool.and_eq_true, decide_eq_true_eq]
  exact ⟨h0, h1, by omega⟩

theorem tupSt {a : Str} {b c : Int} {q : RSt} (h1 : a = q.at_) (h2 : b = q.now) (h3 : c = q.left) : PV.tup [PV.agg [T.str a, T.int .i64 b, T.int .i64 c], PV.one (T.bool true)] = PV.tup [PV.agg q.cells, PV.one (T.bool true)] := by
  subst h1 h2 h3; rfl
theorem hold_n {l : List Ph} (hl : recOk l = true) {i : Nat} (hi : i < l.length) : (nth l i).kind = 3 → 1 ≤ (nth l i).n ∧ (nth l i).n ≤ (nth l i).within := by
  intro h3
  have h := okAt_of hl hi
  simp only [okAt, phaseOk, argsOk, h3, inB, Bool.and_eq_true, decide_eq_true_eq] at h
  simp at h
  omega

def runInv (l : List Ph) (y : List Say) (st : RSt) (pa : List Str) (sy : List Say) : Prop :=
  stOk l st ∧ pa.length + rank l st.at_ ≤ l.length ∧ ∃ n, rank l st.at_ < n ∧ recRun l y = ((runG l n st sy).1, pa ++ (runG l n st sy).2)
theorem run_beg {l : List Ph} (hl : recOk l = true) (y : List Say) : runInv l y (begSt l) [] y := by
  have hr := rank_le l (begSt l).at_
  have hb := beg_ok hl
  refine ⟨hb, ?_, l.length + 1, hr, by rw [recRun, if_pos hl]; rfl⟩
  simp only [List.length_nil]
  omega
theorem run_back {l : List Ph} {y : List Say} {st : RSt} {pa : List Str} {sy sy' : List Say} {say : Say} (hl : recOk l = true) (hi : runInv l y st pa sy) (h0 : 0 ≤ atP l st.at_) (hh : sy.headD noSay = say) (ht : sy.tail = sy') :
    goOk l st = true ∧ runInv l y (if goOk l st = true then goSt l st say else st) (pa ++ [st.at_]) sy' ∧ rank l (if goOk l st = true then goSt l st say else st).at_ < rank l st.at_ := by
  obtain ⟨h1, h2, n, h3, h4⟩ := hi
  have hg := goOk_of hl h1 h0
  rw [if_pos hg]
  have hs := go_ok hl h1 h0 say
  refine ⟨hg, ⟨hs.1, by simp only [List.length_append, List.length_cons, List.length_nil]; omega, n - 1, by omega, ?_⟩, hs.2⟩
  rw [h4, show n = (n - 1) + 1 by omega, runG_step h0, hh, ht, Nat.add_sub_cancel]
  simp only [List.append_assoc, List.cons_append, List.nil_append]
theorem run_end {l : List Ph} {y : List Say} {st : RSt} {pa : List Str} {sy : List Say} (hi : runInv l y st pa sy) (h0 : atP l st.at_ < 0) : recRun l y = (st, pa) := by
  obtain ⟨h1, h2, n, h3, h4⟩ := hi
  rw [h4, runG_end h0, List.append_nil]
theorem head_drop {y : List Say} {i : Nat} (h : i < y.length) : (y.drop i).headD noSay = nth y i ∧ (y.drop i).tail = y.drop (i + 1) := by
  rw [drop_nth h]; exact ⟨rfl, rfl⟩
theorem head_end {y : List Say} {i : Nat} (h : y.length ≤ i) : (y.drop i).headD noSay = noSay ∧ (y.drop i).tail = y.drop (i + 1) := by
  rw [List.drop_of_length_le h, List.drop_of_length_le (by omega)]; exact ⟨rfl, rfl⟩
theorem says_drop (y : List Say) (i q : Nat) : (nth y (i + q)).cells = (nth (y.drop i) q).cells := by
  simp [nth, List.getD_eq_getElem?_getD, List.getElem?_drop]

theorem ysZs85 : zeroSz Tryz.prog 85 = some 8 := by kernel_rfl
theorem ysFo119_0 : fieldOff Tryz.prog 119 0 = some 0 := by kernel_rfl
theorem ysSc9 : scalarB Tryz.prog 9 = true := by kernel_rfl
theorem ysFo85_0 : fieldOff Tryz.prog 85 0 = some 0 := by kernel_rfl
theorem ysCs9 : cellsSz Tryz.prog 9 = some (0 + 1) := by kernel_rfl
theorem ysFo119_1 : fieldOff Tryz.prog 119 1 = some 1 := by kernel_rfl
theorem ysSc3 : scalarB Tryz.prog 3 = true := by kernel_rfl
theorem ysFo85_1 : fieldOff Tryz.prog 85 1 = some 1 := by kernel_rfl
theorem ysCs3 : cellsSz Tryz.prog 3 = some (0 + 1) := by kernel_rfl
theorem ysFo119_2 : fieldOff Tryz.prog 119 2 = some 2 := by kernel_rfl
theorem ysFo85_2 : fieldOff Tryz.prog 85 2 = some 2 := by kernel_rfl
theorem ysFo119_3 : fieldOff Tryz.prog 119 3 = some 3 := by kernel_rfl
theorem ysFo85_3 : fieldOff Tryz.prog 85 3 = some 3 := by kernel_rfl
theorem ysFo119_4 : fieldOff Tryz.prog 119 4 = some 4 := by kernel_rfl
theorem ysFo85_4 : fieldOff Tryz.prog 85 4 = some 4 := by kernel_rfl
theorem ysFo119_5 : fieldOff Tryz.prog 119 5 = some 5 := by kernel_rfl
theorem ysFo85_5 : fieldOff Tryz.prog 85 5 = some 5 := by kernel_rfl
theorem ysFo119_6 : fieldOff Tryz.prog 119 6 = some 6 := by kernel_rfl
theorem ysFo85_6 : fieldOff Tryz.prog 85 6 = some 6 := by kernel_rfl
theorem ysFo119_7 : fieldOff Tryz.prog 119 7 = some 7 := by kernel_rfl
theorem ysFo85_7 : fieldOff Tryz.prog 85 7 = some 7 := by kernel_rfl
theorem ysSt85 : structSz Tryz.prog 85 = some 8 := by kernel_rfl
theorem ysCs85 : cellsSz Tryz.prog 85 = some (7 + 1) := by kernel_rfl
theorem ysSl74 : sliceT Tryz.prog 74 = some ⟨119, 8, 104⟩ := by kernel_rfl
theorem ysSl48 : sliceT Tryz.prog 48 = some ⟨85, 8, 104⟩ := by kernel_rfl
theorem ysSt119 : structSz Tryz.prog 119 = some 8 := by kernel_rfl
theorem ysCo106 : callOk Tryz.prog 106 = true := by kernel_rfl
theorem ysCo114 : callOk Tryz.prog 114 = true := by kernel_rfl
theorem ysMo : Tryz.prog.follows .mixedOrders = true := by kernel_rfl
theorem ysCo59 : callOk Tryz.prog 59 = true := by kernel_rfl
theorem ysCo69 : callOk Tryz.prog 69 = true := by kernel_rfl
theorem ysCo46 : callOk Tryz.prog 46 = true := by kernel_rfl
theorem ysCo36 : callOk Tryz.prog 36 = true := by kernel_rfl
theorem phTo (p : Ph)  : ASpec Tryz.prog 106 [.agg p.cells] (.agg p.cells) := by
  refine ASpec.bodyC Tryz.func106 rfl 2 85 [] rfl rfl 29 rfl rfl rfl ?_
  refine AWp.seq (AWp.region ?_)
  refine ARun.step rfl (step_box_p (m := 7) rfl (hn rfl) rfl rfl rfl rfl rfl) ?_
  refine ARun.step rfl (step_alloc_p rfl (hn rfl) rfl ysZs85) ?_
  refine ARun.nil ?_
  refine AWp.seq (AWp.region ?_)
  refine ARun.step rfl (step_alloc_p rfl (hn rfl) rfl ysZs85) ?_
  refine ARun.nil ?_
  refine AWp.seq (AWp.region ?_)
  refine ARun.step rfl (step_field_b rfl (hn rfl) rfl ysFo119_0 rfl (by exact List.cons_ne_nil _ _)) ?_
  refine ARun.step rfl (step_load_b rfl (hn rfl) rfl ysSc9 rfl rfl) ?_
  refine ARun.step rfl (step_field_b rfl (hn rfl) rfl ysFo85_0 rfl (by exact List.cons_ne_nil _ _)) ?_
  refine ARun.step rfl (step_store_p rfl rfl ysCs9 rfl rfl rfl rfl rfl rfl rfl) ?_
  refine ARun.nil ?_
  refine AWp.seq (AWp.region ?_)
  refine ARun.step rfl (step_field_b rfl (hn rfl) rfl ysFo119_1 rfl (by exact List.cons_ne_nil _ _)) ?_
  refine ARun.step rfl (step_load_b rfl (hn rfl) rfl ysSc3 rfl rfl) ?_
  refine ARun.step rfl (step_field_b rfl (hn rfl) rfl ysFo85_1 rfl (by exact List.cons_ne_nil _ _)) ?_
  refine ARun.step rfl (step_store_p rfl rfl ysCs3 rfl rfl rfl rfl rfl rfl rfl) ?_
  refine ARun.nil ?_
  refine AWp.seq (AWp.region ?_)
  refine ARun.step rfl (step_field_b rfl (hn rfl) rfl ysFo119_2 rfl (by exact List.cons_ne_nil _ _)) ?_
  refine ARun.step rfl (step_load_b rfl (hn rfl) rfl ysSc9 rfl rfl) ?_
  refine ARun.step rfl (step_field_b rfl (hn rfl) rfl ysFo85_2 rfl (by exact List.cons_ne_nil _ _)) ?_
  refine ARun.step rfl (step_store_p rfl rfl ysCs9 rfl rfl rfl rfl rfl rfl rfl) ?_
  refine ARun.nil ?_
  refine AWp.seq (AWp.region ?_)
  refine ARun.step rfl (step_field_b rfl (hn rfl) rfl ysFo119_3 rfl (by exact List.cons_ne_nil _ _)) ?_
  refine ARun.step rfl (step_load_b rfl (hn rfl) rfl ysSc9 rfl rfl) ?_
  refine ARun.step rfl (step_field_b rfl (hn rfl) rfl ysFo85_3 rfl (by exact List.cons_ne_nil _ _)) ?_
  refine ARun.step rfl (step_store_p rfl rfl ysCs9 rfl rfl rfl rfl rfl rfl rfl) ?_
  refine ARun.nil ?_
  refine AWp.seq (AWp.region ?_)
  refine ARun.step rfl (step_field_b rfl (hn rfl) rfl ysFo119_4 rfl (by exact List.cons_ne_nil _ _)) ?_
  refine ARun.step rfl (step_load_b rfl (hn rfl) rfl ysSc3 rfl rfl) ?_
  refine ARun.step rfl (step_field_b rfl (hn rfl) rfl ysFo85_4 rfl (by exact List.cons_ne_nil _ _)) ?_
  refine ARun.step rfl (step_store_p rfl rfl ysCs3 rfl rfl rfl rfl rfl rfl rfl) ?_
  refine ARun.nil ?_
  refine AWp.seq (AWp.region ?_)
  refine ARun.step rfl (step_field_b rfl (hn rfl) rfl ysFo119_5 rfl (by exact List.cons_ne_nil _ _)) ?_
  refine ARun.step rfl (step_load_b rfl (hn rfl) rfl ysSc3 rfl rfl) ?_
  refine ARun.step rfl (step_field_b rfl (hn rfl) rfl ysFo85_5 rfl (by exact List.cons_ne_nil _ _)) ?_
  refine ARun.step rfl (step_store_p rfl rfl ysCs3 rfl rfl rfl rfl rfl rfl rfl) ?_
  refine ARun.nil ?_
  refine AWp.seq (AWp.region ?_)
  refine ARun.step rfl (step_field_b rfl (hn rfl) rfl ysFo119_6 rfl (by exact List.cons_ne_nil _ _)) ?_
  refine ARun.step rfl (step_load_b rfl (hn rfl) rfl ysSc9 rfl rfl) ?_
  refine ARun.step rfl (step_field_b rfl (hn rfl) rfl ysFo85_6 rfl (by exact List.cons_ne_nil _ _)) ?_
  refine ARun.step rfl (step_store_p rfl rfl ysCs9 rfl rfl rfl rfl rfl rfl rfl) ?_
  refine ARun.nil ?_
  refine AWp.seq (AWp.region ?_)
  refine ARun.step rfl (step_field_b rfl (hn rfl) rfl ysFo119_7 rfl (by exact List.cons_ne_nil _ _)) ?_
  refine ARun.step rfl (step_load_b rfl (hn rfl) rfl ysSc9 rfl rfl) ?_
  refine ARun.step rfl (step_field_b rfl (hn rfl) rfl ysFo85_7 rfl (by exact List.cons_ne_nil _ _)) ?_
  refine ARun.step rfl (step_store_p rfl rfl ysCs9 rfl rfl rfl rfl rfl rfl rfl) ?_
  refine ARun.nil ?_
  refine AWp.seq (AWp.region ?_)
  refine ARun.step rfl (step_loadS_b rfl (hn rfl) rfl ysSt85 rfl rfl rfl (by decide)) ?_
  refine ARun.step rfl (step_store_p rfl rfl ysCs85 rfl rfl rfl rfl rfl rfl rfl) ?_
  refine ARun.nil ?_
  refine AWp.ret ?_
  refine ⟨.inr rfl, 2, 8, _, _, _, ysSt85, by decide, rfl, rfl, rfl, rfl, (.cons rfl (.agg (.cons (.sc _ _ rfl) (.cons (.sc _ _ rfl) (.cons (.sc _ _ rfl) (.cons (.sc _ _ rfl) (.cons (.sc _ _ rfl) (.cons (.sc _ _ rfl) (.cons (.sc _ _ rfl) (.cons (.sc _ _ rfl) (.nil _)))))))))) (.nil _)), rfl, ?_⟩
  refine congrArg PV.agg ?_
  rfl
theorem phToL (l : List Ph) (hl : l.length ≤ 1048576) : ASpec Tryz.prog 82 [.one (phs 119 l)] (.one (phs 85 l)) := by
  refine ASpec.body Tryz.func82 rfl [2] rfl 23 rfl rfl rfl ?_
  refine AWp.seq (AWp.region ?_)
  refine ARun.step rfl (step_assignV rfl (hn rfl) rfl rfl) ?_
  refine ARun.nil ?_
  refine AWp.seq (AWp.region ?_)
  refine ARun.step rfl (step_moveV rfl (hn rfl) rfl rfl) ?_
  refine ARun.step rfl (step_len_f rfl (hn rfl) rfl ysSl74 rfl) ?_
  refine ARun.step rfl (step_makeSliceZ rfl (hn rfl) rfl ysSl48 (zeroOk_dead ysZs85) rfl (by omega) (by omega)) ?_
  refine ARun.step rfl (step_assignV rfl (hn rfl) rfl rfl) ?_
  refine ARun.nil ?_
  refine AWp.seq ?_
  refine AWp.seq (AWp.region ?_)
  refine ARun.step rfl (step_assignV rfl (hn rfl) rfl rfl) ?_
  refine ARun.nil ?_
  refine AWp.block ?_
  refine AWp.loopM (fun i : Nat => mkAS 23 [(0, ⟨true, .one (.v (phs 119 l))⟩), (3, ⟨true, .one (.ref ⟨.arr 7 0, []⟩)⟩), (4, ⟨true, .one (.v (.int .i64 (i : Nat)))⟩)] [] [(7, 0, .sl 85 8 l.length (rowsTo l Ph.cells (List.replicate 8 .dead) i))]) (fun i => i ≤ l.length) (fun i => l.length - i) 0 ?_ (Le.forgetR rfl ⟨rfl, rfl, rfl, trivial⟩ trivial ⟨.rows (fun _ _ => rfl), trivial⟩) ?_
  · try dsimp only
    omega
  rintro i hi
  refine AWp.seq ?_
  refine AWp.seq (AWp.region ?_)
  refine ARun.step rfl (step_moveV rfl (hn rfl) rfl rfl) ?_
  refine ARun.step rfl (step_moveV rfl (hn rfl) rfl rfl) ?_
  refine ARun.step rfl (step_len_f rfl (hn rfl) rfl ysSl74 rfl) ?_
  refine ARun.step rfl (step_lss rfl (hn rfl) rfl rfl rfl) ?_
  refine ARun.nil ?_
  refine AWp.cond rfl (fun c1 => ?_) (fun c1 => ?_)
  · try simp only [nrm] at c1
    refine AWp.skip ?_
    refine AWp.seq ?_
    refine AWp.block ?_
    refine AWp.region ?_
    refine ARun.step rfl (step_moveV rfl (hn rfl) rfl rfl) ?_
    refine ARun.step rfl (step_moveV rfl (hn rfl) rfl rfl) ?_
    refine ARun.step rfl (step_moveV rfl (hn rfl) rfl rfl) ?_
    refine ARun.step rfl (step_moveV rfl (hn rfl) rfl rfl) ?_
    refine ARun.step rfl (step_index_fN rfl (hn rfl) rfl ysSl74 rfl rfl (by omega)) ?_
    refine ARun.step rfl (step_loadS_f rfl (hn rfl) rfl ysSt119 rfl (hn rfl) rfl rfl) ?_
    refine ARun.step rfl (call_step1 rfl (hn rfl) rfl ysCo106 (.cons rfl (.agg (.cons (.v _) (.cons (.v _) (.cons (.v _) (.cons (.v _) (.cons (.v _) (.cons (.v _) (.cons (.v _) (.cons (.v _) .nil))))))))) (.nil)) (phTo _) rfl) ?_
    refine ARun.step rfl (step_index_rN rfl (hn rfl) rfl ysSl48 rfl rfl rfl (by omega)) ?_
    refine ARun.step rfl (step_store_row rfl rfl ysCs85 rfl rfl (by omega) rfl rfl rfl rfl rfl (by show (rowsTo l Ph.cells (List.replicate 8 .dead) i i).length = _; rw [rowsTo_at]; rfl)) ?_
    refine ARun.nil ?_
    refine AWp.region ?_
    refine ARun.step rfl (step_moveV rfl (hn rfl) rfl rfl) ?_
    refine ARun.step rfl (step_addI rfl (hn rfl) rfl rfl rfl (by omega) (by omega)) ?_
    refine ARun.step rfl (step_assignV rfl (hn rfl) rfl rfl) ?_
    refine ARun.nil ?_
    refine ⟨i + 1, ?_, ?_, Le.forgetR rfl ⟨rfl, rfl, rfl, trivial⟩ trivial ⟨.rows (fun j _ => rowsTo_next l Ph.cells _ i j), trivial⟩⟩
    · try dsimp only
      omega
    · try dsimp only
      omega
  · try simp only [nrm] at c1
    refine AWp.exit ?_
    refine AWp.seq (AWp.region ?_)
    refine ARun.step rfl (step_moveV rfl (hn rfl) rfl rfl) ?_
    refine ARun.step rfl (step_assignV rfl (hn rfl) rfl rfl) ?_
    refine ARun.nil ?_
    refine AWp.le (Le.forgetR (n := 23) (sl := [(2, ⟨true, .one (.ref ⟨.arr 7 0, []⟩)⟩)]) (bl := []) (al := [(7, 0, phs 85 l)]) rfl ⟨rfl, trivial⟩ trivial ⟨.rows (fun j hj => rowsTo_all l Ph.cells _ _ j (by omega)), trivial⟩) ?_
    refine AWp.ret ?_
    refine RetIs.ref (.inr rfl) rfl rfl ?_
    rfl
theorem phToLZ (l : List Ph) (hl : l.length ≤ 1048576) : ASpec Tryz.prog 82 [.one (phs 119 l)] (.one (.fz (phs 85 l))) := (phToL l hl).letGo (.p (.one (.fz (.refl _))))
theorem phEqL (a b : List Ph)  : ASpec Tryz.prog 92 [.one (phs 85 a), .one (phs 85 b)] (.one (.bool (eqL eqPh a b))) := by
  refine ASpec.body Tryz.func92 rfl [4] rfl 27 rfl rfl rfl ?_
  refine AWp.lenLe 0 rfl (fun hl => ?_)
  refine AWp.seq (AWp.region ?_)
  refine ARun.step rfl (step_assignV rfl (hn rfl) rfl rfl) ?_
  refine ARun.nil ?_
  refine AWp.seq ?_
  refine AWp.seq (AWp.region ?_)
  refine ARun.step rfl (step_moveV rfl (hn rfl) rfl rfl) ?_
  refine ARun.step rfl (step_len_f rfl (hn rfl) rfl ysSl48 rfl) ?_
  refine ARun.step rfl (step_moveV rfl (hn rfl) rfl rfl) ?_
  refine ARun.step rfl (step_len_f rfl (hn rfl) rfl ysSl48 rfl) ?_
  refine ARun.step rfl (step_neq rfl (hn rfl) rfl rfl rfl) ?_
  refine ARun.nil ?_
  refine AWp.cond rfl (fun c1 => ?_) (fun c1 => ?_)
  · try simp only [nrm] at c1
    refine AWp.seq (AWp.region ?_)
    refine ARun.step rfl (step_assignV rfl (hn rfl) rfl rfl) ?_
    refine ARun.nil ?_
    refine AWp.ret ?_
    refine RetIs.sc (.inr rfl) rfl rfl ?_
    refine congrArg T.bool ?_
    rw [eqL, show (a.length == b.length) = false by simp; omega, Bool.false_and]
  · try simp only [nrm] at c1
    refine AWp.skip ?_
    refine AWp.seq ?_
    refine AWp.seq (AWp.region ?_)
    refine ARun.step rfl (step_assignV rfl (hn rfl) rfl rfl) ?_
    refine ARun.nil ?_
    refine AWp.block ?_
    refine AWp.loopM (fun i : Nat => mkAS 27 [(0, ⟨true, .one (.v (phs 85 a))⟩), (1, ⟨true, .one (.v (phs 85 b))⟩), (5, ⟨true, .one (.v (.int .i64 (i : Nat)))⟩)] [] []) (fun i => i ≤ a.length ∧ ∀ j, j < i → eqPh (nth a j) (nth b j) = true) (fun i => a.length - i) 0 ?_ (Le.forgetR rfl ⟨rfl, rfl, rfl, trivial⟩ trivial trivial) ?_
    · try dsimp only
      exact ⟨by omega, by omega⟩
    rintro i ⟨hi, hall⟩
    refine AWp.seq ?_
    refine AWp.seq (AWp.region ?_)
    refine ARun.step rfl (step_moveV rfl (hn rfl) rfl rfl) ?_
    refine ARun.step rfl (step_moveV rfl (hn rfl) rfl rfl) ?_
    refine ARun.step rfl (step_len_f rfl (hn rfl) rfl ysSl48 rfl) ?_
    refine ARun.step rfl (step_lss rfl (hn rfl) rfl rfl rfl) ?_
    refine ARun.nil ?_
    refine AWp.cond rfl (fun c2 => ?_) (fun c2 => ?_)
    · try simp only [nrm] at c2
      refine AWp.skip ?_
      refine AWp.seq ?_
      refine AWp.block ?_
      refine AWp.seq (AWp.draw [⟨[.s 0], [.s 17], false⟩, ⟨[.s 5], [.s 18], false⟩, ⟨[.s 17, .s 18], [.s 19], false⟩, ⟨[.s 19], [.s 20], false⟩, ⟨[.s 1], [.s 21], false⟩, ⟨[.s 5], [.s 22], false⟩, ⟨[.s 21, .s 22], [.s 23], false⟩, ⟨[.s 23], [.s 24], false⟩, ⟨[.s 24, .s 20], [.s 25], false⟩, ⟨[.s 25], [.s 26], false⟩] ysMo rfl ?_)
      refine DRun.step rfl (fun τ hN hr => step_moveV rfl (rdN hN (hn rfl)) rfl (by exact rdS hr rfl rfl)) ?_
      refine DRun.step rfl (fun τ hN hr => step_moveV rfl (rdN hN (hn rfl)) rfl (by exact rdS hr rfl rfl)) ?_
      refine DRun.step rfl (fun τ hN hr => step_index_fN rfl (rdN hN (hn rfl)) rfl ysSl48 (by exact rdS hr rfl rfl) (by exact rdS hr rfl rfl) (by omega)) ?_
      refine DRun.step rfl (fun τ hN hr => step_loadS_f rfl (rdN hN (hn rfl)) rfl ysSt85 (by exact rdS hr rfl rfl) (hn rfl) rfl rfl) ?_
      refine DRun.step rfl (fun τ hN hr => step_moveV rfl (rdN hN (hn rfl)) rfl (by exact rdS hr rfl rfl)) ?_
      refine DRun.step rfl (fun τ hN hr => step_moveV rfl (rdN hN (hn rfl)) rfl (by exact rdS hr rfl rfl)) ?_
      refine DRun.step rfl (fun τ hN hr => step_index_fN rfl (rdN hN (hn rfl)) rfl ysSl48 (by exact rdS hr rfl rfl) (by exact rdS hr rfl rfl) (by omega)) ?_
      refine DRun.step rfl (fun τ hN hr => step_loadS_f rfl (rdN hN (hn rfl)) rfl ysSt85 (by exact rdS hr rfl rfl) (hn rfl) rfl rfl) ?_
      refine DRun.step rfl (fun τ hN hr => call_step1 rfl (rdN hN (hn rfl)) rfl ysCo114 (.cons (by exact rdS hr rfl rfl) (.agg (.cons (.v _) (.cons (.v _) (.cons (.v _) (.cons (.v _) (.cons (.v _) (.cons (.v _) (.cons (.v _) (.cons (.v _) .nil))))))))) (.cons (by exact rdS hr rfl rfl) (.agg (.cons (.v _) (.cons (.v _) (.cons (.v _) (.cons (.v _) (.cons (.v _) (.cons (.v _) (.cons (.v _) (.cons (.v _) .nil))))))))) (.nil))) (eqPhI _ _) rfl) ?_
      refine DRun.step rfl (fun τ hN hr => step_not rfl (rdN hN (hn rfl)) rfl (by exact rdS hr rfl rfl)) ?_
      refine DRun.nil ?_
      refine AWp.cond rfl (fun c3 => ?_) (fun c3 => ?_)
      · try simp only [nrm] at c3
        refine AWp.seq (AWp.region ?_)
        refine ARun.step rfl (step_assignV rfl (hn rfl) rfl rfl) ?_
        refine ARun.nil ?_
        refine AWp.ret ?_
        refine RetIs.sc (.inr rfl) rfl rfl ?_
        refine congrArg T.bool ?_
        rw [eqL, all_not (i := i) (by omega) (by first | assumption | (simp only [eqPh]; grind)), Bool.and_false]
      · try simp only [nrm] at c3
        refine AWp.skip ?_
        refine AWp.region ?_
        refine ARun.step rfl (step_moveV rfl (hn rfl) rfl rfl) ?_
        refine ARun.step rfl (step_addI rfl (hn rfl) rfl rfl rfl (by omega) (by omega)) ?_
        refine ARun.step rfl (step_assignV rfl (hn rfl) rfl rfl) ?_
        refine ARun.nil ?_
        refine ⟨i + 1, ?_, ?_, Le.forgetR rfl ⟨rfl, rfl, rfl, trivial⟩ trivial trivial⟩
        · try dsimp only
          exact ⟨by omega, upto hall (by assumption)⟩
        · try dsimp only
          omega
    · try simp only [nrm] at c2
      refine AWp.exit ?_
      refine AWp.seq (AWp.region ?_)
      refine ARun.step rfl (step_assignV rfl (hn rfl) rfl rfl) ?_
      refine ARun.nil ?_
      refine AWp.ret ?_
      refine RetIs.sc (.inr rfl) rfl rfl ?_
      refine congrArg T.bool ?_
      rw [eqL, all_of (fun j hj => hall j (by omega)), show (a.length == b.length) = true by simp; omega, Bool.and_true]
theorem boundI0 (l : List Ph) (n : Nat) (s : Str) (h : recOk l = true) (hr : rank l s < n + 1) (ih : ∀ s, rank l s < n → ASpec Tryz.prog 69 [.one (phs 85 l), .one (.str s)] (.one (.int .i64 (boundG l n s)))) : ASpec Tryz.prog 69 [.one (phs 85 l), .one (.str s)] (.one (.int .i64 (boundG l (n + 1) s))) := by
  refine ASpec.body Tryz.func69 rfl [4] rfl 32 rfl rfl rfl ?_
  have ha := atP_lt l s
  have hlen := recOk_len h
  refine AWp.seq (AWp.region ?_)
  refine ARun.step rfl (step_assignV rfl (hn rfl) rfl rfl) ?_
  refine ARun.nil ?_
  refine AWp.seq (AWp.region ?_)
  refine ARun.step rfl (step_moveV rfl (hn rfl) rfl rfl) ?_
  refine ARun.step rfl (step_moveV rfl (hn rfl) rfl rfl) ?_
  refine ARun.step rfl (call_step1 rfl (hn rfl) rfl ysCo59 (.cons rfl (.one (.v _)) (.cons rfl (.one (.v _)) (.nil))) (phaseI _ _) rfl) ?_
  refine ARun.step rfl (step_assignV rfl (hn rfl) rfl rfl) ?_
  refine ARun.nil ?_
  refine AWp.seq ?_
  refine AWp.seq (AWp.region ?_)
  refine ARun.step rfl (step_moveV rfl (hn rfl) rfl rfl) ?_
  refine ARun.step rfl (step_lss rfl (hn rfl) rfl rfl rfl) ?_
  refine ARun.nil ?_
  refine AWp.cond rfl (fun c1 => ?_) (fun c1 => ?_)
  · try simp only [nrm] at c1
    refine AWp.seq (AWp.region ?_)
    refine ARun.step rfl (step_assignV rfl (hn rfl) rfl rfl) ?_
    refine ARun.nil ?_
    refine AWp.ret ?_
    refine RetIs.sc (.inr rfl) rfl rfl ?_
    refine congrArg (T.int _) ?_
    rw [boundG, if_pos (by omega)]
  · try simp only [nrm] at c1
    have hrl := rank_le l s
    have hw := within_ok h (i := (atP l s).toNat) (by omega)
    have hrt := rank_thn h (s := s) (by omega)
    have hb1 := boundG_le h n (nth l (atP l s).toNat).thn
    have hb2 := boundG_le h n (nth l (atP l s).toNat).els
    refine AWp.skip ?_
    refine AWp.seq (AWp.draw [⟨[.s 0], [.s 11], false⟩, ⟨[.s 5], [.s 12], false⟩, ⟨[.s 11, .s 12], [.s 13], false⟩, ⟨[.s 13], [.s 14], false⟩, ⟨[.s 14], [.s 15], false⟩, ⟨[.s 0], [.s 16], false⟩, ⟨[.s 0], [.s 17], false⟩, ⟨[.s 5], [.s 18], false⟩, ⟨[.s 17, .s 18], [.s 19], false⟩, ⟨[.s 19], [.s 20], false⟩, ⟨[.s 20], [.s 21], false⟩, ⟨[.s 21, .s 16], [.s 22], false⟩, ⟨[.s 0], [.s 23], false⟩, ⟨[.s 0], [.s 24], false⟩, ⟨[.s 5], [.s 25], false⟩, ⟨[.s 24, .s 25], [.s 26], false⟩, ⟨[.s 26], [.s 27], false⟩, ⟨[.s 27], [.s 28], false⟩, ⟨[.s 28, .s 23], [.s 29], false⟩, ⟨[.s 22, .s 29], [.s 30], false⟩, ⟨[.s 15, .s 30], [.s 31], false⟩, ⟨[], [], true⟩] ysMo rfl ?_)
    refine DRun.step rfl (fun τ hN hr => step_moveV rfl (rdN hN (hn rfl)) rfl (by exact rdS hr rfl rfl)) ?_
    refine DRun.step rfl (fun τ hN hr => step_moveV rfl (rdN hN (hn rfl)) rfl (by exact rdS hr rfl rfl)) ?_
    refine DRun.step rfl (fun τ hN hr => step_index_f rfl (rdN hN (hn rfl)) rfl ysSl48 (by exact rdS hr rfl rfl) (by exact rdS hr rfl rfl) (by omega) (by omega)) ?_
    refine DRun.step rfl (fun τ hN hr => step_field_f rfl (rdN hN (hn rfl)) rfl ysFo85_5 (by exact rdS hr rfl rfl)) ?_
    refine DRun.step rfl (fun τ hN hr => step_load_f rfl (rdN hN (hn rfl)) rfl ysSc3 (by exact rdS hr rfl rfl) (hn rfl) rfl) ?_
    refine DRun.step rfl (fun τ hN hr => step_moveV rfl (rdN hN (hn rfl)) rfl (by exact rdS hr rfl rfl)) ?_
    refine DRun.step rfl (fun τ hN hr => step_moveV rfl (rdN hN (hn rfl)) rfl (by exact rdS hr rfl rfl)) ?_
    refine DRun.step rfl (fun τ hN hr => step_moveV rfl (rdN hN (hn rfl)) rfl (by exact rdS hr rfl rfl)) ?_
    refine DRun.step rfl (fun τ hN hr => step_index_f rfl (rdN hN (hn rfl)) rfl ysSl48 (by exact rdS hr rfl rfl) (by exact rdS hr rfl rfl) (by omega) (by omega)) ?_
    refine DRun.step rfl (fun τ hN hr => step_field_f rfl (rdN hN (hn rfl)) rfl ysFo85_6 (by exact rdS hr rfl rfl)) ?_
    refine DRun.step rfl (fun τ hN hr => step_load_f rfl (rdN hN (hn rfl)) rfl ysSc9 (by exact rdS hr rfl rfl) (hn rfl) rfl) ?_
    refine DRun.step rfl (fun τ hN hr => call_step1 rfl (rdN hN (hn rfl)) rfl ysCo69 (.cons (by exact rdS hr rfl rfl) (.one (.v _)) (.cons (by exact rdS hr rfl rfl) (.one (.v _)) (.nil))) (ih _ (by omega)) rfl) ?_
    refine DRun.step rfl (fun τ hN hr => step_moveV rfl (rdN hN (hn rfl)) rfl (by exact rdS hr rfl rfl)) ?_
    refine DRun.step rfl (fun τ hN hr => step_moveV rfl (rdN hN (hn rfl)) rfl (by exact rdS hr rfl rfl)) ?_
    refine DRun.step rfl (fun τ hN hr => step_moveV rfl (rdN hN (hn rfl)) rfl (by exact rdS hr rfl rfl)) ?_
    refine DRun.step rfl (fun τ hN hr => step_index_f rfl (rdN hN (hn rfl)) rfl ysSl48 (by exact rdS hr rfl rfl) (by exact rdS hr rfl rfl) (by omega) (by omega)) ?_
    refine DRun.step rfl (fun τ hN hr => step_field_f rfl (rdN hN (hn rfl)) rfl ysFo85_7 (by exact rdS hr rfl rfl)) ?_
    refine DRun.step rfl (fun τ hN hr => step_load_f rfl (rdN hN (hn rfl)) rfl ysSc9 (by exact rdS hr rfl rfl) (hn rfl) rfl) ?_
    refine DRun.step rfl (fun τ hN hr => call_step1 rfl (rdN hN (hn rfl)) rfl ysCo69 (.cons (by exact rdS hr rfl rfl) (.one (.v _)) (.cons (by exact rdS hr rfl rfl) (.one (.v _)) (.nil))) (ih _ (by omega)) rfl) ?_
    refine DRun.step rfl (fun τ hN hr => step_max rfl (rdN hN (hn rfl)) rfl (by exact rdS hr rfl rfl) (by exact rdS hr rfl rfl)) ?_
    refine DRun.step rfl (fun τ hN hr => step_addI rfl (rdN hN (hn rfl)) rfl (by exact rdS hr rfl rfl) (by exact rdS hr rfl rfl) (by omega) (by omega)) ?_
    refine DRun.lastS rfl (step_assignV rfl (hn rfl) rfl rfl) ?_
    refine AWp.ret ?_
    refine RetIs.sc (.inr rfl) rfl rfl ?_
    refine congrArg (T.int _) ?_
    rw [boundG, if_neg (by omega)]
    try omega
theorem boundI (l : List Ph) (h : recOk l = true) : ∀ (n : Nat) (s : Str), rank l s < n → ASpec Tryz.prog 69 [.one (phs 85 l), .one (.str s)] (.one (.int .i64 (boundG l n s)))
  | 0, s, hr => by omega
  | n + 1, s, hr => boundI0 l n s h hr (boundI l h n)
theorem bndI (l : List Ph) (h : recOk l = true) (s : Str) : ASpec Tryz.prog 69 [.one (phs 85 l), .one (.str s)] (.one (.int .i64 (bnd l s))) := boundI l h (l.length + 1) s (rank_le l s)
theorem boundS0 (l : List Ph) (n : Nat) (s : Str) (h : recOk l = true) (hr : rank l s < n + 1) (ih : ∀ s, rank l s < n → ASpec Tryz.prog 36 [.one (phs 85 l), .one (.str s)] (.one (.int .i64 (boundG l n s)))) : ASpec Tryz.prog 36 [.one (phs 85 l), .one (.str s)] (.one (.int .i64 (boundG l (n + 1) s))) := by
  refine ASpec.body Tryz.func36 rfl [4] rfl 38 rfl rfl rfl ?_
  have ha := atP_lt l s
  have hlen := recOk_len h
  refine AWp.seq (AWp.region ?_)
  refine ARun.step rfl (step_assignV rfl (hn rfl) rfl rfl) ?_
  refine ARun.nil ?_
  refine AWp.seq (AWp.region ?_)
  refine ARun.step rfl (step_moveV rfl (hn rfl) rfl rfl) ?_
  refine ARun.step rfl (step_moveV rfl (hn rfl) rfl rfl) ?_
  refine ARun.step rfl (call_step1 rfl (hn rfl) rfl ysCo46 (.cons rfl (.one (.v _)) (.cons rfl (.one (.v _)) (.nil))) (l42At _ _) rfl) ?_
  refine ARun.step rfl (step_assignV rfl (hn rfl) rfl rfl) ?_
  refine ARun.nil ?_
  refine AWp.seq ?_
  refine AWp.seq (AWp.region ?_)
  refine ARun.step rfl (step_moveV rfl (hn rfl) rfl rfl) ?_
  refine ARun.step rfl (step_lss rfl (hn rfl) rfl rfl rfl) ?_
  refine ARun.nil ?_
  refine AWp.cond rfl (fun c1 => ?_) (fun c1 => ?_)
  · try simp only [nrm] at c1
    refine AWp.seq (AWp.region ?_)
    refine ARun.step rfl (step_assignV rfl (hn rfl) rfl rfl) ?_
    refine ARun.nil ?_
    refine AWp.ret ?_
    refine RetIs.sc (.inr rfl) rfl rfl ?_
    refine congrArg (T.int _) ?_
    rw [boundG, if_pos (by omega)]
  · try simp only [nrm] at c1
    have hrl := rank_le l s
    have hw := within_ok h (i := (atP l s).toNat) (by omega)
    have hrt := rank_thn h (s := s) (by omega)
    have hb1 := boundG_le h n (nth l (atP l s).toNat).thn
    have hb2 := boundG_le h n (nth l (atP l s).toNat).els
    refine AWp.skip ?_
    refine AWp.seq (AWp.region ?_)
    refine ARun.step rfl (step_moveV rfl (hn rfl) rfl rfl) ?_
    refine ARun.step rfl (step_moveV rfl (hn rfl) rfl rfl) ?_
    refine ARun.step rfl (step_moveV rfl (hn rfl) rfl rfl) ?_
    refine ARun.step rfl (step_index_f rfl (hn rfl) rfl ysSl48 rfl rfl (by omega) (by omega)) ?_
    refine ARun.step rfl (step_field_f rfl (hn rfl) rfl ysFo85_6 rfl) ?_
    refine ARun.step rfl (step_load_f rfl (hn rfl) rfl ysSc9 rfl (hn rfl) rfl) ?_
    refine ARun.step rfl (call_step1 rfl (hn rfl) rfl ysCo36 (.cons rfl (.one (.v _)) (.cons rfl (.one (.v _)) (.nil))) (ih _ (by omega)) rfl) ?_
    refine ARun.step rfl (step_assignV rfl (hn rfl) rfl rfl) ?_
    refine ARun.nil ?_
    refine AWp.seq (AWp.region ?_)
    refine ARun.step rfl (step_moveV rfl (hn rfl) rfl rfl) ?_
    refine ARun.step rfl (step_moveV rfl (hn rfl) rfl rfl) ?_
    refine ARun.step rfl (step_moveV rfl (hn rfl) rfl rfl) ?_
    refine ARun.step rfl (step_index_f rfl (hn rfl) rfl ysSl48 rfl rfl (by omega) (by omega)) ?_
    refine ARun.step rfl (step_field_f rfl (hn rfl) rfl ysFo85_7 rfl) ?_
    refine ARun.step rfl (step_load_f rfl (hn rfl) rfl ysSc9 rfl (hn rfl) rfl) ?_
    refine ARun.step rfl (call_step1 rfl (hn rfl) rfl ysCo36 (.cons rfl (.one (.v _)) (.cons rfl (.one (.v _)) (.nil))) (ih _ (by omega)) rfl) ?_
    refine ARun.step rfl (step_assignV rfl (hn rfl) rfl rfl) ?_
    refine ARun.nil ?_
    refine AWp.seq ?_
    refine AWp.seq (AWp.region ?_)
    refine ARun.step rfl (step_moveV rfl (hn rfl) rfl rfl) ?_
    refine ARun.step rfl (step_moveV rfl (hn rfl) rfl rfl) ?_
    refine ARun.step rfl (step_lss rfl (hn rfl) rfl rfl rfl) ?_
    refine ARun.nil ?_
    refine AWp.cond rfl (fun c2 => ?_) (fun c2 => ?_)
    · try simp only [nrm] at c2
      refine AWp.region ?_
      refine ARun.step rfl (step_moveV rfl (hn rfl) rfl rfl) ?_
      refine ARun.step rfl (step_assignV rfl (hn rfl) rfl rfl) ?_
      refine ARun.nil ?_
      refine AWp.seq (AWp.region ?_)
      refine ARun.step rfl (step_moveV rfl (hn rfl) rfl rfl) ?_
      refine ARun.step rfl (step_moveV rfl (hn rfl) rfl rfl) ?_
      refine ARun.step rfl (step_moveV rfl (hn rfl) rfl rfl) ?_
      refine ARun.step rfl (step_index_f rfl (hn rfl) rfl ysSl48 rfl rfl (by omega) (by omega)) ?_
      refine ARun.step rfl (step_field_f rfl (hn rfl) rfl ysFo85_5 rfl) ?_
      refine ARun.step rfl (step_load_f rfl (hn rfl) rfl ysSc3 rfl (hn rfl) rfl) ?_
      refine ARun.step rfl (step_addI rfl (hn rfl) rfl rfl rfl (by omega) (by omega)) ?_
      refine ARun.step rfl (step_assignV rfl (hn rfl) rfl rfl) ?_
      refine ARun.nil ?_
      refine AWp.ret ?_
      refine RetIs.sc (.inr rfl) rfl rfl ?_
      refine congrArg (T.int _) ?_
      rw [boundG, if_neg (by omega)]
      try omega
    · try simp only [nrm] at c2
      refine AWp.skip ?_
      refine AWp.seq (AWp.region ?_)
      refine ARun.step rfl (step_moveV rfl (hn rfl) rfl rfl) ?_
      refine ARun.step rfl (step_moveV rfl (hn rfl) rfl rfl) ?_
      refine ARun.step rfl (step_moveV rfl (hn rfl) rfl rfl) ?_
      refine ARun.step rfl (step_index_f rfl (hn rfl) rfl ysSl48 rfl rfl (by omega) (by omega)) ?_
      refine ARun.step rfl (step_field_f rfl (hn rfl) rfl ysFo85_5 rfl) ?_
      refine ARun.step rfl (step_load_f rfl (hn rfl) rfl ysSc3 rfl (hn rfl) rfl) ?_
      refine ARun.step rfl (step_addI rfl (hn rfl) rfl rfl rfl (by omega) (by omega)) ?_
      refine ARun.step rfl (step_assignV rfl (hn rfl) rfl rfl) ?_
      refine ARun.nil ?_
      refine AWp.ret ?_
      refine RetIs.sc (.inr rfl) rfl rfl ?_
      refine congrArg (T.int _) ?_
      rw [boundG, if_neg (by omega)]
      try omega
theorem boundS (l : List Ph) (h : recOk l = true) : ∀ (n : Nat) (s : Str), rank l s < n → ASpec Tryz.prog 36 [.one (phs 85 l), .one (.str s)] (.one (.int .i64 (boundG l n s)))
  | 0, s, hr => by omega
  | n + 1, s, hr => boundS0 l n s h hr (boundS l h n)
theorem bndS (l : List Ph) (h : recOk l = true) (s : Str) : ASpec Tryz.prog 36 [.one (phs 85 l), .one (.str s)] (.one (.int .i64 (bnd l s))) := boundS l h (l.length + 1) s (rank_le l s)

end Go.Proofs.YtomjieobbgcjeaaGreat
