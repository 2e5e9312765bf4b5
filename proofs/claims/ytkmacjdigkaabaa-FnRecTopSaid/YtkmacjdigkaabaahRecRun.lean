/- Contracts of functions of the program, each met by its body; conditions stand in each statement. No condition. -/
import Derived.Test.YtkmacjdigkaabaahRecB
import Derived.Test.YtkmacjdigkaabaaGh
import Derived.Test.YtkmacjdigkaabaaProg
import Derived.KernelRfl
set_option linter.unusedVariables false
set_option linter.unusedSimpArgs false
set_option linter.unnecessarySimpa false
set_option linter.unusedSimpArgs false
set_option maxRecDepth 100000
namespace Go.Proofs.Ytkmacjdigkaabaa
open Go Go.Mh
structure Say where
  ticks : Int
  well : Bool
deriving Inhabited
def Say.cells (p : Say) : List T := [.int .i64 p.ticks, .bool p.well]
def says (e : Nat) (l : List Say) : T := .sl e 2 l.length (fun i => (nth l i).cells)
structure RSt where
  at_ : Str
  now : Int
  left : Int
deriving Inhabited
def RSt.cells (p : RSt) : List T := [.str p.at_, .int .i64 p.now, .int .i64 p.left]
def eqRSt (p q : RSt) : Bool := strEq p.at_ q.at_ && p.now == q.now && p.left == q.left
theorem eqRSt_refl (p : RSt) : eqRSt p p = true := by simp [eqRSt, strEq_refl]
/-- the most ticks from a phase on -/
def boundG (l : List Ph) : Nat → Str → Int
  | 0, _ => 0
  | n + 1, s => if atP l s < 0 then 0 else (nth l (atP l s).toNat).within + max (boundG l n (nth l (atP l s).toNat).thn) (boundG l n (nth l (atP l s).toNat).els)
def bnd (l : List Ph) (s : Str) : Int := boundG l (l.length + 1) s
theorem boundG_eq {l : List Ph} (hl : recOk l = true) : ∀ (n m : Nat) (s : Str), rank l s < n → rank l s < m → boundG l n s = boundG l m s
  | 0, _, _, h, _ => absurd h (Nat.not_lt_zero _)
  | _, 0, _, _, h => absurd h (Nat.not_lt_zero _)
  | n + 1, m + 1, s, h1, h2 => by
    simp only [boundG]
    split
    · rfl
    · have := rank_thn hl (s := s) (by omega)
      rw [boundG_eq hl n m _ (by omega) (by omega), boundG_eq hl n m _ (by omega) (by omega)]
theorem okAt_of {l : List Ph} (hl : recOk l = true) {i : Nat} (hi : i < l.length) : okAt l i = true := by
  rw [recOk_eq, Bool.and_eq_true, List.all_eq_true] at hl
  exact hl.2 i (List.mem_range.2 hi)
theorem recOk_len {l : List Ph} (hl : recOk l = true) : 1 ≤ l.length ∧ l.length ≤ 12 := by
  rw [recOk_eq, Bool.and_eq_true] at hl
  have := hl.1
  simp only [inB, Bool.and_eq_true, decide_eq_true_eq] at this
  omega
theorem within_ok {l : List Ph} (hl : recOk l = true) {i : Nat} (hi : i < l.length) : 1 ≤ (nth l i).within ∧ (nth l i).within ≤ 1000 := by
  have h := okAt_of hl hi
  simp only [okAt, phaseOk, inB, Bool.and_eq_true, decide_eq_true_eq] at h
  omega
theorem boundG_le {l : List Ph} (hl : recOk l = true) : ∀ (n : Nat) (s : Str), 0 ≤ boundG l n s ∧ boundG l n s ≤ 1000 * (rank l s : Nat)
  | 0, _ => by simp only [boundG]; omega
  | n + 1, s => by
    simp only [boundG]
    split
    · omega
    · have ha := atP_lt l s
      have h1 := within_ok hl (i := (atP l s).toNat) (by omega)
      have hr := rank_thn hl (s := s) (by omega)
      have h2 := boundG_le hl n (nth l (atP l s).toNat).thn
      have h3 := boundG_le hl n (nth l (atP l s).toNat).els
      omega
/-- a phase goes -/
def goT (p : Ph) (y : Say) : Int := if (y.well && p.kind == 3) = true then max (max 0 y.ticks) p.n else max 0 y.ticks
def goSt (l : List Ph) (st : RSt) (y : Say) : RSt :=
  let p := nth l (atP l st.at_).toNat
  if p.within < goT p y then ⟨p.els, st.now + p.within, bnd l p.els⟩
  else if y.well = true then ⟨p.thn, st.now + goT p y, bnd l p.thn⟩ else ⟨p.els, st.now + goT p y, bnd l p.els⟩
def goOk (l : List Ph) (st : RSt) : Bool := recOk l && (decide (0 ≤ atP l st.at_) && (decide (0 ≤ st.now) && decide (st.now ≤ 12000)))
def begSt (l : List Ph) : RSt := if recOk l = true then ⟨(nth l 0).name, 0, bnd l (nth l 0).name⟩ else ⟨⟨#[]⟩, 0, 0⟩
def noSay : Say := ⟨1001, false⟩
def runG (l : List Ph) : Nat → RSt → List Say → RSt × List Str
  | 0, st, _ => (st, [])
  | n + 1, st, y => if atP l st.at_ < 0 then (st, []) else ((runG l n (goSt l st (y.headD noSay)) y.tail).1, st.at_ :: (runG l n (goSt l st (y.headD noSay)) y.tail).2)
def recRun (l : List Ph) (y : List Say) : RSt × List Str := if recOk l = true then runG l (l.length + 1) (begSt l) y else (begSt l, [])

theorem end_iff {l : List Ph} (hl : recOk l = true) {s : Str} {i : Nat} (h : refOk l i s = true) : recEnd s = 0 ↔ 0 ≤ atP l s := by
  constructor
  · intro h0
    simp only [refOk, h0, beq_self_eq_true, Bool.true_and, Bool.not_eq_true', decide_eq_false_iff_not] at h
    omega
  · intro h0
    have ha := atP_lt l s
    have hn := atP_name (l := l) (s := s) h0
    have hk := okAt_of hl (i := (atP l s).toNat) (by omega)
    simp only [okAt, phaseOk, plainOk, Bool.and_eq_true, beq_iff_eq] at hk
    have := hk.1.1.1.1.1.1.1.2
    rwa [strEq_eq hn] at this
def stOk (l : List Ph) (st : RSt) : Prop := (0 ≤ st.now ∧ st.now + 1000 * (rank l st.at_ : Nat) ≤ 1000 * (l.length : Nat)) ∧ (recEnd st.at_ = 0 ↔ 0 ≤ atP l st.at_)
theorem goT_nn (p : Ph) (y : Say) : 0 ≤ goT p y := by unfold goT; split <;> omega
theorem go_ok {l : List Ph} (hl : recOk l = true) {st : RSt} (h : stOk l st) (h0 : 0 ≤ atP l st.at_) (y : Say) : stOk l (goSt l st y) ∧ rank l (goSt l st y).at_ < rank l st.at_ := by
  have ha := atP_lt l st.at_
  have hw := within_ok hl (i := (atP l st.at_).toNat) (by omega)
  have hr := rank_thn hl h0
  have hk := okAt_of hl (i := (atP l st.at_).toNat) (by omega)
  simp only [okAt, Bool.and_eq_true] at hk
  have e1 := end_iff hl hk.1.2
  have e2 := end_iff hl hk.2
  have ht := goT_nn (nth l (atP l st.at_).toNat) y
  obtain ⟨⟨h1, h2⟩, h3⟩ := h
  unfold goSt
  simp only
  split
  · exact ⟨⟨⟨by simp only; omega, by simp only; omega⟩, e2⟩, hr.2⟩
  · split
    · exact ⟨⟨⟨by simp only; omega, by simp only; omega⟩, e1⟩, hr.1⟩
    · exact ⟨⟨⟨by simp only; omega, by simp only; omega⟩, e2⟩, hr.2⟩
theorem beg_ok {l : List Ph} (hl : recOk l = true) : stOk l (begSt l) := by
  have hl' := hl
  rw [recOk_eq, Bool.and_eq_true] at hl'
  have hlen : 1 ≤ l.length := by
    have := hl'.1
    simp only [inB, Bool.and_eq_true, decide_eq_true_eq] at this
    omega
  have hk := okAt_of hl (i := 0) (by omega)
  simp only [okAt, phaseOk, plainOk, Bool.and_eq_true, beq_iff_eq] at hk
  have hr := rank_le l (nth l 0).name
  have hat : atP l (nth l 0).name = 0 := by simpa using hk.1.1.2
  have hrk : rank l (nth l 0).name = l.length := by simp [rank, hat]
  unfold begSt
  rw [if_pos hl]
  refine ⟨⟨Int.le_refl _, by simp only; rw [hrk]; omega⟩, ?_⟩
  simp only
  exact ⟨fun _ => by omega, fun _ => hk.1.1.1.1.1.1.1.2⟩
theorem runG_end {l : List Ph} {n : Nat} {st : RSt} {y : List Say} (h : atP l st.at_ < 0) : runG l n st y = (st, []) := by
  cases n with
  | zero => rfl
  | succ n => simp only [runG, if_pos h]
theorem runG_step {l : List Ph} {n : Nat} {st : RSt} {y : List Say} (h : 0 ≤ atP l st.at_) : runG l (n + 1) st y = ((runG l n (goSt l st (y.headD noSay)) y.tail).1, st.at_ :: (runG l n (goSt l st (y.headD noSay)) y.tail).2) := by
  simp only [runG]; rw [if_neg (by omega)]
theorem goOk_of {l : List Ph} (hl : recOk l = true) {st : RSt} (h : stOk l st) (h0 : 0 ≤ atP l st.at_) : goOk l st = true := by
  have hl' := hl
  rw [recOk_eq, Bool.and_eq_true] at hl'
  have hlen : l.length ≤ 12 := by
    have := hl'.1
    simp only [inB, Bool.and_eq_true, decide_eq_true_eq] at this
    omega
  obtain ⟨⟨h1, h2⟩, h3⟩ := h
  simp only [goOk, hl, Bool.true_and, Bool.and_eq_true, decide_eq_true_eq]
  exact ⟨h0, h1, by omega⟩

theorem tupSt {a : Str} {b c : Int} {q : RSt} (h1 : a = q.at_) (h2 : b = q.now) (h3 : c = q.left) : PV.tup [PV.agg [T.str a, T.int .i64 b, T.int .i64 c], PV.one (T.bool true)] = PV.tup [PV.agg q.cells, PV.one (T.bool true)] := by
  subst h1 h2 h3; rfl
theorem hold_n {l : List Ph} (hl : recOk l = true) {i : Nat} (hi : i < l.length) : (nth l i).kind = 3 → 1 ≤ (nth l i).n ∧ (nth l i).n ≤ (nth l i).within := by
  intro h3
  have h := okAt_of hl hi
  simp only [okAt, phaseOk, argsOk, h3, inB, Bool.and_eq_true, decide_eq_true_eq] at h
  simp at h
  omega

def runInv (l : List Ph) (y : List Say) (st : RSt) (pa : List Str) (sy : List Say) : Prop :=
  stOk l st ∧ pa.length + rank l st.at_ ≤ l.length ∧ ∃ n, rank l st.at_ < n ∧ recRun l y = ((runG l n st sy).1, pa ++ (runG l n st sy).2)
theorem run_beg {l : List Ph} (hl : recOk l = true) (y : List Say) : runInv l y (begSt l) [] y := by
  have hr := rank_le l (begSt l).at_
  have hb := beg_ok hl
  refine ⟨hb, ?_, l.length + 1, hr, by rw [recRun, if_pos hl]; rfl⟩
  simp only [List.length_nil]
  omega
theorem run_back {l : List Ph} {y : List Say} {st : RSt} {pa : List Str} {sy sy' : List Say} {say : Say} (hl : recOk l = true) (hi : runInv l y st pa sy) (h0 : 0 ≤ atP l st.at_) (hh : sy.headD noSay = say) (ht : sy.tail = sy') :
    goOk l st = true ∧ runInv l y (if goOk l st = true then goSt l st say else st) (pa ++ [st.at_]) sy' ∧ rank l (if goOk l st = true then goSt l st say else st).at_ < rank l st.at_ := by
  obtain ⟨h1, h2, n, h3, h4⟩ := hi
  have hg := goOk_of hl h1 h0
  rw [if_pos hg]
  have hs := go_ok hl h1 h0 say
  refine ⟨hg, ⟨hs.1, by simp only [List.length_append, List.length_cons, List.length_nil]; omega, n - 1, by omega, ?_⟩, hs.2⟩
  rw [h4, show n = (n - 1) + 1 by omega, runG_step h0, hh, ht, Nat.add_sub_cancel]
  simp only [List.append_assoc, List.cons_append, List.nil_append]
theorem run_end {l : List Ph} {y : List Say} {st : RSt} {pa : List Str} {sy : List Say} (hi : runInv l y st pa sy) (h0 : atP l st.at_ < 0) : recRun l y = (st, pa) := by
  obtain ⟨h1, h2, n, h3, h4⟩ := hi
  rw [h4, runG_end h0, List.append_nil]
theorem head_drop {y : List Say} {i : Nat} (h : i < y.length) : (y.drop i).headD noSay = nth y i ∧ (y.drop i).tail = y.drop (i + 1) := by
  rw [drop_nth h]; exact ⟨rfl, rfl⟩
theorem head_end {y : List Say} {i : Nat} (h : y.length ≤ i) : (y.drop i).headD noSay = noSay ∧ (y.drop i).tail = y.drop (i + 1) := by
  rw [List.drop_of_length_le h, List.drop_of_length_le (by omega)]; exact ⟨rfl, rfl⟩
theorem says_drop (y : List Say) (i q : Nat) : (nth y (i + q)).cells = (nth (y.drop i) q).cells := by
  simp [nth, List.getD_eq_getElem?_getD, List.getElem?_drop]

theorem ysCo122 : callOk Try.prog 122 = true := by kernel_rfl
theorem ysSl62 : sliceT Try.prog 62 = some ⟨74, 8, 104⟩ := by kernel_rfl
theorem ysFo74_5 : fieldOff Try.prog 74 5 = some 5 := by kernel_rfl
theorem ysSc3 : scalarB Try.prog 3 = true := by kernel_rfl
theorem ysFo74_6 : fieldOff Try.prog 74 6 = some 6 := by kernel_rfl
theorem ysSc9 : scalarB Try.prog 9 = true := by kernel_rfl
theorem ysCo121 : callOk Try.prog 121 = true := by kernel_rfl
theorem ysFo74_7 : fieldOff Try.prog 74 7 = some 7 := by kernel_rfl
theorem ysMo : Try.prog.follows .mixedOrders = true := by kernel_rfl
theorem ysCo115 : callOk Try.prog 115 = true := by kernel_rfl
theorem ysCo178 : callOk Try.prog 178 = true := by kernel_rfl
theorem ysZs67 : zeroSz Try.prog 67 = some 3 := by kernel_rfl
theorem ysPl67 : structPl Try.prog 67 = some [(0, 1), (1, 1), (2, 1)] := by kernel_rfl
theorem ysZc67 : zeroCs Try.prog 67 = some [.v (.str ⟨#[]⟩), .v (.int .i64 0), .v (.int .i64 0)] := by kernel_rfl
theorem ysCs67 : cellsSz Try.prog 67 = some (2 + 1) := by kernel_rfl
theorem ysSt67 : structSz Try.prog 67 = some 3 := by kernel_rfl
theorem ysCo113 : callOk Try.prog 113 = true := by kernel_rfl
theorem ysFo74_0 : fieldOff Try.prog 74 0 = some 0 := by kernel_rfl
theorem ysCo60 : callOk Try.prog 60 = true := by kernel_rfl
theorem ysCo142 : callOk Try.prog 142 = true := by kernel_rfl
theorem ysSt74 : structSz Try.prog 74 = some 8 := by kernel_rfl
theorem ysZs74 : zeroSz Try.prog 74 = some 8 := by kernel_rfl
theorem ysCs74 : cellsSz Try.prog 74 = some (7 + 1) := by kernel_rfl
theorem ysFo78_0 : fieldOff Try.prog 78 0 = some 0 := by kernel_rfl
theorem ysFo78_1 : fieldOff Try.prog 78 1 = some 1 := by kernel_rfl
theorem ysSc4 : scalarB Try.prog 4 = true := by kernel_rfl
theorem ysFo74_1 : fieldOff Try.prog 74 1 = some 1 := by kernel_rfl
theorem ysFo74_4 : fieldOff Try.prog 74 4 = some 4 := by kernel_rfl
theorem ysFo67_1 : fieldOff Try.prog 67 1 = some 1 := by kernel_rfl
theorem ysFo67_0 : fieldOff Try.prog 67 0 = some 0 := by kernel_rfl
theorem ysCo117 : callOk Try.prog 117 = true := by kernel_rfl
theorem ysSt78 : structSz Try.prog 78 = some 2 := by kernel_rfl
theorem ysCo143 : callOk Try.prog 143 = true := by kernel_rfl
theorem ysCo64 : callOk Try.prog 64 = true := by kernel_rfl
theorem ysCo61 : callOk Try.prog 61 = true := by kernel_rfl
theorem ysPl78 : structPl Try.prog 78 = some [(0, 1), (1, 1)] := by kernel_rfl
theorem ysZc78 : zeroCs Try.prog 78 = some [.v (.int .i64 0), .v (.bool false)] := by kernel_rfl
theorem ysZs78 : zeroSz Try.prog 78 = some 2 := by kernel_rfl
theorem ysCs78 : cellsSz Try.prog 78 = some (1 + 1) := by kernel_rfl
theorem ysSl63 : sliceT Try.prog 63 = some ⟨78, 2, 16⟩ := by kernel_rfl
theorem ysSl22 : sliceT Try.prog 22 = some ⟨9, 1, 16⟩ := by kernel_rfl
theorem ysCo65 : callOk Try.prog 65 = true := by kernel_rfl
theorem ysCo114 : callOk Try.prog 114 = true := by kernel_rfl
theorem ysCo116 : callOk Try.prog 116 = true := by kernel_rfl
theorem boundI0 (l : List Ph) (n : Nat) (s : Str) (h : recOk l = true) (hr : rank l s < n + 1) (ih : ∀ s, rank l s < n → ASpec Try.prog 121 [.one (phs 74 l), .one (.str s)] (.one (.int .i64 (boundG l n s)))) : ASpec Try.prog 121 [.one (phs 74 l), .one (.str s)] (.one (.int .i64 (boundG l (n + 1) s))) := by
  refine ASpec.body Try.func121 rfl [4] rfl 32 rfl rfl rfl ?_
  have ha := atP_lt l s
  have hlen := recOk_len h
  refine AWp.seq (AWp.region ?_)
  refine ARun.step rfl (step_assignV rfl (hn rfl) rfl rfl) ?_
  refine ARun.nil ?_
  refine AWp.seq (AWp.region ?_)
  refine ARun.step rfl (step_moveV rfl (hn rfl) rfl rfl) ?_
  refine ARun.step rfl (step_moveV rfl (hn rfl) rfl rfl) ?_
  refine ARun.step rfl (call_step1 rfl (hn rfl) rfl ysCo122 (.cons rfl (.one (.v _)) (.cons rfl (.one (.v _)) (.nil))) (phaseI _ _) rfl) ?_
  refine ARun.step rfl (step_assignV rfl (hn rfl) rfl rfl) ?_
  refine ARun.nil ?_
  refine AWp.seq ?_
  refine AWp.seq (AWp.region ?_)
  refine ARun.step rfl (step_moveV rfl (hn rfl) rfl rfl) ?_
  refine ARun.step rfl (step_lss rfl (hn rfl) rfl rfl rfl) ?_
  refine ARun.nil ?_
  refine AWp.cond rfl (fun c1 => ?_) (fun c1 => ?_)
  · try simp only [nrm] at c1
    refine AWp.seq (AWp.region ?_)
    refine ARun.step rfl (step_assignV rfl (hn rfl) rfl rfl) ?_
    refine ARun.nil ?_
    refine AWp.ret ?_
    refine RetIs.sc (.inr rfl) rfl rfl ?_
    refine congrArg (T.int _) ?_
    rw [boundG, if_pos (by omega)]
  · try simp only [nrm] at c1
    have hrl := rank_le l s
    have hw := within_ok h (i := (atP l s).toNat) (by omega)
    have hrt := rank_thn h (s := s) (by omega)
    have hb1 := boundG_le h n (nth l (atP l s).toNat).thn
    have hb2 := boundG_le h n (nth l (atP l s).toNat).els
    refine AWp.skip ?_
    refine AWp.seq (AWp.draw [⟨[.s 0], [.s 11], false⟩, ⟨[.s 5], [.s 12], false⟩, ⟨[.s 11, .s 12], [.s 13], false⟩, ⟨[.s 13], [.s 14], false⟩, ⟨[.s 14], [.s 15], false⟩, ⟨[.s 0], [.s 16], false⟩, ⟨[.s 0], [.s 17], false⟩, ⟨[.s 5], [.s 18], false⟩, ⟨[.s 17, .s 18], [.s 19], false⟩, ⟨[.s 19], [.s 20], false⟩, ⟨[.s 20], [.s 21], false⟩, ⟨[.s 21, .s 16], [.s 22], false⟩, ⟨[.s 0], [.s 23], false⟩, ⟨[.s 0], [.s 24], false⟩, ⟨[.s 5], [.s 25], false⟩, ⟨[.s 24, .s 25], [.s 26], false⟩, ⟨[.s 26], [.s 27], false⟩, ⟨[.s 27], [.s 28], false⟩, ⟨[.s 28, .s 23], [.s 29], false⟩, ⟨[.s 22, .s 29], [.s 30], false⟩, ⟨[.s 15, .s 30], [.s 31], false⟩, ⟨[], [], true⟩] ysMo rfl ?_)
    refine DRun.step rfl (fun τ hN hr => step_moveV rfl (rdN hN (hn rfl)) rfl (by exact rdS hr rfl rfl)) ?_
    refine DRun.step rfl (fun τ hN hr => step_moveV rfl (rdN hN (hn rfl)) rfl (by exact rdS hr rfl rfl)) ?_
    refine DRun.step rfl (fun τ hN hr => step_index_f rfl (rdN hN (hn rfl)) rfl ysSl62 (by exact rdS hr rfl rfl) (by exact rdS hr rfl rfl) (by omega) (by omega)) ?_
    refine DRun.step rfl (fun τ hN hr => step_field_f rfl (rdN hN (hn rfl)) rfl ysFo74_5 (by exact rdS hr rfl rfl)) ?_
    refine DRun.step rfl (fun τ hN hr => step_load_f rfl (rdN hN (hn rfl)) rfl ysSc3 (by exact rdS hr rfl rfl) (hn rfl) rfl) ?_
    refine DRun.step rfl (fun τ hN hr => step_moveV rfl (rdN hN (hn rfl)) rfl (by exact rdS hr rfl rfl)) ?_
    refine DRun.step rfl (fun τ hN hr => step_moveV rfl (rdN hN (hn rfl)) rfl (by exact rdS hr rfl rfl)) ?_
    refine DRun.step rfl (fun τ hN hr => step_moveV rfl (rdN hN (hn rfl)) rfl (by exact rdS hr rfl rfl)) ?_
    refine DRun.step rfl (fun τ hN hr => step_index_f rfl (rdN hN (hn rfl)) rfl ysSl62 (by exact rdS hr rfl rfl) (by exact rdS hr rfl rfl) (by omega) (by omega)) ?_
    refine DRun.step rfl (fun τ hN hr => step_field_f rfl (rdN hN (hn rfl)) rfl ysFo74_6 (by exact rdS hr rfl rfl)) ?_
    refine DRun.step rfl (fun τ hN hr => step_load_f rfl (rdN hN (hn rfl)) rfl ysSc9 (by exact rdS hr rfl rfl) (hn rfl) rfl) ?_
    refine DRun.step rfl (fun τ hN hr => call_step1 rfl (rdN hN (hn rfl)) rfl ysCo121 (.cons (by exact rdS hr rfl rfl) (.one (.v _)) (.cons (by exact rdS hr rfl rfl) (.one (.v _)) (.nil))) (ih _ (by omega)) rfl) ?_
    refine DRun.step rfl (fun τ hN hr => step_moveV rfl (rdN hN (hn rfl)) rfl (by exact rdS hr rfl rfl)) ?_
    refine DRun.step rfl (fun τ hN hr => step_moveV rfl (rdN hN (hn rfl)) rfl (by exact rdS hr rfl rfl)) ?_
    refine DRun.step rfl (fun τ hN hr => step_moveV rfl (rdN hN (hn rfl)) rfl (by exact rdS hr rfl rfl)) ?_
    refine DRun.step rfl (fun τ hN hr => step_index_f rfl (rdN hN (hn rfl)) rfl ysSl62 (by exact rdS hr rfl rfl) (by exact rdS hr rfl rfl) (by omega) (by omega)) ?_
    refine DRun.step rfl (fun τ hN hr => step_field_f rfl (rdN hN (hn rfl)) rfl ysFo74_7 (by exact rdS hr rfl rfl)) ?_
    refine DRun.step rfl (fun τ hN hr => step_load_f rfl (rdN hN (hn rfl)) rfl ysSc9 (by exact rdS hr rfl rfl) (hn rfl) rfl) ?_
    refine DRun.step rfl (fun τ hN hr => call_step1 rfl (rdN hN (hn rfl)) rfl ysCo121 (.cons (by exact rdS hr rfl rfl) (.one (.v _)) (.cons (by exact rdS hr rfl rfl) (.one (.v _)) (.nil))) (ih _ (by omega)) rfl) ?_
    refine DRun.step rfl (fun τ hN hr => step_max rfl (rdN hN (hn rfl)) rfl (by exact rdS hr rfl rfl) (by exact rdS hr rfl rfl)) ?_
    refine DRun.step rfl (fun τ hN hr => step_addI rfl (rdN hN (hn rfl)) rfl (by exact rdS hr rfl rfl) (by exact rdS hr rfl rfl) (by omega) (by omega)) ?_
    refine DRun.lastS rfl (step_assignV rfl (hn rfl) rfl rfl) ?_
    refine AWp.ret ?_
    refine RetIs.sc (.inr rfl) rfl rfl ?_
    refine congrArg (T.int _) ?_
    rw [boundG, if_neg (by omega)]
    try omega
theorem boundI (l : List Ph) (h : recOk l = true) : ∀ (n : Nat) (s : Str), rank l s < n → ASpec Try.prog 121 [.one (phs 74 l), .one (.str s)] (.one (.int .i64 (boundG l n s)))
  | 0, s, hr => by omega
  | n + 1, s, hr => boundI0 l n s h hr (boundI l h n)
theorem bndI (l : List Ph) (h : recOk l = true) (s : Str) : ASpec Try.prog 121 [.one (phs 74 l), .one (.str s)] (.one (.int .i64 (bnd l s))) := boundI l h (l.length + 1) s (rank_le l s)
theorem boundS0 (l : List Ph) (n : Nat) (s : Str) (h : recOk l = true) (hr : rank l s < n + 1) (ih : ∀ s, rank l s < n → ASpec Try.prog 178 [.one (phs 74 l), .one (.str s)] (.one (.int .i64 (boundG l n s)))) : ASpec Try.prog 178 [.one (phs 74 l), .one (.str s)] (.one (.int .i64 (boundG l (n + 1) s))) := by
  refine ASpec.body Try.func178 rfl [4] rfl 38 rfl rfl rfl ?_
  have ha := atP_lt l s
  have hlen := recOk_len h
  refine AWp.seq (AWp.region ?_)
  refine ARun.step rfl (step_assignV rfl (hn rfl) rfl rfl) ?_
  refine ARun.nil ?_
  refine AWp.seq (AWp.region ?_)
  refine ARun.step rfl (step_moveV rfl (hn rfl) rfl rfl) ?_
  refine ARun.step rfl (step_moveV rfl (hn rfl) rfl rfl) ?_
  refine ARun.step rfl (call_step1 rfl (hn rfl) rfl ysCo115 (.cons rfl (.one (.v _)) (.cons rfl (.one (.v _)) (.nil))) (l42At _ _) rfl) ?_
  refine ARun.step rfl (step_assignV rfl (hn rfl) rfl rfl) ?_
  refine ARun.nil ?_
  refine AWp.seq ?_
  refine AWp.seq (AWp.region ?_)
  refine ARun.step rfl (step_moveV rfl (hn rfl) rfl rfl) ?_
  refine ARun.step rfl (step_lss rfl (hn rfl) rfl rfl rfl) ?_
  refine ARun.nil ?_
  refine AWp.cond rfl (fun c1 => ?_) (fun c1 => ?_)
  · try simp only [nrm] at c1
    refine AWp.seq (AWp.region ?_)
    refine ARun.step rfl (step_assignV rfl (hn rfl) rfl rfl) ?_
    refine ARun.nil ?_
    refine AWp.ret ?_
    refine RetIs.sc (.inr rfl) rfl rfl ?_
    refine congrArg (T.int _) ?_
    rw [boundG, if_pos (by omega)]
  · try simp only [nrm] at c1
    have hrl := rank_le l s
    have hw := within_ok h (i := (atP l s).toNat) (by omega)
    have hrt := rank_thn h (s := s) (by omega)
    have hb1 := boundG_le h n (nth l (atP l s).toNat).thn
    have hb2 := boundG_le h n (nth l (atP l s).toNat).els
    refine AWp.skip ?_
    refine AWp.seq (AWp.region ?_)
    refine ARun.step rfl (step_moveV rfl (hn rfl) rfl rfl) ?_
    refine ARun.step rfl (step_moveV rfl (hn rfl) rfl rfl) ?_
    refine ARun.step rfl (step_moveV rfl (hn rfl) rfl rfl) ?_
    refine ARun.step rfl (step_index_f rfl (hn rfl) rfl ysSl62 rfl rfl (by omega) (by omega)) ?_
    refine ARun.step rfl (step_field_f rfl (hn rfl) rfl ysFo74_6 rfl) ?_
    refine ARun.step rfl (step_load_f rfl (hn rfl) rfl ysSc9 rfl (hn rfl) rfl) ?_
    refine ARun.step rfl (call_step1 rfl (hn rfl) rfl ysCo178 (.cons rfl (.one (.v _)) (.cons rfl (.one (.v _)) (.nil))) (ih _ (by omega)) rfl) ?_
    refine ARun.step rfl (step_assignV rfl (hn rfl) rfl rfl) ?_
    refine ARun.nil ?_
    refine AWp.seq (AWp.region ?_)
    refine ARun.step rfl (step_moveV rfl (hn rfl) rfl rfl) ?_
    refine ARun.step rfl (step_moveV rfl (hn rfl) rfl rfl) ?_
    refine ARun.step rfl (step_moveV rfl (hn rfl) rfl rfl) ?_
    refine ARun.step rfl (step_index_f rfl (hn rfl) rfl ysSl62 rfl rfl (by omega) (by omega)) ?_
    refine ARun.step rfl (step_field_f rfl (hn rfl) rfl ysFo74_7 rfl) ?_
    refine ARun.step rfl (step_load_f rfl (hn rfl) rfl ysSc9 rfl (hn rfl) rfl) ?_
    refine ARun.step rfl (call_step1 rfl (hn rfl) rfl ysCo178 (.cons rfl (.one (.v _)) (.cons rfl (.one (.v _)) (.nil))) (ih _ (by omega)) rfl) ?_
    refine ARun.step rfl (step_assignV rfl (hn rfl) rfl rfl) ?_
    refine ARun.nil ?_
    refine AWp.seq ?_
    refine AWp.seq (AWp.region ?_)
    refine ARun.step rfl (step_moveV rfl (hn rfl) rfl rfl) ?_
    refine ARun.step rfl (step_moveV rfl (hn rfl) rfl rfl) ?_
    refine ARun.step rfl (step_lss rfl (hn rfl) rfl rfl rfl) ?_
    refine ARun.nil ?_
    refine AWp.cond rfl (fun c2 => ?_) (fun c2 => ?_)
    · try simp only [nrm] at c2
      refine AWp.region ?_
      refine ARun.step rfl (step_moveV rfl (hn rfl) rfl rfl) ?_
      refine ARun.step rfl (step_assignV rfl (hn rfl) rfl rfl) ?_
      refine ARun.nil ?_
      refine AWp.seq (AWp.region ?_)
      refine ARun.step rfl (step_moveV rfl (hn rfl) rfl rfl) ?_
      refine ARun.step rfl (step_moveV rfl (hn rfl) rfl rfl) ?_
      refine ARun.step rfl (step_moveV rfl (hn rfl) rfl rfl) ?_
      refine ARun.step rfl (step_index_f rfl (hn rfl) rfl ysSl62 rfl rfl (by omega) (by omega)) ?_
      refine ARun.step rfl (step_field_f rfl (hn rfl) rfl ysFo74_5 rfl) ?_
      refine ARun.step rfl (step_load_f rfl (hn rfl) rfl ysSc3 rfl (hn rfl) rfl) ?_
      refine ARun.step rfl (step_addI rfl (hn rfl) rfl rfl rfl (by omega) (by omega)) ?_
      refine ARun.step rfl (step_assignV rfl (hn rfl) rfl rfl) ?_
      refine ARun.nil ?_
      refine AWp.ret ?_
      refine RetIs.sc (.inr rfl) rfl rfl ?_
      refine congrArg (T.int _) ?_
      rw [boundG, if_neg (by omega)]
      try omega
    · try simp only [nrm] at c2
      refine AWp.skip ?_
      refine AWp.seq (AWp.region ?_)
      refine ARun.step rfl (step_moveV rfl (hn rfl) rfl rfl) ?_
      refine ARun.step rfl (step_moveV rfl (hn rfl) rfl rfl) ?_
      refine ARun.step rfl (step_moveV rfl (hn rfl) rfl rfl) ?_
      refine ARun.step rfl (step_index_f rfl (hn rfl) rfl ysSl62 rfl rfl (by omega) (by omega)) ?_
      refine ARun.step rfl (step_field_f rfl (hn rfl) rfl ysFo74_5 rfl) ?_
      refine ARun.step rfl (step_load_f rfl (hn rfl) rfl ysSc3 rfl (hn rfl) rfl) ?_
      refine ARun.step rfl (step_addI rfl (hn rfl) rfl rfl rfl (by omega) (by omega)) ?_
      refine ARun.step rfl (step_assignV rfl (hn rfl) rfl rfl) ?_
      refine ARun.nil ?_
      refine AWp.ret ?_
      refine RetIs.sc (.inr rfl) rfl rfl ?_
      refine congrArg (T.int _) ?_
      rw [boundG, if_neg (by omega)]
      try omega
theorem boundS (l : List Ph) (h : recOk l = true) : ∀ (n : Nat) (s : Str), rank l s < n → ASpec Try.prog 178 [.one (phs 74 l), .one (.str s)] (.one (.int .i64 (boundG l n s)))
  | 0, s, hr => by omega
  | n + 1, s, hr => boundS0 l n s h hr (boundS l h n)
theorem bndS (l : List Ph) (h : recOk l = true) (s : Str) : ASpec Try.prog 178 [.one (phs 74 l), .one (.str s)] (.one (.int .i64 (bnd l s))) := boundS l h (l.length + 1) s (rank_le l s)
theorem l44At (l : List Ph) (s : Str) (k : Int) (h : recOk l = true) : ASpec Try.prog 142 [.one (phs 74 l), .one (.str s), .one (.int .i64 k)] (.agg [.str s, .int .i64 k, .int .i64 (bnd l s)]) := by
  refine ASpec.bodyC Try.func142 rfl 6 67 [] rfl rfl 13 rfl rfl rfl ?_
  refine AWp.seq (AWp.region ?_)
  refine ARun.step rfl (step_alloc_p rfl (hn rfl) rfl ysZs67) ?_
  refine ARun.nil ?_
  refine AWp.seq (AWp.region ?_)
  refine ARun.step rfl (step_moveV rfl (hn rfl) rfl rfl) ?_
  refine ARun.step rfl (step_moveV rfl (hn rfl) rfl rfl) ?_
  refine ARun.step rfl (step_moveV rfl (hn rfl) rfl rfl) ?_
  refine ARun.step rfl (step_moveV rfl (hn rfl) rfl rfl) ?_
  refine ARun.step rfl (call_step1 rfl (hn rfl) rfl ysCo178 (.cons rfl (.one (.v _)) (.cons rfl (.one (.v _)) (.nil))) (bndS _ h _) rfl) ?_
  refine ARun.step rfl (step_build rfl (hn rfl) rfl ysPl67 ysZc67 (.cons rfl rfl rfl rfl (.cons rfl rfl rfl rfl (.cons rfl rfl rfl rfl (.nil)))) rfl) ?_
  refine ARun.step rfl (step_store_p rfl rfl ysCs67 rfl rfl rfl rfl rfl rfl rfl) ?_
  refine ARun.nil ?_
  refine AWp.ret ?_
  refine ⟨.inr rfl, 6, 3, _, _, _, ysSt67, by decide, rfl, rfl, rfl, rfl, (.cons rfl (.agg (.cons (.sc _ _ rfl) (.cons (.sc _ _ rfl) (.cons (.sc _ _ rfl) (.nil _))))) (.nil _)), rfl, ?_⟩
  refine congrArg PV.agg ?_
  rfl
theorem begI (l : List Ph)  : ASpec Try.prog 64 [.one (phs 74 l)] (.agg (begSt l).cells) := by
  refine ASpec.bodyC Try.func64 rfl 2 67 [] rfl rfl 18 rfl rfl rfl ?_
  refine AWp.seq (AWp.region ?_)
  refine ARun.step rfl (step_alloc_p rfl (hn rfl) rfl ysZs67) ?_
  refine ARun.nil ?_
  refine AWp.seq ?_
  refine AWp.seq (AWp.region ?_)
  refine ARun.step rfl (step_moveV rfl (hn rfl) rfl rfl) ?_
  refine ARun.step rfl (call_step1 rfl (hn rfl) rfl ysCo113 (.cons rfl (.one (.v _)) (.nil)) (recOkI _) rfl) ?_
  refine ARun.step rfl (step_not rfl (hn rfl) rfl rfl) ?_
  refine ARun.nil ?_
  refine AWp.cond rfl (fun c1 => ?_) (fun c1 => ?_)
  · try simp only [nrm] at c1
    refine AWp.seq (AWp.region ?_)
    refine ARun.step rfl (step_build rfl (hn rfl) rfl ysPl67 ysZc67 (.nil) rfl) ?_
    refine ARun.step rfl (step_store_p rfl rfl ysCs67 rfl rfl rfl rfl rfl rfl rfl) ?_
    refine ARun.nil ?_
    refine AWp.ret ?_
    refine ⟨.inr rfl, 2, 3, _, _, _, ysSt67, by decide, rfl, rfl, rfl, rfl, (.cons rfl (.agg (.cons (.sc _ _ rfl) (.cons (.sc _ _ rfl) (.cons (.sc _ _ rfl) (.nil _))))) (.nil _)), rfl, ?_⟩
    refine congrArg PV.agg ?_
    rw [show begSt l = ⟨⟨#[]⟩, 0, 0⟩ by simp [begSt, *]]
    rfl
  · try simp only [nrm] at c1
    have hlen := recOk_len c1
    refine AWp.skip ?_
    refine AWp.seq (AWp.drawM [⟨⟨[.s 0], [.s 7], false⟩, none, []⟩, ⟨⟨[.s 7], [.s 8], false⟩, none, []⟩, ⟨⟨[.s 8], [.s 9], false⟩, none, []⟩, ⟨⟨[.s 9], [.s 10], false⟩, none, []⟩, ⟨⟨[.s 0], [.s 11], false⟩, none, []⟩, ⟨⟨[.s 0], [.s 12], false⟩, none, []⟩, ⟨⟨[.s 12], [.s 13], false⟩, none, []⟩, ⟨⟨[.s 13], [.s 14], false⟩, none, []⟩, ⟨⟨[.s 14], [.s 15], false⟩, none, []⟩, ⟨⟨[.s 15, .s 11], [.s 16], false⟩, none, []⟩, ⟨⟨[], [], true⟩, none, []⟩, ⟨⟨[], [], true⟩, none, []⟩] ysMo rfl rfl (Le.forgetR (n := 18) (sl := [(0, _), (2, _), (3, _), (4, _), (5, _)]) (bl := [(2, _)]) (al := []) rfl ⟨rfl, rfl, rfl, rfl, rfl, trivial⟩ ⟨rfl, trivial⟩ trivial) rfl ?_)
    refine FRun.slot rfl (fun τ hN hr => step_moveV rfl (rdN hN (hn rfl)) rfl (by exact rdS hr rfl rfl)) (by exact rfl) ?_
    refine FRun.slot rfl (fun τ hN hr => step_index_f rfl (rdN hN (hn rfl)) rfl ysSl62 (by exact rdS hr rfl rfl) rfl (by omega) (by omega)) (by exact rfl) ?_
    refine FRun.slot rfl (fun τ hN hr => step_field_f rfl (rdN hN (hn rfl)) rfl ysFo74_0 (by exact rdS hr rfl rfl)) (by exact rfl) ?_
    refine FRun.slot rfl (fun τ hN hr => step_load_f rfl (rdN hN (hn rfl)) rfl ysSc9 (by exact rdS hr rfl rfl) (hn rfl) rfl) (by exact rfl) ?_
    refine FRun.slot rfl (fun τ hN hr => step_moveV rfl (rdN hN (hn rfl)) rfl (by exact rdS hr rfl rfl)) (by exact rfl) ?_
    refine FRun.slot rfl (fun τ hN hr => step_moveV rfl (rdN hN (hn rfl)) rfl (by exact rdS hr rfl rfl)) (by exact rfl) ?_
    refine FRun.slot rfl (fun τ hN hr => step_index_f rfl (rdN hN (hn rfl)) rfl ysSl62 (by exact rdS hr rfl rfl) rfl (by omega) (by omega)) (by exact rfl) ?_
    refine FRun.slot rfl (fun τ hN hr => step_field_f rfl (rdN hN (hn rfl)) rfl ysFo74_0 (by exact rdS hr rfl rfl)) (by exact rfl) ?_
    refine FRun.slot rfl (fun τ hN hr => step_load_f rfl (rdN hN (hn rfl)) rfl ysSc9 (by exact rdS hr rfl rfl) (hn rfl) rfl) (by exact rfl) ?_
    refine FRun.slot rfl (fun τ hN hr => call_step1 rfl (rdN hN (hn rfl)) rfl ysCo121 (.cons (by exact rdS hr rfl rfl) (.one (.v _)) (.cons (by exact rdS hr rfl rfl) (.one (.v _)) (.nil))) (bndI _ (by assumption) _) rfl) (by exact rfl) ?_
    refine FRun.whole rfl (step_build rfl (hn rfl) rfl ysPl67 ysZc67 (.cons rfl rfl rfl rfl (.cons rfl rfl rfl rfl (.cons rfl rfl rfl rfl (.nil)))) rfl) (by exact rfl) ?_
    refine FRun.whole rfl (step_store_p rfl rfl ysCs67 rfl rfl rfl rfl rfl rfl rfl) (by exact rfl) ?_
    refine FRun.nil ?_
    refine AWp.ret ?_
    refine ⟨.inr rfl, 2, 3, _, _, _, ysSt67, by decide, rfl, rfl, rfl, rfl, (.cons rfl (.agg (.cons (.sc _ _ rfl) (.cons (.sc _ _ rfl) (.cons (.sc _ _ rfl) (.nil _))))) (.nil _)), rfl, ?_⟩
    refine congrArg PV.agg ?_
    rw [begSt, if_pos (by assumption)]
    rfl
theorem begS (l : List Ph)  : ASpec Try.prog 114 [.one (phs 74 l)] (.agg (begSt l).cells) := by
  refine ASpec.bodyC Try.func114 rfl 2 67 [] rfl rfl 13 rfl rfl rfl ?_
  refine AWp.seq (AWp.region ?_)
  refine ARun.step rfl (step_alloc_p rfl (hn rfl) rfl ysZs67) ?_
  refine ARun.nil ?_
  refine AWp.seq ?_
  refine AWp.seq (AWp.region ?_)
  refine ARun.step rfl (step_moveV rfl (hn rfl) rfl rfl) ?_
  refine ARun.step rfl (call_step1 rfl (hn rfl) rfl ysCo60 (.cons rfl (.one (.v _)) (.nil)) (recOkS _) rfl) ?_
  refine ARun.step rfl (step_not rfl (hn rfl) rfl rfl) ?_
  refine ARun.nil ?_
  refine AWp.cond rfl (fun c1 => ?_) (fun c1 => ?_)
  · try simp only [nrm] at c1
    refine AWp.seq (AWp.region ?_)
    refine ARun.step rfl (step_build rfl (hn rfl) rfl ysPl67 ysZc67 (.nil) rfl) ?_
    refine ARun.step rfl (step_store_p rfl rfl ysCs67 rfl rfl rfl rfl rfl rfl rfl) ?_
    refine ARun.nil ?_
    refine AWp.ret ?_
    refine ⟨.inr rfl, 2, 3, _, _, _, ysSt67, by decide, rfl, rfl, rfl, rfl, (.cons rfl (.agg (.cons (.sc _ _ rfl) (.cons (.sc _ _ rfl) (.cons (.sc _ _ rfl) (.nil _))))) (.nil _)), rfl, ?_⟩
    refine congrArg PV.agg ?_
    rw [show begSt l = ⟨⟨#[]⟩, 0, 0⟩ by simp [begSt, *]]
    rfl
  · try simp only [nrm] at c1
    have hlen := recOk_len c1
    refine AWp.skip ?_
    refine AWp.seq (AWp.region ?_)
    refine ARun.step rfl (step_moveV rfl (hn rfl) rfl rfl) ?_
    refine ARun.step rfl (step_moveV rfl (hn rfl) rfl rfl) ?_
    refine ARun.step rfl (step_index_f rfl (hn rfl) rfl ysSl62 rfl rfl (by omega) (by omega)) ?_
    refine ARun.step rfl (step_field_f rfl (hn rfl) rfl ysFo74_0 rfl) ?_
    refine ARun.step rfl (step_load_f rfl (hn rfl) rfl ysSc9 rfl (hn rfl) rfl) ?_
    refine ARun.step rfl (call_step1 rfl (hn rfl) rfl ysCo142 (.cons rfl (.one (.v _)) (.cons rfl (.one (.v _)) (.cons rfl (.one (.v _)) (.nil)))) (l44At _ _ _ (by assumption)) rfl) ?_
    refine ARun.step rfl (step_store_p rfl rfl ysCs67 rfl rfl rfl rfl rfl rfl rfl) ?_
    refine ARun.nil ?_
    refine AWp.ret ?_
    refine ⟨.inr rfl, 2, 3, _, _, _, ysSt67, by decide, rfl, rfl, rfl, rfl, (.cons rfl (.agg (.cons (.sc _ _ rfl) (.cons (.sc _ _ rfl) (.cons (.sc _ _ rfl) (.nil _))))) (.nil _)), rfl, ?_⟩
    refine congrArg PV.agg ?_
    rw [begSt, if_pos (by assumption)]
    rfl
theorem l44Go (l : List Ph) (st : RSt) (y : Say) (h : recOk l = true) (h0 : 0 ≤ atP l st.at_) (h1 : 0 ≤ st.now) (h2 : st.now ≤ 12000) : ASpec Try.prog 143 [.one (phs 74 l), .agg st.cells, .one (.int .i64 (atP l st.at_)), .agg y.cells] (.agg (goSt l st y).cells) := by
  refine ASpec.bodyC Try.func143 rfl 8 67 [] rfl rfl 59 rfl rfl rfl ?_
  have hlen := recOk_len h
  have ha := atP_lt l st.at_
  have hw := within_ok h (i := (atP l st.at_).toNat) (by omega)
  have hn3 := hold_n h (i := (atP l st.at_).toNat) (by omega)
  refine AWp.seq (AWp.region ?_)
  refine ARun.step rfl (step_box_p (m := 2) rfl (hn rfl) rfl rfl rfl rfl rfl) ?_
  refine ARun.step rfl (step_box_p (m := 1) rfl (hn rfl) rfl rfl rfl rfl rfl) ?_
  refine ARun.step rfl (step_alloc_p rfl (hn rfl) rfl ysZs67) ?_
  refine ARun.nil ?_
  refine AWp.seq (AWp.region ?_)
  refine ARun.step rfl (step_moveV rfl (hn rfl) rfl rfl) ?_
  refine ARun.step rfl (step_moveV rfl (hn rfl) rfl rfl) ?_
  refine ARun.step rfl (step_index_f rfl (hn rfl) rfl ysSl62 rfl rfl (by omega) (by omega)) ?_
  refine ARun.step rfl (step_loadS_f rfl (hn rfl) rfl ysSt74 rfl (hn rfl) rfl rfl) ?_
  refine ARun.step rfl (step_alloc_p rfl (hn rfl) rfl ysZs74) ?_
  refine ARun.step rfl (step_store_p rfl rfl ysCs74 rfl rfl rfl rfl rfl rfl rfl) ?_
  refine ARun.nil ?_
  refine AWp.seq (AWp.region ?_)
  refine ARun.step rfl (step_field_b rfl (hn rfl) rfl ysFo78_0 rfl (by exact List.cons_ne_nil _ _)) ?_
  refine ARun.step rfl (step_load_b rfl (hn rfl) rfl ysSc3 rfl rfl) ?_
  refine ARun.step rfl (step_assignV rfl (hn rfl) rfl rfl) ?_
  refine ARun.nil ?_
  refine AWp.seq (AWp.region ?_)
  refine ARun.step rfl (step_field_b rfl (hn rfl) rfl ysFo78_1 rfl (by exact List.cons_ne_nil _ _)) ?_
  refine ARun.step rfl (step_load_b rfl (hn rfl) rfl ysSc4 rfl rfl) ?_
  refine ARun.step rfl (step_assignV rfl (hn rfl) rfl rfl) ?_
  refine ARun.nil ?_
  refine AWp.seq ?_
  refine AWp.seq (AWp.region ?_)
  refine ARun.step rfl (step_field_b rfl (hn rfl) rfl ysFo74_1 rfl (by exact List.cons_ne_nil _ _)) ?_
  refine ARun.step rfl (step_load_b rfl (hn rfl) rfl ysSc3 rfl rfl) ?_
  refine ARun.step rfl (step_eql rfl (hn rfl) rfl rfl rfl) ?_
  refine ARun.step rfl (step_moveV rfl (hn rfl) rfl rfl) ?_
  refine guardS rfl rfl rfl rfl (hn rfl) (fun g1 g2 => step_moveV rfl (hn rfl) rfl rfl) ?_
  refine ARun.step rfl (step_and rfl (hn rfl) rfl rfl rfl (fun h => (by exact flag1 h))) ?_
  refine ARun.step rfl (step_moveV rfl (hn rfl) rfl rfl) ?_
  refine guardS rfl rfl rfl rfl (hn rfl) (fun g1 g2 => step_moveV rfl (hn rfl) rfl rfl) ?_
  refine guardS rfl rfl rfl rfl (hn rfl) (fun g1 g2 => step_field_b rfl (hn rfl) rfl ysFo74_4 rfl (by exact List.cons_ne_nil _ _)) ?_
  refine guardS rfl rfl rfl rfl (hn rfl) (fun g1 g2 => step_load_b rfl (hn rfl) rfl ysSc3 (ev_true rfl (by exact flag2 g1 g2)) rfl) ?_
  refine guardS rfl rfl rfl rfl (hn rfl) (fun g1 g2 => step_lss rfl (hn rfl) rfl (ev_true rfl (by exact flag2 g1 g2)) (ev_true rfl (by exact flag2 g1 g2))) ?_
  refine ARun.step rfl (step_and rfl (hn rfl) rfl rfl rfl (fun h => (by exact flag1 h))) ?_
  refine ARun.nil ?_
  refine AWp.cond rfl (fun c1 => ?_) (fun c1 => ?_)
  · try simp only [nrm] at c1
    refine AWp.region ?_
    refine ARun.step rfl (step_field_b rfl (hn rfl) rfl ysFo74_4 rfl (by exact List.cons_ne_nil _ _)) ?_
    refine ARun.step rfl (step_load_b rfl (hn rfl) rfl ysSc3 rfl rfl) ?_
    refine ARun.step rfl (step_assignV rfl (hn rfl) rfl rfl) ?_
    refine ARun.nil ?_
    refine AWp.seq ?_
    refine AWp.seq (AWp.region ?_)
    refine ARun.step rfl (step_moveV rfl (hn rfl) rfl rfl) ?_
    refine ARun.step rfl (step_field_b rfl (hn rfl) rfl ysFo74_5 rfl (by exact List.cons_ne_nil _ _)) ?_
    refine ARun.step rfl (step_load_b rfl (hn rfl) rfl ysSc3 rfl rfl) ?_
    refine ARun.step rfl (step_gtr rfl (hn rfl) rfl rfl rfl) ?_
    refine ARun.nil ?_
    refine AWp.cond rfl (fun c2 => ?_) (fun c2 => ?_)
    · try simp only [nrm] at c2
      refine AWp.seq (AWp.region ?_)
      refine ARun.step rfl (step_field_b rfl (hn rfl) rfl ysFo74_5 rfl (by exact List.cons_ne_nil _ _)) ?_
      refine ARun.step rfl (step_load_b rfl (hn rfl) rfl ysSc3 rfl rfl) ?_
      refine ARun.step rfl (step_assignV rfl (hn rfl) rfl rfl) ?_
      refine ARun.nil ?_
      refine AWp.region ?_
      refine ARun.step rfl (step_assignV rfl (hn rfl) rfl rfl) ?_
      refine ARun.nil ?_
      refine AWp.seq ?_
      refine AWp.seq (AWp.region ?_)
      refine ARun.step rfl (step_moveV rfl (hn rfl) rfl rfl) ?_
      refine ARun.step rfl (step_lss rfl (hn rfl) rfl rfl rfl) ?_
      refine ARun.nil ?_
      refine AWp.cond rfl (fun c3 => ?_) (fun c3 => ?_)
      · try simp only [nrm] at c3
        refine AWp.region ?_
        refine ARun.step rfl (step_assignV rfl (hn rfl) rfl rfl) ?_
        refine ARun.nil ?_
        refine AWp.seq ?_
        refine AWp.seq (AWp.region ?_)
        refine ARun.step rfl (step_moveV rfl (hn rfl) rfl rfl) ?_
        refine ARun.nil ?_
        refine AWp.cond rfl (fun c4 => ?_) (fun c4 => ?_)
        · exact absurd c4 (by decide)
        · try simp only [nrm] at c4
          refine AWp.skip ?_
          refine AWp.seq (AWp.region ?_)
          refine ARun.step rfl (step_moveV rfl (hn rfl) rfl rfl) ?_
          refine ARun.step rfl (step_field_b rfl (hn rfl) rfl ysFo74_7 rfl (by exact List.cons_ne_nil _ _)) ?_
          refine ARun.step rfl (step_load_b rfl (hn rfl) rfl ysSc9 rfl rfl) ?_
          refine ARun.step rfl (step_field_b rfl (hn rfl) rfl ysFo67_1 rfl (by exact List.cons_ne_nil _ _)) ?_
          refine ARun.step rfl (step_load_b rfl (hn rfl) rfl ysSc3 rfl rfl) ?_
          refine ARun.step rfl (step_moveV rfl (hn rfl) rfl rfl) ?_
          refine ARun.step rfl (step_addI rfl (hn rfl) rfl rfl rfl (by omega) (by omega)) ?_
          refine ARun.step rfl (call_step1 rfl (hn rfl) rfl ysCo142 (.cons rfl (.one (.v _)) (.cons rfl (.one (.v _)) (.cons rfl (.one (.v _)) (.nil)))) (l44At _ _ _ h) rfl) ?_
          refine ARun.step rfl (step_store_p rfl rfl ysCs67 rfl rfl rfl rfl rfl rfl rfl) ?_
          refine ARun.nil ?_
          refine AWp.ret ?_
          refine ⟨.inr rfl, 8, 3, _, _, _, ysSt67, by decide, rfl, rfl, rfl, rfl, (.cons rfl (.agg (.cons (.sc _ _ rfl) (.cons (.sc _ _ rfl) (.cons (.sc _ _ rfl) (.nil _))))) (.nil _)), rfl, ?_⟩
          refine congrArg PV.agg ?_
          simp only [goSt, goT, RSt.cells]
          grind
      · try simp only [nrm] at c3
        refine AWp.skip ?_
        refine AWp.seq ?_
        refine AWp.seq (AWp.region ?_)
        refine ARun.step rfl (step_moveV rfl (hn rfl) rfl rfl) ?_
        refine ARun.nil ?_
        refine AWp.cond rfl (fun c5 => ?_) (fun c5 => ?_)
        · exact absurd c5 (by decide)
        · try simp only [nrm] at c5
          refine AWp.skip ?_
          refine AWp.seq (AWp.region ?_)
          refine ARun.step rfl (step_moveV rfl (hn rfl) rfl rfl) ?_
          refine ARun.step rfl (step_field_b rfl (hn rfl) rfl ysFo74_7 rfl (by exact List.cons_ne_nil _ _)) ?_
          refine ARun.step rfl (step_load_b rfl (hn rfl) rfl ysSc9 rfl rfl) ?_
          refine ARun.step rfl (step_field_b rfl (hn rfl) rfl ysFo67_1 rfl (by exact List.cons_ne_nil _ _)) ?_
          refine ARun.step rfl (step_load_b rfl (hn rfl) rfl ysSc3 rfl rfl) ?_
          refine ARun.step rfl (step_moveV rfl (hn rfl) rfl rfl) ?_
          refine ARun.step rfl (step_addI rfl (hn rfl) rfl rfl rfl (by omega) (by omega)) ?_
          refine ARun.step rfl (call_step1 rfl (hn rfl) rfl ysCo142 (.cons rfl (.one (.v _)) (.cons rfl (.one (.v _)) (.cons rfl (.one (.v _)) (.nil)))) (l44At _ _ _ h) rfl) ?_
          refine ARun.step rfl (step_store_p rfl rfl ysCs67 rfl rfl rfl rfl rfl rfl rfl) ?_
          refine ARun.nil ?_
          refine AWp.ret ?_
          refine ⟨.inr rfl, 8, 3, _, _, _, ysSt67, by decide, rfl, rfl, rfl, rfl, (.cons rfl (.agg (.cons (.sc _ _ rfl) (.cons (.sc _ _ rfl) (.cons (.sc _ _ rfl) (.nil _))))) (.nil _)), rfl, ?_⟩
          refine congrArg PV.agg ?_
          simp only [goSt, goT, RSt.cells]
          grind
    · try simp only [nrm] at c2
      refine AWp.skip ?_
      refine AWp.seq ?_
      refine AWp.seq (AWp.region ?_)
      refine ARun.step rfl (step_moveV rfl (hn rfl) rfl rfl) ?_
      refine ARun.step rfl (step_lss rfl (hn rfl) rfl rfl rfl) ?_
      refine ARun.nil ?_
      refine AWp.cond rfl (fun c6 => ?_) (fun c6 => ?_)
      · try simp only [nrm] at c6
        refine AWp.region ?_
        refine ARun.step rfl (step_assignV rfl (hn rfl) rfl rfl) ?_
        refine ARun.nil ?_
        refine AWp.seq ?_
        refine AWp.seq (AWp.region ?_)
        refine ARun.step rfl (step_moveV rfl (hn rfl) rfl rfl) ?_
        refine ARun.nil ?_
        refine AWp.cond rfl (fun c7 => ?_) (fun c7 => ?_)
        · try simp only [nrm] at c7
          refine AWp.seq (AWp.region ?_)
          refine ARun.step rfl (step_moveV rfl (hn rfl) rfl rfl) ?_
          refine ARun.step rfl (step_field_b rfl (hn rfl) rfl ysFo74_6 rfl (by exact List.cons_ne_nil _ _)) ?_
          refine ARun.step rfl (step_load_b rfl (hn rfl) rfl ysSc9 rfl rfl) ?_
          refine ARun.step rfl (step_field_b rfl (hn rfl) rfl ysFo67_1 rfl (by exact List.cons_ne_nil _ _)) ?_
          refine ARun.step rfl (step_load_b rfl (hn rfl) rfl ysSc3 rfl rfl) ?_
          refine ARun.step rfl (step_moveV rfl (hn rfl) rfl rfl) ?_
          refine ARun.step rfl (step_addI rfl (hn rfl) rfl rfl rfl (by omega) (by omega)) ?_
          refine ARun.step rfl (call_step1 rfl (hn rfl) rfl ysCo142 (.cons rfl (.one (.v _)) (.cons rfl (.one (.v _)) (.cons rfl (.one (.v _)) (.nil)))) (l44At _ _ _ h) rfl) ?_
          refine ARun.step rfl (step_store_p rfl rfl ysCs67 rfl rfl rfl rfl rfl rfl rfl) ?_
          refine ARun.nil ?_
          refine AWp.ret ?_
          refine ⟨.inr rfl, 8, 3, _, _, _, ysSt67, by decide, rfl, rfl, rfl, rfl, (.cons rfl (.agg (.cons (.sc _ _ rfl) (.cons (.sc _ _ rfl) (.cons (.sc _ _ rfl) (.nil _))))) (.nil _)), rfl, ?_⟩
          refine congrArg PV.agg ?_
          simp only [goSt, goT, RSt.cells]
          grind
        · try simp only [nrm] at c7
          refine AWp.skip ?_
          refine AWp.seq (AWp.region ?_)
          refine ARun.step rfl (step_moveV rfl (hn rfl) rfl rfl) ?_
          refine ARun.step rfl (step_field_b rfl (hn rfl) rfl ysFo74_7 rfl (by exact List.cons_ne_nil _ _)) ?_
          refine ARun.step rfl (step_load_b rfl (hn rfl) rfl ysSc9 rfl rfl) ?_
          refine ARun.step rfl (step_field_b rfl (hn rfl) rfl ysFo67_1 rfl (by exact List.cons_ne_nil _ _)) ?_
          refine ARun.step rfl (step_load_b rfl (hn rfl) rfl ysSc3 rfl rfl) ?_
          refine ARun.step rfl (step_moveV rfl (hn rfl) rfl rfl) ?_
          refine ARun.step rfl (step_addI rfl (hn rfl) rfl rfl rfl (by omega) (by omega)) ?_
          refine ARun.step rfl (call_step1 rfl (hn rfl) rfl ysCo142 (.cons rfl (.one (.v _)) (.cons rfl (.one (.v _)) (.cons rfl (.one (.v _)) (.nil)))) (l44At _ _ _ h) rfl) ?_
          refine ARun.step rfl (step_store_p rfl rfl ysCs67 rfl rfl rfl rfl rfl rfl rfl) ?_
          refine ARun.nil ?_
          refine AWp.ret ?_
          refine ⟨.inr rfl, 8, 3, _, _, _, ysSt67, by decide, rfl, rfl, rfl, rfl, (.cons rfl (.agg (.cons (.sc _ _ rfl) (.cons (.sc _ _ rfl) (.cons (.sc _ _ rfl) (.nil _))))) (.nil _)), rfl, ?_⟩
          refine congrArg PV.agg ?_
          simp only [goSt, goT, RSt.cells]
          grind
      · try simp only [nrm] at c6
        refine AWp.skip ?_
        refine AWp.seq ?_
        refine AWp.seq (AWp.region ?_)
        refine ARun.step rfl (step_moveV rfl (hn rfl) rfl rfl) ?_
        refine ARun.nil ?_
        refine AWp.cond rfl (fun c8 => ?_) (fun c8 => ?_)
        · try simp only [nrm] at c8
          refine AWp.seq (AWp.region ?_)
          refine ARun.step rfl (step_moveV rfl (hn rfl) rfl rfl) ?_
          refine ARun.step rfl (step_field_b rfl (hn rfl) rfl ysFo74_6 rfl (by exact List.cons_ne_nil _ _)) ?_
          refine ARun.step rfl (step_load_b rfl (hn rfl) rfl ysSc9 rfl rfl) ?_
          refine ARun.step rfl (step_field_b rfl (hn rfl) rfl ysFo67_1 rfl (by exact List.cons_ne_nil _ _)) ?_
          refine ARun.step rfl (step_load_b rfl (hn rfl) rfl ysSc3 rfl rfl) ?_
          refine ARun.step rfl (step_moveV rfl (hn rfl) rfl rfl) ?_
          refine ARun.step rfl (step_addI rfl (hn rfl) rfl rfl rfl (by omega) (by omega)) ?_
          refine ARun.step rfl (call_step1 rfl (hn rfl) rfl ysCo142 (.cons rfl (.one (.v _)) (.cons rfl (.one (.v _)) (.cons rfl (.one (.v _)) (.nil)))) (l44At _ _ _ h) rfl) ?_
          refine ARun.step rfl (step_store_p rfl rfl ysCs67 rfl rfl rfl rfl rfl rfl rfl) ?_
          refine ARun.nil ?_
          refine AWp.ret ?_
          refine ⟨.inr rfl, 8, 3, _, _, _, ysSt67, by decide, rfl, rfl, rfl, rfl, (.cons rfl (.agg (.cons (.sc _ _ rfl) (.cons (.sc _ _ rfl) (.cons (.sc _ _ rfl) (.nil _))))) (.nil _)), rfl, ?_⟩
          refine congrArg PV.agg ?_
          simp only [goSt, goT, RSt.cells]
          grind
        · try simp only [nrm] at c8
          refine AWp.skip ?_
          refine AWp.seq (AWp.region ?_)
          refine ARun.step rfl (step_moveV rfl (hn rfl) rfl rfl) ?_
          refine ARun.step rfl (step_field_b rfl (hn rfl) rfl ysFo74_7 rfl (by exact List.cons_ne_nil _ _)) ?_
          refine ARun.step rfl (step_load_b rfl (hn rfl) rfl ysSc9 rfl rfl) ?_
          refine ARun.step rfl (step_field_b rfl (hn rfl) rfl ysFo67_1 rfl (by exact List.cons_ne_nil _ _)) ?_
          refine ARun.step rfl (step_load_b rfl (hn rfl) rfl ysSc3 rfl rfl) ?_
          refine ARun.step rfl (step_moveV rfl (hn rfl) rfl rfl) ?_
          refine ARun.step rfl (step_addI rfl (hn rfl) rfl rfl rfl (by omega) (by omega)) ?_
          refine ARun.step rfl (call_step1 rfl (hn rfl) rfl ysCo142 (.cons rfl (.one (.v _)) (.cons rfl (.one (.v _)) (.cons rfl (.one (.v _)) (.nil)))) (l44At _ _ _ h) rfl) ?_
          refine ARun.step rfl (step_store_p rfl rfl ysCs67 rfl rfl rfl rfl rfl rfl rfl) ?_
          refine ARun.nil ?_
          refine AWp.ret ?_
          refine ⟨.inr rfl, 8, 3, _, _, _, ysSt67, by decide, rfl, rfl, rfl, rfl, (.cons rfl (.agg (.cons (.sc _ _ rfl) (.cons (.sc _ _ rfl) (.cons (.sc _ _ rfl) (.nil _))))) (.nil _)), rfl, ?_⟩
          refine congrArg PV.agg ?_
          simp only [goSt, goT, RSt.cells]
          grind
  · try simp only [nrm] at c1
    refine AWp.skip ?_
    refine AWp.seq ?_
    refine AWp.seq (AWp.region ?_)
    refine ARun.step rfl (step_moveV rfl (hn rfl) rfl rfl) ?_
    refine ARun.step rfl (step_field_b rfl (hn rfl) rfl ysFo74_5 rfl (by exact List.cons_ne_nil _ _)) ?_
    refine ARun.step rfl (step_load_b rfl (hn rfl) rfl ysSc3 rfl rfl) ?_
    refine ARun.step rfl (step_gtr rfl (hn rfl) rfl rfl rfl) ?_
    refine ARun.nil ?_
    refine AWp.cond rfl (fun c9 => ?_) (fun c9 => ?_)
    · try simp only [nrm] at c9
      refine AWp.seq (AWp.region ?_)
      refine ARun.step rfl (step_field_b rfl (hn rfl) rfl ysFo74_5 rfl (by exact List.cons_ne_nil _ _)) ?_
      refine ARun.step rfl (step_load_b rfl (hn rfl) rfl ysSc3 rfl rfl) ?_
      refine ARun.step rfl (step_assignV rfl (hn rfl) rfl rfl) ?_
      refine ARun.nil ?_
      refine AWp.region ?_
      refine ARun.step rfl (step_assignV rfl (hn rfl) rfl rfl) ?_
      refine ARun.nil ?_
      refine AWp.seq ?_
      refine AWp.seq (AWp.region ?_)
      refine ARun.step rfl (step_moveV rfl (hn rfl) rfl rfl) ?_
      refine ARun.step rfl (step_lss rfl (hn rfl) rfl rfl rfl) ?_
      refine ARun.nil ?_
      refine AWp.cond rfl (fun c10 => ?_) (fun c10 => ?_)
      · try simp only [nrm] at c10
        refine AWp.region ?_
        refine ARun.step rfl (step_assignV rfl (hn rfl) rfl rfl) ?_
        refine ARun.nil ?_
        refine AWp.seq ?_
        refine AWp.seq (AWp.region ?_)
        refine ARun.step rfl (step_moveV rfl (hn rfl) rfl rfl) ?_
        refine ARun.nil ?_
        refine AWp.cond rfl (fun c11 => ?_) (fun c11 => ?_)
        · exact absurd c11 (by decide)
        · try simp only [nrm] at c11
          refine AWp.skip ?_
          refine AWp.seq (AWp.region ?_)
          refine ARun.step rfl (step_moveV rfl (hn rfl) rfl rfl) ?_
          refine ARun.step rfl (step_field_b rfl (hn rfl) rfl ysFo74_7 rfl (by exact List.cons_ne_nil _ _)) ?_
          refine ARun.step rfl (step_load_b rfl (hn rfl) rfl ysSc9 rfl rfl) ?_
          refine ARun.step rfl (step_field_b rfl (hn rfl) rfl ysFo67_1 rfl (by exact List.cons_ne_nil _ _)) ?_
          refine ARun.step rfl (step_load_b rfl (hn rfl) rfl ysSc3 rfl rfl) ?_
          refine ARun.step rfl (step_moveV rfl (hn rfl) rfl rfl) ?_
          refine ARun.step rfl (step_addI rfl (hn rfl) rfl rfl rfl (by omega) (by omega)) ?_
          refine ARun.step rfl (call_step1 rfl (hn rfl) rfl ysCo142 (.cons rfl (.one (.v _)) (.cons rfl (.one (.v _)) (.cons rfl (.one (.v _)) (.nil)))) (l44At _ _ _ h) rfl) ?_
          refine ARun.step rfl (step_store_p rfl rfl ysCs67 rfl rfl rfl rfl rfl rfl rfl) ?_
          refine ARun.nil ?_
          refine AWp.ret ?_
          refine ⟨.inr rfl, 8, 3, _, _, _, ysSt67, by decide, rfl, rfl, rfl, rfl, (.cons rfl (.agg (.cons (.sc _ _ rfl) (.cons (.sc _ _ rfl) (.cons (.sc _ _ rfl) (.nil _))))) (.nil _)), rfl, ?_⟩
          refine congrArg PV.agg ?_
          simp only [goSt, goT, RSt.cells]
          grind
      · try simp only [nrm] at c10
        refine AWp.skip ?_
        refine AWp.seq ?_
        refine AWp.seq (AWp.region ?_)
        refine ARun.step rfl (step_moveV rfl (hn rfl) rfl rfl) ?_
        refine ARun.nil ?_
        refine AWp.cond rfl (fun c12 => ?_) (fun c12 => ?_)
        · exact absurd c12 (by decide)
        · try simp only [nrm] at c12
          refine AWp.skip ?_
          refine AWp.seq (AWp.region ?_)
          refine ARun.step rfl (step_moveV rfl (hn rfl) rfl rfl) ?_
          refine ARun.step rfl (step_field_b rfl (hn rfl) rfl ysFo74_7 rfl (by exact List.cons_ne_nil _ _)) ?_
          refine ARun.step rfl (step_load_b rfl (hn rfl) rfl ysSc9 rfl rfl) ?_
          refine ARun.step rfl (step_field_b rfl (hn rfl) rfl ysFo67_1 rfl (by exact List.cons_ne_nil _ _)) ?_
          refine ARun.step rfl (step_load_b rfl (hn rfl) rfl ysSc3 rfl rfl) ?_
          refine ARun.step rfl (step_moveV rfl (hn rfl) rfl rfl) ?_
          refine ARun.step rfl (step_addI rfl (hn rfl) rfl rfl rfl (by omega) (by omega)) ?_
          refine ARun.step rfl (call_step1 rfl (hn rfl) rfl ysCo142 (.cons rfl (.one (.v _)) (.cons rfl (.one (.v _)) (.cons rfl (.one (.v _)) (.nil)))) (l44At _ _ _ h) rfl) ?_
          refine ARun.step rfl (step_store_p rfl rfl ysCs67 rfl rfl rfl rfl rfl rfl rfl) ?_
          refine ARun.nil ?_
          refine AWp.ret ?_
          refine ⟨.inr rfl, 8, 3, _, _, _, ysSt67, by decide, rfl, rfl, rfl, rfl, (.cons rfl (.agg (.cons (.sc _ _ rfl) (.cons (.sc _ _ rfl) (.cons (.sc _ _ rfl) (.nil _))))) (.nil _)), rfl, ?_⟩
          refine congrArg PV.agg ?_
          simp only [goSt, goT, RSt.cells]
          grind
    · try simp only [nrm] at c9
      refine AWp.skip ?_
      refine AWp.seq ?_
      refine AWp.seq (AWp.region ?_)
      refine ARun.step rfl (step_moveV rfl (hn rfl) rfl rfl) ?_
      refine ARun.step rfl (step_lss rfl (hn rfl) rfl rfl rfl) ?_
      refine ARun.nil ?_
      refine AWp.cond rfl (fun c13 => ?_) (fun c13 => ?_)
      · try simp only [nrm] at c13
        refine AWp.region ?_
        refine ARun.step rfl (step_assignV rfl (hn rfl) rfl rfl) ?_
        refine ARun.nil ?_
        refine AWp.seq ?_
        refine AWp.seq (AWp.region ?_)
        refine ARun.step rfl (step_moveV rfl (hn rfl) rfl rfl) ?_
        refine ARun.nil ?_
        refine AWp.cond rfl (fun c14 => ?_) (fun c14 => ?_)
        · try simp only [nrm] at c14
          refine AWp.seq (AWp.region ?_)
          refine ARun.step rfl (step_moveV rfl (hn rfl) rfl rfl) ?_
          refine ARun.step rfl (step_field_b rfl (hn rfl) rfl ysFo74_6 rfl (by exact List.cons_ne_nil _ _)) ?_
          refine ARun.step rfl (step_load_b rfl (hn rfl) rfl ysSc9 rfl rfl) ?_
          refine ARun.step rfl (step_field_b rfl (hn rfl) rfl ysFo67_1 rfl (by exact List.cons_ne_nil _ _)) ?_
          refine ARun.step rfl (step_load_b rfl (hn rfl) rfl ysSc3 rfl rfl) ?_
          refine ARun.step rfl (step_moveV rfl (hn rfl) rfl rfl) ?_
          refine ARun.step rfl (step_addI rfl (hn rfl) rfl rfl rfl (by omega) (by omega)) ?_
          refine ARun.step rfl (call_step1 rfl (hn rfl) rfl ysCo142 (.cons rfl (.one (.v _)) (.cons rfl (.one (.v _)) (.cons rfl (.one (.v _)) (.nil)))) (l44At _ _ _ h) rfl) ?_
          refine ARun.step rfl (step_store_p rfl rfl ysCs67 rfl rfl rfl rfl rfl rfl rfl) ?_
          refine ARun.nil ?_
          refine AWp.ret ?_
          refine ⟨.inr rfl, 8, 3, _, _, _, ysSt67, by decide, rfl, rfl, rfl, rfl, (.cons rfl (.agg (.cons (.sc _ _ rfl) (.cons (.sc _ _ rfl) (.cons (.sc _ _ rfl) (.nil _))))) (.nil _)), rfl, ?_⟩
          refine congrArg PV.agg ?_
          simp only [goSt, goT, RSt.cells]
          grind
        · try simp only [nrm] at c14
          refine AWp.skip ?_
          refine AWp.seq (AWp.region ?_)
          refine ARun.step rfl (step_moveV rfl (hn rfl) rfl rfl) ?_
          refine ARun.step rfl (step_field_b rfl (hn rfl) rfl ysFo74_7 rfl (by exact List.cons_ne_nil _ _)) ?_
          refine ARun.step rfl (step_load_b rfl (hn rfl) rfl ysSc9 rfl rfl) ?_
          refine ARun.step rfl (step_field_b rfl (hn rfl) rfl ysFo67_1 rfl (by exact List.cons_ne_nil _ _)) ?_
          refine ARun.step rfl (step_load_b rfl (hn rfl) rfl ysSc3 rfl rfl) ?_
          refine ARun.step rfl (step_moveV rfl (hn rfl) rfl rfl) ?_
          refine ARun.step rfl (step_addI rfl (hn rfl) rfl rfl rfl (by omega) (by omega)) ?_
          refine ARun.step rfl (call_step1 rfl (hn rfl) rfl ysCo142 (.cons rfl (.one (.v _)) (.cons rfl (.one (.v _)) (.cons rfl (.one (.v _)) (.nil)))) (l44At _ _ _ h) rfl) ?_
          refine ARun.step rfl (step_store_p rfl rfl ysCs67 rfl rfl rfl rfl rfl rfl rfl) ?_
          refine ARun.nil ?_
          refine AWp.ret ?_
          refine ⟨.inr rfl, 8, 3, _, _, _, ysSt67, by decide, rfl, rfl, rfl, rfl, (.cons rfl (.agg (.cons (.sc _ _ rfl) (.cons (.sc _ _ rfl) (.cons (.sc _ _ rfl) (.nil _))))) (.nil _)), rfl, ?_⟩
          refine congrArg PV.agg ?_
          simp only [goSt, goT, RSt.cells]
          grind
      · try simp only [nrm] at c13
        refine AWp.skip ?_
        refine AWp.seq ?_
        refine AWp.seq (AWp.region ?_)
        refine ARun.step rfl (step_moveV rfl (hn rfl) rfl rfl) ?_
        refine ARun.nil ?_
        refine AWp.cond rfl (fun c15 => ?_) (fun c15 => ?_)
        · try simp only [nrm] at c15
          refine AWp.seq (AWp.region ?_)
          refine ARun.step rfl (step_moveV rfl (hn rfl) rfl rfl) ?_
          refine ARun.step rfl (step_field_b rfl (hn rfl) rfl ysFo74_6 rfl (by exact List.cons_ne_nil _ _)) ?_
          refine ARun.step rfl (step_load_b rfl (hn rfl) rfl ysSc9 rfl rfl) ?_
          refine ARun.step rfl (step_field_b rfl (hn rfl) rfl ysFo67_1 rfl (by exact List.cons_ne_nil _ _)) ?_
          refine ARun.step rfl (step_load_b rfl (hn rfl) rfl ysSc3 rfl rfl) ?_
          refine ARun.step rfl (step_moveV rfl (hn rfl) rfl rfl) ?_
          refine ARun.step rfl (step_addI rfl (hn rfl) rfl rfl rfl (by omega) (by omega)) ?_
          refine ARun.step rfl (call_step1 rfl (hn rfl) rfl ysCo142 (.cons rfl (.one (.v _)) (.cons rfl (.one (.v _)) (.cons rfl (.one (.v _)) (.nil)))) (l44At _ _ _ h) rfl) ?_
          refine ARun.step rfl (step_store_p rfl rfl ysCs67 rfl rfl rfl rfl rfl rfl rfl) ?_
          refine ARun.nil ?_
          refine AWp.ret ?_
          refine ⟨.inr rfl, 8, 3, _, _, _, ysSt67, by decide, rfl, rfl, rfl, rfl, (.cons rfl (.agg (.cons (.sc _ _ rfl) (.cons (.sc _ _ rfl) (.cons (.sc _ _ rfl) (.nil _))))) (.nil _)), rfl, ?_⟩
          refine congrArg PV.agg ?_
          simp only [goSt, goT, RSt.cells]
          grind
        · try simp only [nrm] at c15
          refine AWp.skip ?_
          refine AWp.seq (AWp.region ?_)
          refine ARun.step rfl (step_moveV rfl (hn rfl) rfl rfl) ?_
          refine ARun.step rfl (step_field_b rfl (hn rfl) rfl ysFo74_7 rfl (by exact List.cons_ne_nil _ _)) ?_
          refine ARun.step rfl (step_load_b rfl (hn rfl) rfl ysSc9 rfl rfl) ?_
          refine ARun.step rfl (step_field_b rfl (hn rfl) rfl ysFo67_1 rfl (by exact List.cons_ne_nil _ _)) ?_
          refine ARun.step rfl (step_load_b rfl (hn rfl) rfl ysSc3 rfl rfl) ?_
          refine ARun.step rfl (step_moveV rfl (hn rfl) rfl rfl) ?_
          refine ARun.step rfl (step_addI rfl (hn rfl) rfl rfl rfl (by omega) (by omega)) ?_
          refine ARun.step rfl (call_step1 rfl (hn rfl) rfl ysCo142 (.cons rfl (.one (.v _)) (.cons rfl (.one (.v _)) (.cons rfl (.one (.v _)) (.nil)))) (l44At _ _ _ h) rfl) ?_
          refine ARun.step rfl (step_store_p rfl rfl ysCs67 rfl rfl rfl rfl rfl rfl rfl) ?_
          refine ARun.nil ?_
          refine AWp.ret ?_
          refine ⟨.inr rfl, 8, 3, _, _, _, ysSt67, by decide, rfl, rfl, rfl, rfl, (.cons rfl (.agg (.cons (.sc _ _ rfl) (.cons (.sc _ _ rfl) (.cons (.sc _ _ rfl) (.nil _))))) (.nil _)), rfl, ?_⟩
          refine congrArg PV.agg ?_
          simp only [goSt, goT, RSt.cells]
          grind
theorem goS (l : List Ph) (st : RSt) (y : Say)  : ASpec Try.prog 116 [.one (phs 74 l), .agg st.cells, .agg y.cells] (.tup [.agg (if goOk l st = true then goSt l st y else st).cells, .one (.bool (goOk l st))]) := by
  refine ASpec.bodyC Try.func116 rfl 6 67 [7] rfl rfl 32 rfl rfl rfl ?_
  refine AWp.seq (AWp.region ?_)
  refine ARun.step rfl (step_box_p (m := 2) rfl (hn rfl) rfl rfl rfl rfl rfl) ?_
  refine ARun.step rfl (step_box_p (m := 1) rfl (hn rfl) rfl rfl rfl rfl rfl) ?_
  refine ARun.step rfl (step_alloc_p rfl (hn rfl) rfl ysZs67) ?_
  refine ARun.step rfl (step_assignV rfl (hn rfl) rfl rfl) ?_
  refine ARun.nil ?_
  refine AWp.seq (AWp.region ?_)
  refine ARun.step rfl (step_moveV rfl (hn rfl) rfl rfl) ?_
  refine ARun.step rfl (step_field_b rfl (hn rfl) rfl ysFo67_0 rfl (by exact List.cons_ne_nil _ _)) ?_
  refine ARun.step rfl (step_load_b rfl (hn rfl) rfl ysSc9 rfl rfl) ?_
  refine ARun.step rfl (call_step1 rfl (hn rfl) rfl ysCo115 (.cons rfl (.one (.v _)) (.cons rfl (.one (.v _)) (.nil))) (l42At _ _) rfl) ?_
  refine ARun.step rfl (step_assignV rfl (hn rfl) rfl rfl) ?_
  refine ARun.nil ?_
  refine AWp.seq ?_
  refine AWp.seq (AWp.region ?_)
  refine ARun.step rfl (step_moveV rfl (hn rfl) rfl rfl) ?_
  refine ARun.step rfl (call_step1 rfl (hn rfl) rfl ysCo60 (.cons rfl (.one (.v _)) (.nil)) (recOkS _) rfl) ?_
  refine ARun.step rfl (step_not rfl (hn rfl) rfl rfl) ?_
  refine ARun.step rfl (step_moveV rfl (hn rfl) rfl rfl) ?_
  refine guardS rfl rfl rfl rfl (hn rfl) (fun g1 g2 => step_moveV rfl (hn rfl) rfl rfl) ?_
  refine guardS rfl rfl rfl rfl (hn rfl) (fun g1 g2 => step_lss rfl (hn rfl) rfl (ev_true rfl (by exact flag2 g1 g2)) rfl) ?_
  refine ARun.step rfl (step_or rfl (hn rfl) rfl rfl rfl (fun h => (by exact flag1 h))) ?_
  refine ARun.step rfl (step_moveV rfl (hn rfl) rfl rfl) ?_
  refine guardS rfl rfl rfl rfl (hn rfl) (fun g1 g2 => step_field_b rfl (hn rfl) rfl ysFo67_1 rfl (by exact List.cons_ne_nil _ _)) ?_
  refine guardS rfl rfl rfl rfl (hn rfl) (fun g1 g2 => step_load_b rfl (hn rfl) rfl ysSc3 (ev_true rfl (by exact flag2 g1 g2)) rfl) ?_
  refine guardS rfl rfl rfl rfl (hn rfl) (fun g1 g2 => call_step1 rfl (hn rfl) rfl ysCo117 (.cons (ev_true rfl (by exact flag2 g1 g2)) (.one (.v _)) (.cons rfl (.one (.v _)) (.cons rfl (.one (.v _)) (.nil)))) (l41In _ _ _) rfl) ?_
  refine guardS rfl rfl rfl rfl (hn rfl) (fun g1 g2 => step_not rfl (hn rfl) rfl (ev_true rfl (by exact flag2 g1 g2))) ?_
  refine ARun.step rfl (step_or rfl (hn rfl) rfl rfl rfl (fun h => (by exact flag1 h))) ?_
  refine ARun.nil ?_
  refine AWp.cond rfl (fun c1 => ?_) (fun c1 => ?_)
  · try simp only [nrm] at c1
    simp only [inB, Bool.and_eq_true, Bool.and_eq_false_iff, decide_eq_true_eq, decide_eq_false_iff_not] at c1
    refine AWp.seq (AWp.region ?_)
    refine ARun.step rfl (step_loadS_b rfl (hn rfl) rfl ysSt67 rfl rfl rfl (by decide)) ?_
    refine ARun.step rfl (step_store_p rfl rfl ysCs67 rfl rfl rfl rfl rfl rfl rfl) ?_
    refine ARun.step rfl (step_assignV rfl (hn rfl) rfl rfl) ?_
    refine ARun.nil ?_
    refine AWp.ret ?_
    refine ⟨.inr rfl, 6, 3, _, _, _, ysSt67, by decide, rfl, rfl, rfl, rfl, (.cons rfl (.agg (.cons (.sc _ _ rfl) (.cons (.sc _ _ rfl) (.cons (.sc _ _ rfl) (.nil _))))) (.cons rfl (.one (.sc _ _ rfl)) (.nil _))), rfl, ?_⟩
    rw [show goOk l st = false by simp only [goOk]; grind]
    rfl
  · try simp only [nrm] at c1
    simp only [inB, Bool.and_eq_true, Bool.and_eq_false_iff, decide_eq_true_eq, decide_eq_false_iff_not] at c1
    refine AWp.skip ?_
    refine AWp.seq (AWp.region ?_)
    refine ARun.step rfl (step_moveV rfl (hn rfl) rfl rfl) ?_
    refine ARun.step rfl (step_loadS_b rfl (hn rfl) rfl ysSt67 rfl rfl rfl (by decide)) ?_
    refine ARun.step rfl (step_moveV rfl (hn rfl) rfl rfl) ?_
    refine ARun.step rfl (step_loadS_b rfl (hn rfl) rfl ysSt78 rfl rfl rfl (by decide)) ?_
    refine ARun.step rfl (call_step1 rfl (hn rfl) rfl ysCo143 (.cons rfl (.one (.v _)) (.cons rfl (.agg (.cons (.v _) (.cons (.v _) (.cons (.v _) .nil)))) (.cons rfl (.one (.v _)) (.cons rfl (.agg (.cons (.v _) (.cons (.v _) .nil))) (.nil))))) (l44Go _ _ _ (by grind) (by grind) (by grind) (by grind)) rfl) ?_
    refine ARun.step rfl (step_store_p rfl rfl ysCs67 rfl rfl rfl rfl rfl rfl rfl) ?_
    refine ARun.step rfl (step_assignV rfl (hn rfl) rfl rfl) ?_
    refine ARun.nil ?_
    refine AWp.ret ?_
    refine ⟨.inr rfl, 6, 3, _, _, _, ysSt67, by decide, rfl, rfl, rfl, rfl, (.cons rfl (.agg (.cons (.sc _ _ rfl) (.cons (.sc _ _ rfl) (.cons (.sc _ _ rfl) (.nil _))))) (.cons rfl (.one (.sc _ _ rfl)) (.nil _))), rfl, ?_⟩
    rw [show goOk l st = true by simp only [goOk]; grind]
    rfl
theorem goI (l : List Ph) (st : RSt) (y : Say)  : ASpec Try.prog 65 [.one (phs 74 l), .agg st.cells, .agg y.cells] (.tup [.agg (if goOk l st = true then goSt l st y else st).cells, .one (.bool (goOk l st))]) := by
  refine ASpec.bodyC Try.func65 rfl 6 67 [7] rfl rfl 75 rfl rfl rfl ?_
  refine AWp.seq (AWp.region ?_)
  refine ARun.step rfl (step_box_p (m := 2) rfl (hn rfl) rfl rfl rfl rfl rfl) ?_
  refine ARun.step rfl (step_box_p (m := 1) rfl (hn rfl) rfl rfl rfl rfl rfl) ?_
  refine ARun.step rfl (step_alloc_p rfl (hn rfl) rfl ysZs67) ?_
  refine ARun.step rfl (step_assignV rfl (hn rfl) rfl rfl) ?_
  refine ARun.nil ?_
  refine AWp.seq ?_
  refine AWp.seq (AWp.region ?_)
  refine ARun.step rfl (step_moveV rfl (hn rfl) rfl rfl) ?_
  refine ARun.step rfl (call_step1 rfl (hn rfl) rfl ysCo113 (.cons rfl (.one (.v _)) (.nil)) (recOkI _) rfl) ?_
  refine ARun.step rfl (step_not rfl (hn rfl) rfl rfl) ?_
  refine ARun.step rfl (step_moveV rfl (hn rfl) rfl rfl) ?_
  refine guardS rfl rfl rfl rfl (hn rfl) (fun g1 g2 => step_moveV rfl (hn rfl) rfl rfl) ?_
  refine guardS rfl rfl rfl rfl (hn rfl) (fun g1 g2 => step_field_b rfl (hn rfl) rfl ysFo67_0 rfl (by exact List.cons_ne_nil _ _)) ?_
  refine guardS rfl rfl rfl rfl (hn rfl) (fun g1 g2 => step_load_b rfl (hn rfl) rfl ysSc9 (ev_true rfl (by exact flag2 g1 g2)) rfl) ?_
  refine guardS rfl rfl rfl rfl (hn rfl) (fun g1 g2 => call_step1 rfl (hn rfl) rfl ysCo122 (.cons (ev_true rfl (by exact flag2 g1 g2)) (.one (.v _)) (.cons (ev_true rfl (by exact flag2 g1 g2)) (.one (.v _)) (.nil))) (phaseI _ _) rfl) ?_
  refine guardS rfl rfl rfl rfl (hn rfl) (fun g1 g2 => step_lss rfl (hn rfl) rfl (ev_true rfl (by exact flag2 g1 g2)) rfl) ?_
  refine ARun.step rfl (step_or rfl (hn rfl) rfl rfl rfl (fun h => (by exact flag1 h))) ?_
  refine ARun.step rfl (step_moveV rfl (hn rfl) rfl rfl) ?_
  refine guardS rfl rfl rfl rfl (hn rfl) (fun g1 g2 => step_field_b rfl (hn rfl) rfl ysFo67_1 rfl (by exact List.cons_ne_nil _ _)) ?_
  refine guardS rfl rfl rfl rfl (hn rfl) (fun g1 g2 => step_load_b rfl (hn rfl) rfl ysSc3 (ev_true rfl (by exact flag2 g1 g2)) rfl) ?_
  refine guardS rfl rfl rfl rfl (hn rfl) (fun g1 g2 => step_lss rfl (hn rfl) rfl (ev_true rfl (by exact flag2 g1 g2)) rfl) ?_
  refine ARun.step rfl (step_or rfl (hn rfl) rfl rfl rfl (fun h => (by exact flag1 h))) ?_
  refine ARun.step rfl (step_moveV rfl (hn rfl) rfl rfl) ?_
  refine guardS rfl rfl rfl rfl (hn rfl) (fun g1 g2 => step_field_b rfl (hn rfl) rfl ysFo67_1 rfl (by exact List.cons_ne_nil _ _)) ?_
  refine guardS rfl rfl rfl rfl (hn rfl) (fun g1 g2 => step_load_b rfl (hn rfl) rfl ysSc3 (ev_true rfl (by exact flag2 g1 g2)) rfl) ?_
  refine guardS rfl rfl rfl rfl (hn rfl) (fun g1 g2 => step_gtr rfl (hn rfl) rfl (ev_true rfl (by exact flag2 g1 g2)) rfl) ?_
  refine ARun.step rfl (step_or rfl (hn rfl) rfl rfl rfl (fun h => (by exact flag1 h))) ?_
  refine ARun.nil ?_
  refine AWp.cond rfl (fun c1 => ?_) (fun c1 => ?_)
  · try simp only [nrm] at c1
    refine AWp.seq (AWp.region ?_)
    refine ARun.step rfl (step_loadS_b rfl (hn rfl) rfl ysSt67 rfl rfl rfl (by decide)) ?_
    refine ARun.step rfl (step_store_p rfl rfl ysCs67 rfl rfl rfl rfl rfl rfl rfl) ?_
    refine ARun.step rfl (step_assignV rfl (hn rfl) rfl rfl) ?_
    refine ARun.nil ?_
    refine AWp.ret ?_
    refine ⟨.inr rfl, 6, 3, _, _, _, ysSt67, by decide, rfl, rfl, rfl, rfl, (.cons rfl (.agg (.cons (.sc _ _ rfl) (.cons (.sc _ _ rfl) (.cons (.sc _ _ rfl) (.nil _))))) (.cons rfl (.one (.sc _ _ rfl)) (.nil _))), rfl, ?_⟩
    rw [show goOk l st = false by simp only [goOk]; grind]
    rfl
  · try simp only [nrm] at c1
    have hgo : goOk l st = true := by simp only [goOk]; grind
    have h : recOk l = true := by simp only [goOk, Bool.and_eq_true] at hgo; exact hgo.1
    have hg2 : 0 ≤ atP l st.at_ ∧ 0 ≤ st.now ∧ st.now ≤ 12000 := by simp only [goOk, Bool.and_eq_true, decide_eq_true_eq] at hgo; exact hgo.2
    have hlen := recOk_len h
    have ha := atP_lt l st.at_
    have hw := within_ok h (i := (atP l st.at_).toNat) (by omega)
    have hn3 := hold_n h (i := (atP l st.at_).toNat) (by omega)
    refine AWp.skip ?_
    refine AWp.seq (AWp.region ?_)
    refine ARun.step rfl (step_moveV rfl (hn rfl) rfl rfl) ?_
    refine ARun.step rfl (step_moveV rfl (hn rfl) rfl rfl) ?_
    refine ARun.step rfl (step_field_b rfl (hn rfl) rfl ysFo67_0 rfl (by exact List.cons_ne_nil _ _)) ?_
    refine ARun.step rfl (step_load_b rfl (hn rfl) rfl ysSc9 rfl rfl) ?_
    refine ARun.step rfl (call_step1 rfl (hn rfl) rfl ysCo122 (.cons rfl (.one (.v _)) (.cons rfl (.one (.v _)) (.nil))) (phaseI _ _) rfl) ?_
    refine ARun.step rfl (step_index_f rfl (hn rfl) rfl ysSl62 rfl rfl (by omega) (by omega)) ?_
    refine ARun.step rfl (step_loadS_f rfl (hn rfl) rfl ysSt74 rfl (hn rfl) rfl rfl) ?_
    refine ARun.step rfl (step_alloc_p rfl (hn rfl) rfl ysZs74) ?_
    refine ARun.step rfl (step_store_p rfl rfl ysCs74 rfl rfl rfl rfl rfl rfl rfl) ?_
    refine ARun.nil ?_
    refine AWp.seq (AWp.draw [⟨[.s 5, .b 5], [.s 40], false⟩, ⟨[.s 40, .b 5], [.s 41], false⟩, ⟨[.s 41], [.s 42], false⟩, ⟨[.s 5, .b 5], [.s 43], false⟩, ⟨[.s 43, .b 5], [.s 44], false⟩, ⟨[.s 42], [.s 9], false⟩, ⟨[], [], true⟩] ysMo rfl ?_)
    refine DRun.step rfl (fun τ hN hr => step_field_b rfl (rdN hN (hn rfl)) rfl ysFo78_0 (by exact rdS hr rfl rfl) (by exact rdBne hr rfl (by exact List.cons_ne_nil _ _))) ?_
    refine DRun.step rfl (fun τ hN hr => step_load_b rfl (rdN hN (hn rfl)) rfl ysSc3 (by exact rdS hr rfl rfl) (by exact rdBget hr rfl rfl)) ?_
    refine DRun.step rfl (fun τ hN hr => step_max rfl (rdN hN (hn rfl)) rfl rfl (by exact rdS hr rfl rfl)) ?_
    refine DRun.step rfl (fun τ hN hr => step_field_b rfl (rdN hN (hn rfl)) rfl ysFo78_1 (by exact rdS hr rfl rfl) (by exact rdBne hr rfl (by exact List.cons_ne_nil _ _))) ?_
    refine DRun.step rfl (fun τ hN hr => step_load_b rfl (rdN hN (hn rfl)) rfl ysSc4 (by exact rdS hr rfl rfl) (by exact rdBget hr rfl rfl)) ?_
    refine DRun.step rfl (fun τ hN hr => step_assignV rfl (rdN hN (hn rfl)) rfl (by exact rdS hr rfl rfl)) ?_
    refine DRun.lastS rfl (step_assignV rfl (hn rfl) rfl rfl) ?_
    refine AWp.seq ?_
    refine AWp.seq (AWp.region ?_)
    refine ARun.step rfl (step_moveV rfl (hn rfl) rfl rfl) ?_
    refine ARun.step rfl (step_moveV rfl (hn rfl) rfl rfl) ?_
    refine guardS rfl rfl rfl rfl (hn rfl) (fun g1 g2 => step_field_b rfl (hn rfl) rfl ysFo74_1 rfl (by exact List.cons_ne_nil _ _)) ?_
    refine guardS rfl rfl rfl rfl (hn rfl) (fun g1 g2 => step_load_b rfl (hn rfl) rfl ysSc3 (ev_true rfl (by exact flag2 g1 g2)) rfl) ?_
    refine guardS rfl rfl rfl rfl (hn rfl) (fun g1 g2 => step_eql rfl (hn rfl) rfl (ev_true rfl (by exact flag2 g1 g2)) rfl) ?_
    refine ARun.step rfl (step_and rfl (hn rfl) rfl rfl rfl (fun h => (by exact flag1 h))) ?_
    refine ARun.nil ?_
    refine AWp.cond rfl (fun c2 => ?_) (fun c2 => ?_)
    · try simp only [nrm] at c2
      refine AWp.region ?_
      refine ARun.step rfl (step_moveV rfl (hn rfl) rfl rfl) ?_
      refine ARun.step rfl (step_field_b rfl (hn rfl) rfl ysFo74_4 rfl (by exact List.cons_ne_nil _ _)) ?_
      refine ARun.step rfl (step_load_b rfl (hn rfl) rfl ysSc3 rfl rfl) ?_
      refine ARun.step rfl (step_max rfl (hn rfl) rfl rfl rfl) ?_
      refine ARun.step rfl (step_assignV rfl (hn rfl) rfl rfl) ?_
      refine ARun.nil ?_
      refine AWp.seq ?_
      refine AWp.seq (AWp.region ?_)
      refine ARun.step rfl (step_moveV rfl (hn rfl) rfl rfl) ?_
      refine ARun.step rfl (step_field_b rfl (hn rfl) rfl ysFo74_5 rfl (by exact List.cons_ne_nil _ _)) ?_
      refine ARun.step rfl (step_load_b rfl (hn rfl) rfl ysSc3 rfl rfl) ?_
      refine ARun.step rfl (step_gtr rfl (hn rfl) rfl rfl rfl) ?_
      refine ARun.nil ?_
      refine AWp.cond rfl (fun c3 => ?_) (fun c3 => ?_)
      · try simp only [nrm] at c3
        refine AWp.region ?_
        refine ARun.step rfl (step_field_b rfl (hn rfl) rfl ysFo74_5 rfl (by exact List.cons_ne_nil _ _)) ?_
        refine ARun.step rfl (step_load_b rfl (hn rfl) rfl ysSc3 rfl rfl) ?_
        refine ARun.step rfl (step_assignV rfl (hn rfl) rfl rfl) ?_
        refine ARun.step rfl (step_assignV rfl (hn rfl) rfl rfl) ?_
        refine ARun.nil ?_
        refine AWp.seq (AWp.region ?_)
        refine ARun.step rfl (step_field_b rfl (hn rfl) rfl ysFo74_7 rfl (by exact List.cons_ne_nil _ _)) ?_
        refine ARun.step rfl (step_load_b rfl (hn rfl) rfl ysSc9 rfl rfl) ?_
        refine ARun.step rfl (step_assignV rfl (hn rfl) rfl rfl) ?_
        refine ARun.nil ?_
        refine AWp.seq ?_
        refine AWp.seq (AWp.region ?_)
        refine ARun.step rfl (step_moveV rfl (hn rfl) rfl rfl) ?_
        refine ARun.nil ?_
        refine AWp.cond rfl (fun c4 => ?_) (fun c4 => ?_)
        · exact absurd c4 (by decide)
        · try simp only [nrm] at c4
          refine AWp.skip ?_
          refine AWp.seq (AWp.drawM [⟨⟨[.s 11], [.s 66], false⟩, none, []⟩, ⟨⟨[.s 4, .b 4], [.s 67], false⟩, none, []⟩, ⟨⟨[.s 67, .b 4], [.s 68], false⟩, none, []⟩, ⟨⟨[.s 9], [.s 69], false⟩, none, []⟩, ⟨⟨[.s 68, .s 69], [.s 70], false⟩, none, []⟩, ⟨⟨[.s 0], [.s 71], false⟩, none, []⟩, ⟨⟨[.s 11], [.s 72], false⟩, none, []⟩, ⟨⟨[.s 72, .s 71], [.s 73], false⟩, none, []⟩, ⟨⟨[], [], true⟩, none, []⟩, ⟨⟨[], [], true⟩, none, []⟩, ⟨⟨[], [], true⟩, none, []⟩] ysMo rfl rfl (Le.forgetR (n := 75) (sl := [(0, _), (1, _), (2, _), (4, _), (5, _), (6, _), (7, _), (8, _), (9, _), (10, _), (11, _), (12, _), (13, _), (14, _), (15, _), (21, _), (22, _), (26, _), (27, _), (31, _), (33, _), (34, _), (35, _), (36, _), (37, _), (38, _), (39, _), (40, _), (41, _), (42, _), (43, _), (44, _), (45, _), (46, _), (50, _), (51, _), (52, _), (53, _), (54, _), (55, _), (56, _), (57, _), (58, _), (59, _), (60, _), (61, _), (62, _), (63, _)]) (bl := [(4, _), (5, _), (6, _), (8, _)]) (al := []) rfl ⟨rfl, rfl, rfl, rfl, rfl, rfl, rfl, rfl, rfl, rfl, rfl, rfl, rfl, rfl, rfl, rfl, rfl, rfl, rfl, rfl, rfl, rfl, rfl, rfl, rfl, rfl, rfl, rfl, rfl, rfl, rfl, rfl, rfl, rfl, rfl, rfl, rfl, rfl, rfl, rfl, rfl, rfl, rfl, rfl, rfl, rfl, rfl, rfl, trivial⟩ ⟨rfl, rfl, rfl, rfl, trivial⟩ trivial) rfl ?_)
          refine FRun.slot rfl (fun τ hN hr => step_moveV rfl (rdN hN (hn rfl)) rfl (by exact rdS hr rfl rfl)) (by exact rfl) ?_
          refine FRun.slot rfl (fun τ hN hr => step_field_b rfl (rdN hN (hn rfl)) rfl ysFo67_1 (by exact rdS hr rfl rfl) (by exact rdBne hr rfl (by exact List.cons_ne_nil _ _))) (by exact rfl) ?_
          refine FRun.slot rfl (fun τ hN hr => step_load_b rfl (rdN hN (hn rfl)) rfl ysSc3 (by exact rdS hr rfl rfl) (by exact rdBget hr rfl rfl)) (by exact rfl) ?_
          refine FRun.slot rfl (fun τ hN hr => step_moveV rfl (rdN hN (hn rfl)) rfl (by exact rdS hr rfl rfl)) (by exact rfl) ?_
          refine FRun.slot rfl (fun τ hN hr => step_addI rfl (rdN hN (hn rfl)) rfl (by exact rdS hr rfl rfl) (by exact rdS hr rfl rfl) (by omega) (by omega)) (by exact rfl) ?_
          refine FRun.slot rfl (fun τ hN hr => step_moveV rfl (rdN hN (hn rfl)) rfl (by exact rdS hr rfl rfl)) (by exact rfl) ?_
          refine FRun.slot rfl (fun τ hN hr => step_moveV rfl (rdN hN (hn rfl)) rfl (by exact rdS hr rfl rfl)) (by exact rfl) ?_
          refine FRun.slot rfl (fun τ hN hr => call_step1 rfl (rdN hN (hn rfl)) rfl ysCo121 (.cons (by exact rdS hr rfl rfl) (.one (.v _)) (.cons (by exact rdS hr rfl rfl) (.one (.v _)) (.nil))) (bndI _ h _) rfl) (by exact rfl) ?_
          refine FRun.whole rfl (step_build rfl (hn rfl) rfl ysPl67 ysZc67 (.cons rfl rfl rfl rfl (.cons rfl rfl rfl rfl (.cons rfl rfl rfl rfl (.nil)))) rfl) (by exact rfl) ?_
          refine FRun.whole rfl (step_store_p rfl rfl ysCs67 rfl rfl rfl rfl rfl rfl rfl) (by exact rfl) ?_
          refine FRun.whole rfl (step_assignV rfl (hn rfl) rfl rfl) (by exact rfl) ?_
          refine FRun.nil ?_
          refine AWp.ret ?_
          refine ⟨.inr rfl, 6, 3, _, _, _, ysSt67, by decide, rfl, rfl, rfl, rfl, (.cons rfl (.agg (.cons (.sc _ _ rfl) (.cons (.sc _ _ rfl) (.cons (.sc _ _ rfl) (.nil _))))) (.cons rfl (.one (.sc _ _ rfl)) (.nil _))), rfl, ?_⟩
          rw [hgo, if_pos rfl]
          refine tupSt ?_ ?_ ?_
          all_goals (simp only [goSt, goT]; grind)
      · try simp only [nrm] at c3
        refine AWp.skip ?_
        refine AWp.seq (AWp.region ?_)
        refine ARun.step rfl (step_field_b rfl (hn rfl) rfl ysFo74_7 rfl (by exact List.cons_ne_nil _ _)) ?_
        refine ARun.step rfl (step_load_b rfl (hn rfl) rfl ysSc9 rfl rfl) ?_
        refine ARun.step rfl (step_assignV rfl (hn rfl) rfl rfl) ?_
        refine ARun.nil ?_
        refine AWp.seq ?_
        refine AWp.seq (AWp.region ?_)
        refine ARun.step rfl (step_moveV rfl (hn rfl) rfl rfl) ?_
        refine ARun.nil ?_
        refine AWp.cond rfl (fun c5 => ?_) (fun c5 => ?_)
        · try simp only [nrm] at c5
          refine AWp.region ?_
          refine ARun.step rfl (step_field_b rfl (hn rfl) rfl ysFo74_6 rfl (by exact List.cons_ne_nil _ _)) ?_
          refine ARun.step rfl (step_load_b rfl (hn rfl) rfl ysSc9 rfl rfl) ?_
          refine ARun.step rfl (step_assignV rfl (hn rfl) rfl rfl) ?_
          refine ARun.nil ?_
          refine AWp.seq (AWp.drawM [⟨⟨[.s 11], [.s 66], false⟩, none, []⟩, ⟨⟨[.s 4, .b 4], [.s 67], false⟩, none, []⟩, ⟨⟨[.s 67, .b 4], [.s 68], false⟩, none, []⟩, ⟨⟨[.s 9], [.s 69], false⟩, none, []⟩, ⟨⟨[.s 68, .s 69], [.s 70], false⟩, none, []⟩, ⟨⟨[.s 0], [.s 71], false⟩, none, []⟩, ⟨⟨[.s 11], [.s 72], false⟩, none, []⟩, ⟨⟨[.s 72, .s 71], [.s 73], false⟩, none, []⟩, ⟨⟨[], [], true⟩, none, []⟩, ⟨⟨[], [], true⟩, none, []⟩, ⟨⟨[], [], true⟩, none, []⟩] ysMo rfl rfl (Le.forgetR (n := 75) (sl := [(0, _), (1, _), (2, _), (4, _), (5, _), (6, _), (7, _), (8, _), (9, _), (10, _), (11, _), (12, _), (13, _), (14, _), (15, _), (21, _), (22, _), (26, _), (27, _), (31, _), (33, _), (34, _), (35, _), (36, _), (37, _), (38, _), (39, _), (40, _), (41, _), (42, _), (43, _), (44, _), (45, _), (46, _), (50, _), (51, _), (52, _), (53, _), (54, _), (55, _), (56, _), (57, _), (58, _), (61, _), (62, _), (63, _), (64, _), (65, _)]) (bl := [(4, _), (5, _), (6, _), (8, _)]) (al := []) rfl ⟨rfl, rfl, rfl, rfl, rfl, rfl, rfl, rfl, rfl, rfl, rfl, rfl, rfl, rfl, rfl, rfl, rfl, rfl, rfl, rfl, rfl, rfl, rfl, rfl, rfl, rfl, rfl, rfl, rfl, rfl, rfl, rfl, rfl, rfl, rfl, rfl, rfl, rfl, rfl, rfl, rfl, rfl, rfl, rfl, rfl, rfl, rfl, rfl, trivial⟩ ⟨rfl, rfl, rfl, rfl, trivial⟩ trivial) rfl ?_)
          refine FRun.slot rfl (fun τ hN hr => step_moveV rfl (rdN hN (hn rfl)) rfl (by exact rdS hr rfl rfl)) (by exact rfl) ?_
          refine FRun.slot rfl (fun τ hN hr => step_field_b rfl (rdN hN (hn rfl)) rfl ysFo67_1 (by exact rdS hr rfl rfl) (by exact rdBne hr rfl (by exact List.cons_ne_nil _ _))) (by exact rfl) ?_
          refine FRun.slot rfl (fun τ hN hr => step_load_b rfl (rdN hN (hn rfl)) rfl ysSc3 (by exact rdS hr rfl rfl) (by exact rdBget hr rfl rfl)) (by exact rfl) ?_
          refine FRun.slot rfl (fun τ hN hr => step_moveV rfl (rdN hN (hn rfl)) rfl (by exact rdS hr rfl rfl)) (by exact rfl) ?_
          refine FRun.slot rfl (fun τ hN hr => step_addI rfl (rdN hN (hn rfl)) rfl (by exact rdS hr rfl rfl) (by exact rdS hr rfl rfl) (by omega) (by omega)) (by exact rfl) ?_
          refine FRun.slot rfl (fun τ hN hr => step_moveV rfl (rdN hN (hn rfl)) rfl (by exact rdS hr rfl rfl)) (by exact rfl) ?_
          refine FRun.slot rfl (fun τ hN hr => step_moveV rfl (rdN hN (hn rfl)) rfl (by exact rdS hr rfl rfl)) (by exact rfl) ?_
          refine FRun.slot rfl (fun τ hN hr => call_step1 rfl (rdN hN (hn rfl)) rfl ysCo121 (.cons (by exact rdS hr rfl rfl) (.one (.v _)) (.cons (by exact rdS hr rfl rfl) (.one (.v _)) (.nil))) (bndI _ h _) rfl) (by exact rfl) ?_
          refine FRun.whole rfl (step_build rfl (hn rfl) rfl ysPl67 ysZc67 (.cons rfl rfl rfl rfl (.cons rfl rfl rfl rfl (.cons rfl rfl rfl rfl (.nil)))) rfl) (by exact rfl) ?_
          refine FRun.whole rfl (step_store_p rfl rfl ysCs67 rfl rfl rfl rfl rfl rfl rfl) (by exact rfl) ?_
          refine FRun.whole rfl (step_assignV rfl (hn rfl) rfl rfl) (by exact rfl) ?_
          refine FRun.nil ?_
          refine AWp.ret ?_
          refine ⟨.inr rfl, 6, 3, _, _, _, ysSt67, by decide, rfl, rfl, rfl, rfl, (.cons rfl (.agg (.cons (.sc _ _ rfl) (.cons (.sc _ _ rfl) (.cons (.sc _ _ rfl) (.nil _))))) (.cons rfl (.one (.sc _ _ rfl)) (.nil _))), rfl, ?_⟩
          rw [hgo, if_pos rfl]
          refine tupSt ?_ ?_ ?_
          all_goals (simp only [goSt, goT]; grind)
        · try simp only [nrm] at c5
          refine AWp.skip ?_
          refine AWp.seq (AWp.drawM [⟨⟨[.s 11], [.s 66], false⟩, none, []⟩, ⟨⟨[.s 4, .b 4], [.s 67], false⟩, none, []⟩, ⟨⟨[.s 67, .b 4], [.s 68], false⟩, none, []⟩, ⟨⟨[.s 9], [.s 69], false⟩, none, []⟩, ⟨⟨[.s 68, .s 69], [.s 70], false⟩, none, []⟩, ⟨⟨[.s 0], [.s 71], false⟩, none, []⟩, ⟨⟨[.s 11], [.s 72], false⟩, none, []⟩, ⟨⟨[.s 72, .s 71], [.s 73], false⟩, none, []⟩, ⟨⟨[], [], true⟩, none, []⟩, ⟨⟨[], [], true⟩, none, []⟩, ⟨⟨[], [], true⟩, none, []⟩] ysMo rfl rfl (Le.forgetR (n := 75) (sl := [(0, _), (1, _), (2, _), (4, _), (5, _), (6, _), (7, _), (8, _), (9, _), (10, _), (11, _), (12, _), (13, _), (14, _), (15, _), (21, _), (22, _), (26, _), (27, _), (31, _), (33, _), (34, _), (35, _), (36, _), (37, _), (38, _), (39, _), (40, _), (41, _), (42, _), (43, _), (44, _), (45, _), (46, _), (50, _), (51, _), (52, _), (53, _), (54, _), (55, _), (56, _), (57, _), (58, _), (61, _), (62, _), (63, _)]) (bl := [(4, _), (5, _), (6, _), (8, _)]) (al := []) rfl ⟨rfl, rfl, rfl, rfl, rfl, rfl, rfl, rfl, rfl, rfl, rfl, rfl, rfl, rfl, rfl, rfl, rfl, rfl, rfl, rfl, rfl, rfl, rfl, rfl, rfl, rfl, rfl, rfl, rfl, rfl, rfl, rfl, rfl, rfl, rfl, rfl, rfl, rfl, rfl, rfl, rfl, rfl, rfl, rfl, rfl, rfl, trivial⟩ ⟨rfl, rfl, rfl, rfl, trivial⟩ trivial) rfl ?_)
          refine FRun.slot rfl (fun τ hN hr => step_moveV rfl (rdN hN (hn rfl)) rfl (by exact rdS hr rfl rfl)) (by exact rfl) ?_
          refine FRun.slot rfl (fun τ hN hr => step_field_b rfl (rdN hN (hn rfl)) rfl ysFo67_1 (by exact rdS hr rfl rfl) (by exact rdBne hr rfl (by exact List.cons_ne_nil _ _))) (by exact rfl) ?_
          refine FRun.slot rfl (fun τ hN hr => step_load_b rfl (rdN hN (hn rfl)) rfl ysSc3 (by exact rdS hr rfl rfl) (by exact rdBget hr rfl rfl)) (by exact rfl) ?_
          refine FRun.slot rfl (fun τ hN hr => step_moveV rfl (rdN hN (hn rfl)) rfl (by exact rdS hr rfl rfl)) (by exact rfl) ?_
          refine FRun.slot rfl (fun τ hN hr => step_addI rfl (rdN hN (hn rfl)) rfl (by exact rdS hr rfl rfl) (by exact rdS hr rfl rfl) (by omega) (by omega)) (by exact rfl) ?_
          refine FRun.slot rfl (fun τ hN hr => step_moveV rfl (rdN hN (hn rfl)) rfl (by exact rdS hr rfl rfl)) (by exact rfl) ?_
          refine FRun.slot rfl (fun τ hN hr => step_moveV rfl (rdN hN (hn rfl)) rfl (by exact rdS hr rfl rfl)) (by exact rfl) ?_
          refine FRun.slot rfl (fun τ hN hr => call_step1 rfl (rdN hN (hn rfl)) rfl ysCo121 (.cons (by exact rdS hr rfl rfl) (.one (.v _)) (.cons (by exact rdS hr rfl rfl) (.one (.v _)) (.nil))) (bndI _ h _) rfl) (by exact rfl) ?_
          refine FRun.whole rfl (step_build rfl (hn rfl) rfl ysPl67 ysZc67 (.cons rfl rfl rfl rfl (.cons rfl rfl rfl rfl (.cons rfl rfl rfl rfl (.nil)))) rfl) (by exact rfl) ?_
          refine FRun.whole rfl (step_store_p rfl rfl ysCs67 rfl rfl rfl rfl rfl rfl rfl) (by exact rfl) ?_
          refine FRun.whole rfl (step_assignV rfl (hn rfl) rfl rfl) (by exact rfl) ?_
          refine FRun.nil ?_
          refine AWp.ret ?_
          refine ⟨.inr rfl, 6, 3, _, _, _, ysSt67, by decide, rfl, rfl, rfl, rfl, (.cons rfl (.agg (.cons (.sc _ _ rfl) (.cons (.sc _ _ rfl) (.cons (.sc _ _ rfl) (.nil _))))) (.cons rfl (.one (.sc _ _ rfl)) (.nil _))), rfl, ?_⟩
          rw [hgo, if_pos rfl]
          refine tupSt ?_ ?_ ?_
          all_goals (simp only [goSt, goT]; grind)
    · try simp only [nrm] at c2
      refine AWp.skip ?_
      refine AWp.seq ?_
      refine AWp.seq (AWp.region ?_)
      refine ARun.step rfl (step_moveV rfl (hn rfl) rfl rfl) ?_
      refine ARun.step rfl (step_field_b rfl (hn rfl) rfl ysFo74_5 rfl (by exact List.cons_ne_nil _ _)) ?_
      refine ARun.step rfl (step_load_b rfl (hn rfl) rfl ysSc3 rfl rfl) ?_
      refine ARun.step rfl (step_gtr rfl (hn rfl) rfl rfl rfl) ?_
      refine ARun.nil ?_
      refine AWp.cond rfl (fun c6 => ?_) (fun c6 => ?_)
      · try simp only [nrm] at c6
        refine AWp.region ?_
        refine ARun.step rfl (step_field_b rfl (hn rfl) rfl ysFo74_5 rfl (by exact List.cons_ne_nil _ _)) ?_
        refine ARun.step rfl (step_load_b rfl (hn rfl) rfl ysSc3 rfl rfl) ?_
        refine ARun.step rfl (step_assignV rfl (hn rfl) rfl rfl) ?_
        refine ARun.step rfl (step_assignV rfl (hn rfl) rfl rfl) ?_
        refine ARun.nil ?_
        refine AWp.seq (AWp.region ?_)
        refine ARun.step rfl (step_field_b rfl (hn rfl) rfl ysFo74_7 rfl (by exact List.cons_ne_nil _ _)) ?_
        refine ARun.step rfl (step_load_b rfl (hn rfl) rfl ysSc9 rfl rfl) ?_
        refine ARun.step rfl (step_assignV rfl (hn rfl) rfl rfl) ?_
        refine ARun.nil ?_
        refine AWp.seq ?_
        refine AWp.seq (AWp.region ?_)
        refine ARun.step rfl (step_moveV rfl (hn rfl) rfl rfl) ?_
        refine ARun.nil ?_
        refine AWp.cond rfl (fun c7 => ?_) (fun c7 => ?_)
        · exact absurd c7 (by decide)
        · try simp only [nrm] at c7
          refine AWp.skip ?_
          refine AWp.seq (AWp.drawM [⟨⟨[.s 11], [.s 66], false⟩, none, []⟩, ⟨⟨[.s 4, .b 4], [.s 67], false⟩, none, []⟩, ⟨⟨[.s 67, .b 4], [.s 68], false⟩, none, []⟩, ⟨⟨[.s 9], [.s 69], false⟩, none, []⟩, ⟨⟨[.s 68, .s 69], [.s 70], false⟩, none, []⟩, ⟨⟨[.s 0], [.s 71], false⟩, none, []⟩, ⟨⟨[.s 11], [.s 72], false⟩, none, []⟩, ⟨⟨[.s 72, .s 71], [.s 73], false⟩, none, []⟩, ⟨⟨[], [], true⟩, none, []⟩, ⟨⟨[], [], true⟩, none, []⟩, ⟨⟨[], [], true⟩, none, []⟩] ysMo rfl rfl (Le.forgetR (n := 75) (sl := [(0, _), (1, _), (2, _), (4, _), (5, _), (6, _), (7, _), (8, _), (9, _), (10, _), (11, _), (12, _), (13, _), (14, _), (15, _), (21, _), (22, _), (26, _), (27, _), (31, _), (33, _), (34, _), (35, _), (36, _), (37, _), (38, _), (39, _), (40, _), (41, _), (42, _), (43, _), (44, _), (45, _), (46, _), (50, _), (55, _), (56, _), (57, _), (58, _), (59, _), (60, _), (61, _), (62, _), (63, _)]) (bl := [(4, _), (5, _), (6, _), (8, _)]) (al := []) rfl ⟨rfl, rfl, rfl, rfl, rfl, rfl, rfl, rfl, rfl, rfl, rfl, rfl, rfl, rfl, rfl, rfl, rfl, rfl, rfl, rfl, rfl, rfl, rfl, rfl, rfl, rfl, rfl, rfl, rfl, rfl, rfl, rfl, rfl, rfl, rfl, rfl, rfl, rfl, rfl, rfl, rfl, rfl, rfl, rfl, trivial⟩ ⟨rfl, rfl, rfl, rfl, trivial⟩ trivial) rfl ?_)
          refine FRun.slot rfl (fun τ hN hr => step_moveV rfl (rdN hN (hn rfl)) rfl (by exact rdS hr rfl rfl)) (by exact rfl) ?_
          refine FRun.slot rfl (fun τ hN hr => step_field_b rfl (rdN hN (hn rfl)) rfl ysFo67_1 (by exact rdS hr rfl rfl) (by exact rdBne hr rfl (by exact List.cons_ne_nil _ _))) (by exact rfl) ?_
          refine FRun.slot rfl (fun τ hN hr => step_load_b rfl (rdN hN (hn rfl)) rfl ysSc3 (by exact rdS hr rfl rfl) (by exact rdBget hr rfl rfl)) (by exact rfl) ?_
          refine FRun.slot rfl (fun τ hN hr => step_moveV rfl (rdN hN (hn rfl)) rfl (by exact rdS hr rfl rfl)) (by exact rfl) ?_
          refine FRun.slot rfl (fun τ hN hr => step_addI rfl (rdN hN (hn rfl)) rfl (by exact rdS hr rfl rfl) (by exact rdS hr rfl rfl) (by omega) (by omega)) (by exact rfl) ?_
          refine FRun.slot rfl (fun τ hN hr => step_moveV rfl (rdN hN (hn rfl)) rfl (by exact rdS hr rfl rfl)) (by exact rfl) ?_
          refine FRun.slot rfl (fun τ hN hr => step_moveV rfl (rdN hN (hn rfl)) rfl (by exact rdS hr rfl rfl)) (by exact rfl) ?_
          refine FRun.slot rfl (fun τ hN hr => call_step1 rfl (rdN hN (hn rfl)) rfl ysCo121 (.cons (by exact rdS hr rfl rfl) (.one (.v _)) (.cons (by exact rdS hr rfl rfl) (.one (.v _)) (.nil))) (bndI _ h _) rfl) (by exact rfl) ?_
          refine FRun.whole rfl (step_build rfl (hn rfl) rfl ysPl67 ysZc67 (.cons rfl rfl rfl rfl (.cons rfl rfl rfl rfl (.cons rfl rfl rfl rfl (.nil)))) rfl) (by exact rfl) ?_
          refine FRun.whole rfl (step_store_p rfl rfl ysCs67 rfl rfl rfl rfl rfl rfl rfl) (by exact rfl) ?_
          refine FRun.whole rfl (step_assignV rfl (hn rfl) rfl rfl) (by exact rfl) ?_
          refine FRun.nil ?_
          refine AWp.ret ?_
          refine ⟨.inr rfl, 6, 3, _, _, _, ysSt67, by decide, rfl, rfl, rfl, rfl, (.cons rfl (.agg (.cons (.sc _ _ rfl) (.cons (.sc _ _ rfl) (.cons (.sc _ _ rfl) (.nil _))))) (.cons rfl (.one (.sc _ _ rfl)) (.nil _))), rfl, ?_⟩
          rw [hgo, if_pos rfl]
          refine tupSt ?_ ?_ ?_
          all_goals (simp only [goSt, goT]; grind)
      · try simp only [nrm] at c6
        refine AWp.skip ?_
        refine AWp.seq (AWp.region ?_)
        refine ARun.step rfl (step_field_b rfl (hn rfl) rfl ysFo74_7 rfl (by exact List.cons_ne_nil _ _)) ?_
        refine ARun.step rfl (step_load_b rfl (hn rfl) rfl ysSc9 rfl rfl) ?_
        refine ARun.step rfl (step_assignV rfl (hn rfl) rfl rfl) ?_
        refine ARun.nil ?_
        refine AWp.seq ?_
        refine AWp.seq (AWp.region ?_)
        refine ARun.step rfl (step_moveV rfl (hn rfl) rfl rfl) ?_
        refine ARun.nil ?_
        refine AWp.cond rfl (fun c8 => ?_) (fun c8 => ?_)
        · try simp only [nrm] at c8
          refine AWp.region ?_
          refine ARun.step rfl (step_field_b rfl (hn rfl) rfl ysFo74_6 rfl (by exact List.cons_ne_nil _ _)) ?_
          refine ARun.step rfl (step_load_b rfl (hn rfl) rfl ysSc9 rfl rfl) ?_
          refine ARun.step rfl (step_assignV rfl (hn rfl) rfl rfl) ?_
          refine ARun.nil ?_
          refine AWp.seq (AWp.drawM [⟨⟨[.s 11], [.s 66], false⟩, none, []⟩, ⟨⟨[.s 4, .b 4], [.s 67], false⟩, none, []⟩, ⟨⟨[.s 67, .b 4], [.s 68], false⟩, none, []⟩, ⟨⟨[.s 9], [.s 69], false⟩, none, []⟩, ⟨⟨[.s 68, .s 69], [.s 70], false⟩, none, []⟩, ⟨⟨[.s 0], [.s 71], false⟩, none, []⟩, ⟨⟨[.s 11], [.s 72], false⟩, none, []⟩, ⟨⟨[.s 72, .s 71], [.s 73], false⟩, none, []⟩, ⟨⟨[], [], true⟩, none, []⟩, ⟨⟨[], [], true⟩, none, []⟩, ⟨⟨[], [], true⟩, none, []⟩] ysMo rfl rfl (Le.forgetR (n := 75) (sl := [(0, _), (1, _), (2, _), (4, _), (5, _), (6, _), (7, _), (8, _), (9, _), (10, _), (11, _), (12, _), (13, _), (14, _), (15, _), (21, _), (22, _), (26, _), (27, _), (31, _), (33, _), (34, _), (35, _), (36, _), (37, _), (38, _), (39, _), (40, _), (41, _), (42, _), (43, _), (44, _), (45, _), (46, _), (50, _), (55, _), (56, _), (57, _), (58, _), (61, _), (62, _), (63, _), (64, _), (65, _)]) (bl := [(4, _), (5, _), (6, _), (8, _)]) (al := []) rfl ⟨rfl, rfl, rfl, rfl, rfl, rfl, rfl, rfl, rfl, rfl, rfl, rfl, rfl, rfl, rfl, rfl, rfl, rfl, rfl, rfl, rfl, rfl, rfl, rfl, rfl, rfl, rfl, rfl, rfl, rfl, rfl, rfl, rfl, rfl, rfl, rfl, rfl, rfl, rfl, rfl, rfl, rfl, rfl, rfl, trivial⟩ ⟨rfl, rfl, rfl, rfl, trivial⟩ trivial) rfl ?_)
          refine FRun.slot rfl (fun τ hN hr => step_moveV rfl (rdN hN (hn rfl)) rfl (by exact rdS hr rfl rfl)) (by exact rfl) ?_
          refine FRun.slot rfl (fun τ hN hr => step_field_b rfl (rdN hN (hn rfl)) rfl ysFo67_1 (by exact rdS hr rfl rfl) (by exact rdBne hr rfl (by exact List.cons_ne_nil _ _))) (by exact rfl) ?_
          refine FRun.slot rfl (fun τ hN hr => step_load_b rfl (rdN hN (hn rfl)) rfl ysSc3 (by exact rdS hr rfl rfl) (by exact rdBget hr rfl rfl)) (by exact rfl) ?_
          refine FRun.slot rfl (fun τ hN hr => step_moveV rfl (rdN hN (hn rfl)) rfl (by exact rdS hr rfl rfl)) (by exact rfl) ?_
          refine FRun.slot rfl (fun τ hN hr => step_addI rfl (rdN hN (hn rfl)) rfl (by exact rdS hr rfl rfl) (by exact rdS hr rfl rfl) (by omega) (by omega)) (by exact rfl) ?_
          refine FRun.slot rfl (fun τ hN hr => step_moveV rfl (rdN hN (hn rfl)) rfl (by exact rdS hr rfl rfl)) (by exact rfl) ?_
          refine FRun.slot rfl (fun τ hN hr => step_moveV rfl (rdN hN (hn rfl)) rfl (by exact rdS hr rfl rfl)) (by exact rfl) ?_
          refine FRun.slot rfl (fun τ hN hr => call_step1 rfl (rdN hN (hn rfl)) rfl ysCo121 (.cons (by exact rdS hr rfl rfl) (.one (.v _)) (.cons (by exact rdS hr rfl rfl) (.one (.v _)) (.nil))) (bndI _ h _) rfl) (by exact rfl) ?_
          refine FRun.whole rfl (step_build rfl (hn rfl) rfl ysPl67 ysZc67 (.cons rfl rfl rfl rfl (.cons rfl rfl rfl rfl (.cons rfl rfl rfl rfl (.nil)))) rfl) (by exact rfl) ?_
          refine FRun.whole rfl (step_store_p rfl rfl ysCs67 rfl rfl rfl rfl rfl rfl rfl) (by exact rfl) ?_
          refine FRun.whole rfl (step_assignV rfl (hn rfl) rfl rfl) (by exact rfl) ?_
          refine FRun.nil ?_
          refine AWp.ret ?_
          refine ⟨.inr rfl, 6, 3, _, _, _, ysSt67, by decide, rfl, rfl, rfl, rfl, (.cons rfl (.agg (.cons (.sc _ _ rfl) (.cons (.sc _ _ rfl) (.cons (.sc _ _ rfl) (.nil _))))) (.cons rfl (.one (.sc _ _ rfl)) (.nil _))), rfl, ?_⟩
          rw [hgo, if_pos rfl]
          refine tupSt ?_ ?_ ?_
          all_goals (simp only [goSt, goT]; grind)
        · try simp only [nrm] at c8
          refine AWp.skip ?_
          refine AWp.seq (AWp.drawM [⟨⟨[.s 11], [.s 66], false⟩, none, []⟩, ⟨⟨[.s 4, .b 4], [.s 67], false⟩, none, []⟩, ⟨⟨[.s 67, .b 4], [.s 68], false⟩, none, []⟩, ⟨⟨[.s 9], [.s 69], false⟩, none, []⟩, ⟨⟨[.s 68, .s 69], [.s 70], false⟩, none, []⟩, ⟨⟨[.s 0], [.s 71], false⟩, none, []⟩, ⟨⟨[.s 11], [.s 72], false⟩, none, []⟩, ⟨⟨[.s 72, .s 71], [.s 73], false⟩, none, []⟩, ⟨⟨[], [], true⟩, none, []⟩, ⟨⟨[], [], true⟩, none, []⟩, ⟨⟨[], [], true⟩, none, []⟩] ysMo rfl rfl (Le.forgetR (n := 75) (sl := [(0, _), (1, _), (2, _), (4, _), (5, _), (6, _), (7, _), (8, _), (9, _), (10, _), (11, _), (12, _), (13, _), (14, _), (15, _), (21, _), (22, _), (26, _), (27, _), (31, _), (33, _), (34, _), (35, _), (36, _), (37, _), (38, _), (39, _), (40, _), (41, _), (42, _), (43, _), (44, _), (45, _), (46, _), (50, _), (55, _), (56, _), (57, _), (58, _), (61, _), (62, _), (63, _)]) (bl := [(4, _), (5, _), (6, _), (8, _)]) (al := []) rfl ⟨rfl, rfl, rfl, rfl, rfl, rfl, rfl, rfl, rfl, rfl, rfl, rfl, rfl, rfl, rfl, rfl, rfl, rfl, rfl, rfl, rfl, rfl, rfl, rfl, rfl, rfl, rfl, rfl, rfl, rfl, rfl, rfl, rfl, rfl, rfl, rfl, rfl, rfl, rfl, rfl, rfl, rfl, trivial⟩ ⟨rfl, rfl, rfl, rfl, trivial⟩ trivial) rfl ?_)
          refine FRun.slot rfl (fun τ hN hr => step_moveV rfl (rdN hN (hn rfl)) rfl (by exact rdS hr rfl rfl)) (by exact rfl) ?_
          refine FRun.slot rfl (fun τ hN hr => step_field_b rfl (rdN hN (hn rfl)) rfl ysFo67_1 (by exact rdS hr rfl rfl) (by exact rdBne hr rfl (by exact List.cons_ne_nil _ _))) (by exact rfl) ?_
          refine FRun.slot rfl (fun τ hN hr => step_load_b rfl (rdN hN (hn rfl)) rfl ysSc3 (by exact rdS hr rfl rfl) (by exact rdBget hr rfl rfl)) (by exact rfl) ?_
          refine FRun.slot rfl (fun τ hN hr => step_moveV rfl (rdN hN (hn rfl)) rfl (by exact rdS hr rfl rfl)) (by exact rfl) ?_
          refine FRun.slot rfl (fun τ hN hr => step_addI rfl (rdN hN (hn rfl)) rfl (by exact rdS hr rfl rfl) (by exact rdS hr rfl rfl) (by omega) (by omega)) (by exact rfl) ?_
          refine FRun.slot rfl (fun τ hN hr => step_moveV rfl (rdN hN (hn rfl)) rfl (by exact rdS hr rfl rfl)) (by exact rfl) ?_
          refine FRun.slot rfl (fun τ hN hr => step_moveV rfl (rdN hN (hn rfl)) rfl (by exact rdS hr rfl rfl)) (by exact rfl) ?_
          refine FRun.slot rfl (fun τ hN hr => call_step1 rfl (rdN hN (hn rfl)) rfl ysCo121 (.cons (by exact rdS hr rfl rfl) (.one (.v _)) (.cons (by exact rdS hr rfl rfl) (.one (.v _)) (.nil))) (bndI _ h _) rfl) (by exact rfl) ?_
          refine FRun.whole rfl (step_build rfl (hn rfl) rfl ysPl67 ysZc67 (.cons rfl rfl rfl rfl (.cons rfl rfl rfl rfl (.cons rfl rfl rfl rfl (.nil)))) rfl) (by exact rfl) ?_
          refine FRun.whole rfl (step_store_p rfl rfl ysCs67 rfl rfl rfl rfl rfl rfl rfl) (by exact rfl) ?_
          refine FRun.whole rfl (step_assignV rfl (hn rfl) rfl rfl) (by exact rfl) ?_
          refine FRun.nil ?_
          refine AWp.ret ?_
          refine ⟨.inr rfl, 6, 3, _, _, _, ysSt67, by decide, rfl, rfl, rfl, rfl, (.cons rfl (.agg (.cons (.sc _ _ rfl) (.cons (.sc _ _ rfl) (.cons (.sc _ _ rfl) (.nil _))))) (.cons rfl (.one (.sc _ _ rfl)) (.nil _))), rfl, ?_⟩
          rw [hgo, if_pos rfl]
          refine tupSt ?_ ?_ ?_
          all_goals (simp only [goSt, goT]; grind)
theorem runI (l : List Ph) (y : List Say)  : ASpec Try.prog 57 [.one (phs 74 l), .one (says 78 y)] (.tup [.agg (recRun l y).1.cells, .one (strs (recRun l y).2)]) := by
  refine ASpec.bodyC Try.func57 rfl 4 67 [5] rfl rfl 44 rfl rfl rfl ?_
  refine AWp.lenLe 1 rfl (fun hly => ?_)
  refine AWp.seq (AWp.region ?_)
  refine ARun.step rfl (step_alloc_p rfl (hn rfl) rfl ysZs67) ?_
  refine ARun.step rfl (step_assignV rfl (hn rfl) rfl rfl) ?_
  refine ARun.nil ?_
  refine AWp.seq (AWp.region ?_)
  refine ARun.step rfl (step_moveV rfl (hn rfl) rfl rfl) ?_
  refine ARun.step rfl (call_step1 rfl (hn rfl) rfl ysCo64 (.cons rfl (.one (.v _)) (.nil)) (begI _) rfl) ?_
  refine ARun.step rfl (step_alloc_p rfl (hn rfl) rfl ysZs67) ?_
  refine ARun.step rfl (step_store_p rfl rfl ysCs67 rfl rfl rfl rfl rfl rfl rfl) ?_
  refine ARun.nil ?_
  refine AWp.seq (AWp.region ?_)
  refine ARun.step rfl (step_assignV rfl (hn rfl) rfl rfl) ?_
  refine ARun.nil ?_
  refine AWp.seq ?_
  refine AWp.seq (AWp.region ?_)
  refine ARun.step rfl (step_moveV rfl (hn rfl) rfl rfl) ?_
  refine ARun.step rfl (call_step1 rfl (hn rfl) rfl ysCo113 (.cons rfl (.one (.v _)) (.nil)) (recOkI _) rfl) ?_
  refine ARun.step rfl (step_assignV rfl (hn rfl) rfl rfl) ?_
  refine ARun.nil ?_
  refine AWp.block ?_
  refine AWp.le (Le.nilRef 7 7 9 1 (fun i => [.str (nth [] i)]) rfl rfl) ?_
  refine AWp.loopM (fun x : RSt × List Str × List Say × Bool => mkAS 44 [(0, ⟨true, .one (.v (phs 74 l))⟩), (1, ⟨true, .one (.v (says 78 x.2.2.1))⟩), (4, ⟨true, .one (.bptr 4 0)⟩), (5, ⟨true, .one (.nil)⟩), (6, ⟨true, .one (.bptr 6 0)⟩), (7, ⟨true, .one (.ref ⟨.arr 7 0, []⟩)⟩), (8, ⟨true, .one (.v (.bool x.2.2.2))⟩)] [(4, [.any, .any, .any]), (6, [.v (.str x.1.at_), .v (.int .i64 x.1.now), .v (.int .i64 x.1.left)])] [(7, 0, strs x.2.1)]) (fun x => (recOk l = false → x.2.2.2 = false ∧ x.1 = begSt l ∧ x.2.1 = []) ∧ (recOk l = true → x.2.2.2 = true ∧ runInv l y x.1 x.2.1 x.2.2.1)) (fun x => rank l x.1.at_) (begSt l, [], y, recOk l) ?_ (Le.forgetR rfl ⟨rfl, rfl, rfl, rfl, rfl, rfl, rfl, trivial⟩ ⟨rfl, rfl, trivial⟩ ⟨.refl _, trivial⟩) ?_
  · try dsimp only
    exact ⟨fun h => ⟨h, rfl, rfl⟩, fun h => ⟨h, run_beg h y⟩⟩
  rintro x ⟨hi1, hi2⟩
  refine AWp.seq ?_
  refine AWp.seq (AWp.region ?_)
  refine ARun.step rfl (step_moveV rfl (hn rfl) rfl rfl) ?_
  refine ARun.step rfl (step_moveV rfl (hn rfl) rfl rfl) ?_
  refine guardS rfl rfl rfl rfl (hn rfl) (fun g1 g2 => step_field_b rfl (hn rfl) rfl ysFo67_0 rfl (by exact List.cons_ne_nil _ _)) ?_
  refine guardS rfl rfl rfl rfl (hn rfl) (fun g1 g2 => step_load_b rfl (hn rfl) rfl ysSc9 (ev_true rfl (by exact flag2 g1 g2)) rfl) ?_
  refine guardS rfl rfl rfl rfl (hn rfl) (fun g1 g2 => call_step1 rfl (hn rfl) rfl ysCo61 (.cons (ev_true rfl (by exact flag2 g1 g2)) (.one (.v _)) (.nil)) (RecEndI _) rfl) ?_
  refine guardS rfl rfl rfl rfl (hn rfl) (fun g1 g2 => step_eql rfl (hn rfl) rfl (ev_true rfl (by exact flag2 g1 g2)) rfl) ?_
  refine ARun.step rfl (step_and rfl (hn rfl) rfl rfl rfl (fun h => (by exact flag1 h))) ?_
  refine ARun.nil ?_
  refine AWp.cond rfl (fun c1 => ?_) (fun c1 => ?_)
  · try simp only [nrm] at c1
    have hl : recOk l = true := by
      cases hh : recOk l with
      | true => rfl
      | false => exact absurd c1.1 (by simp [(hi1 hh).1])
    have hR := (hi2 hl).2
    have h0 : 0 ≤ atP l x.1.at_ := hR.1.2.1 c1.2
    have hpl := hR.2.1
    have hll := recOk_len hl
    refine AWp.skip ?_
    refine AWp.block ?_
    refine AWp.seq (AWp.region ?_)
    refine ARun.step rfl (step_build rfl (hn rfl) rfl ysPl78 ysZc78 (.cons rfl rfl rfl rfl (.nil)) rfl) ?_
    refine ARun.step rfl (step_alloc_p rfl (hn rfl) rfl ysZs78) ?_
    refine ARun.step rfl (step_store_p rfl rfl ysCs78 rfl rfl rfl rfl rfl rfl rfl) ?_
    refine ARun.nil ?_
    refine AWp.seq ?_
    refine AWp.seq (AWp.region ?_)
    refine ARun.step rfl (step_moveV rfl (hn rfl) rfl rfl) ?_
    refine ARun.step rfl (step_len_f rfl (hn rfl) rfl ysSl63 rfl) ?_
    refine ARun.step rfl (step_gtr rfl (hn rfl) rfl rfl rfl) ?_
    refine ARun.nil ?_
    refine AWp.cond rfl (fun c2 => ?_) (fun c2 => ?_)
    · try simp only [nrm] at c2
      let say : Say := nth x.2.2.1 0
      refine AWp.drawM [⟨⟨[.s 1], [.s 25], false⟩, none, []⟩, ⟨⟨[.s 25], [.s 26], false⟩, none, []⟩, ⟨⟨[.s 26], [.s 27], false⟩, none, []⟩, ⟨⟨[.s 1], [.s 28], false⟩, none, []⟩, ⟨⟨[.s 28], [.s 29], false⟩, none, []⟩, ⟨⟨[.b 9, .s 9, .s 27], [.b 9], false⟩, none, []⟩, ⟨⟨[], [], true⟩, none, []⟩] ysMo rfl rfl (Le.forgetR (n := 44) (sl := [(0, _), (1, _), (4, _), (5, _), (6, _), (7, _), (8, _), (9, _), (14, _), (15, _), (20, _), (21, _), (22, _), (23, _), (24, _)]) (bl := [(4, _), (6, _), (9, _)]) (al := [(7, 0, _)]) rfl ⟨rfl, rfl, rfl, rfl, rfl, rfl, rfl, rfl, rfl, rfl, rfl, rfl, rfl, rfl, rfl, trivial⟩ ⟨rfl, rfl, rfl, trivial⟩ ⟨.refl _, trivial⟩) rfl ?_
      refine FRun.slot rfl (fun τ hN hr => step_moveV rfl (rdN hN (hn rfl)) rfl (by exact rdS hr rfl rfl)) (by exact rfl) ?_
      refine FRun.slot rfl (fun τ hN hr => step_index_f rfl (rdN hN (hn rfl)) rfl ysSl63 (by exact rdS hr rfl rfl) rfl (by omega) (by omega)) (by exact rfl) ?_
      refine FRun.slot rfl (fun τ hN hr => step_loadS_f rfl (rdN hN (hn rfl)) rfl ysSt78 (by exact rdS hr rfl rfl) (hn rfl) rfl rfl) (by exact rfl) ?_
      refine FRun.slot rfl (fun τ hN hr => step_moveV rfl (rdN hN (hn rfl)) rfl (by exact rdS hr rfl rfl)) (by exact rfl) ?_
      refine FRun.slot rfl (fun τ hN hr => step_sliceF rfl (rdN hN (hn rfl)) rfl ysSl63 (says 78 (x.2.2.1.drop 1)) (by exact rdS hr rfl rfl) (.val (j := 1) _ rfl) (.dflt _) rfl (by rw [List.length_drop]; omega) (by omega) (fun q hq => says_drop _ _ _)) (by exact rfl) ?_
      refine FRun.boxW rfl (fun τ hN hr => step_store_p rfl rfl ysCs78 (by exact rdS hr rfl rfl) (by exact rdB hr rfl rfl) (by exact rfl) (by exact rdS hr rfl rfl) (by exact rfl) (by exact rfl) (by exact rfl)) (by exact rfl) ?_
      refine FRun.whole rfl (step_assignV rfl (hn rfl) rfl rfl) (by exact rfl) ?_
      refine FRun.nil ?_
      refine AWp.seq (AWp.region ?_)
      refine ARun.step rfl (step_moveV rfl (hn rfl) rfl rfl) ?_
      refine ARun.step rfl (step_field_b rfl (hn rfl) rfl ysFo67_0 rfl (by exact List.cons_ne_nil _ _)) ?_
      refine ARun.step rfl (step_load_b rfl (hn rfl) rfl ysSc9 rfl rfl) ?_
      refine ARun.step rfl (step_buildVT rfl (hn rfl) rfl ysSl22 (strs [_]) (.cons rfl rfl rfl rfl (.nil _)) rfl rfl rfl (rows1 rfl)) ?_
      refine ARun.step rfl (step_append_strs rfl (hn rfl) rfl ysSl22 rfl rfl rfl (.v _) (by first | omega | (simp only [List.length_cons, List.length_nil, List.length_append, List.length_take, List.length_drop]; omega)) (by first | omega | (simp only [List.length_cons, List.length_nil, List.length_append, List.length_take, List.length_drop]; omega))) ?_
      refine ARun.step rfl (step_assignV rfl (hn rfl) rfl rfl) ?_
      refine ARun.nil ?_
      refine AWp.region ?_
      refine ARun.step rfl (step_moveV rfl (hn rfl) rfl rfl) ?_
      refine ARun.step rfl (step_loadS_b rfl (hn rfl) rfl ysSt67 rfl rfl rfl (by decide)) ?_
      refine ARun.step rfl (step_loadS_b rfl (hn rfl) rfl ysSt78 rfl rfl rfl (by decide)) ?_
      refine ARun.step rfl (call_step1 rfl (hn rfl) rfl ysCo65 (.cons rfl (.one (.v _)) (.cons rfl (.agg (.cons (.v _) (.cons (.v _) (.cons (.v _) .nil)))) (.cons rfl (.agg (.cons (.v _) (.cons (.v _) .nil))) (.nil)))) (goI l x.1 say) rfl) ?_
      refine ARun.step rfl (step_moveV rfl (hn rfl) rfl rfl) ?_
      refine ARun.step rfl (step_extract rfl (hn rfl) rfl rfl rfl (by intro l h; cases h)) ?_
      refine ARun.step rfl (step_extract rfl (hn rfl) rfl rfl rfl (by intro l h; cases h)) ?_
      refine ARun.step rfl (step_store_p rfl rfl ysCs67 rfl rfl rfl rfl rfl rfl rfl) ?_
      refine ARun.step rfl (step_assignV rfl (hn rfl) rfl rfl) ?_
      refine ARun.nil ?_
      first
        | refine ⟨((if goOk l x.1 = true then goSt l x.1 (say) else x.1), x.2.1 ++ [x.1.at_], x.2.2.1.drop 1, goOk l x.1), ?_, ?_, Le.forgetR rfl ⟨rfl, rfl, rfl, rfl, rfl, rfl, rfl, trivial⟩ ⟨rfl, rfl, trivial⟩ ⟨.refl _, trivial⟩⟩
        | refine ⟨((if goOk l x.1 = true then goSt l x.1 (say) else x.1), x.2.1 ++ [x.1.at_], x.2.2.1, goOk l x.1), ?_, ?_, Le.forgetR rfl ⟨rfl, rfl, rfl, rfl, rfl, rfl, rfl, trivial⟩ ⟨rfl, rfl, trivial⟩ ⟨.refl _, trivial⟩⟩
      · try dsimp only
        first
          | (have hB := run_back hl hR h0 (head_drop (i := 0) (by omega)).1 (head_drop (i := 0) (by omega)).2; exact ⟨fun h => absurd hl (by simp [h]), fun _ => ⟨hB.1, hB.2.1⟩⟩)
          | (have hnil : x.2.2.1 = [] := List.eq_nil_of_length_eq_zero (by omega); have hB := run_back (sy' := x.2.2.1) (say := noSay) hl hR h0 (by rw [hnil]; rfl) (by rw [hnil]; rfl); exact ⟨fun h => absurd hl (by simp [h]), fun _ => ⟨hB.1, hB.2.1⟩⟩)
      · try dsimp only
        first
          | exact (run_back hl hR h0 (head_drop (i := 0) (by omega)).1 (head_drop (i := 0) (by omega)).2).2.2
          | (have hnil : x.2.2.1 = [] := List.eq_nil_of_length_eq_zero (by omega); exact (run_back (sy' := x.2.2.1) (say := noSay) hl hR h0 (by rw [hnil]; rfl) (by rw [hnil]; rfl)).2.2)
    · try simp only [nrm] at c2
      let say : Say := noSay
      refine AWp.skip ?_
      refine AWp.seq (AWp.region ?_)
      refine ARun.step rfl (step_moveV rfl (hn rfl) rfl rfl) ?_
      refine ARun.step rfl (step_field_b rfl (hn rfl) rfl ysFo67_0 rfl (by exact List.cons_ne_nil _ _)) ?_
      refine ARun.step rfl (step_load_b rfl (hn rfl) rfl ysSc9 rfl rfl) ?_
      refine ARun.step rfl (step_buildVT rfl (hn rfl) rfl ysSl22 (strs [_]) (.cons rfl rfl rfl rfl (.nil _)) rfl rfl rfl (rows1 rfl)) ?_
      refine ARun.step rfl (step_append_strs rfl (hn rfl) rfl ysSl22 rfl rfl rfl (.v _) (by first | omega | (simp only [List.length_cons, List.length_nil, List.length_append, List.length_take, List.length_drop]; omega)) (by first | omega | (simp only [List.length_cons, List.length_nil, List.length_append, List.length_take, List.length_drop]; omega))) ?_
      refine ARun.step rfl (step_assignV rfl (hn rfl) rfl rfl) ?_
      refine ARun.nil ?_
      refine AWp.region ?_
      refine ARun.step rfl (step_moveV rfl (hn rfl) rfl rfl) ?_
      refine ARun.step rfl (step_loadS_b rfl (hn rfl) rfl ysSt67 rfl rfl rfl (by decide)) ?_
      refine ARun.step rfl (step_loadS_b rfl (hn rfl) rfl ysSt78 rfl rfl rfl (by decide)) ?_
      refine ARun.step rfl (call_step1 rfl (hn rfl) rfl ysCo65 (.cons rfl (.one (.v _)) (.cons rfl (.agg (.cons (.v _) (.cons (.v _) (.cons (.v _) .nil)))) (.cons rfl (.agg (.cons (.v _) (.cons (.v _) .nil))) (.nil)))) (goI l x.1 say) rfl) ?_
      refine ARun.step rfl (step_moveV rfl (hn rfl) rfl rfl) ?_
      refine ARun.step rfl (step_extract rfl (hn rfl) rfl rfl rfl (by intro l h; cases h)) ?_
      refine ARun.step rfl (step_extract rfl (hn rfl) rfl rfl rfl (by intro l h; cases h)) ?_
      refine ARun.step rfl (step_store_p rfl rfl ysCs67 rfl rfl rfl rfl rfl rfl rfl) ?_
      refine ARun.step rfl (step_assignV rfl (hn rfl) rfl rfl) ?_
      refine ARun.nil ?_
      first
        | refine ⟨((if goOk l x.1 = true then goSt l x.1 (say) else x.1), x.2.1 ++ [x.1.at_], x.2.2.1.drop 1, goOk l x.1), ?_, ?_, Le.forgetR rfl ⟨rfl, rfl, rfl, rfl, rfl, rfl, rfl, trivial⟩ ⟨rfl, rfl, trivial⟩ ⟨.refl _, trivial⟩⟩
        | refine ⟨((if goOk l x.1 = true then goSt l x.1 (say) else x.1), x.2.1 ++ [x.1.at_], x.2.2.1, goOk l x.1), ?_, ?_, Le.forgetR rfl ⟨rfl, rfl, rfl, rfl, rfl, rfl, rfl, trivial⟩ ⟨rfl, rfl, trivial⟩ ⟨.refl _, trivial⟩⟩
      · try dsimp only
        first
          | (have hB := run_back hl hR h0 (head_drop (i := 0) (by omega)).1 (head_drop (i := 0) (by omega)).2; exact ⟨fun h => absurd hl (by simp [h]), fun _ => ⟨hB.1, hB.2.1⟩⟩)
          | (have hnil : x.2.2.1 = [] := List.eq_nil_of_length_eq_zero (by omega); have hB := run_back (sy' := x.2.2.1) (say := noSay) hl hR h0 (by rw [hnil]; rfl) (by rw [hnil]; rfl); exact ⟨fun h => absurd hl (by simp [h]), fun _ => ⟨hB.1, hB.2.1⟩⟩)
      · try dsimp only
        first
          | exact (run_back hl hR h0 (head_drop (i := 0) (by omega)).1 (head_drop (i := 0) (by omega)).2).2.2
          | (have hnil : x.2.2.1 = [] := List.eq_nil_of_length_eq_zero (by omega); exact (run_back (sy' := x.2.2.1) (say := noSay) hl hR h0 (by rw [hnil]; rfl) (by rw [hnil]; rfl)).2.2)
  · try simp only [nrm] at c1
    refine AWp.exit ?_
    refine AWp.seq (AWp.region ?_)
    refine ARun.step rfl (step_loadS_b rfl (hn rfl) rfl ysSt67 rfl rfl rfl (by decide)) ?_
    refine ARun.step rfl (step_moveV rfl (hn rfl) rfl rfl) ?_
    refine ARun.step rfl (step_store_p rfl rfl ysCs67 rfl rfl rfl rfl rfl rfl rfl) ?_
    refine ARun.step rfl (step_assignV rfl (hn rfl) rfl rfl) ?_
    refine ARun.nil ?_
    refine AWp.ret ?_
    refine ⟨.inr rfl, 4, 3, _, _, _, ysSt67, by decide, rfl, rfl, rfl, rfl, (.cons rfl (.agg (.cons (.sc _ _ rfl) (.cons (.sc _ _ rfl) (.cons (.sc _ _ rfl) (.nil _))))) (.cons rfl (.one (.ref _ _ rfl)) (.nil _))), rfl, ?_⟩
    have e : recRun l y = (x.1, x.2.1) := by
      cases hh : recOk l with
      | false => rw [recRun, if_neg (by simp [hh]), (hi1 hh).2.1, (hi1 hh).2.2]
      | true =>
        have h1 := (hi2 hh)
        have h2 := atP_lt l x.1.at_
        exact run_end h1.2 (by have := h1.2.1.2; grind)
    rw [e]
    rfl
theorem runS (l : List Ph) (y : List Say)  : ASpec Try.prog 58 [.one (phs 74 l), .one (says 78 y)] (.tup [.agg (recRun l y).1.cells, .one (strs (recRun l y).2)]) := by
  refine ASpec.bodyC Try.func58 rfl 4 67 [5] rfl rfl 50 rfl rfl rfl ?_
  refine AWp.lenLe 1 rfl (fun hly => ?_)
  refine AWp.seq (AWp.region ?_)
  refine ARun.step rfl (step_alloc_p rfl (hn rfl) rfl ysZs67) ?_
  refine ARun.step rfl (step_assignV rfl (hn rfl) rfl rfl) ?_
  refine ARun.nil ?_
  refine AWp.seq (AWp.region ?_)
  refine ARun.step rfl (step_moveV rfl (hn rfl) rfl rfl) ?_
  refine ARun.step rfl (call_step1 rfl (hn rfl) rfl ysCo114 (.cons rfl (.one (.v _)) (.nil)) (begS _) rfl) ?_
  refine ARun.step rfl (step_alloc_p rfl (hn rfl) rfl ysZs67) ?_
  refine ARun.step rfl (step_store_p rfl rfl ysCs67 rfl rfl rfl rfl rfl rfl rfl) ?_
  refine ARun.nil ?_
  refine AWp.seq (AWp.region ?_)
  refine ARun.step rfl (step_build0 rfl (hn rfl) rfl ysSl22) ?_
  refine ARun.step rfl (step_assignV rfl (hn rfl) rfl rfl) ?_
  refine ARun.nil ?_
  refine AWp.seq ?_
  refine AWp.seq (AWp.region ?_)
  refine ARun.step rfl (step_assignV rfl (hn rfl) rfl rfl) ?_
  refine ARun.nil ?_
  refine AWp.block ?_
  refine AWp.loopM (fun x : RSt × List Str × Nat => mkAS 50 [(0, ⟨true, .one (.v (phs 74 l))⟩), (1, ⟨true, .one (.v (says 78 y))⟩), (4, ⟨true, .one (.bptr 4 0)⟩), (5, ⟨true, .one (.nil)⟩), (6, ⟨true, .one (.bptr 6 0)⟩), (7, ⟨true, .one (.ref ⟨.arr 14 0, []⟩)⟩), (8, ⟨true, .one (.v (.int .i64 (x.2.2 : Nat)))⟩)] [(4, [.any, .any, .any]), (6, [.v (.str x.1.at_), .v (.int .i64 x.1.now), .v (.int .i64 x.1.left)])] [(14, 0, strs x.2.1)]) (fun x => (recOk l = false → x.1 = begSt l ∧ x.2.1 = []) ∧ (recOk l = true → x.2.2 = x.2.1.length ∧ runInv l y x.1 x.2.1 (y.drop x.2.2))) (fun x => rank l x.1.at_) (begSt l, [], 0) ?_ (Le.forgetR rfl ⟨rfl, rfl, rfl, rfl, rfl, rfl, rfl, trivial⟩ ⟨rfl, rfl, trivial⟩ ⟨.refl _, trivial⟩) ?_
  · try dsimp only
    exact ⟨fun h => ⟨rfl, rfl⟩, fun h => ⟨rfl, run_beg h y⟩⟩
  rintro x ⟨hi1, hi2⟩
  refine AWp.seq ?_
  refine AWp.seq (AWp.region ?_)
  refine ARun.step rfl (step_moveV rfl (hn rfl) rfl rfl) ?_
  refine ARun.step rfl (call_step1 rfl (hn rfl) rfl ysCo60 (.cons rfl (.one (.v _)) (.nil)) (recOkS _) rfl) ?_
  refine ARun.step rfl (step_moveV rfl (hn rfl) rfl rfl) ?_
  refine guardS rfl rfl rfl rfl (hn rfl) (fun g1 g2 => step_moveV rfl (hn rfl) rfl rfl) ?_
  refine guardS rfl rfl rfl rfl (hn rfl) (fun g1 g2 => step_field_b rfl (hn rfl) rfl ysFo67_0 rfl (by exact List.cons_ne_nil _ _)) ?_
  refine guardS rfl rfl rfl rfl (hn rfl) (fun g1 g2 => step_load_b rfl (hn rfl) rfl ysSc9 (ev_true rfl (by exact flag2 g1 g2)) rfl) ?_
  refine guardS rfl rfl rfl rfl (hn rfl) (fun g1 g2 => call_step1 rfl (hn rfl) rfl ysCo115 (.cons (ev_true rfl (by exact flag2 g1 g2)) (.one (.v _)) (.cons (ev_true rfl (by exact flag2 g1 g2)) (.one (.v _)) (.nil))) (l42At _ _) rfl) ?_
  refine guardS rfl rfl rfl rfl (hn rfl) (fun g1 g2 => step_geq rfl (hn rfl) rfl (ev_true rfl (by exact flag2 g1 g2)) rfl) ?_
  refine ARun.step rfl (step_and rfl (hn rfl) rfl rfl rfl (fun h => (by exact flag1 h))) ?_
  refine ARun.nil ?_
  refine AWp.cond rfl (fun c1 => ?_) (fun c1 => ?_)
  · try simp only [nrm] at c1
    have hl : recOk l = true := c1.1
    have h0 : 0 ≤ atP l x.1.at_ := by first | exact c1.2 | omega
    obtain ⟨hi3, hR⟩ := hi2 hl
    have hpl := hR.2.1
    have hll := recOk_len hl
    refine AWp.skip ?_
    refine AWp.seq ?_
    refine AWp.block ?_
    refine AWp.seq (AWp.region ?_)
    refine ARun.step rfl (step_build rfl (hn rfl) rfl ysPl78 ysZc78 (.cons rfl rfl rfl rfl (.nil)) rfl) ?_
    refine ARun.step rfl (step_alloc_p rfl (hn rfl) rfl ysZs78) ?_
    refine ARun.step rfl (step_store_p rfl rfl ysCs78 rfl rfl rfl rfl rfl rfl rfl) ?_
    refine ARun.nil ?_
    refine AWp.seq ?_
    refine AWp.seq (AWp.region ?_)
    refine ARun.step rfl (step_moveV rfl (hn rfl) rfl rfl) ?_
    refine ARun.step rfl (step_moveV rfl (hn rfl) rfl rfl) ?_
    refine ARun.step rfl (step_len_f rfl (hn rfl) rfl ysSl63 rfl) ?_
    refine ARun.step rfl (step_lss rfl (hn rfl) rfl rfl rfl) ?_
    refine ARun.nil ?_
    refine AWp.cond rfl (fun c2 => ?_) (fun c2 => ?_)
    · try simp only [nrm] at c2
      let say : Say := nth y x.2.2
      refine AWp.region ?_
      refine ARun.step rfl (step_moveV rfl (hn rfl) rfl rfl) ?_
      refine ARun.step rfl (step_moveV rfl (hn rfl) rfl rfl) ?_
      refine ARun.step rfl (step_index_fN rfl (hn rfl) rfl ysSl63 rfl rfl (by omega)) ?_
      refine ARun.step rfl (step_loadS_f rfl (hn rfl) rfl ysSt78 rfl (hn rfl) rfl rfl) ?_
      refine ARun.step rfl (step_store_p rfl rfl ysCs78 rfl rfl rfl rfl rfl rfl rfl) ?_
      refine ARun.nil ?_
      refine AWp.seq (AWp.region ?_)
      refine ARun.step rfl (step_moveV rfl (hn rfl) rfl rfl) ?_
      refine ARun.step rfl (step_field_b rfl (hn rfl) rfl ysFo67_0 rfl (by exact List.cons_ne_nil _ _)) ?_
      refine ARun.step rfl (step_load_b rfl (hn rfl) rfl ysSc9 rfl rfl) ?_
      refine ARun.step rfl (step_buildVT rfl (hn rfl) rfl ysSl22 (strs [_]) (.cons rfl rfl rfl rfl (.nil _)) rfl rfl rfl (rows1 rfl)) ?_
      refine ARun.step rfl (step_append_strs rfl (hn rfl) rfl ysSl22 rfl rfl rfl (.v _) (by first | omega | (simp only [List.length_cons, List.length_nil, List.length_append, List.length_take, List.length_drop]; omega)) (by first | omega | (simp only [List.length_cons, List.length_nil, List.length_append, List.length_take, List.length_drop]; omega))) ?_
      refine ARun.step rfl (step_assignV rfl (hn rfl) rfl rfl) ?_
      refine ARun.nil ?_
      refine AWp.seq (AWp.region ?_)
      refine ARun.step rfl (step_moveV rfl (hn rfl) rfl rfl) ?_
      refine ARun.step rfl (step_loadS_b rfl (hn rfl) rfl ysSt67 rfl rfl rfl (by decide)) ?_
      refine ARun.step rfl (step_loadS_b rfl (hn rfl) rfl ysSt78 rfl rfl rfl (by decide)) ?_
      refine ARun.step rfl (call_step1 rfl (hn rfl) rfl ysCo116 (.cons rfl (.one (.v _)) (.cons rfl (.agg (.cons (.v _) (.cons (.v _) (.cons (.v _) .nil)))) (.cons rfl (.agg (.cons (.v _) (.cons (.v _) .nil))) (.nil)))) (goS l x.1 say) rfl) ?_
      refine ARun.step rfl (step_moveV rfl (hn rfl) rfl rfl) ?_
      refine ARun.step rfl (step_extract rfl (hn rfl) rfl rfl rfl (by intro l h; cases h)) ?_
      refine ARun.step rfl (step_extract rfl (hn rfl) rfl rfl rfl (by intro l h; cases h)) ?_
      refine ARun.step rfl (step_alloc_p rfl (hn rfl) rfl ysZs67) ?_
      refine ARun.step rfl (step_store_p rfl rfl ysCs67 rfl rfl rfl rfl rfl rfl rfl) ?_
      refine ARun.step rfl (step_assignV rfl (hn rfl) rfl rfl) ?_
      refine ARun.nil ?_
      refine AWp.region ?_
      refine ARun.step rfl (step_loadS_b rfl (hn rfl) rfl ysSt67 rfl rfl rfl (by decide)) ?_
      refine ARun.step rfl (step_store_p rfl rfl ysCs67 rfl rfl rfl rfl rfl rfl rfl) ?_
      refine ARun.nil ?_
      refine AWp.region ?_
      refine ARun.step rfl (step_moveV rfl (hn rfl) rfl rfl) ?_
      refine ARun.step rfl (step_addI rfl (hn rfl) rfl rfl rfl (by omega) (by omega)) ?_
      refine ARun.step rfl (step_assignV rfl (hn rfl) rfl rfl) ?_
      refine ARun.nil ?_
      refine ⟨((if goOk l x.1 = true then goSt l x.1 (say) else x.1), x.2.1 ++ [x.1.at_], x.2.2 + 1), ?_, ?_, Le.forgetR rfl ⟨rfl, rfl, rfl, rfl, rfl, rfl, rfl, trivial⟩ ⟨rfl, rfl, trivial⟩ ⟨.refl _, trivial⟩⟩
      · try dsimp only
        first
          | (have hB := run_back (say := say) hl hR h0 (head_drop (by omega)).1 (head_drop (by omega)).2; exact ⟨fun h => absurd hl (by simp [h]), fun _ => ⟨by simp only [List.length_append, List.length_cons, List.length_nil]; omega, hB.2.1⟩⟩)
          | (have hB := run_back (say := say) hl hR h0 (head_end (by omega)).1 (head_end (by omega)).2; exact ⟨fun h => absurd hl (by simp [h]), fun _ => ⟨by simp only [List.length_append, List.length_cons, List.length_nil]; omega, hB.2.1⟩⟩)
      · try dsimp only
        first
          | (have hB := run_back (say := say) hl hR h0 (head_drop (by omega)).1 (head_drop (by omega)).2; exact hB.2.2)
          | (have hB := run_back (say := say) hl hR h0 (head_end (by omega)).1 (head_end (by omega)).2; exact hB.2.2)
    · try simp only [nrm] at c2
      let say : Say := noSay
      refine AWp.skip ?_
      refine AWp.seq (AWp.region ?_)
      refine ARun.step rfl (step_moveV rfl (hn rfl) rfl rfl) ?_
      refine ARun.step rfl (step_field_b rfl (hn rfl) rfl ysFo67_0 rfl (by exact List.cons_ne_nil _ _)) ?_
      refine ARun.step rfl (step_load_b rfl (hn rfl) rfl ysSc9 rfl rfl) ?_
      refine ARun.step rfl (step_buildVT rfl (hn rfl) rfl ysSl22 (strs [_]) (.cons rfl rfl rfl rfl (.nil _)) rfl rfl rfl (rows1 rfl)) ?_
      refine ARun.step rfl (step_append_strs rfl (hn rfl) rfl ysSl22 rfl rfl rfl (.v _) (by first | omega | (simp only [List.length_cons, List.length_nil, List.length_append, List.length_take, List.length_drop]; omega)) (by first | omega | (simp only [List.length_cons, List.length_nil, List.length_append, List.length_take, List.length_drop]; omega))) ?_
      refine ARun.step rfl (step_assignV rfl (hn rfl) rfl rfl) ?_
      refine ARun.nil ?_
      refine AWp.seq (AWp.region ?_)
      refine ARun.step rfl (step_moveV rfl (hn rfl) rfl rfl) ?_
      refine ARun.step rfl (step_loadS_b rfl (hn rfl) rfl ysSt67 rfl rfl rfl (by decide)) ?_
      refine ARun.step rfl (step_loadS_b rfl (hn rfl) rfl ysSt78 rfl rfl rfl (by decide)) ?_
      refine ARun.step rfl (call_step1 rfl (hn rfl) rfl ysCo116 (.cons rfl (.one (.v _)) (.cons rfl (.agg (.cons (.v _) (.cons (.v _) (.cons (.v _) .nil)))) (.cons rfl (.agg (.cons (.v _) (.cons (.v _) .nil))) (.nil)))) (goS l x.1 say) rfl) ?_
      refine ARun.step rfl (step_moveV rfl (hn rfl) rfl rfl) ?_
      refine ARun.step rfl (step_extract rfl (hn rfl) rfl rfl rfl (by intro l h; cases h)) ?_
      refine ARun.step rfl (step_extract rfl (hn rfl) rfl rfl rfl (by intro l h; cases h)) ?_
      refine ARun.step rfl (step_alloc_p rfl (hn rfl) rfl ysZs67) ?_
      refine ARun.step rfl (step_store_p rfl rfl ysCs67 rfl rfl rfl rfl rfl rfl rfl) ?_
      refine ARun.step rfl (step_assignV rfl (hn rfl) rfl rfl) ?_
      refine ARun.nil ?_
      refine AWp.region ?_
      refine ARun.step rfl (step_loadS_b rfl (hn rfl) rfl ysSt67 rfl rfl rfl (by decide)) ?_
      refine ARun.step rfl (step_store_p rfl rfl ysCs67 rfl rfl rfl rfl rfl rfl rfl) ?_
      refine ARun.nil ?_
      refine AWp.region ?_
      refine ARun.step rfl (step_moveV rfl (hn rfl) rfl rfl) ?_
      refine ARun.step rfl (step_addI rfl (hn rfl) rfl rfl rfl (by omega) (by omega)) ?_
      refine ARun.step rfl (step_assignV rfl (hn rfl) rfl rfl) ?_
      refine ARun.nil ?_
      refine ⟨((if goOk l x.1 = true then goSt l x.1 (say) else x.1), x.2.1 ++ [x.1.at_], x.2.2 + 1), ?_, ?_, Le.forgetR rfl ⟨rfl, rfl, rfl, rfl, rfl, rfl, rfl, trivial⟩ ⟨rfl, rfl, trivial⟩ ⟨.refl _, trivial⟩⟩
      · try dsimp only
        first
          | (have hB := run_back (say := say) hl hR h0 (head_drop (by omega)).1 (head_drop (by omega)).2; exact ⟨fun h => absurd hl (by simp [h]), fun _ => ⟨by simp only [List.length_append, List.length_cons, List.length_nil]; omega, hB.2.1⟩⟩)
          | (have hB := run_back (say := say) hl hR h0 (head_end (by omega)).1 (head_end (by omega)).2; exact ⟨fun h => absurd hl (by simp [h]), fun _ => ⟨by simp only [List.length_append, List.length_cons, List.length_nil]; omega, hB.2.1⟩⟩)
      · try dsimp only
        first
          | (have hB := run_back (say := say) hl hR h0 (head_drop (by omega)).1 (head_drop (by omega)).2; exact hB.2.2)
          | (have hB := run_back (say := say) hl hR h0 (head_end (by omega)).1 (head_end (by omega)).2; exact hB.2.2)
  · try simp only [nrm] at c1
    refine AWp.exit ?_
    refine AWp.seq (AWp.region ?_)
    refine ARun.step rfl (step_loadS_b rfl (hn rfl) rfl ysSt67 rfl rfl rfl (by decide)) ?_
    refine ARun.step rfl (step_moveV rfl (hn rfl) rfl rfl) ?_
    refine ARun.step rfl (step_store_p rfl rfl ysCs67 rfl rfl rfl rfl rfl rfl rfl) ?_
    refine ARun.step rfl (step_assignV rfl (hn rfl) rfl rfl) ?_
    refine ARun.nil ?_
    refine AWp.ret ?_
    refine ⟨.inr rfl, 4, 3, _, _, _, ysSt67, by decide, rfl, rfl, rfl, rfl, (.cons rfl (.agg (.cons (.sc _ _ rfl) (.cons (.sc _ _ rfl) (.cons (.sc _ _ rfl) (.nil _))))) (.cons rfl (.one (.ref _ _ rfl)) (.nil _))), rfl, ?_⟩
    have e : recRun l y = (x.1, x.2.1) := by
      cases hh : recOk l with
      | false => rw [recRun, if_neg (by simp [hh]), (hi1 hh).1, (hi1 hh).2]
      | true =>
        have h2 := atP_lt l x.1.at_
        exact run_end (hi2 hh).2 (by grind)
    rw [e]
    rfl

end Go.Proofs.Ytkmacjdigkaabaa
