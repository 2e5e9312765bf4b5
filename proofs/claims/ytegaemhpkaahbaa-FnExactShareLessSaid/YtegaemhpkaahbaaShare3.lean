/- Contracts of functions of the program, each met by its body; conditions stand in each statement. No condition. -/
import Derived.Test.YtegaemhpkaahbaaShare2
import Derived.Test.YtegaemhpkaahbaaProg
import Derived.KernelRfl
set_option linter.unusedVariables false
set_option linter.unusedSimpArgs false
set_option linter.unnecessarySimpa false
set_option linter.unusedSimpArgs false
set_option maxRecDepth 100000
namespace Go.Proofs.Ytegaemhpkaahbaa
open Go Go.Mh

def digB (k : Int) : Str := bytesOf [IntKind.u8.wrap (IntKind.i64.wrap (48 + k.tmod 10))]
def digF : Nat → Int → Str → Str
  | 0, _, s => s
  | f + 1, k, s => if 0 < k then digF f (IntKind.i64.wrap (k.tdiv 10)) (digB k ++ s) else s
theorem digF_end {f : Nat} {k : Int} {s : Str} (h : k ≤ 0) : digF f k s = s := by
  cases f with
  | zero => rfl
  | succ f => rw [digF, if_neg (by omega)]
theorem tdiv_lt {k : Int} (h : 0 < k) (h2 : k ≤ 1152921504606846976) : 0 ≤ IntKind.i64.wrap (k.tdiv 10) ∧ IntKind.i64.wrap (k.tdiv 10) < k := by
  have e : k.tdiv 10 = k / 10 := Int.tdiv_eq_ediv_of_nonneg (by omega)
  rw [e, wrap_in (by omega) (by omega)]
  omega
def markT (k : Int) : Str := if k ≤ 0 then ⟨#[109, 48]⟩ else ⟨#[109]⟩ ++ digF k.toNat k ⟨#[]⟩
/-- an array of marks -/
def mkS (n : Nat) (k : Int) : T := .sl 9 1 n (fun i => [.str (markT (k + (i : Nat)))])
def mkTo (l : List Str) (k : Int) (i : Nat) : Nat → List T := fun j => if j < i then [.str (markT (k + (j : Nat)))] else [.str (nth l j)]
theorem mkTo_next (l : List Str) (k kk : Int) (i j : Nat) (hk : kk = k + (i : Nat)) : putRow (mkTo l k i) i [.str (markT kk)] j = mkTo l k (i + 1) j := by
  by_cases h : j = i
  · subst h; rw [putRow_self]; simp only [mkTo]; rw [if_pos (by omega), hk]
  · rw [putRow_other _ _ _ h]; simp only [mkTo]
    by_cases h2 : j < i
    · rw [if_pos h2, if_pos (by omega)]
    · rw [if_neg h2, if_neg (by omega)]
theorem mkTo_all (l : List Str) (k : Int) (i j : Nat) (h : j < i) : mkTo l k i j = [.str (markT (k + (j : Nat)))] := by simp only [mkTo, if_pos h]
theorem mkTo_len (l : List Str) (k : Int) (i j : Nat) : (mkTo l k i j).length = 1 := by simp only [mkTo]; split <;> rfl

/-- marks of a batch, of batches -/
def mkBt (p : Bt) (k : Int) : List T := [.str (markT k), mkS p.has.length (k + 1), mkS p.needs.length (k + 1 + p.has.length)]
def cntBt (p : Bt) : Int := 1 + p.has.length + p.needs.length
def cntTo (l : List Bt) : Nat → Int
  | 0 => 0
  | i + 1 => cntTo l i + cntBt (nth l i)
theorem cntTo_nn (l : List Bt) (i : Nat) : 0 ≤ cntTo l i := by
  induction i with
  | zero => exact Int.le_refl _
  | succ i ih => simp only [cntTo, cntBt]; omega
theorem cntTo_ge (l : List Bt) (i : Nat) : (i : Int) ≤ cntTo l i := by
  induction i with
  | zero => exact Int.le_refl _
  | succ i ih => simp only [cntTo, cntBt]; omega
theorem cntTo_mono (l : List Bt) {i j : Nat} (h : i ≤ j) : cntTo l i ≤ cntTo l j := by
  induction j with
  | zero => have : i = 0 := by omega
            subst this; exact Int.le_refl _
  | succ j ih =>
    by_cases h' : i = j + 1
    · subst h'; exact Int.le_refl _
    · have := ih (by omega)
      simp only [cntTo, cntBt]; omega
theorem cntTo_small {l : List Bt} (h : ∀ i, i < l.length → smallBt (nth l i)) : ∀ i, i ≤ l.length → cntTo l i ≤ 2097153 * (i : Nat) := by
  intro i
  induction i with
  | zero => intro _; exact Int.le_refl _
  | succ i ih =>
    intro hi
    have h1 := ih (by omega)
    have h2 := h i (by omega)
    unfold smallBt at h2
    simp only [cntTo, cntBt]; omega
def mkBts (l : List Bt) (k : Int) : T := .sl 74 3 l.length (fun j => mkBt (nth l j) (k + cntTo l j))
def mkBtTo (l : List Bt) (k : Int) (i : Nat) : Nat → List T := fun j => if j < i then mkBt (nth l j) (k + cntTo l j) else (nth l j).cells
theorem mkBtTo_at (l : List Bt) (k : Int) (i : Nat) : mkBtTo l k i i = (nth l i).cells := by simp only [mkBtTo, if_neg (Nat.lt_irrefl i)]
theorem mkBtTo_next (l : List Bt) (k : Int) (i j : Nat) (r : List T) (hr : r = mkBt (nth l i) (k + cntTo l i)) : putRow (mkBtTo l k i) i r j = mkBtTo l k (i + 1) j := by
  by_cases h : j = i
  · subst h; rw [putRow_self]; simp only [mkBtTo]; rw [if_pos (by omega), hr]
  · rw [putRow_other _ _ _ h]; simp only [mkBtTo]
    by_cases h2 : j < i
    · rw [if_pos h2, if_pos (by omega)]
    · rw [if_neg h2, if_neg (by omega)]
theorem mkBtTo_all (l : List Bt) (k : Int) (i j : Nat) (h : j < i) : mkBtTo l k i j = mkBt (nth l j) (k + cntTo l j) := by simp only [mkBtTo, if_pos h]
theorem btRow1 {l : List Bt} {k : Int} {i : Nat} {x : T} : (setRow (mkBtTo l k i) i 0 x i).getD 1 .dead = strs (nth l i).has := setRow_at (mkBtTo_at l k i) rfl
theorem btRow2 {l : List Bt} {k : Int} {i : Nat} {x y : T} : (setRow (setRow (mkBtTo l k i) i 0 x) i 1 y i).getD 2 .dead = strs (nth l i).needs := by
  rw [setRow_at (r := setRow (mkBtTo l k i) i 0 x i) rfl rfl]
  exact setRow_at (mkBtTo_at l k i) rfl

def wt (p : Bk) (i k : Nat) : Bool := !Nat.beq k i && meetsB (nth p.bs k).has (nth p.bs i).needs
def waitsGo (p : Bk) (i : Nat) : Nat → List Str
  | 0 => []
  | k + 1 => if wt p i k = true then waitsGo p i k ++ [(nth p.bs k).name] else waitsGo p i k
theorem waitsGo_len (p : Bk) (i k : Nat) : (waitsGo p i k).length ≤ k := by
  induction k with
  | zero => exact Nat.le_refl _
  | succ k ih =>
    simp only [waitsGo]; split
    · simp; omega
    · omega
theorem waitsGo_yes {p : Bk} {i k : Nat} (h : wt p i k = true) : waitsGo p i k ++ [(nth p.bs k).name] = waitsGo p i (k + 1) := by simp only [waitsGo, if_pos h]
theorem waitsGo_no {p : Bk} {i k : Nat} (h : wt p i k = false) : waitsGo p i k = waitsGo p i (k + 1) := by simp only [waitsGo, h]; rfl
def waitsB (p : Bk) (s : Str) : List Str := if 0 ≤ idxB p s ∧ bookOk p = true then waitsGo p (idxB p s).toNat p.bs.length else []
theorem waitsB_len (p : Bk) (s : Str) : (waitsB p s).length ≤ 5 := by
  unfold waitsB; split
  · rename_i h
    have := waitsGo_len p (idxB p s).toNat p.bs.length
    have := bookOk_bs h.2
    omega
  · exact Nat.zero_le _
theorem movesB_len (p : Bk) : (movesB p).length ≤ 5 := by
  unfold movesB; split
  · rename_i h
    have := movesGo_len p p.bs.length
    have := bookOk_bs h
    omega
  · exact Nat.zero_le _
theorem orderGo_len (p : Bk) : ∀ (k : Nat) (l l' : List Str), orderGo p k l = some l' → l'.length = l.length + k := by
  intro k
  induction k with
  | zero => intro l l' h; simp only [orderGo, Option.some.injEq] at h; subst h; rfl
  | succ k ih =>
    intro l l' h
    simp only [orderGo] at h
    cases hn : nextB p l with
    | none => rw [hn] at h; cases h
    | some i => rw [hn] at h; have := ih _ _ h; simp at this; omega
theorem orderB_len (p : Bk) : ((orderB p).getD []).length ≤ 5 := by
  unfold orderB; split
  · rename_i h
    have := bookOk_bs h
    cases ho : orderGo p p.bs.length [] with
    | none => exact Nat.zero_le _
    | some l => have := orderGo_len p _ _ _ ho; simp at this ⊢; omega
  · exact Nat.zero_le _

theorem ycUi3 : Try.prog.underlying 3 = some (.int .i64) := by kernel_rfl
theorem ycUi5 : Try.prog.underlying 5 = some (.int .u8) := by kernel_rfl
theorem ycSl43 : sliceT Try.prog 43 = some ⟨5, 1, 1⟩ := by kernel_rfl
theorem ycUl43 : Try.prog.underlying 43 = some (.slice 5) := by kernel_rfl
theorem ycUs9 : Try.prog.underlying 9 = some .string := by kernel_rfl
theorem ycSl29 : sliceT Try.prog 29 = some ⟨9, 1, 16⟩ := by kernel_rfl
theorem ycCo87 : callOk Try.prog 87 = true := by kernel_rfl
theorem ycCs9 : cellsSz Try.prog 9 = some (0 + 1) := by kernel_rfl
theorem ycSc9 : scalarB Try.prog 9 = true := by kernel_rfl
theorem ycMo : Try.prog.follows .mixedOrders = true := by kernel_rfl
theorem ycSl35 : sliceT Try.prog 35 = some ⟨74, 3, 64⟩ := by kernel_rfl
theorem ycFo74_0 : fieldOff Try.prog 74 0 = some 0 := by kernel_rfl
theorem ycFo74_1 : fieldOff Try.prog 74 1 = some 1 := by kernel_rfl
theorem ycSc29 : scalarB Try.prog 29 = true := by kernel_rfl
theorem ycCo44 : callOk Try.prog 44 = true := by kernel_rfl
theorem ycFo74_2 : fieldOff Try.prog 74 2 = some 2 := by kernel_rfl
theorem ycCo45 : callOk Try.prog 45 = true := by kernel_rfl
theorem ycFo37_0 : fieldOff Try.prog 37 0 = some 0 := by kernel_rfl
theorem ycFo37_1 : fieldOff Try.prog 37 1 = some 1 := by kernel_rfl
theorem ycSc35 : scalarB Try.prog 35 = true := by kernel_rfl
theorem ycCo86 : callOk Try.prog 86 = true := by kernel_rfl
theorem ycCo92 : callOk Try.prog 92 = true := by kernel_rfl
theorem ycSt37 : structSz Try.prog 37 = some 2 := by kernel_rfl
theorem ycCo84 : callOk Try.prog 84 = true := by kernel_rfl
theorem ycCo23 : callOk Try.prog 23 = true := by kernel_rfl
theorem ycSt74 : structSz Try.prog 74 = some 3 := by kernel_rfl
theorem ycZs74 : zeroSz Try.prog 74 = some 3 := by kernel_rfl
theorem ycCs74 : cellsSz Try.prog 74 = some (2 + 1) := by kernel_rfl
theorem ycCo72 : callOk Try.prog 72 = true := by kernel_rfl
theorem ycCo82 : callOk Try.prog 82 = true := by kernel_rfl
theorem ycCo21 : callOk Try.prog 21 = true := by kernel_rfl
theorem ycCo66 : callOk Try.prog 66 = true := by kernel_rfl
theorem markText (k : Int) (h0 : 0 ≤ k) (h1 : k ≤ 1152921504606846976) : ASpec Try.prog 87 [.one (.int .i64 k)] (.one (.str (markT k))) := by
  refine ASpec.body Try.func87 rfl [2] rfl 20 rfl rfl rfl ?_
  refine AWp.seq (AWp.region ?_)
  refine ARun.step rfl (step_assignV rfl (hn rfl) rfl rfl) ?_
  refine ARun.nil ?_
  refine AWp.seq ?_
  refine AWp.seq (AWp.region ?_)
  refine ARun.step rfl (step_moveV rfl (hn rfl) rfl rfl) ?_
  refine ARun.step rfl (step_leq rfl (hn rfl) rfl rfl rfl) ?_
  refine ARun.nil ?_
  refine AWp.cond rfl (fun c1 => ?_) (fun c1 => ?_)
  · try simp only [decide_eq_true_eq, decide_eq_false_iff_not, beq_iff_eq, bne_iff_ne, Bool.not_eq_true', Bool.not_eq_false', Bool.and_eq_true, Bool.or_eq_true, Bool.and_eq_false_iff, Bool.or_eq_false_iff, Int.not_lt, Int.not_le, gt_iff_lt, ge_iff_le, bne_eq_false_iff_eq, beq_eq_false_iff_ne, ne_eq, Int.toNat_natCast] at c1
    refine AWp.seq (AWp.region ?_)
    refine ARun.step rfl (step_assignV rfl (hn rfl) rfl rfl) ?_
    refine ARun.nil ?_
    refine AWp.ret ?_
    refine RetIs.sc (.inr rfl) rfl rfl ?_
    refine congrArg T.str ?_
    rw [markT, if_pos c1]
  · try simp only [decide_eq_true_eq, decide_eq_false_iff_not, beq_iff_eq, bne_iff_ne, Bool.not_eq_true', Bool.not_eq_false', Bool.and_eq_true, Bool.or_eq_true, Bool.and_eq_false_iff, Bool.or_eq_false_iff, Int.not_lt, Int.not_le, gt_iff_lt, ge_iff_le, bne_eq_false_iff_eq, beq_eq_false_iff_ne, ne_eq, Int.toNat_natCast] at c1
    refine AWp.skip ?_
    refine AWp.seq (AWp.region ?_)
    refine ARun.step rfl (step_assignV rfl (hn rfl) rfl rfl) ?_
    refine ARun.nil ?_
    refine AWp.seq ?_
    refine AWp.block ?_
    refine AWp.loopM (fun x : Nat × Int × Str => mkAS 20 [(0, ⟨true, .one (.v (.int .i64 x.2.1))⟩), (3, ⟨true, .one (.v (.str x.2.2))⟩)] [] []) (fun x => 0 ≤ x.2.1 ∧ x.2.1 ≤ k ∧ x.2.1.toNat ≤ x.1 ∧ x.2.2.size + x.1 = k.toNat ∧ digF x.1 x.2.1 x.2.2 = digF k.toNat k ⟨#[]⟩) (fun x => x.1) (k.toNat, k, ⟨#[]⟩) ?_ (Le.forgetR rfl ⟨rfl, rfl, trivial⟩ trivial trivial) ?_
    · try dsimp only
      exact ⟨by omega, by omega, by omega, by show (0 : Nat) + k.toNat = k.toNat; omega, rfl⟩
    rintro x ⟨q0, q1, q2, q3, q4⟩
    refine AWp.seq ?_
    refine AWp.seq (AWp.region ?_)
    refine ARun.step rfl (step_moveV rfl (hn rfl) rfl rfl) ?_
    refine ARun.step rfl (step_gtr rfl (hn rfl) rfl rfl rfl) ?_
    refine ARun.nil ?_
    refine AWp.cond rfl (fun c2 => ?_) (fun c2 => ?_)
    · try simp only [decide_eq_true_eq, decide_eq_false_iff_not, beq_iff_eq, bne_iff_ne, Bool.not_eq_true', Bool.not_eq_false', Bool.and_eq_true, Bool.or_eq_true, Bool.and_eq_false_iff, Bool.or_eq_false_iff, Int.not_lt, Int.not_le, gt_iff_lt, ge_iff_le, bne_eq_false_iff_eq, beq_eq_false_iff_ne, ne_eq, Int.toNat_natCast] at c2
      refine AWp.skip ?_
      refine AWp.block ?_
      refine AWp.seq (AWp.region ?_)
      refine ARun.step rfl (step_moveV rfl (hn rfl) rfl rfl) ?_
      refine ARun.step rfl (step_rem rfl (hn rfl) rfl rfl rfl (by decide)) ?_
      refine ARun.step rfl (step_add rfl (hn rfl) rfl rfl rfl) ?_
      refine ARun.step rfl (step_convInt rfl (hn rfl) rfl ⟨_, ycUi3⟩ ycUi5 rfl) ?_
      refine ARun.step rfl (step_buildV rfl (hn rfl) rfl ycSl43 (.cons rfl rfl rfl rfl (.nil _)) rfl rfl) ?_
      refine ARun.step rfl (step_convBytes rfl (hn rfl) rfl ycUl43 ycUi5 ycUs9 [_] rfl rfl (by exact Nat.succ_pos _) (rows1 rfl)) ?_
      refine ARun.step rfl (step_moveV rfl (hn rfl) rfl rfl) ?_
      refine ARun.step rfl (step_sadd rfl (hn rfl) rfl rfl rfl (by simp only [bytesOf_size, List.length_cons, List.length_nil]; omega)) ?_
      refine ARun.step rfl (step_assignV rfl (hn rfl) rfl rfl) ?_
      refine ARun.nil ?_
      refine AWp.region ?_
      refine ARun.step rfl (step_moveV rfl (hn rfl) rfl rfl) ?_
      refine ARun.step rfl (step_quo rfl (hn rfl) rfl rfl rfl (by decide)) ?_
      refine ARun.step rfl (step_assignV rfl (hn rfl) rfl rfl) ?_
      refine ARun.nil ?_
      refine ⟨(x.1 - 1, IntKind.i64.wrap (x.2.1.tdiv 10), digB x.2.1 ++ x.2.2), ?_, ?_, Le.forgetR rfl ⟨rfl, rfl, trivial⟩ trivial trivial⟩
      · try dsimp only
        have q5 := tdiv_lt (k := x.2.1) (by omega) (by omega)
        have q6 : x.1 = (x.1 - 1) + 1 := by omega
        exact ⟨q5.1, by omega, by omega, by simp only [digB, ByteArray.size_append, bytesOf_size, List.length_cons, List.length_nil]; omega, by rw [← q4]; conv => rhs; rw [q6]; rw [digF, if_pos (by omega)]⟩
      · try dsimp only
        omega
    · try simp only [decide_eq_true_eq, decide_eq_false_iff_not, beq_iff_eq, bne_iff_ne, Bool.not_eq_true', Bool.not_eq_false', Bool.and_eq_true, Bool.or_eq_true, Bool.and_eq_false_iff, Bool.or_eq_false_iff, Int.not_lt, Int.not_le, gt_iff_lt, ge_iff_le, bne_eq_false_iff_eq, beq_eq_false_iff_ne, ne_eq, Int.toNat_natCast] at c2
      refine AWp.exit ?_
      refine AWp.seq (AWp.region ?_)
      refine ARun.step rfl (step_moveV rfl (hn rfl) rfl rfl) ?_
      refine ARun.step rfl (step_sadd rfl (hn rfl) rfl rfl rfl (by have : (⟨#[109]⟩ : Str).size = 1 := rfl; omega)) ?_
      refine ARun.step rfl (step_assignV rfl (hn rfl) rfl rfl) ?_
      refine ARun.nil ?_
      refine AWp.ret ?_
      refine RetIs.sc (.inr rfl) rfl rfl ?_
      refine congrArg T.str ?_
      rw [markT, if_neg (by omega), ← q4, digF_end (by omega)]
theorem markStrS (l : List Str) (k : Int) (h0 : 0 ≤ k) (h1 : k + l.length ≤ 1152921504606846976) : MSpec Try.prog 44 [.one (.rw (strs l) (mkS l.length k)), .one (.ro (.int .i64 k))] (.int .i64 (k + l.length)) := by
  refine MSpec.body Try.func44 rfl 4 rfl 20 rfl rfl rfl rfl ?_
  refine AWp.seq (AWp.region ?_)
  refine ARun.step rfl (step_assignV rfl (hn rfl) rfl rfl) ?_
  refine ARun.nil ?_
  refine AWp.seq ?_
  refine AWp.seq (AWp.region ?_)
  refine ARun.step rfl (step_assignV rfl (hn rfl) rfl rfl) ?_
  refine ARun.nil ?_
  refine AWp.block ?_
  refine AWp.loopM (fun x : Nat × Int => mkAS 20 [(0, ⟨true, .one (.ref ⟨.arr 1000000 0, []⟩)⟩), (1, ⟨true, .one (.v (.int .i64 x.2))⟩), (5, ⟨true, .one (.v (.int .i64 (x.1 : Nat)))⟩)] [] [(1000000, 0, .sl 9 1 l.length (mkTo l k x.1))]) (fun x => x.1 ≤ l.length ∧ x.2 = k + (x.1 : Nat)) (fun x => l.length - x.1) (0, k) ?_ (Le.forgetR rfl ⟨rfl, rfl, rfl, trivial⟩ trivial ⟨.rows (fun _ _ => rfl), trivial⟩) ?_
  · try dsimp only
    exact ⟨by omega, by simp⟩
  rintro x ⟨hi, hk⟩
  refine AWp.seq ?_
  refine AWp.seq (AWp.region ?_)
  refine ARun.step rfl (step_moveV rfl (hn rfl) rfl rfl) ?_
  refine ARun.step rfl (step_moveV rfl (hn rfl) rfl rfl) ?_
  refine ARun.step rfl (step_len_r rfl (hn rfl) rfl ycSl29 rfl rfl) ?_
  refine ARun.step rfl (step_lss rfl (hn rfl) rfl rfl rfl) ?_
  refine ARun.nil ?_
  refine AWp.cond rfl (fun c1 => ?_) (fun c1 => ?_)
  · try simp only [decide_eq_true_eq, decide_eq_false_iff_not, beq_iff_eq, bne_iff_ne, Bool.not_eq_true', Bool.not_eq_false', Bool.and_eq_true, Bool.or_eq_true, Bool.and_eq_false_iff, Bool.or_eq_false_iff, Int.not_lt, Int.not_le, gt_iff_lt, ge_iff_le, bne_eq_false_iff_eq, beq_eq_false_iff_ne, ne_eq, Int.toNat_natCast] at c1
    refine AWp.skip ?_
    refine AWp.seq ?_
    refine AWp.block ?_
    refine AWp.seq (AWp.region ?_)
    refine ARun.step rfl (step_moveV rfl (hn rfl) rfl rfl) ?_
    refine ARun.step rfl (step_moveV rfl (hn rfl) rfl rfl) ?_
    refine ARun.step rfl (step_moveV rfl (hn rfl) rfl rfl) ?_
    refine ARun.step rfl (call_step1 rfl (hn rfl) rfl ycCo87 (.cons rfl (.one (.v _)) (.nil)) (markText _ (by omega) (by omega)) rfl) ?_
    refine ARun.step rfl (step_index_rN rfl (hn rfl) rfl ycSl29 rfl rfl rfl (by omega)) ?_
    refine ARun.step rfl (step_store_row rfl rfl ycCs9 rfl rfl (by omega) rfl rfl rfl rfl rfl (mkTo_len _ _ _ _)) ?_
    refine ARun.nil ?_
    refine AWp.region ?_
    refine ARun.step rfl (step_moveV rfl (hn rfl) rfl rfl) ?_
    refine ARun.step rfl (step_addI rfl (hn rfl) rfl rfl rfl (by omega) (by omega)) ?_
    refine ARun.step rfl (step_assignV rfl (hn rfl) rfl rfl) ?_
    refine ARun.nil ?_
    refine AWp.region ?_
    refine ARun.step rfl (step_moveV rfl (hn rfl) rfl rfl) ?_
    refine ARun.step rfl (step_addI rfl (hn rfl) rfl rfl rfl (by omega) (by omega)) ?_
    refine ARun.step rfl (step_assignV rfl (hn rfl) rfl rfl) ?_
    refine ARun.nil ?_
    refine ⟨(x.1 + 1, x.2 + 1), ?_, ?_, Le.forgetR rfl ⟨rfl, rfl, rfl, trivial⟩ trivial ⟨.rows (fun j _ => mkTo_next l k x.2 x.1 j hk), trivial⟩⟩
    · try dsimp only
      exact ⟨by omega, by omega⟩
    · try dsimp only
      omega
  · try simp only [decide_eq_true_eq, decide_eq_false_iff_not, beq_iff_eq, bne_iff_ne, Bool.not_eq_true', Bool.not_eq_false', Bool.and_eq_true, Bool.or_eq_true, Bool.and_eq_false_iff, Bool.or_eq_false_iff, Int.not_lt, Int.not_le, gt_iff_lt, ge_iff_le, bne_eq_false_iff_eq, beq_eq_false_iff_ne, ne_eq, Int.toNat_natCast] at c1
    refine AWp.exit ?_
    refine AWp.seq (AWp.region ?_)
    refine ARun.step rfl (step_moveV rfl (hn rfl) rfl rfl) ?_
    refine ARun.step rfl (step_assignV rfl (hn rfl) rfl rfl) ?_
    refine ARun.nil ?_
    refine AWp.ret ?_
    refine RetIs.mk (.inr rfl) rfl rfl ?_ ⟨⟨⟨_, _, _, _, _, rfl, rfl, .rows (fun j hj => mkTo_all l k _ j (by omega))⟩, trivial⟩, ⟨trivial, trivial⟩⟩
    refine congrArg (T.int _) ?_
    omega
theorem heldStrS (n : Nat) (k : Int) (h0 : 0 ≤ k) (h1 : k + n ≤ 1152921504606846976) : ASpec Try.prog 45 [.one (mkS n k), .one (.int .i64 k)] (.one (.int .i64 (k + n))) := by
  refine ASpec.body Try.func45 rfl [4] rfl 22 rfl rfl rfl ?_
  refine AWp.seq (AWp.region ?_)
  refine ARun.step rfl (step_assignV rfl (hn rfl) rfl rfl) ?_
  refine ARun.nil ?_
  refine AWp.seq ?_
  refine AWp.seq (AWp.region ?_)
  refine ARun.step rfl (step_assignV rfl (hn rfl) rfl rfl) ?_
  refine ARun.nil ?_
  refine AWp.block ?_
  refine AWp.loopM (fun x : Nat × Int => mkAS 22 [(0, ⟨true, .one (.v (mkS n k))⟩), (1, ⟨true, .one (.v (.int .i64 x.2))⟩), (5, ⟨true, .one (.v (.int .i64 (x.1 : Nat)))⟩)] [] []) (fun x => x.1 ≤ n ∧ x.2 = k + (x.1 : Nat)) (fun x => n - x.1) (0, k) ?_ (Le.forgetR rfl ⟨rfl, rfl, rfl, trivial⟩ trivial trivial) ?_
  · try dsimp only
    exact ⟨by omega, by simp⟩
  rintro x ⟨hi, hk⟩
  refine AWp.seq ?_
  refine AWp.seq (AWp.region ?_)
  refine ARun.step rfl (step_moveV rfl (hn rfl) rfl rfl) ?_
  refine ARun.step rfl (step_moveV rfl (hn rfl) rfl rfl) ?_
  refine ARun.step rfl (step_len_f rfl (hn rfl) rfl ycSl29 rfl) ?_
  refine ARun.step rfl (step_lss rfl (hn rfl) rfl rfl rfl) ?_
  refine ARun.nil ?_
  refine AWp.cond rfl (fun c1 => ?_) (fun c1 => ?_)
  · try simp only [decide_eq_true_eq, decide_eq_false_iff_not, beq_iff_eq, bne_iff_ne, Bool.not_eq_true', Bool.not_eq_false', Bool.and_eq_true, Bool.or_eq_true, Bool.and_eq_false_iff, Bool.or_eq_false_iff, Int.not_lt, Int.not_le, gt_iff_lt, ge_iff_le, bne_eq_false_iff_eq, beq_eq_false_iff_ne, ne_eq, Int.toNat_natCast] at c1
    refine AWp.skip ?_
    refine AWp.seq ?_
    refine AWp.block ?_
    refine AWp.seq ?_
    refine AWp.seq (AWp.draw [⟨[.s 0], [.s 12], false⟩, ⟨[.s 5], [.s 13], false⟩, ⟨[.s 12, .s 13], [.s 14], false⟩, ⟨[.s 14], [.s 15], false⟩, ⟨[.s 1], [.s 16], false⟩, ⟨[.s 16], [.s 17], false⟩, ⟨[.s 15, .s 17], [.s 18], false⟩] ycMo rfl ?_)
    refine DRun.step rfl (fun τ hN hr => step_moveV rfl (rdN hN (hn rfl)) rfl (by exact rdS hr rfl rfl)) ?_
    refine DRun.step rfl (fun τ hN hr => step_moveV rfl (rdN hN (hn rfl)) rfl (by exact rdS hr rfl rfl)) ?_
    refine DRun.step rfl (fun τ hN hr => step_index_fN rfl (rdN hN (hn rfl)) rfl ycSl29 (by exact rdS hr rfl rfl) (by exact rdS hr rfl rfl) (by omega)) ?_
    refine DRun.step rfl (fun τ hN hr => step_load_f rfl (rdN hN (hn rfl)) rfl ycSc9 (by exact rdS hr rfl rfl) (hn rfl) rfl) ?_
    refine DRun.step rfl (fun τ hN hr => step_moveV rfl (rdN hN (hn rfl)) rfl (by exact rdS hr rfl rfl)) ?_
    refine DRun.step rfl (fun τ hN hr => call_step1 rfl (rdN hN (hn rfl)) rfl ycCo87 (.cons (by exact rdS hr rfl rfl) (.one (.v _)) (.nil)) (markText _ (by omega) (by omega)) rfl) ?_
    refine DRun.step rfl (fun τ hN hr => step_sneq rfl (rdN hN (hn rfl)) rfl (by exact rdS hr rfl rfl) (by exact rdS hr rfl rfl)) ?_
    refine DRun.nil ?_
    refine AWp.cond rfl (fun c2 => ?_) (fun c2 => ?_)
    · try simp only [decide_eq_true_eq, decide_eq_false_iff_not, beq_iff_eq, bne_iff_ne, Bool.not_eq_true', Bool.not_eq_false', Bool.and_eq_true, Bool.or_eq_true, Bool.and_eq_false_iff, Bool.or_eq_false_iff, Int.not_lt, Int.not_le, gt_iff_lt, ge_iff_le, bne_eq_false_iff_eq, beq_eq_false_iff_ne, ne_eq, Int.toNat_natCast] at c2
      refine AWp.seq (AWp.region ?_)
      refine ARun.step rfl (step_assignV rfl (hn rfl) rfl rfl) ?_
      refine ARun.nil ?_
      refine AWp.ret ?_
      refine RetIs.sc (.inr rfl) rfl rfl ?_
      refine congrArg (T.int _) ?_
      rw [hk, strEq_refl] at c2; cases c2
    · try simp only [decide_eq_true_eq, decide_eq_false_iff_not, beq_iff_eq, bne_iff_ne, Bool.not_eq_true', Bool.not_eq_false', Bool.and_eq_true, Bool.or_eq_true, Bool.and_eq_false_iff, Bool.or_eq_false_iff, Int.not_lt, Int.not_le, gt_iff_lt, ge_iff_le, bne_eq_false_iff_eq, beq_eq_false_iff_ne, ne_eq, Int.toNat_natCast] at c2
      refine AWp.skip ?_
      refine AWp.region ?_
      refine ARun.step rfl (step_moveV rfl (hn rfl) rfl rfl) ?_
      refine ARun.step rfl (step_addI rfl (hn rfl) rfl rfl rfl (by omega) (by omega)) ?_
      refine ARun.step rfl (step_assignV rfl (hn rfl) rfl rfl) ?_
      refine ARun.nil ?_
      refine AWp.region ?_
      refine ARun.step rfl (step_moveV rfl (hn rfl) rfl rfl) ?_
      refine ARun.step rfl (step_addI rfl (hn rfl) rfl rfl rfl (by omega) (by omega)) ?_
      refine ARun.step rfl (step_assignV rfl (hn rfl) rfl rfl) ?_
      refine ARun.nil ?_
      refine ⟨(x.1 + 1, x.2 + 1), ?_, ?_, Le.forgetR rfl ⟨rfl, rfl, rfl, trivial⟩ trivial trivial⟩
      · try dsimp only
        exact ⟨by omega, by omega⟩
      · try dsimp only
        omega
  · try simp only [decide_eq_true_eq, decide_eq_false_iff_not, beq_iff_eq, bne_iff_ne, Bool.not_eq_true', Bool.not_eq_false', Bool.and_eq_true, Bool.or_eq_true, Bool.and_eq_false_iff, Bool.or_eq_false_iff, Int.not_lt, Int.not_le, gt_iff_lt, ge_iff_le, bne_eq_false_iff_eq, beq_eq_false_iff_ne, ne_eq, Int.toNat_natCast] at c1
    refine AWp.exit ?_
    refine AWp.seq (AWp.region ?_)
    refine ARun.step rfl (step_moveV rfl (hn rfl) rfl rfl) ?_
    refine ARun.step rfl (step_assignV rfl (hn rfl) rfl rfl) ?_
    refine ARun.nil ?_
    refine AWp.ret ?_
    refine RetIs.sc (.inr rfl) rfl rfl ?_
    refine congrArg (T.int _) ?_
    omega
theorem markBtS (l : List Bt) (k : Int) (h0 : 0 ≤ k) (h1 : k + cntTo l l.length ≤ 1152921504606846976) : MSpec Try.prog 86 [.one (.rw (btsO 74 l) (mkBts l k)), .one (.ro (.int .i64 k))] (.int .i64 (k + cntTo l l.length)) := by
  refine MSpec.body Try.func86 rfl 4 rfl 35 rfl rfl rfl rfl ?_
  refine AWp.seq (AWp.region ?_)
  refine ARun.step rfl (step_assignV rfl (hn rfl) rfl rfl) ?_
  refine ARun.nil ?_
  refine AWp.seq ?_
  refine AWp.seq (AWp.region ?_)
  refine ARun.step rfl (step_assignV rfl (hn rfl) rfl rfl) ?_
  refine ARun.nil ?_
  refine AWp.block ?_
  refine AWp.loopM (fun x : Nat × Int => mkAS 35 [(0, ⟨true, .one (.ref ⟨.arr 1000000 0, []⟩)⟩), (1, ⟨true, .one (.v (.int .i64 x.2))⟩), (5, ⟨true, .one (.v (.int .i64 (x.1 : Nat)))⟩)] [] [(1000000, 0, .sl 74 3 l.length (mkBtTo l k x.1))]) (fun x => x.1 ≤ l.length ∧ x.2 = k + cntTo l x.1) (fun x => l.length - x.1) (0, k) ?_ (Le.forgetR rfl ⟨rfl, rfl, rfl, trivial⟩ trivial ⟨.rows (fun _ _ => rfl), trivial⟩) ?_
  · try dsimp only
    exact ⟨by omega, by simp [cntTo]⟩
  rintro x ⟨hi, hk⟩
  refine AWp.seq ?_
  refine AWp.seq (AWp.region ?_)
  refine ARun.step rfl (step_moveV rfl (hn rfl) rfl rfl) ?_
  refine ARun.step rfl (step_moveV rfl (hn rfl) rfl rfl) ?_
  refine ARun.step rfl (step_len_r rfl (hn rfl) rfl ycSl35 rfl rfl) ?_
  refine ARun.step rfl (step_lss rfl (hn rfl) rfl rfl rfl) ?_
  refine ARun.nil ?_
  refine AWp.cond rfl (fun c1 => ?_) (fun c1 => ?_)
  · try simp only [decide_eq_true_eq, decide_eq_false_iff_not, beq_iff_eq, bne_iff_ne, Bool.not_eq_true', Bool.not_eq_false', Bool.and_eq_true, Bool.or_eq_true, Bool.and_eq_false_iff, Bool.or_eq_false_iff, Int.not_lt, Int.not_le, gt_iff_lt, ge_iff_le, bne_eq_false_iff_eq, beq_eq_false_iff_ne, ne_eq, Int.toNat_natCast] at c1
    have m0 := cntTo_nn l x.1
    have m3 := cntTo_ge l l.length
    have m1 : cntTo l (x.1 + 1) = cntTo l x.1 + cntBt (nth l x.1) := rfl
    have m2 := cntTo_mono l (i := x.1 + 1) (j := l.length) (by omega)
    unfold cntBt at m1
    refine AWp.skip ?_
    refine AWp.seq ?_
    refine AWp.block ?_
    refine AWp.seq (AWp.region ?_)
    refine ARun.step rfl (step_moveV rfl (hn rfl) rfl rfl) ?_
    refine ARun.step rfl (step_moveV rfl (hn rfl) rfl rfl) ?_
    refine ARun.step rfl (step_moveV rfl (hn rfl) rfl rfl) ?_
    refine ARun.step rfl (call_step1 rfl (hn rfl) rfl ycCo87 (.cons rfl (.one (.v _)) (.nil)) (markText _ (by omega) (by omega)) rfl) ?_
    refine ARun.step rfl (step_index_rN rfl (hn rfl) rfl ycSl35 rfl rfl rfl (by omega)) ?_
    refine ARun.step rfl (step_field_e rfl (hn rfl) rfl ycFo74_0 rfl rfl) ?_
    refine ARun.step rfl (step_store_e rfl rfl ycCs9 rfl rfl (by omega) (hn rfl) rfl rfl rfl) ?_
    refine ARun.nil ?_
    refine AWp.seq (AWp.region ?_)
    refine ARun.step rfl (step_moveV rfl (hn rfl) rfl rfl) ?_
    refine ARun.step rfl (step_addI rfl (hn rfl) rfl rfl rfl (by omega) (by omega)) ?_
    refine ARun.step rfl (step_assignV rfl (hn rfl) rfl rfl) ?_
    refine ARun.nil ?_
    refine AWp.seq (AWp.region ?_)
    refine ARun.step rfl (step_moveV rfl (hn rfl) rfl rfl) ?_
    refine ARun.step rfl (step_moveV rfl (hn rfl) rfl rfl) ?_
    refine ARun.step rfl (step_index_rN rfl (hn rfl) rfl ycSl35 rfl rfl rfl (by omega)) ?_
    refine ARun.step rfl (step_field_e rfl (hn rfl) rfl ycFo74_1 rfl rfl) ?_
    refine ARun.step rfl (step_load_e rfl (hn rfl) rfl ycSc29 rfl rfl (by omega) (hn rfl) btRow1) ?_
    refine ARun.step rfl (step_moveV rfl (hn rfl) rfl rfl) ?_
    refine ARun.step rfl (mcall_one (K := 0) (i := 0) (j := 0) rfl (hn rfl) rfl ycCo44 (.cons rfl (.one (.rw _ rfl ((node_push _ _ _ _ rfl (by omega)).trans btRow1) rfl)) (.cons rfl (.one (.v (.refl _))) (.nil _))) (markStrS (nth l x.1).has _ (by omega) (by omega)) rfl rfl rfl rfl ((node_push _ _ _ _ rfl (by omega)).trans btRow1) rfl rfl) ?_
    refine ARun.step rfl (step_assignV rfl (hn rfl) rfl rfl) ?_
    refine ARun.nil ?_
    refine AWp.region ?_
    refine ARun.step rfl (step_moveV rfl (hn rfl) rfl rfl) ?_
    refine ARun.step rfl (step_moveV rfl (hn rfl) rfl rfl) ?_
    refine ARun.step rfl (step_index_rN rfl (hn rfl) rfl ycSl35 rfl rfl rfl (by omega)) ?_
    refine ARun.step rfl (step_field_e rfl (hn rfl) rfl ycFo74_2 rfl rfl) ?_
    refine ARun.step rfl (step_load_e rfl (hn rfl) rfl ycSc29 rfl rfl (by omega) (hn rfl) btRow2) ?_
    refine ARun.step rfl (step_moveV rfl (hn rfl) rfl rfl) ?_
    refine ARun.step rfl (mcall_one (K := 0) (i := 0) (j := 0) rfl (hn rfl) rfl ycCo44 (.cons rfl (.one (.rw _ rfl ((node_push _ _ _ _ rfl (by omega)).trans btRow2) rfl)) (.cons rfl (.one (.v (.refl _))) (.nil _))) (markStrS (nth l x.1).needs _ (by omega) (by omega)) rfl rfl rfl rfl ((node_push _ _ _ _ rfl (by omega)).trans btRow2) rfl rfl) ?_
    refine ARun.step rfl (step_assignV rfl (hn rfl) rfl rfl) ?_
    refine ARun.nil ?_
    refine AWp.region ?_
    refine ARun.step rfl (step_moveV rfl (hn rfl) rfl rfl) ?_
    refine ARun.step rfl (step_addI rfl (hn rfl) rfl rfl rfl (by omega) (by omega)) ?_
    refine ARun.step rfl (step_assignV rfl (hn rfl) rfl rfl) ?_
    refine ARun.nil ?_
    refine ⟨(x.1 + 1, x.2 + 1 + (nth l x.1).has.length + (nth l x.1).needs.length), ?_, ?_, Le.forgetR rfl ⟨rfl, rfl, rfl, trivial⟩ trivial ⟨.rows (fun j _ => by rw [setRow3 (by rw [mkBtTo_at]; rfl)]; exact mkBtTo_next l k x.1 j _ (by rw [hk]; rfl)), trivial⟩⟩
    · try dsimp only
      exact ⟨by omega, by omega⟩
    · try dsimp only
      omega
  · try simp only [decide_eq_true_eq, decide_eq_false_iff_not, beq_iff_eq, bne_iff_ne, Bool.not_eq_true', Bool.not_eq_false', Bool.and_eq_true, Bool.or_eq_true, Bool.and_eq_false_iff, Bool.or_eq_false_iff, Int.not_lt, Int.not_le, gt_iff_lt, ge_iff_le, bne_eq_false_iff_eq, beq_eq_false_iff_ne, ne_eq, Int.toNat_natCast] at c1
    refine AWp.exit ?_
    refine AWp.seq (AWp.region ?_)
    refine ARun.step rfl (step_moveV rfl (hn rfl) rfl rfl) ?_
    refine ARun.step rfl (step_assignV rfl (hn rfl) rfl rfl) ?_
    refine ARun.nil ?_
    refine AWp.ret ?_
    refine RetIs.mk (.inr rfl) rfl rfl ?_ ⟨⟨⟨_, _, _, _, _, rfl, rfl, .rows (fun j hj => mkBtTo_all l k _ j (by omega))⟩, trivial⟩, ⟨trivial, trivial⟩⟩
    refine congrArg (T.int _) ?_
    rw [hk, show x.1 = l.length by omega]
theorem heldBtS (l : List Bt) (k : Int) (h0 : 0 ≤ k) (h1 : k + cntTo l l.length ≤ 1152921504606846976) : ASpec Try.prog 92 [.one (mkBts l k), .one (.int .i64 k)] (.one (.int .i64 (k + cntTo l l.length))) := by
  refine ASpec.body Try.func92 rfl [4] rfl 41 rfl rfl rfl ?_
  refine AWp.lenLe 0 rfl (fun hl => ?_)
  refine AWp.seq (AWp.region ?_)
  refine ARun.step rfl (step_assignV rfl (hn rfl) rfl rfl) ?_
  refine ARun.nil ?_
  refine AWp.seq ?_
  refine AWp.seq (AWp.region ?_)
  refine ARun.step rfl (step_assignV rfl (hn rfl) rfl rfl) ?_
  refine ARun.nil ?_
  refine AWp.block ?_
  refine AWp.loopM (fun x : Nat => mkAS 41 [(0, ⟨true, .one (.v (mkBts l k))⟩), (1, ⟨true, .one (.v (.int .i64 (k + cntTo l x)))⟩), (5, ⟨true, .one (.v (.int .i64 (x : Nat)))⟩)] [] []) (fun x => x ≤ l.length) (fun x => l.length - x) 0 ?_ ((Le.slotInt 1 rfl (by simp [cntTo])).trans (Le.forgetR rfl ⟨rfl, rfl, rfl, trivial⟩ trivial trivial)) ?_
  · try dsimp only
    omega
  rintro x hi
  refine AWp.seq ?_
  refine AWp.seq (AWp.region ?_)
  refine ARun.step rfl (step_moveV rfl (hn rfl) rfl rfl) ?_
  refine ARun.step rfl (step_moveV rfl (hn rfl) rfl rfl) ?_
  refine ARun.step rfl (step_len_f rfl (hn rfl) rfl ycSl35 rfl) ?_
  refine ARun.step rfl (step_lss rfl (hn rfl) rfl rfl rfl) ?_
  refine ARun.nil ?_
  refine AWp.cond rfl (fun c1 => ?_) (fun c1 => ?_)
  · try simp only [decide_eq_true_eq, decide_eq_false_iff_not, beq_iff_eq, bne_iff_ne, Bool.not_eq_true', Bool.not_eq_false', Bool.and_eq_true, Bool.or_eq_true, Bool.and_eq_false_iff, Bool.or_eq_false_iff, Int.not_lt, Int.not_le, gt_iff_lt, ge_iff_le, bne_eq_false_iff_eq, beq_eq_false_iff_ne, ne_eq, Int.toNat_natCast] at c1
    have m0 := cntTo_nn l x
    have m1 : cntTo l (x + 1) = cntTo l x + cntBt (nth l x) := rfl
    have m2 := cntTo_mono l (i := x + 1) (j := l.length) (by omega)
    unfold cntBt at m1
    refine AWp.skip ?_
    refine AWp.seq ?_
    refine AWp.block ?_
    refine AWp.seq ?_
    refine AWp.seq (AWp.draw [⟨[.s 0], [.s 12], false⟩, ⟨[.s 5], [.s 13], false⟩, ⟨[.s 12, .s 13], [.s 14], false⟩, ⟨[.s 14], [.s 15], false⟩, ⟨[.s 15], [.s 16], false⟩, ⟨[.s 1], [.s 17], false⟩, ⟨[.s 17], [.s 18], false⟩, ⟨[.s 16, .s 18], [.s 19], false⟩] ycMo rfl ?_)
    refine DRun.step rfl (fun τ hN hr => step_moveV rfl (rdN hN (hn rfl)) rfl (by exact rdS hr rfl rfl)) ?_
    refine DRun.step rfl (fun τ hN hr => step_moveV rfl (rdN hN (hn rfl)) rfl (by exact rdS hr rfl rfl)) ?_
    refine DRun.step rfl (fun τ hN hr => step_index_fN rfl (rdN hN (hn rfl)) rfl ycSl35 (by exact rdS hr rfl rfl) (by exact rdS hr rfl rfl) (by omega)) ?_
    refine DRun.step rfl (fun τ hN hr => step_field_f rfl (rdN hN (hn rfl)) rfl ycFo74_0 (by exact rdS hr rfl rfl)) ?_
    refine DRun.step rfl (fun τ hN hr => step_load_f rfl (rdN hN (hn rfl)) rfl ycSc9 (by exact rdS hr rfl rfl) (hn rfl) rfl) ?_
    refine DRun.step rfl (fun τ hN hr => step_moveV rfl (rdN hN (hn rfl)) rfl (by exact rdS hr rfl rfl)) ?_
    refine DRun.step rfl (fun τ hN hr => call_step1 rfl (rdN hN (hn rfl)) rfl ycCo87 (.cons (by exact rdS hr rfl rfl) (.one (.v _)) (.nil)) (markText _ (by omega) (by omega)) rfl) ?_
    refine DRun.step rfl (fun τ hN hr => step_sneq rfl (rdN hN (hn rfl)) rfl (by exact rdS hr rfl rfl) (by exact rdS hr rfl rfl)) ?_
    refine DRun.nil ?_
    refine AWp.cond rfl (fun c2 => ?_) (fun c2 => ?_)
    · try simp only [decide_eq_true_eq, decide_eq_false_iff_not, beq_iff_eq, bne_iff_ne, Bool.not_eq_true', Bool.not_eq_false', Bool.and_eq_true, Bool.or_eq_true, Bool.and_eq_false_iff, Bool.or_eq_false_iff, Int.not_lt, Int.not_le, gt_iff_lt, ge_iff_le, bne_eq_false_iff_eq, beq_eq_false_iff_ne, ne_eq, Int.toNat_natCast] at c2
      refine AWp.seq (AWp.region ?_)
      refine ARun.step rfl (step_assignV rfl (hn rfl) rfl rfl) ?_
      refine ARun.nil ?_
      refine AWp.ret ?_
      refine RetIs.sc (.inr rfl) rfl rfl ?_
      refine congrArg (T.int _) ?_
      rw [strEq_refl] at c2; cases c2
    · try simp only [decide_eq_true_eq, decide_eq_false_iff_not, beq_iff_eq, bne_iff_ne, Bool.not_eq_true', Bool.not_eq_false', Bool.and_eq_true, Bool.or_eq_true, Bool.and_eq_false_iff, Bool.or_eq_false_iff, Int.not_lt, Int.not_le, gt_iff_lt, ge_iff_le, bne_eq_false_iff_eq, beq_eq_false_iff_ne, ne_eq, Int.toNat_natCast] at c2
      refine AWp.skip ?_
      refine AWp.seq (AWp.region ?_)
      refine ARun.step rfl (step_moveV rfl (hn rfl) rfl rfl) ?_
      refine ARun.step rfl (step_addI rfl (hn rfl) rfl rfl rfl (by omega) (by omega)) ?_
      refine ARun.step rfl (step_assignV rfl (hn rfl) rfl rfl) ?_
      refine ARun.nil ?_
      refine AWp.seq (AWp.region ?_)
      refine ARun.step rfl (step_moveV rfl (hn rfl) rfl rfl) ?_
      refine ARun.step rfl (step_moveV rfl (hn rfl) rfl rfl) ?_
      refine ARun.step rfl (step_index_fN rfl (hn rfl) rfl ycSl35 rfl rfl (by omega)) ?_
      refine ARun.step rfl (step_field_f rfl (hn rfl) rfl ycFo74_1 rfl) ?_
      refine ARun.step rfl (step_load_f rfl (hn rfl) rfl ycSc29 rfl (hn rfl) rfl) ?_
      refine ARun.step rfl (step_moveV rfl (hn rfl) rfl rfl) ?_
      refine ARun.step rfl (call_step1 rfl (hn rfl) rfl ycCo45 (.cons rfl (.one (.v _)) (.cons rfl (.one (.v _)) (.nil))) (heldStrS (nth l x).has.length (k + cntTo l x + 1) (by omega) (by omega)) rfl) ?_
      refine ARun.step rfl (step_assignV rfl (hn rfl) rfl rfl) ?_
      refine ARun.nil ?_
      refine AWp.seq ?_
      refine AWp.seq (AWp.region ?_)
      refine ARun.step rfl (step_moveV rfl (hn rfl) rfl rfl) ?_
      refine ARun.step rfl (step_lss rfl (hn rfl) rfl rfl rfl) ?_
      refine ARun.nil ?_
      refine AWp.cond rfl (fun c3 => ?_) (fun c3 => ?_)
      · try simp only [decide_eq_true_eq, decide_eq_false_iff_not, beq_iff_eq, bne_iff_ne, Bool.not_eq_true', Bool.not_eq_false', Bool.and_eq_true, Bool.or_eq_true, Bool.and_eq_false_iff, Bool.or_eq_false_iff, Int.not_lt, Int.not_le, gt_iff_lt, ge_iff_le, bne_eq_false_iff_eq, beq_eq_false_iff_ne, ne_eq, Int.toNat_natCast] at c3
        refine AWp.seq (AWp.region ?_)
        refine ARun.step rfl (step_assignV rfl (hn rfl) rfl rfl) ?_
        refine ARun.nil ?_
        refine AWp.ret ?_
        refine RetIs.sc (.inr rfl) rfl rfl ?_
        refine congrArg (T.int _) ?_
        omega
      · try simp only [decide_eq_true_eq, decide_eq_false_iff_not, beq_iff_eq, bne_iff_ne, Bool.not_eq_true', Bool.not_eq_false', Bool.and_eq_true, Bool.or_eq_true, Bool.and_eq_false_iff, Bool.or_eq_false_iff, Int.not_lt, Int.not_le, gt_iff_lt, ge_iff_le, bne_eq_false_iff_eq, beq_eq_false_iff_ne, ne_eq, Int.toNat_natCast] at c3
        refine AWp.skip ?_
        refine AWp.seq (AWp.region ?_)
        refine ARun.step rfl (step_moveV rfl (hn rfl) rfl rfl) ?_
        refine ARun.step rfl (step_moveV rfl (hn rfl) rfl rfl) ?_
        refine ARun.step rfl (step_index_fN rfl (hn rfl) rfl ycSl35 rfl rfl (by omega)) ?_
        refine ARun.step rfl (step_field_f rfl (hn rfl) rfl ycFo74_2 rfl) ?_
        refine ARun.step rfl (step_load_f rfl (hn rfl) rfl ycSc29 rfl (hn rfl) rfl) ?_
        refine ARun.step rfl (step_moveV rfl (hn rfl) rfl rfl) ?_
        refine ARun.step rfl (call_step1 rfl (hn rfl) rfl ycCo45 (.cons rfl (.one (.v _)) (.cons rfl (.one (.v _)) (.nil))) (heldStrS (nth l x).needs.length (k + cntTo l x + 1 + (nth l x).has.length) (by omega) (by omega)) rfl) ?_
        refine ARun.step rfl (step_assignV rfl (hn rfl) rfl rfl) ?_
        refine ARun.nil ?_
        refine AWp.seq (AWp.region ?_)
        refine ARun.step rfl (step_moveV rfl (hn rfl) rfl rfl) ?_
        refine ARun.step rfl (step_lss rfl (hn rfl) rfl rfl rfl) ?_
        refine ARun.nil ?_
        refine AWp.cond rfl (fun c4 => ?_) (fun c4 => ?_)
        · try simp only [decide_eq_true_eq, decide_eq_false_iff_not, beq_iff_eq, bne_iff_ne, Bool.not_eq_true', Bool.not_eq_false', Bool.and_eq_true, Bool.or_eq_true, Bool.and_eq_false_iff, Bool.or_eq_false_iff, Int.not_lt, Int.not_le, gt_iff_lt, ge_iff_le, bne_eq_false_iff_eq, beq_eq_false_iff_ne, ne_eq, Int.toNat_natCast] at c4
          refine AWp.seq (AWp.region ?_)
          refine ARun.step rfl (step_assignV rfl (hn rfl) rfl rfl) ?_
          refine ARun.nil ?_
          refine AWp.ret ?_
          refine RetIs.sc (.inr rfl) rfl rfl ?_
          refine congrArg (T.int _) ?_
          omega
        · try simp only [decide_eq_true_eq, decide_eq_false_iff_not, beq_iff_eq, bne_iff_ne, Bool.not_eq_true', Bool.not_eq_false', Bool.and_eq_true, Bool.or_eq_true, Bool.and_eq_false_iff, Bool.or_eq_false_iff, Int.not_lt, Int.not_le, gt_iff_lt, ge_iff_le, bne_eq_false_iff_eq, beq_eq_false_iff_ne, ne_eq, Int.toNat_natCast] at c4
          refine AWp.skip ?_
          refine AWp.region ?_
          refine ARun.step rfl (step_moveV rfl (hn rfl) rfl rfl) ?_
          refine ARun.step rfl (step_addI rfl (hn rfl) rfl rfl rfl (by omega) (by omega)) ?_
          refine ARun.step rfl (step_assignV rfl (hn rfl) rfl rfl) ?_
          refine ARun.nil ?_
          refine ⟨x + 1, ?_, ?_, (Le.slotInt 1 rfl (by rw [m1]; omega)).trans (Le.forgetR rfl ⟨rfl, rfl, rfl, trivial⟩ trivial trivial)⟩
          · try dsimp only
            omega
          · try dsimp only
            omega
  · try simp only [decide_eq_true_eq, decide_eq_false_iff_not, beq_iff_eq, bne_iff_ne, Bool.not_eq_true', Bool.not_eq_false', Bool.and_eq_true, Bool.or_eq_true, Bool.and_eq_false_iff, Bool.or_eq_false_iff, Int.not_lt, Int.not_le, gt_iff_lt, ge_iff_le, bne_eq_false_iff_eq, beq_eq_false_iff_ne, ne_eq, Int.toNat_natCast] at c1
    refine AWp.exit ?_
    refine AWp.seq (AWp.region ?_)
    refine ARun.step rfl (step_moveV rfl (hn rfl) rfl rfl) ?_
    refine ARun.step rfl (step_assignV rfl (hn rfl) rfl rfl) ?_
    refine ARun.nil ?_
    refine AWp.ret ?_
    refine RetIs.sc (.inr rfl) rfl rfl ?_
    refine congrArg (T.int _) ?_
    rw [show x = l.length by omega]
theorem markBk (p : Bk) (k : Int) (h0 : 0 ≤ k) (h1 : k + p.things.length + cntTo p.bs p.bs.length ≤ 1152921504606846976) : MSpec Try.prog 43 [.agg [.rw (strs p.things) (mkS p.things.length k), .rw (btsO 74 p.bs) (mkBts p.bs (k + p.things.length))], .one (.ro (.int .i64 k))] (.int .i64 (k + p.things.length + cntTo p.bs p.bs.length)) := by
  refine MSpec.body Try.func43 rfl 4 rfl 14 rfl rfl rfl rfl ?_
  have m0 := cntTo_nn p.bs p.bs.length
  refine AWp.seq (AWp.region ?_)
  refine ARun.step rfl (step_box_r (m := 1) rfl (hn rfl) rfl rfl rfl rfl rfl) ?_
  refine ARun.step rfl (step_assignV rfl (hn rfl) rfl rfl) ?_
  refine ARun.nil ?_
  refine AWp.seq (AWp.region ?_)
  refine ARun.step rfl (step_field_b rfl (hn rfl) rfl ycFo37_0 rfl (by exact List.cons_ne_nil _ _)) ?_
  refine ARun.step rfl (step_load_b rfl (hn rfl) rfl ycSc29 rfl rfl) ?_
  refine ARun.step rfl (step_moveV rfl (hn rfl) rfl rfl) ?_
  refine ARun.step rfl (mcall_roots (L := [(⟨.arr 1000000 0, []⟩, 0)]) (TL := [(1000000, 0, _)]) rfl (hn rfl) rfl ycCo44 rfl (.cons rfl (.one (.rw _ rfl rfl rfl)) (.cons rfl (.one (.v (.refl _))) (.nil _))) (markStrS p.things k (by omega) (by omega)) rfl (.cons (i := 0) (j := 0) rfl rfl rfl rfl rfl rfl .nil)) ?_
  refine ARun.step rfl (step_assignV rfl (hn rfl) rfl rfl) ?_
  refine ARun.nil ?_
  refine AWp.seq (AWp.region ?_)
  refine ARun.step rfl (step_field_b rfl (hn rfl) rfl ycFo37_1 rfl (by exact List.cons_ne_nil _ _)) ?_
  refine ARun.step rfl (step_load_b rfl (hn rfl) rfl ycSc35 rfl rfl) ?_
  refine ARun.step rfl (step_moveV rfl (hn rfl) rfl rfl) ?_
  refine ARun.step rfl (mcall_roots (L := [(⟨.arr 1000000 1, []⟩, 0)]) (TL := [(1000000, 1, _)]) rfl (hn rfl) rfl ycCo86 rfl (.cons rfl (.one (.rw _ rfl rfl rfl)) (.cons rfl (.one (.v (.refl _))) (.nil _))) (markBtS p.bs (k + p.things.length) (by omega) (by omega)) rfl (.cons (i := 0) (j := 0) rfl rfl rfl rfl rfl rfl .nil)) ?_
  refine ARun.step rfl (step_assignV rfl (hn rfl) rfl rfl) ?_
  refine ARun.nil ?_
  refine AWp.seq (AWp.region ?_)
  refine ARun.step rfl (step_moveV rfl (hn rfl) rfl rfl) ?_
  refine ARun.step rfl (step_assignV rfl (hn rfl) rfl rfl) ?_
  refine ARun.nil ?_
  refine AWp.ret ?_
  refine RetIs.mk (.inr rfl) rfl rfl ?_ ⟨⟨⟨_, _, _, _, _, rfl, rfl, .refl _⟩, ⟨⟨_, _, _, _, _, rfl, rfl, .refl _⟩, trivial⟩⟩, ⟨trivial, trivial⟩⟩
  refine congrArg (T.int _) ?_
  rfl
theorem heldBk (p : Bk) (k : Int) (h0 : 0 ≤ k) (h1 : k + p.things.length + cntTo p.bs p.bs.length ≤ 1152921504606846976) : ASpec Try.prog 52 [.agg [mkS p.things.length k, mkBts p.bs (k + p.things.length)], .one (.int .i64 k)] (.one (.int .i64 (k + p.things.length + cntTo p.bs p.bs.length))) := by
  refine ASpec.body Try.func52 rfl [4] rfl 18 rfl rfl rfl ?_
  have m0 := cntTo_nn p.bs p.bs.length
  refine AWp.seq (AWp.region ?_)
  refine ARun.step rfl (step_box_p (m := 1) rfl (hn rfl) rfl rfl rfl rfl rfl) ?_
  refine ARun.step rfl (step_assignV rfl (hn rfl) rfl rfl) ?_
  refine ARun.nil ?_
  refine AWp.seq (AWp.region ?_)
  refine ARun.step rfl (step_field_b rfl (hn rfl) rfl ycFo37_0 rfl (by exact List.cons_ne_nil _ _)) ?_
  refine ARun.step rfl (step_load_b rfl (hn rfl) rfl ycSc29 rfl rfl) ?_
  refine ARun.step rfl (step_moveV rfl (hn rfl) rfl rfl) ?_
  refine ARun.step rfl (call_step1 rfl (hn rfl) rfl ycCo45 (.cons rfl (.one (.v _)) (.cons rfl (.one (.v _)) (.nil))) (heldStrS p.things.length k (by omega) (by omega)) rfl) ?_
  refine ARun.step rfl (step_assignV rfl (hn rfl) rfl rfl) ?_
  refine ARun.nil ?_
  refine AWp.seq ?_
  refine AWp.seq (AWp.region ?_)
  refine ARun.step rfl (step_moveV rfl (hn rfl) rfl rfl) ?_
  refine ARun.step rfl (step_lss rfl (hn rfl) rfl rfl rfl) ?_
  refine ARun.nil ?_
  refine AWp.cond rfl (fun c1 => ?_) (fun c1 => ?_)
  · try simp only [decide_eq_true_eq, decide_eq_false_iff_not, beq_iff_eq, bne_iff_ne, Bool.not_eq_true', Bool.not_eq_false', Bool.and_eq_true, Bool.or_eq_true, Bool.and_eq_false_iff, Bool.or_eq_false_iff, Int.not_lt, Int.not_le, gt_iff_lt, ge_iff_le, bne_eq_false_iff_eq, beq_eq_false_iff_ne, ne_eq, Int.toNat_natCast] at c1
    refine AWp.seq (AWp.region ?_)
    refine ARun.step rfl (step_assignV rfl (hn rfl) rfl rfl) ?_
    refine ARun.nil ?_
    refine AWp.ret ?_
    refine RetIs.sc (.inr rfl) rfl rfl ?_
    refine congrArg (T.int _) ?_
    first
      | rfl
      | (exfalso; omega)
  · try simp only [decide_eq_true_eq, decide_eq_false_iff_not, beq_iff_eq, bne_iff_ne, Bool.not_eq_true', Bool.not_eq_false', Bool.and_eq_true, Bool.or_eq_true, Bool.and_eq_false_iff, Bool.or_eq_false_iff, Int.not_lt, Int.not_le, gt_iff_lt, ge_iff_le, bne_eq_false_iff_eq, beq_eq_false_iff_ne, ne_eq, Int.toNat_natCast] at c1
    refine AWp.skip ?_
    refine AWp.seq (AWp.region ?_)
    refine ARun.step rfl (step_field_b rfl (hn rfl) rfl ycFo37_1 rfl (by exact List.cons_ne_nil _ _)) ?_
    refine ARun.step rfl (step_load_b rfl (hn rfl) rfl ycSc35 rfl rfl) ?_
    refine ARun.step rfl (step_moveV rfl (hn rfl) rfl rfl) ?_
    refine ARun.step rfl (call_step1 rfl (hn rfl) rfl ycCo92 (.cons rfl (.one (.v _)) (.cons rfl (.one (.v _)) (.nil))) (heldBtS p.bs (k + p.things.length) (by omega) (by omega)) rfl) ?_
    refine ARun.step rfl (step_assignV rfl (hn rfl) rfl rfl) ?_
    refine ARun.nil ?_
    refine AWp.seq ?_
    refine AWp.seq (AWp.region ?_)
    refine ARun.step rfl (step_moveV rfl (hn rfl) rfl rfl) ?_
    refine ARun.step rfl (step_lss rfl (hn rfl) rfl rfl rfl) ?_
    refine ARun.nil ?_
    refine AWp.cond rfl (fun c2 => ?_) (fun c2 => ?_)
    · try simp only [decide_eq_true_eq, decide_eq_false_iff_not, beq_iff_eq, bne_iff_ne, Bool.not_eq_true', Bool.not_eq_false', Bool.and_eq_true, Bool.or_eq_true, Bool.and_eq_false_iff, Bool.or_eq_false_iff, Int.not_lt, Int.not_le, gt_iff_lt, ge_iff_le, bne_eq_false_iff_eq, beq_eq_false_iff_ne, ne_eq, Int.toNat_natCast] at c2
      refine AWp.seq (AWp.region ?_)
      refine ARun.step rfl (step_assignV rfl (hn rfl) rfl rfl) ?_
      refine ARun.nil ?_
      refine AWp.ret ?_
      refine RetIs.sc (.inr rfl) rfl rfl ?_
      refine congrArg (T.int _) ?_
      first
        | rfl
        | (exfalso; omega)
    · try simp only [decide_eq_true_eq, decide_eq_false_iff_not, beq_iff_eq, bne_iff_ne, Bool.not_eq_true', Bool.not_eq_false', Bool.and_eq_true, Bool.or_eq_true, Bool.and_eq_false_iff, Bool.or_eq_false_iff, Int.not_lt, Int.not_le, gt_iff_lt, ge_iff_le, bne_eq_false_iff_eq, beq_eq_false_iff_ne, ne_eq, Int.toNat_natCast] at c2
      refine AWp.skip ?_
      refine AWp.seq (AWp.region ?_)
      refine ARun.step rfl (step_moveV rfl (hn rfl) rfl rfl) ?_
      refine ARun.step rfl (step_assignV rfl (hn rfl) rfl rfl) ?_
      refine ARun.nil ?_
      refine AWp.ret ?_
      refine RetIs.sc (.inr rfl) rfl rfl ?_
      refine congrArg (T.int _) ?_
      first
        | rfl
        | (exfalso; omega)
theorem waitsI (p : Bk) (s : Str)  : ASpec Try.prog 47 [.agg (p.cells 74), .one (.str s)] (.one (strs (waitsB p s))) := by
  refine ASpec.body Try.func47 rfl [4] rfl 48 rfl rfl rfl ?_
  refine AWp.aggLe 0 rfl (fun hc => ?_)
  have hl : p.bs.length ≤ 9223372036854775807 := hc (.v (bts 74 p.bs)) (by exact List.mem_cons_of_mem _ List.mem_cons_self)
  clear hc
  have hix := idxB_lt p s
  refine AWp.seq (AWp.region ?_)
  refine ARun.step rfl (step_box_p (m := 1) rfl (hn rfl) rfl rfl rfl rfl rfl) ?_
  refine ARun.step rfl (step_assignV rfl (hn rfl) rfl rfl) ?_
  refine ARun.nil ?_
  refine AWp.seq (AWp.region ?_)
  refine ARun.step rfl (step_loadS_b rfl (hn rfl) rfl ycSt37 rfl rfl rfl (by decide)) ?_
  refine ARun.step rfl (step_moveV rfl (hn rfl) rfl rfl) ?_
  refine ARun.step rfl (call_step1 rfl (hn rfl) rfl ycCo84 (.cons rfl (.agg (.cons (.v _) (.cons (.v _) .nil))) (.cons rfl (.one (.v _)) (.nil))) (batchI _ _) rfl) ?_
  refine ARun.step rfl (step_assignV rfl (hn rfl) rfl rfl) ?_
  refine ARun.nil ?_
  refine AWp.seq ?_
  refine AWp.seq (AWp.region ?_)
  refine ARun.step rfl (step_moveV rfl (hn rfl) rfl rfl) ?_
  refine ARun.step rfl (step_lss rfl (hn rfl) rfl rfl rfl) ?_
  refine ARun.step rfl (step_moveV rfl (hn rfl) rfl rfl) ?_
  refine guardS rfl rfl rfl rfl (hn rfl) (fun g1 g2 => step_loadS_b rfl (hn rfl) rfl ycSt37 rfl rfl rfl (by decide)) ?_
  refine guardS rfl rfl rfl rfl (hn rfl) (fun g1 g2 => call_step1 rfl (hn rfl) rfl ycCo23 (.cons (ev_true rfl (by exact flag2 g1 g2)) (.agg (.cons (.v _) (.cons (.v _) .nil))) (.nil)) (bookOkI _) rfl) ?_
  refine guardS rfl rfl rfl rfl (hn rfl) (fun g1 g2 => step_not rfl (hn rfl) rfl (ev_true rfl (by exact flag2 g1 g2))) ?_
  refine ARun.step rfl (step_or rfl (hn rfl) rfl rfl rfl (fun h => (by exact flag1 h))) ?_
  refine ARun.nil ?_
  refine AWp.cond rfl (fun c1 => ?_) (fun c1 => ?_)
  · try simp only [decide_eq_true_eq, decide_eq_false_iff_not, beq_iff_eq, bne_iff_ne, Bool.not_eq_true', Bool.not_eq_false', Bool.and_eq_true, Bool.or_eq_true, Bool.and_eq_false_iff, Bool.or_eq_false_iff, Int.not_lt, Int.not_le, gt_iff_lt, ge_iff_le, bne_eq_false_iff_eq, beq_eq_false_iff_ne, ne_eq, Int.toNat_natCast] at c1
    refine AWp.seq (AWp.region ?_)
    refine ARun.step rfl (step_assignV rfl (hn rfl) rfl rfl) ?_
    refine ARun.nil ?_
    refine AWp.ret ?_
    refine ⟨.inr rfl, [.one (.sl 9 1 0 (fun i => [.str (nth [] i)]))], [], .cons rfl (.one (.nil _ _ _ _)) (.nil _), rfl, ?_⟩
    rw [waitsB, if_neg (by grind)]; rfl
  · try simp only [decide_eq_true_eq, decide_eq_false_iff_not, beq_iff_eq, bne_iff_ne, Bool.not_eq_true', Bool.not_eq_false', Bool.and_eq_true, Bool.or_eq_true, Bool.and_eq_false_iff, Bool.or_eq_false_iff, Int.not_lt, Int.not_le, gt_iff_lt, ge_iff_le, bne_eq_false_iff_eq, beq_eq_false_iff_ne, ne_eq, Int.toNat_natCast] at c1
    have hb5 := bookOk_bs c1.2
    refine AWp.skip ?_
    refine AWp.seq (AWp.region ?_)
    refine ARun.step rfl (step_assignV rfl (hn rfl) rfl rfl) ?_
    refine ARun.nil ?_
    refine AWp.seq ?_
    refine AWp.seq (AWp.region ?_)
    refine ARun.step rfl (step_field_b rfl (hn rfl) rfl ycFo37_1 rfl (by exact List.cons_ne_nil _ _)) ?_
    refine ARun.step rfl (step_load_b rfl (hn rfl) rfl ycSc35 rfl rfl) ?_
    refine ARun.step rfl (step_len_f rfl (hn rfl) rfl ycSl35 rfl) ?_
    refine ARun.step rfl (step_moveV rfl (hn rfl) rfl rfl) ?_
    refine ARun.nil ?_
    refine AWp.block ?_
    refine AWp.le (Le.nilRef 6 6 9 1 (fun i => [.str (nth [] i)]) rfl rfl) ?_
    refine AWp.loopM (fun i : Nat => mkAS 48 [(2, ⟨true, .one (.bptr 2 0)⟩), (5, ⟨true, .one (.v (.int .i64 (idxB p s)))⟩), (6, ⟨true, .one (.ref ⟨.arr 6 0, []⟩)⟩), (20, ⟨true, .one (.v (bts 74 p.bs))⟩), (21, ⟨true, .one (.v (.int .i64 ((p.bs).length : Nat)))⟩), (22, ⟨true, .one (.v (.int .i64 (i : Nat)))⟩)] [(2, ((p.cells 74)).map C.v)] [(6, 0, strs (waitsGo p (idxB p s).toNat i))]) (fun i => i ≤ p.bs.length) (fun i => p.bs.length - i) 0 ?_ (Le.forgetR rfl ⟨rfl, rfl, rfl, rfl, rfl, rfl, trivial⟩ ⟨rfl, trivial⟩ ⟨.refl _, trivial⟩) ?_
    · try dsimp only
      omega
    rintro i hi
    refine AWp.seq (AWp.region ?_)
    refine ARun.step rfl (step_lss rfl (hn rfl) rfl rfl rfl) ?_
    refine ARun.nil ?_
    refine AWp.seq ?_
    refine AWp.cond rfl (fun c2 => ?_) (fun c2 => ?_)
    · try simp only [decide_eq_true_eq, decide_eq_false_iff_not, beq_iff_eq, bne_iff_ne, Bool.not_eq_true', Bool.not_eq_false', Bool.and_eq_true, Bool.or_eq_true, Bool.and_eq_false_iff, Bool.or_eq_false_iff, Int.not_lt, Int.not_le, gt_iff_lt, ge_iff_le, bne_eq_false_iff_eq, beq_eq_false_iff_ne, ne_eq, Int.toNat_natCast] at c2
      try have hml := waitsGo_len p (idxB p s).toNat i
      refine AWp.skip ?_
      refine AWp.seq ?_
      refine AWp.block ?_
      refine AWp.seq (AWp.region ?_)
      refine ARun.step rfl (step_moveV rfl (hn rfl) rfl rfl) ?_
      refine ARun.step rfl (step_index_fN rfl (hn rfl) rfl ycSl35 rfl rfl (by omega)) ?_
      refine ARun.step rfl (step_loadS_f rfl (hn rfl) rfl ycSt74 rfl (hn rfl) rfl rfl) ?_
      refine ARun.step rfl (step_alloc_p rfl (hn rfl) rfl ycZs74) ?_
      refine ARun.step rfl (step_assignV rfl (hn rfl) rfl rfl) ?_
      refine ARun.step rfl (step_store_p rfl rfl ycCs74 rfl rfl rfl rfl rfl rfl rfl) ?_
      refine ARun.nil ?_
      refine AWp.seq (AWp.draw [⟨[.s 7], [.s 27], false⟩, ⟨[.s 5], [.s 28], false⟩, ⟨[.s 27, .s 28], [.s 29], false⟩, ⟨[.s 29], [.s 30], false⟩, ⟨[.s 8, .b 8, .s 30], [.s 31], false⟩, ⟨[.s 31, .b 8, .s 30], [.s 32], false⟩, ⟨[.s 2, .b 2, .s 30], [.s 33], false⟩, ⟨[.s 33, .b 2, .s 30], [.s 34], false⟩, ⟨[.s 5, .s 30], [.s 35], false⟩, ⟨[.s 34, .s 35, .s 30], [.s 36], false⟩, ⟨[.s 36, .s 30], [.s 37], false⟩, ⟨[.s 37, .s 30], [.s 38], false⟩, ⟨[.s 38, .s 32, .s 30], [.s 39], false⟩, ⟨[.s 30, .s 39], [.s 40], false⟩] ycMo rfl ?_)
      refine DRun.step rfl (fun τ hN hr => step_moveV rfl (rdN hN (hn rfl)) rfl (by exact rdS hr rfl rfl)) ?_
      refine DRun.step rfl (fun τ hN hr => step_moveV rfl (rdN hN (hn rfl)) rfl (by exact rdS hr rfl rfl)) ?_
      refine DRun.step rfl (fun τ hN hr => step_neq rfl (rdN hN (hn rfl)) rfl (by exact rdS hr rfl rfl) (by exact rdS hr rfl rfl)) ?_
      refine DRun.step rfl (fun τ hN hr => step_moveV rfl (rdN hN (hn rfl)) rfl (by exact rdS hr rfl rfl)) ?_
      refine guardD rfl rfl rfl rfl rfl (hn rfl) (fun τ hN hr g1 g2 => step_field_b rfl (rdN hN (hn rfl)) rfl ycFo74_1 (by exact rdS hr rfl rfl) (by exact rdBne hr rfl (by exact List.cons_ne_nil _ _))) ?_
      refine guardD rfl rfl rfl rfl rfl (hn rfl) (fun τ hN hr g1 g2 => step_load_b rfl (rdN hN (hn rfl)) rfl ycSc29 (ev_true (by exact rdS hr rfl rfl) (by exact flag2 g1 g2)) (by exact rdBget hr rfl rfl)) ?_
      refine guardD rfl rfl rfl rfl rfl (hn rfl) (fun τ hN hr g1 g2 => step_field_b rfl (rdN hN (hn rfl)) rfl ycFo37_1 (by exact rdS hr rfl rfl) (by exact rdBne hr rfl (by exact List.cons_ne_nil _ _))) ?_
      refine guardD rfl rfl rfl rfl rfl (hn rfl) (fun τ hN hr g1 g2 => step_load_b rfl (rdN hN (hn rfl)) rfl ycSc35 (ev_true (by exact rdS hr rfl rfl) (by exact flag2 g1 g2)) (by exact rdBget hr rfl rfl)) ?_
      refine guardD rfl rfl rfl rfl rfl (hn rfl) (fun τ hN hr g1 g2 => step_moveV rfl (rdN hN (hn rfl)) rfl (by exact rdS hr rfl rfl)) ?_
      refine guardD rfl rfl rfl rfl rfl (hn rfl) (fun τ hN hr g1 g2 => step_index_f rfl (rdN hN (hn rfl)) rfl ycSl35 (ev_true (by exact rdS hr rfl rfl) (by exact flag2 g1 g2)) (ev_true (by exact rdS hr rfl rfl) (by exact flag2 g1 g2)) (by omega) (by omega)) ?_
      refine guardD rfl rfl rfl rfl rfl (hn rfl) (fun τ hN hr g1 g2 => step_field_f rfl (rdN hN (hn rfl)) rfl ycFo74_2 (ev_true (by exact rdS hr rfl rfl) (by exact flag2 g1 g2))) ?_
      refine guardD rfl rfl rfl rfl rfl (hn rfl) (fun τ hN hr g1 g2 => step_load_f rfl (rdN hN (hn rfl)) rfl ycSc29 (ev_true (by exact rdS hr rfl rfl) (by exact flag2 g1 g2)) (hn rfl) rfl) ?_
      refine guardD rfl rfl rfl rfl rfl (hn rfl) (fun τ hN hr g1 g2 => call_step1 rfl (rdN hN (hn rfl)) rfl ycCo72 (.cons (ev_true (by exact rdS hr rfl rfl) (by exact flag2 g1 g2)) (.one (.v _)) (.cons (ev_true (by exact rdS hr rfl rfl) (by exact flag2 g1 g2)) (.one (.v _)) (.nil))) (meetsI _ _) rfl) ?_
      refine DRun.step rfl (fun τ hN hr => step_and rfl (rdN hN (hn rfl)) rfl (by exact rdS hr rfl rfl) (by exact rdS hr rfl rfl) (fun h => (by exact flag1 h))) ?_
      refine DRun.nil ?_
      refine AWp.cond rfl (fun c3 => ?_) (fun c3 => ?_)
      · try simp only [decide_eq_true_eq, decide_eq_false_iff_not, beq_iff_eq, bne_iff_ne, Bool.not_eq_true', Bool.not_eq_false', Bool.and_eq_true, Bool.or_eq_true, Bool.and_eq_false_iff, Bool.or_eq_false_iff, Int.not_lt, Int.not_le, gt_iff_lt, ge_iff_le, bne_eq_false_iff_eq, beq_eq_false_iff_ne, ne_eq, Int.toNat_natCast] at c3
        refine AWp.region ?_
        refine ARun.step rfl (step_moveV rfl (hn rfl) rfl rfl) ?_
        refine ARun.step rfl (step_field_b rfl (hn rfl) rfl ycFo74_0 rfl (by exact List.cons_ne_nil _ _)) ?_
        refine ARun.step rfl (step_load_b rfl (hn rfl) rfl ycSc9 rfl rfl) ?_
        refine ARun.step rfl (step_buildVT rfl (hn rfl) rfl ycSl29 (strs [_]) (.cons rfl rfl rfl rfl (.nil _)) rfl rfl rfl (rows1 rfl)) ?_
        refine ARun.step rfl (step_append_strs rfl (hn rfl) rfl ycSl29 rfl rfl rfl (.v _) (by simp only [List.length_cons, List.length_nil]; omega) (by simp only [List.length_cons, List.length_nil]; omega)) ?_
        refine ARun.step rfl (step_assignV rfl (hn rfl) rfl rfl) ?_
        refine ARun.nil ?_
        refine AWp.region ?_
        refine ARun.step rfl (step_addI rfl (hn rfl) rfl rfl rfl (by omega) (by omega)) ?_
        refine ARun.step rfl (step_moveV rfl (hn rfl) rfl rfl) ?_
        refine ARun.nil ?_
        refine ⟨i + 1, ?_, ?_, Le.forgetR rfl ⟨rfl, rfl, rfl, rfl, rfl, rfl, trivial⟩ ⟨rfl, trivial⟩ ⟨(by first | exact eqv_strs (waitsGo_yes (by rw [wt, beq_toNat (by omega)]; grind)) | exact eqv_strs (waitsGo_no (by rw [wt, beq_toNat (by omega)]; grind))), trivial⟩⟩
        · try dsimp only
          omega
        · try dsimp only
          omega
      · try simp only [decide_eq_true_eq, decide_eq_false_iff_not, beq_iff_eq, bne_iff_ne, Bool.not_eq_true', Bool.not_eq_false', Bool.and_eq_true, Bool.or_eq_true, Bool.and_eq_false_iff, Bool.or_eq_false_iff, Int.not_lt, Int.not_le, gt_iff_lt, ge_iff_le, bne_eq_false_iff_eq, beq_eq_false_iff_ne, ne_eq, Int.toNat_natCast] at c3
        refine AWp.skip ?_
        refine AWp.region ?_
        refine ARun.step rfl (step_addI rfl (hn rfl) rfl rfl rfl (by omega) (by omega)) ?_
        refine ARun.step rfl (step_moveV rfl (hn rfl) rfl rfl) ?_
        refine ARun.nil ?_
        refine ⟨i + 1, ?_, ?_, Le.forgetR rfl ⟨rfl, rfl, rfl, rfl, rfl, rfl, trivial⟩ ⟨rfl, trivial⟩ ⟨(by first | exact eqv_strs (waitsGo_yes (by rw [wt, beq_toNat (by omega)]; grind)) | exact eqv_strs (waitsGo_no (by rw [wt, beq_toNat (by omega)]; grind))), trivial⟩⟩
        · try dsimp only
          omega
        · try dsimp only
          omega
    · try simp only [decide_eq_true_eq, decide_eq_false_iff_not, beq_iff_eq, bne_iff_ne, Bool.not_eq_true', Bool.not_eq_false', Bool.and_eq_true, Bool.or_eq_true, Bool.and_eq_false_iff, Bool.or_eq_false_iff, Int.not_lt, Int.not_le, gt_iff_lt, ge_iff_le, bne_eq_false_iff_eq, beq_eq_false_iff_ne, ne_eq, Int.toNat_natCast] at c2
      try have hml := waitsGo_len p (idxB p s).toNat i
      refine AWp.exit ?_
      refine AWp.seq (AWp.region ?_)
      refine ARun.step rfl (step_moveV rfl (hn rfl) rfl rfl) ?_
      refine ARun.step rfl (step_assignV rfl (hn rfl) rfl rfl) ?_
      refine ARun.nil ?_
      refine AWp.ret ?_
      refine RetIs.ref (.inr rfl) rfl rfl ?_
      rw [waitsB, if_pos (by grind), show p.bs.length = i by omega]; rfl
theorem waitsS (p : Bk) (s : Str)  : ASpec Try.prog 46 [.agg (p.cells 74), .one (.str s)] (.one (strs (waitsB p s))) := by
  refine ASpec.body Try.func46 rfl [4] rfl 55 rfl rfl rfl ?_
  refine AWp.aggLe 0 rfl (fun hc => ?_)
  have hl : p.bs.length ≤ 9223372036854775807 := hc (.v (bts 74 p.bs)) (by exact List.mem_cons_of_mem _ List.mem_cons_self)
  clear hc
  have hix := idxB_lt p s
  refine AWp.seq (AWp.region ?_)
  refine ARun.step rfl (step_box_p (m := 1) rfl (hn rfl) rfl rfl rfl rfl rfl) ?_
  refine ARun.step rfl (step_assignV rfl (hn rfl) rfl rfl) ?_
  refine ARun.nil ?_
  refine AWp.seq (AWp.region ?_)
  refine ARun.step rfl (step_build0 rfl (hn rfl) rfl ycSl29) ?_
  refine ARun.step rfl (step_assignV rfl (hn rfl) rfl rfl) ?_
  refine ARun.nil ?_
  refine AWp.seq (AWp.region ?_)
  refine ARun.step rfl (step_loadS_b rfl (hn rfl) rfl ycSt37 rfl rfl rfl (by decide)) ?_
  refine ARun.step rfl (step_moveV rfl (hn rfl) rfl rfl) ?_
  refine ARun.step rfl (call_step1 rfl (hn rfl) rfl ycCo82 (.cons rfl (.agg (.cons (.v _) (.cons (.v _) .nil))) (.cons rfl (.one (.v _)) (.nil))) (l51At _ _) rfl) ?_
  refine ARun.step rfl (step_assignV rfl (hn rfl) rfl rfl) ?_
  refine ARun.nil ?_
  refine AWp.seq ?_
  refine AWp.seq (AWp.region ?_)
  refine ARun.step rfl (step_assignV rfl (hn rfl) rfl rfl) ?_
  refine ARun.nil ?_
  refine AWp.block ?_
  refine AWp.loopM (fun i : Nat => mkAS 55 [(2, ⟨true, .one (.bptr 2 0)⟩), (5, ⟨true, .one (.ref ⟨.arr 8 0, []⟩)⟩), (6, ⟨true, .one (.v (.int .i64 (idxB p s)))⟩), (7, ⟨true, .one (.v (.int .i64 (i : Nat)))⟩)] [(2, ((p.cells 74)).map C.v)] [(8, 0, strs (waitsGo p (idxB p s).toNat i))]) (fun i => i ≤ p.bs.length ∧ (¬ (0 ≤ idxB p s ∧ bookOk p = true) → i = 0)) (fun i => p.bs.length - i) 0 ?_ (Le.forgetR rfl ⟨rfl, rfl, rfl, rfl, trivial⟩ ⟨rfl, trivial⟩ ⟨.refl _, trivial⟩) ?_
  · try dsimp only
    exact ⟨by omega, fun _ => rfl⟩
  rintro i ⟨hi, h0⟩
  refine AWp.seq ?_
  refine AWp.seq (AWp.region ?_)
  refine ARun.step rfl (step_moveV rfl (hn rfl) rfl rfl) ?_
  refine ARun.step rfl (step_field_b rfl (hn rfl) rfl ycFo37_1 rfl (by exact List.cons_ne_nil _ _)) ?_
  refine ARun.step rfl (step_load_b rfl (hn rfl) rfl ycSc35 rfl rfl) ?_
  refine ARun.step rfl (step_len_f rfl (hn rfl) rfl ycSl35 rfl) ?_
  refine ARun.step rfl (step_lss rfl (hn rfl) rfl rfl rfl) ?_
  refine ARun.step rfl (step_moveV rfl (hn rfl) rfl rfl) ?_
  refine guardS rfl rfl rfl rfl (hn rfl) (fun g1 g2 => step_moveV rfl (hn rfl) rfl rfl) ?_
  refine guardS rfl rfl rfl rfl (hn rfl) (fun g1 g2 => step_geq rfl (hn rfl) rfl (ev_true rfl (by exact flag2 g1 g2)) rfl) ?_
  refine ARun.step rfl (step_and rfl (hn rfl) rfl rfl rfl (fun h => (by exact flag1 h))) ?_
  refine ARun.step rfl (step_moveV rfl (hn rfl) rfl rfl) ?_
  refine guardS rfl rfl rfl rfl (hn rfl) (fun g1 g2 => step_loadS_b rfl (hn rfl) rfl ycSt37 rfl rfl rfl (by decide)) ?_
  refine guardS rfl rfl rfl rfl (hn rfl) (fun g1 g2 => call_step1 rfl (hn rfl) rfl ycCo21 (.cons (ev_true rfl (by exact flag2 g1 g2)) (.agg (.cons (.v _) (.cons (.v _) .nil))) (.nil)) (bookOkS _) rfl) ?_
  refine ARun.step rfl (step_and rfl (hn rfl) rfl rfl rfl (fun h => (by exact flag1 h))) ?_
  refine ARun.nil ?_
  refine AWp.cond rfl (fun c1 => ?_) (fun c1 => ?_)
  · try simp only [decide_eq_true_eq, decide_eq_false_iff_not, beq_iff_eq, bne_iff_ne, Bool.not_eq_true', Bool.not_eq_false', Bool.and_eq_true, Bool.or_eq_true, Bool.and_eq_false_iff, Bool.or_eq_false_iff, Int.not_lt, Int.not_le, gt_iff_lt, ge_iff_le, bne_eq_false_iff_eq, beq_eq_false_iff_ne, ne_eq, Int.toNat_natCast] at c1
    have hb5 := bookOk_bs c1.2
    have hml := waitsGo_len p (idxB p s).toNat i
    refine AWp.skip ?_
    refine AWp.seq ?_
    refine AWp.block ?_
    refine AWp.seq (AWp.draw [⟨[.s 7], [.s 27], false⟩, ⟨[.s 6], [.s 28], false⟩, ⟨[.s 27, .s 28], [.s 29], false⟩, ⟨[.s 29], [.s 30], false⟩, ⟨[.s 2, .b 2, .s 30], [.s 31], false⟩, ⟨[.s 31, .b 2, .s 30], [.s 32], false⟩, ⟨[.s 7, .s 30], [.s 33], false⟩, ⟨[.s 32, .s 33, .s 30], [.s 34], false⟩, ⟨[.s 34, .s 30], [.s 35], false⟩, ⟨[.s 35, .s 30], [.s 36], false⟩, ⟨[.s 2, .b 2, .s 30], [.s 37], false⟩, ⟨[.s 37, .b 2, .s 30], [.s 38], false⟩, ⟨[.s 6, .s 30], [.s 39], false⟩, ⟨[.s 38, .s 39, .s 30], [.s 40], false⟩, ⟨[.s 40, .s 30], [.s 41], false⟩, ⟨[.s 41, .s 30], [.s 42], false⟩, ⟨[.s 42, .s 36, .s 30], [.s 43], false⟩, ⟨[.s 30, .s 43], [.s 44], false⟩] ycMo rfl ?_)
    refine DRun.step rfl (fun τ hN hr => step_moveV rfl (rdN hN (hn rfl)) rfl (by exact rdS hr rfl rfl)) ?_
    refine DRun.step rfl (fun τ hN hr => step_moveV rfl (rdN hN (hn rfl)) rfl (by exact rdS hr rfl rfl)) ?_
    refine DRun.step rfl (fun τ hN hr => step_neq rfl (rdN hN (hn rfl)) rfl (by exact rdS hr rfl rfl) (by exact rdS hr rfl rfl)) ?_
    refine DRun.step rfl (fun τ hN hr => step_moveV rfl (rdN hN (hn rfl)) rfl (by exact rdS hr rfl rfl)) ?_
    refine guardD rfl rfl rfl rfl rfl (hn rfl) (fun τ hN hr g1 g2 => step_field_b rfl (rdN hN (hn rfl)) rfl ycFo37_1 (by exact rdS hr rfl rfl) (by exact rdBne hr rfl (by exact List.cons_ne_nil _ _))) ?_
    refine guardD rfl rfl rfl rfl rfl (hn rfl) (fun τ hN hr g1 g2 => step_load_b rfl (rdN hN (hn rfl)) rfl ycSc35 (ev_true (by exact rdS hr rfl rfl) (by exact flag2 g1 g2)) (by exact rdBget hr rfl rfl)) ?_
    refine guardD rfl rfl rfl rfl rfl (hn rfl) (fun τ hN hr g1 g2 => step_moveV rfl (rdN hN (hn rfl)) rfl (by exact rdS hr rfl rfl)) ?_
    refine guardD rfl rfl rfl rfl rfl (hn rfl) (fun τ hN hr g1 g2 => step_index_fN rfl (rdN hN (hn rfl)) rfl ycSl35 (ev_true (by exact rdS hr rfl rfl) (by exact flag2 g1 g2)) (ev_true (by exact rdS hr rfl rfl) (by exact flag2 g1 g2)) (by omega)) ?_
    refine guardD rfl rfl rfl rfl rfl (hn rfl) (fun τ hN hr g1 g2 => step_field_f rfl (rdN hN (hn rfl)) rfl ycFo74_1 (ev_true (by exact rdS hr rfl rfl) (by exact flag2 g1 g2))) ?_
    refine guardD rfl rfl rfl rfl rfl (hn rfl) (fun τ hN hr g1 g2 => step_load_f rfl (rdN hN (hn rfl)) rfl ycSc29 (ev_true (by exact rdS hr rfl rfl) (by exact flag2 g1 g2)) (hn rfl) rfl) ?_
    refine guardD rfl rfl rfl rfl rfl (hn rfl) (fun τ hN hr g1 g2 => step_field_b rfl (rdN hN (hn rfl)) rfl ycFo37_1 (by exact rdS hr rfl rfl) (by exact rdBne hr rfl (by exact List.cons_ne_nil _ _))) ?_
    refine guardD rfl rfl rfl rfl rfl (hn rfl) (fun τ hN hr g1 g2 => step_load_b rfl (rdN hN (hn rfl)) rfl ycSc35 (ev_true (by exact rdS hr rfl rfl) (by exact flag2 g1 g2)) (by exact rdBget hr rfl rfl)) ?_
    refine guardD rfl rfl rfl rfl rfl (hn rfl) (fun τ hN hr g1 g2 => step_moveV rfl (rdN hN (hn rfl)) rfl (by exact rdS hr rfl rfl)) ?_
    refine guardD rfl rfl rfl rfl rfl (hn rfl) (fun τ hN hr g1 g2 => step_index_f rfl (rdN hN (hn rfl)) rfl ycSl35 (ev_true (by exact rdS hr rfl rfl) (by exact flag2 g1 g2)) (ev_true (by exact rdS hr rfl rfl) (by exact flag2 g1 g2)) (by omega) (by omega)) ?_
    refine guardD rfl rfl rfl rfl rfl (hn rfl) (fun τ hN hr g1 g2 => step_field_f rfl (rdN hN (hn rfl)) rfl ycFo74_2 (ev_true (by exact rdS hr rfl rfl) (by exact flag2 g1 g2))) ?_
    refine guardD rfl rfl rfl rfl rfl (hn rfl) (fun τ hN hr g1 g2 => step_load_f rfl (rdN hN (hn rfl)) rfl ycSc29 (ev_true (by exact rdS hr rfl rfl) (by exact flag2 g1 g2)) (hn rfl) rfl) ?_
    refine guardD rfl rfl rfl rfl rfl (hn rfl) (fun τ hN hr g1 g2 => call_step1 rfl (rdN hN (hn rfl)) rfl ycCo66 (.cons (ev_true (by exact rdS hr rfl rfl) (by exact flag2 g1 g2)) (.one (.v _)) (.cons (ev_true (by exact rdS hr rfl rfl) (by exact flag2 g1 g2)) (.one (.v _)) (.nil))) (l51Share _ _) rfl) ?_
    refine DRun.step rfl (fun τ hN hr => step_and rfl (rdN hN (hn rfl)) rfl (by exact rdS hr rfl rfl) (by exact rdS hr rfl rfl) (fun h => (by exact flag1 h))) ?_
    refine DRun.nil ?_
    refine AWp.cond rfl (fun c2 => ?_) (fun c2 => ?_)
    · try simp only [decide_eq_true_eq, decide_eq_false_iff_not, beq_iff_eq, bne_iff_ne, Bool.not_eq_true', Bool.not_eq_false', Bool.and_eq_true, Bool.or_eq_true, Bool.and_eq_false_iff, Bool.or_eq_false_iff, Int.not_lt, Int.not_le, gt_iff_lt, ge_iff_le, bne_eq_false_iff_eq, beq_eq_false_iff_ne, ne_eq, Int.toNat_natCast] at c2
      refine AWp.region ?_
      refine ARun.step rfl (step_moveV rfl (hn rfl) rfl rfl) ?_
      refine ARun.step rfl (step_field_b rfl (hn rfl) rfl ycFo37_1 rfl (by exact List.cons_ne_nil _ _)) ?_
      refine ARun.step rfl (step_load_b rfl (hn rfl) rfl ycSc35 rfl rfl) ?_
      refine ARun.step rfl (step_moveV rfl (hn rfl) rfl rfl) ?_
      refine ARun.step rfl (step_index_fN rfl (hn rfl) rfl ycSl35 rfl rfl (by omega)) ?_
      refine ARun.step rfl (step_field_f rfl (hn rfl) rfl ycFo74_0 rfl) ?_
      refine ARun.step rfl (step_load_f rfl (hn rfl) rfl ycSc9 rfl (hn rfl) rfl) ?_
      refine ARun.step rfl (step_buildVT rfl (hn rfl) rfl ycSl29 (strs [_]) (.cons rfl rfl rfl rfl (.nil _)) rfl rfl rfl (rows1 rfl)) ?_
      refine ARun.step rfl (step_append_strs rfl (hn rfl) rfl ycSl29 rfl rfl rfl (.v _) (by simp only [List.length_cons, List.length_nil]; omega) (by simp only [List.length_cons, List.length_nil]; omega)) ?_
      refine ARun.step rfl (step_assignV rfl (hn rfl) rfl rfl) ?_
      refine ARun.nil ?_
      refine AWp.region ?_
      refine ARun.step rfl (step_moveV rfl (hn rfl) rfl rfl) ?_
      refine ARun.step rfl (step_addI rfl (hn rfl) rfl rfl rfl (by omega) (by omega)) ?_
      refine ARun.step rfl (step_assignV rfl (hn rfl) rfl rfl) ?_
      refine ARun.nil ?_
      refine ⟨i + 1, ?_, ?_, Le.forgetR rfl ⟨rfl, rfl, rfl, rfl, trivial⟩ ⟨rfl, trivial⟩ ⟨(by first | exact eqv_strs (waitsGo_yes (by rw [wt, beq_toNat (by omega)]; grind)) | exact eqv_strs (waitsGo_no (by rw [wt, beq_toNat (by omega)]; grind))), trivial⟩⟩
      · try dsimp only
        exact ⟨by omega, fun h => absurd (by grind) h⟩
      · try dsimp only
        omega
    · try simp only [decide_eq_true_eq, decide_eq_false_iff_not, beq_iff_eq, bne_iff_ne, Bool.not_eq_true', Bool.not_eq_false', Bool.and_eq_true, Bool.or_eq_true, Bool.and_eq_false_iff, Bool.or_eq_false_iff, Int.not_lt, Int.not_le, gt_iff_lt, ge_iff_le, bne_eq_false_iff_eq, beq_eq_false_iff_ne, ne_eq, Int.toNat_natCast] at c2
      refine AWp.skip ?_
      refine AWp.region ?_
      refine ARun.step rfl (step_moveV rfl (hn rfl) rfl rfl) ?_
      refine ARun.step rfl (step_addI rfl (hn rfl) rfl rfl rfl (by omega) (by omega)) ?_
      refine ARun.step rfl (step_assignV rfl (hn rfl) rfl rfl) ?_
      refine ARun.nil ?_
      refine ⟨i + 1, ?_, ?_, Le.forgetR rfl ⟨rfl, rfl, rfl, rfl, trivial⟩ ⟨rfl, trivial⟩ ⟨(by first | exact eqv_strs (waitsGo_yes (by rw [wt, beq_toNat (by omega)]; grind)) | exact eqv_strs (waitsGo_no (by rw [wt, beq_toNat (by omega)]; grind))), trivial⟩⟩
      · try dsimp only
        exact ⟨by omega, fun h => absurd (by grind) h⟩
      · try dsimp only
        omega
  · try simp only [decide_eq_true_eq, decide_eq_false_iff_not, beq_iff_eq, bne_iff_ne, Bool.not_eq_true', Bool.not_eq_false', Bool.and_eq_true, Bool.or_eq_true, Bool.and_eq_false_iff, Bool.or_eq_false_iff, Int.not_lt, Int.not_le, gt_iff_lt, ge_iff_le, bne_eq_false_iff_eq, beq_eq_false_iff_ne, ne_eq, Int.toNat_natCast] at c1
    refine AWp.exit ?_
    refine AWp.seq (AWp.region ?_)
    refine ARun.step rfl (step_moveV rfl (hn rfl) rfl rfl) ?_
    refine ARun.step rfl (step_assignV rfl (hn rfl) rfl rfl) ?_
    refine ARun.nil ?_
    refine AWp.ret ?_
    refine RetIs.ref (.inr rfl) rfl rfl ?_
    have e : waitsB p s = waitsGo p (idxB p s).toNat i := by
      by_cases hh : 0 ≤ idxB p s ∧ bookOk p = true
      · rw [waitsB, if_pos hh, show p.bs.length = i by grind]
      · rw [waitsB, if_neg hh, h0 hh]; rfl
    rw [e]; rfl

end Go.Proofs.Ytegaemhpkaahbaa
