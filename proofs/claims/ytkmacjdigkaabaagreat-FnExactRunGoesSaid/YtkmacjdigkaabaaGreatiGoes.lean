/- Contracts of functions of the program, each met by its body; conditions stand in each statement. No condition. -/
import Derived.Test.YtkmacjdigkaabaaGreatiRun3
import Derived.Test.YtkmacjdigkaabaaGreatProg
import Derived.KernelRfl
set_option linter.unusedVariables false
set_option linter.unusedSimpArgs false
set_option linter.unnecessarySimpa false
set_option linter.unusedSimpArgs false
set_option maxRecDepth 100000
namespace Go.Proofs.YtkmacjdigkaabaaGreat
open Go Go.Mh

def goesGo (l : List Rb) : Nat → List Str
  | 0 => []
  | i + 1 => if decide ((nth l i).since ≥ 0) = true then goesGo l i ++ [(nth l i).name] else goesGo l i
theorem goesGo_len (l : List Rb) (i : Nat) : (goesGo l i).length ≤ i := by
  induction i with
  | zero => exact Nat.le_refl _
  | succ i ih =>
    simp only [goesGo]; split
    · simp; omega
    · omega
theorem goes_yes {l : List Rb} {i : Nat} (h : 0 ≤ (nth l i).since) : goesGo l i ++ [(nth l i).name] = goesGo l (i + 1) := by simp [goesGo, h]
theorem goes_no {l : List Rb} {i : Nat} (h : (nth l i).since < 0) : goesGo l i = goesGo l (i + 1) := by
  rw [goesGo, if_neg (by simp; omega)]
def goesB (h : Hs) : List Str := if hsOk h = true then goesGo h.batches h.batches.length else []

def cntRb (p : Rb) : Int := 4 + 8 * (p.recipe.length : Int) + 2 * (p.slots.length : Int)
def cntR (l : List Rb) : Nat → Int
  | 0 => 0
  | i + 1 => cntR l i + cntRb (nth l i)
theorem cntR_ge (l : List Rb) (i : Nat) : 4 * (i : Int) ≤ cntR l i := by
  induction i with
  | zero => exact Int.le_refl _
  | succ i ih => simp only [cntR, cntRb]; omega
theorem cntR_mono (l : List Rb) {i j : Nat} (h : i ≤ j) : cntR l i ≤ cntR l j := by
  induction j with
  | zero => have : i = 0 := by omega
            subst this; exact Int.le_refl _
  | succ j ih =>
    by_cases h' : i = j + 1
    · subst h'; exact Int.le_refl _
    · have := ih (by omega)
      simp only [cntR, cntRb]; omega
theorem cntR_small {l : List Rb} (h : ∀ i, i < l.length → smallRb (nth l i)) : ∀ i, i ≤ l.length → cntR l i ≤ 10485764 * (i : Nat) := by
  intro i
  induction i with
  | zero => intro _; exact Int.le_refl _
  | succ i ih =>
    intro hi
    have h1 := ih (by omega)
    have h2 := (h i (by omega)).1
    have h3 := (h i (by omega)).2
    simp only [cntR, cntRb]; omega
def mkRb (p : Rb) (k : Int) : List T := [.str (markT k), mkLPh p.recipe.length (k + 1), mkLSlt p.slots.length (k + 1 + 8 * p.recipe.length), .str (markT (k + 1 + 8 * p.recipe.length + 2 * p.slots.length)), .int .i64 (k + 1 + 8 * p.recipe.length + 2 * p.slots.length + 1), .int .i64 (k + 1 + 8 * p.recipe.length + 2 * p.slots.length + 1 + 1)]
def mkRbs (l : List Rb) (k : Int) : T := .sl 62 6 l.length (fun j => mkRb (nth l j) (k + cntR l j))
def mkRbTo (l : List Rb) (k : Int) (i : Nat) : Nat → List T := fun j => if j < i then mkRb (nth l j) (k + cntR l j) else Rb.cells 68 177 (nth l j)
theorem mkRbTo_at (l : List Rb) (k : Int) (i : Nat) : mkRbTo l k i i = Rb.cells 68 177 (nth l i) := by simp only [mkRbTo, if_neg (Nat.lt_irrefl i)]
theorem mkRbTo_next (l : List Rb) (k : Int) (i j : Nat) (r : List T) (hr : r = mkRb (nth l i) (k + cntR l i)) : putRow (mkRbTo l k i) i r j = mkRbTo l k (i + 1) j := by
  by_cases h : j = i
  · subst h; rw [putRow_self]; simp only [mkRbTo]; rw [if_pos (by omega), hr]
  · rw [putRow_other _ _ _ h]; simp only [mkRbTo]
    by_cases h2 : j < i
    · rw [if_pos h2, if_pos (by omega)]
    · rw [if_neg h2, if_neg (by omega)]
theorem mkRbTo_all (l : List Rb) (k : Int) (i j : Nat) (h : j < i) : mkRbTo l k i j = mkRb (nth l j) (k + cntR l j) := by simp only [mkRbTo, if_pos h]
theorem rbRow1 {l : List Rb} {k : Int} {i : Nat} {x : T} : (setRow (mkRbTo l k i) i 0 x i).getD 1 .dead = phs 68 (nth l i).recipe := setRow_at (mkRbTo_at l k i) rfl
theorem rbRow2 {l : List Rb} {k : Int} {i : Nat} {x y : T} : (setRow (setRow (mkRbTo l k i) i 0 x) i 1 y i).getD 2 .dead = slts 177 (nth l i).slots := by
  rw [setRow_at (r := setRow (mkRbTo l k i) i 0 x i) rfl rfl]
  exact setRow_at (mkRbTo_at l k i) rfl
def mkDn (k : Int) : List T := [.str (markT (k + 0)), .int .i64 (k + 1), .int .i64 (k + 2)]
def mkLDn (n : Nat) (k : Int) : T := .sl 78 3 n (fun i => mkDn (k + 3 * (i : Nat)))
def mkToDn (l : List Dn) (k : Int) (i : Nat) : Nat → List T := fun j => if j < i then mkDn (k + 3 * (j : Nat)) else (nth l j).cells
theorem mkToDn_at (l : List Dn) (k : Int) (i : Nat) : mkToDn l k i i = (nth l i).cells := by simp only [mkToDn, if_neg (Nat.lt_irrefl i)]
theorem mkToDn_next (l : List Dn) (k : Int) (i j : Nat) (r : List T) (hr : r = mkDn (k + 3 * (i : Nat))) : putRow (mkToDn l k i) i r j = mkToDn l k (i + 1) j := by
  by_cases h : j = i
  · subst h; rw [putRow_self]; simp only [mkToDn]; rw [if_pos (by omega), hr]
  · rw [putRow_other _ _ _ h]; simp only [mkToDn]
    by_cases h2 : j < i
    · rw [if_pos h2, if_pos (by omega)]
    · rw [if_neg h2, if_neg (by omega)]
theorem mkToDn_all (l : List Dn) (k : Int) (i j : Nat) (h : j < i) : mkToDn l k i j = mkDn (k + 3 * (j : Nat)) := by simp only [mkToDn, if_pos h]

theorem ykSt38 : structSz Tryz.prog 38 = some 6 := by kernel_rfl
theorem ykCo53 : callOk Tryz.prog 53 = true := by kernel_rfl
theorem ykFo38_3 : fieldOff Tryz.prog 38 3 = some 4 := by kernel_rfl
theorem ykSc35 : scalarB Tryz.prog 35 = true := by kernel_rfl
theorem ykSl35 : sliceT Tryz.prog 35 = some ⟨62, 6, 96⟩ := by kernel_rfl
theorem ykSt62 : structSz Tryz.prog 62 = some 6 := by kernel_rfl
theorem ykZs62 : zeroSz Tryz.prog 62 = some 6 := by kernel_rfl
theorem ykCs62 : cellsSz Tryz.prog 62 = some (5 + 1) := by kernel_rfl
theorem ykFo62_4 : fieldOff Tryz.prog 62 4 = some 4 := by kernel_rfl
theorem ykSc3 : scalarB Tryz.prog 3 = true := by kernel_rfl
theorem ykFo62_0 : fieldOff Tryz.prog 62 0 = some 0 := by kernel_rfl
theorem ykSc9 : scalarB Tryz.prog 9 = true := by kernel_rfl
theorem ykSl22 : sliceT Tryz.prog 22 = some ⟨9, 1, 16⟩ := by kernel_rfl
theorem ykCo49 : callOk Tryz.prog 49 = true := by kernel_rfl
theorem ykCo60 : callOk Tryz.prog 60 = true := by kernel_rfl
theorem ykCs9 : cellsSz Tryz.prog 9 = some (0 + 1) := by kernel_rfl
theorem ykFo62_1 : fieldOff Tryz.prog 62 1 = some 1 := by kernel_rfl
theorem ykSc59 : scalarB Tryz.prog 59 = true := by kernel_rfl
theorem ykCo133 : callOk Tryz.prog 133 = true := by kernel_rfl
theorem ykFo62_2 : fieldOff Tryz.prog 62 2 = some 2 := by kernel_rfl
theorem ykSc60 : scalarB Tryz.prog 60 = true := by kernel_rfl
theorem ykCo134 : callOk Tryz.prog 134 = true := by kernel_rfl
theorem ykFo62_3 : fieldOff Tryz.prog 62 3 = some 3 := by kernel_rfl
theorem ykCs3 : cellsSz Tryz.prog 3 = some (0 + 1) := by kernel_rfl
theorem ykFo62_5 : fieldOff Tryz.prog 62 5 = some 5 := by kernel_rfl
theorem ykSl36 : sliceT Tryz.prog 36 = some ⟨78, 3, 32⟩ := by kernel_rfl
theorem ykFo78_0 : fieldOff Tryz.prog 78 0 = some 0 := by kernel_rfl
theorem ykFo78_1 : fieldOff Tryz.prog 78 1 = some 1 := by kernel_rfl
theorem ykFo78_2 : fieldOff Tryz.prog 78 2 = some 2 := by kernel_rfl
theorem ykFo38_2 : fieldOff Tryz.prog 38 2 = some 2 := by kernel_rfl
theorem ykSt34 : structSz Tryz.prog 34 = some 2 := by kernel_rfl
theorem ykCo57 : callOk Tryz.prog 57 = true := by kernel_rfl
theorem ykCo58 : callOk Tryz.prog 58 = true := by kernel_rfl
theorem ykFo38_4 : fieldOff Tryz.prog 38 4 = some 5 := by kernel_rfl
theorem ykSc36 : scalarB Tryz.prog 36 = true := by kernel_rfl
theorem ykCo59 : callOk Tryz.prog 59 = true := by kernel_rfl
set_option maxHeartbeats 1000000 in
theorem goesI (h : Hs)  : ASpec Tryz.prog 10 [.agg (h.acells 105 62 68 177 78)] (.one (strs (goesB h))) := by
  refine ASpec.body Tryz.func10 rfl [2] rfl 26 rfl rfl rfl ?_
  refine AWp.aggLe 0 rfl (fun hc => ?_)
  have hlb : h.batches.length ≤ 9223372036854775807 := hc (.v (rbs 62 68 177 h.batches)) (by simp [Hs.acells])
  clear hc
  refine AWp.seq (AWp.region ?_)
  refine ARun.step rfl (step_box_p (m := 5) rfl (hn rfl) rfl rfl rfl rfl rfl) ?_
  refine ARun.step rfl (step_assignV rfl (hn rfl) rfl rfl) ?_
  refine ARun.nil ?_
  refine AWp.seq ?_
  refine AWp.seq (AWp.region ?_)
  refine ARun.step rfl (step_loadS_b rfl (hn rfl) rfl ykSt38 rfl rfl rfl (by decide)) ?_
  refine ARun.step rfl (call_step1 rfl (hn rfl) rfl ykCo53 (.cons rfl (.agg (.cons (.v _) (.cons (.v _) (.cons (.v _) (.cons (.v _) (.cons (.v _) (.cons (.v _) .nil))))))) (.nil)) (hsOkI h) rfl) ?_
  refine ARun.step rfl (step_not rfl (hn rfl) rfl rfl) ?_
  refine ARun.nil ?_
  refine AWp.cond rfl (fun c1 => ?_) (fun c1 => ?_)
  · try simp only [nrm] at c1
    refine AWp.seq (AWp.region ?_)
    refine ARun.step rfl (step_assignV rfl (hn rfl) rfl rfl) ?_
    refine ARun.nil ?_
    refine AWp.ret ?_
    refine ⟨.inr rfl, [.one (.sl 9 1 0 (fun i => [.str (nth [] i)]))], [], .cons rfl (.one (.nil _ _ _ _)) (.nil _), rfl, ?_⟩
    rw [goesB, if_neg (by simp [c1])]; rfl
  · try simp only [nrm] at c1
    have hb := (hs_len c1).1
    refine AWp.skip ?_
    refine AWp.seq (AWp.region ?_)
    refine ARun.step rfl (step_assignV rfl (hn rfl) rfl rfl) ?_
    refine ARun.nil ?_
    refine AWp.seq ?_
    refine AWp.seq (AWp.region ?_)
    refine ARun.step rfl (step_field_b rfl (hn rfl) rfl ykFo38_3 rfl (by exact List.cons_ne_nil _ _)) ?_
    refine ARun.step rfl (step_load_b rfl (hn rfl) rfl ykSc35 rfl rfl) ?_
    refine ARun.step rfl (step_len_f rfl (hn rfl) rfl ykSl35 rfl) ?_
    refine ARun.step rfl (step_moveV rfl (hn rfl) rfl rfl) ?_
    refine ARun.nil ?_
    refine AWp.block ?_
    refine AWp.le (Le.nilRef 3 3 9 1 (fun i => [.str (nth [] i)]) rfl rfl) ?_
    refine AWp.loopM (fun i : Nat => mkAS 26 [(3, ⟨true, .one (.ref ⟨.arr 3 0, []⟩)⟩), (10, ⟨true, .one (.v (rbs 62 68 177 h.batches))⟩), (11, ⟨true, .one (.v (.int .i64 (h.batches.length : Nat)))⟩), (12, ⟨true, .one (.v (.int .i64 (i : Nat)))⟩)] [] [(3, 0, strs (goesGo h.batches i))]) (fun i => i ≤ h.batches.length) (fun i => h.batches.length - i) 0 ?_ (Le.forgetR rfl ⟨rfl, rfl, rfl, rfl, trivial⟩ trivial ⟨.refl _, trivial⟩) ?_
    · try dsimp only
      omega
    rintro i hi
    refine AWp.seq (AWp.region ?_)
    refine ARun.step rfl (step_lss rfl (hn rfl) rfl rfl rfl) ?_
    refine ARun.nil ?_
    refine AWp.seq ?_
    refine AWp.cond rfl (fun c2 => ?_) (fun c2 => ?_)
    · try simp only [nrm] at c2
      try have hgl := goesGo_len h.batches i
      refine AWp.skip ?_
      refine AWp.seq ?_
      refine AWp.block ?_
      refine AWp.seq (AWp.region ?_)
      refine ARun.step rfl (step_index_fN rfl (hn rfl) rfl ykSl35 rfl rfl (by omega)) ?_
      refine ARun.step rfl (step_loadS_f rfl (hn rfl) rfl ykSt62 rfl (hn rfl) rfl rfl) ?_
      refine ARun.step rfl (step_alloc_p rfl (hn rfl) rfl ykZs62) ?_
      refine ARun.step rfl (step_store_p rfl rfl ykCs62 rfl rfl rfl rfl rfl rfl rfl) ?_
      refine ARun.nil ?_
      refine AWp.seq (AWp.region ?_)
      refine ARun.step rfl (step_field_b rfl (hn rfl) rfl ykFo62_4 rfl (by exact List.cons_ne_nil _ _)) ?_
      refine ARun.step rfl (step_load_b rfl (hn rfl) rfl ykSc3 rfl rfl) ?_
      refine ARun.step rfl (step_geq rfl (hn rfl) rfl rfl rfl) ?_
      refine ARun.nil ?_
      refine AWp.cond rfl (fun c3 => ?_) (fun c3 => ?_)
      · try simp only [nrm] at c3
        refine AWp.region ?_
        refine ARun.step rfl (step_moveV rfl (hn rfl) rfl rfl) ?_
        refine ARun.step rfl (step_field_b rfl (hn rfl) rfl ykFo62_0 rfl (by exact List.cons_ne_nil _ _)) ?_
        refine ARun.step rfl (step_load_b rfl (hn rfl) rfl ykSc9 rfl rfl) ?_
        refine ARun.step rfl (step_buildVT rfl (hn rfl) rfl ykSl22 (strs [_]) (.cons rfl rfl rfl rfl (.nil _)) rfl rfl rfl (rows1 rfl)) ?_
        refine ARun.step rfl (step_append_strs rfl (hn rfl) rfl ykSl22 rfl rfl rfl (.v _) (by first | omega | (simp only [List.length_cons, List.length_nil, List.length_append, List.length_take, List.length_drop]; omega)) (by first | omega | (simp only [List.length_cons, List.length_nil, List.length_append, List.length_take, List.length_drop]; omega))) ?_
        refine ARun.step rfl (step_assignV rfl (hn rfl) rfl rfl) ?_
        refine ARun.nil ?_
        refine AWp.region ?_
        refine ARun.step rfl (step_addI rfl (hn rfl) rfl rfl rfl (by omega) (by omega)) ?_
        refine ARun.step rfl (step_moveV rfl (hn rfl) rfl rfl) ?_
        refine ARun.nil ?_
        refine ⟨i + 1, ?_, ?_, Le.forgetR rfl ⟨rfl, rfl, rfl, rfl, trivial⟩ trivial ⟨(by first | exact eqv_strs (goes_yes (by omega)) | exact eqv_strs (goes_no (by omega))), trivial⟩⟩
        · try dsimp only
          omega
        · try dsimp only
          omega
      · try simp only [nrm] at c3
        refine AWp.skip ?_
        refine AWp.region ?_
        refine ARun.step rfl (step_addI rfl (hn rfl) rfl rfl rfl (by omega) (by omega)) ?_
        refine ARun.step rfl (step_moveV rfl (hn rfl) rfl rfl) ?_
        refine ARun.nil ?_
        refine ⟨i + 1, ?_, ?_, Le.forgetR rfl ⟨rfl, rfl, rfl, rfl, trivial⟩ trivial ⟨(by first | exact eqv_strs (goes_yes (by omega)) | exact eqv_strs (goes_no (by omega))), trivial⟩⟩
        · try dsimp only
          omega
        · try dsimp only
          omega
    · try simp only [nrm] at c2
      try have hgl := goesGo_len h.batches i
      refine AWp.exit ?_
      refine AWp.seq (AWp.region ?_)
      refine ARun.step rfl (step_moveV rfl (hn rfl) rfl rfl) ?_
      refine ARun.step rfl (step_assignV rfl (hn rfl) rfl rfl) ?_
      refine ARun.nil ?_
      refine AWp.ret ?_
      refine RetIs.ref (.inr rfl) rfl rfl ?_
      rw [show goesB h = goesGo h.batches i by rw [goesB, if_pos c1, show i = h.batches.length by omega]]; rfl
set_option maxHeartbeats 1000000 in
theorem goesS (h : Hs)  : ASpec Tryz.prog 8 [.agg (h.acells 105 62 68 177 78)] (.one (strs (goesB h))) := by
  refine ASpec.body Tryz.func8 rfl [2] rfl 34 rfl rfl rfl ?_
  refine AWp.aggLe 0 rfl (fun hc => ?_)
  have hlb : h.batches.length ≤ 9223372036854775807 := hc (.v (rbs 62 68 177 h.batches)) (by simp [Hs.acells])
  clear hc
  refine AWp.seq (AWp.region ?_)
  refine ARun.step rfl (step_box_p (m := 5) rfl (hn rfl) rfl rfl rfl rfl rfl) ?_
  refine ARun.step rfl (step_assignV rfl (hn rfl) rfl rfl) ?_
  refine ARun.nil ?_
  refine AWp.seq (AWp.region ?_)
  refine ARun.step rfl (step_build0 rfl (hn rfl) rfl ykSl22) ?_
  refine ARun.step rfl (step_assignV rfl (hn rfl) rfl rfl) ?_
  refine ARun.nil ?_
  refine AWp.seq ?_
  refine AWp.seq (AWp.region ?_)
  refine ARun.step rfl (step_assignV rfl (hn rfl) rfl rfl) ?_
  refine ARun.nil ?_
  refine AWp.block ?_
  refine AWp.loopM (fun i : Nat => mkAS 34 [(1, ⟨true, .one (.bptr 1 0)⟩), (3, ⟨true, .one (.ref ⟨.arr 5 0, []⟩)⟩), (4, ⟨true, .one (.v (.int .i64 (i : Nat)))⟩)] [(1, (h.acells 105 62 68 177 78).map C.v)] [(5, 0, strs (goesGo h.batches i))]) (fun i => i ≤ h.batches.length ∧ (hsOk h = false → i = 0)) (fun i => h.batches.length - i) 0 ?_ (Le.forgetR rfl ⟨rfl, rfl, rfl, trivial⟩ ⟨rfl, trivial⟩ ⟨.refl _, trivial⟩) ?_
  · try dsimp only
    exact ⟨by omega, fun _ => rfl⟩
  rintro i ⟨hi, h0⟩
  refine AWp.seq ?_
  refine AWp.seq (AWp.region ?_)
  refine ARun.step rfl (step_moveV rfl (hn rfl) rfl rfl) ?_
  refine ARun.step rfl (step_field_b rfl (hn rfl) rfl ykFo38_3 rfl (by exact List.cons_ne_nil _ _)) ?_
  refine ARun.step rfl (step_load_b rfl (hn rfl) rfl ykSc35 rfl rfl) ?_
  refine ARun.step rfl (step_len_f rfl (hn rfl) rfl ykSl35 rfl) ?_
  refine ARun.step rfl (step_lss rfl (hn rfl) rfl rfl rfl) ?_
  refine ARun.step rfl (step_moveV rfl (hn rfl) rfl rfl) ?_
  refine guardS rfl rfl rfl rfl (hn rfl) (fun g1 g2 => step_loadS_b rfl (hn rfl) rfl ykSt38 rfl rfl rfl (by decide)) ?_
  refine guardS rfl rfl rfl rfl (hn rfl) (fun g1 g2 => call_step1 rfl (hn rfl) rfl ykCo49 (.cons (ev_true rfl (by exact flag2 g1 g2)) (.agg (.cons (.v _) (.cons (.v _) (.cons (.v _) (.cons (.v _) (.cons (.v _) (.cons (.v _) .nil))))))) (.nil)) (hsOkS h) rfl) ?_
  refine ARun.step rfl (step_and rfl (hn rfl) rfl rfl rfl (fun h => (by exact flag1 h))) ?_
  refine ARun.nil ?_
  refine AWp.cond rfl (fun c1 => ?_) (fun c1 => ?_)
  · try simp only [nrm] at c1
    have hb := (hs_len c1.2).1
    have hgl := goesGo_len h.batches i
    refine AWp.skip ?_
    refine AWp.seq ?_
    refine AWp.block ?_
    refine AWp.seq (AWp.region ?_)
    refine ARun.step rfl (step_field_b rfl (hn rfl) rfl ykFo38_3 rfl (by exact List.cons_ne_nil _ _)) ?_
    refine ARun.step rfl (step_load_b rfl (hn rfl) rfl ykSc35 rfl rfl) ?_
    refine ARun.step rfl (step_moveV rfl (hn rfl) rfl rfl) ?_
    refine ARun.step rfl (step_index_fN rfl (hn rfl) rfl ykSl35 rfl rfl (by omega)) ?_
    refine ARun.step rfl (step_field_f rfl (hn rfl) rfl ykFo62_4 rfl) ?_
    refine ARun.step rfl (step_load_f rfl (hn rfl) rfl ykSc3 rfl (hn rfl) rfl) ?_
    refine ARun.step rfl (step_geq rfl (hn rfl) rfl rfl rfl) ?_
    refine ARun.nil ?_
    refine AWp.cond rfl (fun c2 => ?_) (fun c2 => ?_)
    · try simp only [nrm] at c2
      refine AWp.region ?_
      refine ARun.step rfl (step_moveV rfl (hn rfl) rfl rfl) ?_
      refine ARun.step rfl (step_field_b rfl (hn rfl) rfl ykFo38_3 rfl (by exact List.cons_ne_nil _ _)) ?_
      refine ARun.step rfl (step_load_b rfl (hn rfl) rfl ykSc35 rfl rfl) ?_
      refine ARun.step rfl (step_moveV rfl (hn rfl) rfl rfl) ?_
      refine ARun.step rfl (step_index_fN rfl (hn rfl) rfl ykSl35 rfl rfl (by omega)) ?_
      refine ARun.step rfl (step_field_f rfl (hn rfl) rfl ykFo62_0 rfl) ?_
      refine ARun.step rfl (step_load_f rfl (hn rfl) rfl ykSc9 rfl (hn rfl) rfl) ?_
      refine ARun.step rfl (step_buildVT rfl (hn rfl) rfl ykSl22 (strs [_]) (.cons rfl rfl rfl rfl (.nil _)) rfl rfl rfl (rows1 rfl)) ?_
      refine ARun.step rfl (step_append_strs rfl (hn rfl) rfl ykSl22 rfl rfl rfl (.v _) (by first | omega | (simp only [List.length_cons, List.length_nil, List.length_append, List.length_take, List.length_drop]; omega)) (by first | omega | (simp only [List.length_cons, List.length_nil, List.length_append, List.length_take, List.length_drop]; omega))) ?_
      refine ARun.step rfl (step_assignV rfl (hn rfl) rfl rfl) ?_
      refine ARun.nil ?_
      refine AWp.region ?_
      refine ARun.step rfl (step_moveV rfl (hn rfl) rfl rfl) ?_
      refine ARun.step rfl (step_addI rfl (hn rfl) rfl rfl rfl (by omega) (by omega)) ?_
      refine ARun.step rfl (step_assignV rfl (hn rfl) rfl rfl) ?_
      refine ARun.nil ?_
      refine ⟨i + 1, ?_, ?_, Le.forgetR rfl ⟨rfl, rfl, rfl, trivial⟩ ⟨rfl, trivial⟩ ⟨(by first | exact eqv_strs (goes_yes (by omega)) | exact eqv_strs (goes_no (by omega))), trivial⟩⟩
      · try dsimp only
        exact ⟨by omega, fun hx => absurd c1.2 (by simp [hx])⟩
      · try dsimp only
        omega
    · try simp only [nrm] at c2
      refine AWp.skip ?_
      refine AWp.region ?_
      refine ARun.step rfl (step_moveV rfl (hn rfl) rfl rfl) ?_
      refine ARun.step rfl (step_addI rfl (hn rfl) rfl rfl rfl (by omega) (by omega)) ?_
      refine ARun.step rfl (step_assignV rfl (hn rfl) rfl rfl) ?_
      refine ARun.nil ?_
      refine ⟨i + 1, ?_, ?_, Le.forgetR rfl ⟨rfl, rfl, rfl, trivial⟩ ⟨rfl, trivial⟩ ⟨(by first | exact eqv_strs (goes_yes (by omega)) | exact eqv_strs (goes_no (by omega))), trivial⟩⟩
      · try dsimp only
        exact ⟨by omega, fun hx => absurd c1.2 (by simp [hx])⟩
      · try dsimp only
        omega
  · try simp only [nrm] at c1
    refine AWp.exit ?_
    refine AWp.seq (AWp.region ?_)
    refine ARun.step rfl (step_moveV rfl (hn rfl) rfl rfl) ?_
    refine ARun.step rfl (step_assignV rfl (hn rfl) rfl rfl) ?_
    refine ARun.nil ?_
    refine AWp.ret ?_
    refine RetIs.ref (.inr rfl) rfl rfl ?_
    have e : goesB h = goesGo h.batches i := by
      cases hh : hsOk h with
      | true => rw [goesB, if_pos hh, show h.batches.length = i by grind]
      | false => rw [goesB, if_neg (by simp [hh]), h0 hh]; rfl
    rw [e]; rfl
set_option maxHeartbeats 1000000 in
theorem markRbS (l : List Rb) (k : Int) (h0 : 0 ≤ k) (h1 : k + cntR l l.length ≤ 1152921504606846976) : MSpec Tryz.prog 58 [.one (.rw (rbsO 62 68 177 l) (mkRbs l k)), .one (.ro (.int .i64 k))] (.int .i64 (k + cntR l l.length)) := by
  refine MSpec.body Tryz.func58 rfl 4 rfl 57 rfl rfl rfl rfl ?_
  refine AWp.seq (AWp.region ?_)
  refine ARun.step rfl (step_assignV rfl (hn rfl) rfl rfl) ?_
  refine ARun.nil ?_
  refine AWp.seq ?_
  refine AWp.seq (AWp.region ?_)
  refine ARun.step rfl (step_assignV rfl (hn rfl) rfl rfl) ?_
  refine ARun.nil ?_
  refine AWp.block ?_
  refine AWp.loopM (fun x : Nat × Int => mkAS 57 [(0, ⟨true, .one (.ref ⟨.arr 1000000 0, []⟩)⟩), (1, ⟨true, .one (.v (.int .i64 x.2))⟩), (5, ⟨true, .one (.v (.int .i64 (x.1 : Nat)))⟩)] [] [(1000000, 0, .sl 62 6 l.length (mkRbTo l k x.1))]) (fun x => x.1 ≤ l.length ∧ x.2 = k + cntR l x.1) (fun x => l.length - x.1) (0, k) ?_ (Le.forgetR rfl ⟨rfl, rfl, rfl, trivial⟩ trivial ⟨.rows (fun _ _ => rfl), trivial⟩) ?_
  · try dsimp only
    exact ⟨by omega, by simp [cntR]⟩
  rintro x ⟨hi, hk⟩
  refine AWp.seq ?_
  refine AWp.seq (AWp.region ?_)
  refine ARun.step rfl (step_moveV rfl (hn rfl) rfl rfl) ?_
  refine ARun.step rfl (step_moveV rfl (hn rfl) rfl rfl) ?_
  refine ARun.step rfl (step_len_r rfl (hn rfl) rfl ykSl35 rfl rfl) ?_
  refine ARun.step rfl (step_lss rfl (hn rfl) rfl rfl rfl) ?_
  refine ARun.nil ?_
  refine AWp.cond rfl (fun c1 => ?_) (fun c1 => ?_)
  · try simp only [nrm] at c1
    have m0 := cntR_ge l x.1
    have m3 := cntR_ge l l.length
    have m1 : cntR l (x.1 + 1) = cntR l x.1 + cntRb (nth l x.1) := rfl
    have m2 := cntR_mono l (i := x.1 + 1) (j := l.length) (by omega)
    unfold cntRb at m1
    refine AWp.skip ?_
    refine AWp.seq ?_
    refine AWp.block ?_
    refine AWp.seq (AWp.region ?_)
    refine ARun.step rfl (step_moveV rfl (hn rfl) rfl rfl) ?_
    refine ARun.step rfl (step_moveV rfl (hn rfl) rfl rfl) ?_
    refine ARun.step rfl (step_moveV rfl (hn rfl) rfl rfl) ?_
    refine ARun.step rfl (call_step1 rfl (hn rfl) rfl ykCo60 (.cons rfl (.one (.v _)) (.nil)) (markText _ (by omega) (by omega)) rfl) ?_
    refine ARun.step rfl (step_index_rN rfl (hn rfl) rfl ykSl35 rfl rfl rfl (by omega)) ?_
    refine ARun.step rfl (step_field_e rfl (hn rfl) rfl ykFo62_0 rfl rfl) ?_
    refine ARun.step rfl (step_store_e rfl rfl ykCs9 rfl rfl (by omega) (hn rfl) rfl rfl rfl) ?_
    refine ARun.nil ?_
    refine AWp.seq (AWp.region ?_)
    refine ARun.step rfl (step_moveV rfl (hn rfl) rfl rfl) ?_
    refine ARun.step rfl (step_addI rfl (hn rfl) rfl rfl rfl (by omega) (by omega)) ?_
    refine ARun.step rfl (step_assignV rfl (hn rfl) rfl rfl) ?_
    refine ARun.nil ?_
    refine AWp.seq (AWp.region ?_)
    refine ARun.step rfl (step_moveV rfl (hn rfl) rfl rfl) ?_
    refine ARun.step rfl (step_moveV rfl (hn rfl) rfl rfl) ?_
    refine ARun.step rfl (step_index_rN rfl (hn rfl) rfl ykSl35 rfl rfl rfl (by omega)) ?_
    refine ARun.step rfl (step_field_e rfl (hn rfl) rfl ykFo62_1 rfl rfl) ?_
    refine ARun.step rfl (step_load_e rfl (hn rfl) rfl ykSc59 rfl rfl (by omega) (hn rfl) rbRow1) ?_
    refine ARun.step rfl (step_moveV rfl (hn rfl) rfl rfl) ?_
    refine ARun.step rfl (mcall_one (K := 0) (i := 0) (j := 0) rfl (hn rfl) rfl ykCo133 (.cons rfl (.one (.rw _ rfl ((node_push _ _ _ _ rfl (by omega)).trans rbRow1) rfl)) (.cons rfl (.one (.v (.refl _))) (.nil _))) (phMark (nth l x.1).recipe _ (by omega) (by omega)) rfl rfl rfl rfl ((node_push _ _ _ _ rfl (by omega)).trans rbRow1) rfl rfl) ?_
    refine ARun.step rfl (step_assignV rfl (hn rfl) rfl rfl) ?_
    refine ARun.nil ?_
    refine AWp.seq (AWp.region ?_)
    refine ARun.step rfl (step_moveV rfl (hn rfl) rfl rfl) ?_
    refine ARun.step rfl (step_moveV rfl (hn rfl) rfl rfl) ?_
    refine ARun.step rfl (step_index_rN rfl (hn rfl) rfl ykSl35 rfl rfl rfl (by omega)) ?_
    refine ARun.step rfl (step_field_e rfl (hn rfl) rfl ykFo62_2 rfl rfl) ?_
    refine ARun.step rfl (step_load_e rfl (hn rfl) rfl ykSc60 rfl rfl (by omega) (hn rfl) rbRow2) ?_
    refine ARun.step rfl (step_moveV rfl (hn rfl) rfl rfl) ?_
    refine ARun.step rfl (mcall_one (K := 0) (i := 0) (j := 0) rfl (hn rfl) rfl ykCo134 (.cons rfl (.one (.rw _ rfl ((node_push _ _ _ _ rfl (by omega)).trans rbRow2) rfl)) (.cons rfl (.one (.v (.refl _))) (.nil _))) (sltMark (nth l x.1).slots _ (by omega) (by omega)) rfl rfl rfl rfl ((node_push _ _ _ _ rfl (by omega)).trans rbRow2) rfl rfl) ?_
    refine ARun.step rfl (step_assignV rfl (hn rfl) rfl rfl) ?_
    refine ARun.nil ?_
    refine AWp.seq (AWp.region ?_)
    refine ARun.step rfl (step_moveV rfl (hn rfl) rfl rfl) ?_
    refine ARun.step rfl (step_moveV rfl (hn rfl) rfl rfl) ?_
    refine ARun.step rfl (step_moveV rfl (hn rfl) rfl rfl) ?_
    refine ARun.step rfl (call_step1 rfl (hn rfl) rfl ykCo60 (.cons rfl (.one (.v _)) (.nil)) (markText _ (by omega) (by omega)) rfl) ?_
    refine ARun.step rfl (step_index_rN rfl (hn rfl) rfl ykSl35 rfl rfl rfl (by omega)) ?_
    refine ARun.step rfl (step_field_e rfl (hn rfl) rfl ykFo62_3 rfl rfl) ?_
    refine ARun.step rfl (step_store_e rfl rfl ykCs9 rfl rfl (by omega) (hn rfl) rfl rfl rfl) ?_
    refine ARun.nil ?_
    refine AWp.seq (AWp.region ?_)
    refine ARun.step rfl (step_moveV rfl (hn rfl) rfl rfl) ?_
    refine ARun.step rfl (step_addI rfl (hn rfl) rfl rfl rfl (by omega) (by omega)) ?_
    refine ARun.step rfl (step_assignV rfl (hn rfl) rfl rfl) ?_
    refine ARun.nil ?_
    refine AWp.seq (AWp.region ?_)
    refine ARun.step rfl (step_moveV rfl (hn rfl) rfl rfl) ?_
    refine ARun.step rfl (step_moveV rfl (hn rfl) rfl rfl) ?_
    refine ARun.step rfl (step_moveV rfl (hn rfl) rfl rfl) ?_
    refine ARun.step rfl (step_index_rN rfl (hn rfl) rfl ykSl35 rfl rfl rfl (by omega)) ?_
    refine ARun.step rfl (step_field_e rfl (hn rfl) rfl ykFo62_4 rfl rfl) ?_
    refine ARun.step rfl (step_store_e rfl rfl ykCs3 rfl rfl (by omega) (hn rfl) rfl rfl rfl) ?_
    refine ARun.nil ?_
    refine AWp.seq (AWp.region ?_)
    refine ARun.step rfl (step_moveV rfl (hn rfl) rfl rfl) ?_
    refine ARun.step rfl (step_addI rfl (hn rfl) rfl rfl rfl (by omega) (by omega)) ?_
    refine ARun.step rfl (step_assignV rfl (hn rfl) rfl rfl) ?_
    refine ARun.nil ?_
    refine AWp.seq (AWp.region ?_)
    refine ARun.step rfl (step_moveV rfl (hn rfl) rfl rfl) ?_
    refine ARun.step rfl (step_moveV rfl (hn rfl) rfl rfl) ?_
    refine ARun.step rfl (step_moveV rfl (hn rfl) rfl rfl) ?_
    refine ARun.step rfl (step_index_rN rfl (hn rfl) rfl ykSl35 rfl rfl rfl (by omega)) ?_
    refine ARun.step rfl (step_field_e rfl (hn rfl) rfl ykFo62_5 rfl rfl) ?_
    refine ARun.step rfl (step_store_e rfl rfl ykCs3 rfl rfl (by omega) (hn rfl) rfl rfl rfl) ?_
    refine ARun.nil ?_
    refine AWp.region ?_
    refine ARun.step rfl (step_moveV rfl (hn rfl) rfl rfl) ?_
    refine ARun.step rfl (step_addI rfl (hn rfl) rfl rfl rfl (by omega) (by omega)) ?_
    refine ARun.step rfl (step_assignV rfl (hn rfl) rfl rfl) ?_
    refine ARun.nil ?_
    refine AWp.region ?_
    refine ARun.step rfl (step_moveV rfl (hn rfl) rfl rfl) ?_
    refine ARun.step rfl (step_addI rfl (hn rfl) rfl rfl rfl (by omega) (by omega)) ?_
    refine ARun.step rfl (step_assignV rfl (hn rfl) rfl rfl) ?_
    refine ARun.nil ?_
    refine ⟨(x.1 + 1, x.2 + 1 + 8 * (nth l x.1).recipe.length + 2 * (nth l x.1).slots.length + 1 + 1 + 1), ?_, ?_, Le.forgetR rfl ⟨rfl, rfl, rfl, trivial⟩ trivial ⟨.rows (fun j _ => by rw [setRowN6 (by rw [mkRbTo_at]; rfl)]; exact mkRbTo_next l k x.1 j _ (by rw [hk]; rfl)), trivial⟩⟩
    · try dsimp only
      exact ⟨by omega, by omega⟩
    · try dsimp only
      omega
  · try simp only [nrm] at c1
    refine AWp.exit ?_
    refine AWp.seq (AWp.region ?_)
    refine ARun.step rfl (step_moveV rfl (hn rfl) rfl rfl) ?_
    refine ARun.step rfl (step_assignV rfl (hn rfl) rfl rfl) ?_
    refine ARun.nil ?_
    refine AWp.ret ?_
    refine RetIs.mk (.inr rfl) rfl rfl ?_ ⟨⟨⟨_, _, _, _, _, rfl, rfl, .rows (fun j hj => mkRbTo_all l k _ j (by omega))⟩, trivial⟩, ⟨trivial, trivial⟩⟩
    refine congrArg (T.int _) ?_
    rw [hk, show x.1 = l.length by omega]
theorem dnMark (l : List Dn) (k : Int) (h0 : 0 ≤ k) (h1 : k + 3 * l.length ≤ 1152921504606846976) : MSpec Tryz.prog 59 [.one (.rw (dns 78 l) (mkLDn l.length k)), .one (.ro (.int .i64 k))] (.int .i64 (k + 3 * l.length)) := by
  refine MSpec.body Tryz.func59 rfl 4 rfl 35 rfl rfl rfl rfl ?_
  refine AWp.seq (AWp.region ?_)
  refine ARun.step rfl (step_assignV rfl (hn rfl) rfl rfl) ?_
  refine ARun.nil ?_
  refine AWp.seq ?_
  refine AWp.seq (AWp.region ?_)
  refine ARun.step rfl (step_assignV rfl (hn rfl) rfl rfl) ?_
  refine ARun.nil ?_
  refine AWp.block ?_
  refine AWp.loopM (fun x : Nat × Int => mkAS 35 [(0, ⟨true, .one (.ref ⟨.arr 1000000 0, []⟩)⟩), (1, ⟨true, .one (.v (.int .i64 x.2))⟩), (5, ⟨true, .one (.v (.int .i64 (x.1 : Nat)))⟩)] [] [(1000000, 0, .sl 78 3 l.length (mkToDn l k x.1))]) (fun x => x.1 ≤ l.length ∧ x.2 = k + 3 * (x.1 : Nat)) (fun x => l.length - x.1) (0, k) ?_ (Le.forgetR rfl ⟨rfl, rfl, rfl, trivial⟩ trivial ⟨.rows (fun _ _ => rfl), trivial⟩) ?_
  · try dsimp only
    exact ⟨by omega, by simp⟩
  rintro x ⟨hi, hk⟩
  refine AWp.seq ?_
  refine AWp.seq (AWp.region ?_)
  refine ARun.step rfl (step_moveV rfl (hn rfl) rfl rfl) ?_
  refine ARun.step rfl (step_moveV rfl (hn rfl) rfl rfl) ?_
  refine ARun.step rfl (step_len_r rfl (hn rfl) rfl ykSl36 rfl rfl) ?_
  refine ARun.step rfl (step_lss rfl (hn rfl) rfl rfl rfl) ?_
  refine ARun.nil ?_
  refine AWp.cond rfl (fun c1 => ?_) (fun c1 => ?_)
  · try simp only [nrm] at c1
    refine AWp.skip ?_
    refine AWp.seq ?_
    refine AWp.block ?_
    refine AWp.seq (AWp.region ?_)
    refine ARun.step rfl (step_moveV rfl (hn rfl) rfl rfl) ?_
    refine ARun.step rfl (step_moveV rfl (hn rfl) rfl rfl) ?_
    refine ARun.step rfl (step_moveV rfl (hn rfl) rfl rfl) ?_
    refine ARun.step rfl (call_step1 rfl (hn rfl) rfl ykCo60 (.cons rfl (.one (.v _)) (.nil)) (markText _ (by omega) (by omega)) rfl) ?_
    refine ARun.step rfl (step_index_rN rfl (hn rfl) rfl ykSl36 rfl rfl rfl (by omega)) ?_
    refine ARun.step rfl (step_field_e rfl (hn rfl) rfl ykFo78_0 rfl rfl) ?_
    refine ARun.step rfl (step_store_e rfl rfl ykCs9 rfl rfl (by omega) (hn rfl) rfl rfl rfl) ?_
    refine ARun.nil ?_
    refine AWp.seq (AWp.region ?_)
    refine ARun.step rfl (step_moveV rfl (hn rfl) rfl rfl) ?_
    refine ARun.step rfl (step_addI rfl (hn rfl) rfl rfl rfl (by omega) (by omega)) ?_
    refine ARun.step rfl (step_assignV rfl (hn rfl) rfl rfl) ?_
    refine ARun.nil ?_
    refine AWp.seq (AWp.region ?_)
    refine ARun.step rfl (step_moveV rfl (hn rfl) rfl rfl) ?_
    refine ARun.step rfl (step_moveV rfl (hn rfl) rfl rfl) ?_
    refine ARun.step rfl (step_moveV rfl (hn rfl) rfl rfl) ?_
    refine ARun.step rfl (step_index_rN rfl (hn rfl) rfl ykSl36 rfl rfl rfl (by omega)) ?_
    refine ARun.step rfl (step_field_e rfl (hn rfl) rfl ykFo78_1 rfl rfl) ?_
    refine ARun.step rfl (step_store_e rfl rfl ykCs3 rfl rfl (by omega) (hn rfl) rfl rfl rfl) ?_
    refine ARun.nil ?_
    refine AWp.seq (AWp.region ?_)
    refine ARun.step rfl (step_moveV rfl (hn rfl) rfl rfl) ?_
    refine ARun.step rfl (step_addI rfl (hn rfl) rfl rfl rfl (by omega) (by omega)) ?_
    refine ARun.step rfl (step_assignV rfl (hn rfl) rfl rfl) ?_
    refine ARun.nil ?_
    refine AWp.seq (AWp.region ?_)
    refine ARun.step rfl (step_moveV rfl (hn rfl) rfl rfl) ?_
    refine ARun.step rfl (step_moveV rfl (hn rfl) rfl rfl) ?_
    refine ARun.step rfl (step_moveV rfl (hn rfl) rfl rfl) ?_
    refine ARun.step rfl (step_index_rN rfl (hn rfl) rfl ykSl36 rfl rfl rfl (by omega)) ?_
    refine ARun.step rfl (step_field_e rfl (hn rfl) rfl ykFo78_2 rfl rfl) ?_
    refine ARun.step rfl (step_store_e rfl rfl ykCs3 rfl rfl (by omega) (hn rfl) rfl rfl rfl) ?_
    refine ARun.nil ?_
    refine AWp.region ?_
    refine ARun.step rfl (step_moveV rfl (hn rfl) rfl rfl) ?_
    refine ARun.step rfl (step_addI rfl (hn rfl) rfl rfl rfl (by omega) (by omega)) ?_
    refine ARun.step rfl (step_assignV rfl (hn rfl) rfl rfl) ?_
    refine ARun.nil ?_
    refine AWp.region ?_
    refine ARun.step rfl (step_moveV rfl (hn rfl) rfl rfl) ?_
    refine ARun.step rfl (step_addI rfl (hn rfl) rfl rfl rfl (by omega) (by omega)) ?_
    refine ARun.step rfl (step_assignV rfl (hn rfl) rfl rfl) ?_
    refine ARun.nil ?_
    refine ⟨(x.1 + 1, x.2 + 1 + 1 + 1), ?_, ?_, Le.forgetR rfl ⟨rfl, rfl, rfl, trivial⟩ trivial ⟨.rows (fun j _ => by rw [setRow3 (by rw [mkToDn_at]; rfl)]; exact mkToDn_next l k x.1 j _ (by rw [hk]; simp only [mkDn, Int.add_assoc, Int.add_zero]; rfl)), trivial⟩⟩
    · try dsimp only
      exact ⟨by omega, by omega⟩
    · try dsimp only
      omega
  · try simp only [nrm] at c1
    refine AWp.exit ?_
    refine AWp.seq (AWp.region ?_)
    refine ARun.step rfl (step_moveV rfl (hn rfl) rfl rfl) ?_
    refine ARun.step rfl (step_assignV rfl (hn rfl) rfl rfl) ?_
    refine ARun.nil ?_
    refine AWp.ret ?_
    refine RetIs.mk (.inr rfl) rfl rfl ?_ ⟨⟨⟨_, _, _, _, _, rfl, rfl, .rows (fun j hj => mkToDn_all l k _ j (by omega))⟩, trivial⟩, ⟨trivial, trivial⟩⟩
    refine congrArg (T.int _) ?_
    omega
set_option maxHeartbeats 1000000 in
theorem markHs (h : Hs) (k : Int) (h0 : 0 ≤ k) (h1 : k + h.share.things.length + cntTo h.share.bs h.share.bs.length + cntR h.batches h.batches.length + 3 * h.dones.length ≤ 1152921504606846976) : MSpec Tryz.prog 13 [.agg [.ro (.int .i64 h.now), .ro (.int .i64 h.last), .rw (strs h.share.things) (mkS h.share.things.length k), .rw (btsO 105 h.share.bs) (mkBts h.share.bs (k + h.share.things.length)), .rw (rbsO 62 68 177 h.batches) (mkRbs h.batches (k + h.share.things.length + cntTo h.share.bs h.share.bs.length)), .rw (dns 78 h.dones) (mkLDn h.dones.length (k + h.share.things.length + cntTo h.share.bs h.share.bs.length + cntR h.batches h.batches.length))], .one (.ro (.int .i64 k))] (.int .i64 (k + h.share.things.length + cntTo h.share.bs h.share.bs.length + cntR h.batches h.batches.length + 3 * h.dones.length)) := by
  refine MSpec.body Tryz.func13 rfl 4 rfl 18 rfl rfl rfl rfl ?_
  have m0 := cntTo_nn h.share.bs h.share.bs.length
  have m1 := cntR_ge h.batches h.batches.length
  refine AWp.seq (AWp.region ?_)
  refine ARun.step rfl (step_box_r (m := 5) rfl (hn rfl) rfl rfl rfl rfl rfl) ?_
  refine ARun.step rfl (step_assignV rfl (hn rfl) rfl rfl) ?_
  refine ARun.nil ?_
  refine AWp.seq (AWp.region ?_)
  refine ARun.step rfl (step_field_b rfl (hn rfl) rfl ykFo38_2 rfl (by exact List.cons_ne_nil _ _)) ?_
  refine ARun.step rfl (step_loadS_b rfl (hn rfl) rfl ykSt34 rfl rfl rfl (by decide)) ?_
  refine ARun.step rfl (step_moveV rfl (hn rfl) rfl rfl) ?_
  refine ARun.step rfl (mcall_roots (L := [(⟨.arr 1000000 2, []⟩, 0), (⟨.arr 1000000 3, []⟩, 1)]) (TL := [(1000000, 2, _), (1000000, 3, _)]) rfl (hn rfl) rfl ykCo57 rfl (.cons rfl (.agg (.cons (.rw _ rfl rfl rfl) (.cons (.rw _ rfl rfl rfl) (.nil _)))) (.cons rfl (.one (.v (.refl _))) (.nil _))) (markBk h.share k (by omega) (by omega)) rfl (.cons (i := 0) (j := 0) rfl rfl rfl rfl rfl rfl (.cons (i := 0) (j := 1) rfl rfl rfl rfl rfl rfl .nil))) ?_
  refine ARun.step rfl (step_assignV rfl (hn rfl) rfl rfl) ?_
  refine ARun.nil ?_
  refine AWp.seq (AWp.region ?_)
  refine ARun.step rfl (step_field_b rfl (hn rfl) rfl ykFo38_3 rfl (by exact List.cons_ne_nil _ _)) ?_
  refine ARun.step rfl (step_load_b rfl (hn rfl) rfl ykSc35 rfl rfl) ?_
  refine ARun.step rfl (step_moveV rfl (hn rfl) rfl rfl) ?_
  refine ARun.step rfl (mcall_roots (L := [(⟨.arr 1000000 4, []⟩, 0)]) (TL := [(1000000, 4, _)]) rfl (hn rfl) rfl ykCo58 rfl (.cons rfl (.one (.rw _ rfl rfl rfl)) (.cons rfl (.one (.v (.refl _))) (.nil _))) (markRbS h.batches _ (by omega) (by omega)) rfl (.cons (i := 0) (j := 0) rfl rfl rfl rfl rfl rfl .nil)) ?_
  refine ARun.step rfl (step_assignV rfl (hn rfl) rfl rfl) ?_
  refine ARun.nil ?_
  refine AWp.seq (AWp.region ?_)
  refine ARun.step rfl (step_field_b rfl (hn rfl) rfl ykFo38_4 rfl (by exact List.cons_ne_nil _ _)) ?_
  refine ARun.step rfl (step_load_b rfl (hn rfl) rfl ykSc36 rfl rfl) ?_
  refine ARun.step rfl (step_moveV rfl (hn rfl) rfl rfl) ?_
  refine ARun.step rfl (mcall_roots (L := [(⟨.arr 1000000 5, []⟩, 0)]) (TL := [(1000000, 5, _)]) rfl (hn rfl) rfl ykCo59 rfl (.cons rfl (.one (.rw _ rfl rfl rfl)) (.cons rfl (.one (.v (.refl _))) (.nil _))) (dnMark h.dones _ (by omega) (by omega)) rfl (.cons (i := 0) (j := 0) rfl rfl rfl rfl rfl rfl .nil)) ?_
  refine ARun.step rfl (step_assignV rfl (hn rfl) rfl rfl) ?_
  refine ARun.nil ?_
  refine AWp.seq (AWp.region ?_)
  refine ARun.step rfl (step_moveV rfl (hn rfl) rfl rfl) ?_
  refine ARun.step rfl (step_assignV rfl (hn rfl) rfl rfl) ?_
  refine ARun.nil ?_
  refine AWp.ret ?_
  refine RetIs.mk (.inr rfl) rfl rfl ?_ ⟨⟨⟨_, _, _, _, _, rfl, rfl, .refl _⟩, ⟨⟨_, _, _, _, _, rfl, rfl, .refl _⟩, ⟨⟨_, _, _, _, _, rfl, rfl, .refl _⟩, ⟨⟨_, _, _, _, _, rfl, rfl, .refl _⟩, trivial⟩⟩⟩⟩, ⟨trivial, trivial⟩⟩
  refine congrArg (T.int _) ?_
  rfl

end Go.Proofs.YtkmacjdigkaabaaGreat
