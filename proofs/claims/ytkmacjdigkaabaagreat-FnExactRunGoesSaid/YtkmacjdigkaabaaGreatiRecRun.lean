/- Contracts of functions of the program, each met by its body; conditions stand in each statement. No condition. -/
import Derived.Test.YtkmacjdigkaabaaGreatiRecB
import Derived.Test.YtkmacjdigkaabaaGreatGh
import Derived.Test.YtkmacjdigkaabaaGreatProg
import Derived.KernelRfl
set_option linter.unusedVariables false
set_option linter.unusedSimpArgs false
set_option linter.unnecessarySimpa false
set_option linter.unusedSimpArgs false
set_option maxRecDepth 100000
namespace Go.Proofs.YtkmacjdigkaabaaGreat
open Go Go.Mh
def mkPh (k : Int) : List T := [.str (markT (k + 0)), .int .i64 (k + 1), .str (markT (k + 2)), .str (markT (k + 3)), .int .i64 (k + 4), .int .i64 (k + 5), .str (markT (k + 6)), .str (markT (k + 7))]
def mkLPh (n : Nat) (k : Int) : T := .sl 68 8 n (fun i => mkPh (k + 8 * (i : Nat)))
def mkToPh (l : List Ph) (k : Int) (i : Nat) : Nat → List T := fun j => if j < i then mkPh (k + 8 * (j : Nat)) else (nth l j).cells
theorem mkToPh_at (l : List Ph) (k : Int) (i : Nat) : mkToPh l k i i = (nth l i).cells := by simp only [mkToPh, if_neg (Nat.lt_irrefl i)]
theorem mkToPh_next (l : List Ph) (k : Int) (i j : Nat) (r : List T) (hr : r = mkPh (k + 8 * (i : Nat))) : putRow (mkToPh l k i) i r j = mkToPh l k (i + 1) j := by
  by_cases h : j = i
  · subst h; rw [putRow_self]; simp only [mkToPh]; rw [if_pos (by omega), hr]
  · rw [putRow_other _ _ _ h]; simp only [mkToPh]
    by_cases h2 : j < i
    · rw [if_pos h2, if_pos (by omega)]
    · rw [if_neg h2, if_neg (by omega)]
theorem mkToPh_all (l : List Ph) (k : Int) (i j : Nat) (h : j < i) : mkToPh l k i j = mkPh (k + 8 * (j : Nat)) := by simp only [mkToPh, if_pos h]
theorem setRowN8 {f : Nat → List T} {i : Nat} {a0 a1 a2 a3 a4 a5 a6 a7 : T} (h : (f i).length = 8) : setRow (setRow (setRow (setRow (setRow (setRow (setRow (setRow f i 0 a0) i 1 a1) i 2 a2) i 3 a3) i 4 a4) i 5 a5) i 6 a6) i 7 a7 = putRow f i [a0, a1, a2, a3, a4, a5, a6, a7] := by
  funext k
  by_cases hk : k = i
  · subst hk
    simp only [Mh.setRow_self, putRow_self]
    match f k, h with
    | [x0, x1, x2, x3, x4, x5, x6, x7], _ => rfl
  · simp only [Mh.setRow_other _ _ _ _ hk, putRow_other _ _ _ hk]
structure Say where
  ticks : Int
  well : Bool
deriving Inhabited
def Say.cells (p : Say) : List T := [.int .i64 p.ticks, .bool p.well]
theorem setRowN2 {f : Nat → List T} {i : Nat} {a0 a1 : T} (h : (f i).length = 2) : setRow (setRow f i 0 a0) i 1 a1 = putRow f i [a0, a1] := by
  funext k
  by_cases hk : k = i
  · subst hk
    simp only [Mh.setRow_self, putRow_self]
    match f k, h with
    | [x0, x1], _ => rfl
  · simp only [Mh.setRow_other _ _ _ _ hk, putRow_other _ _ _ hk]

structure RSt where
  at_ : Str
  now : Int
  left : Int
deriving Inhabited
def RSt.cells (p : RSt) : List T := [.str p.at_, .int .i64 p.now, .int .i64 p.left]
theorem okAt_of {l : List Ph} (hl : recOk l = true) {i : Nat} (hi : i < l.length) : okAt l i = true := by
  rw [recOk_eq, Bool.and_eq_true, List.all_eq_true] at hl
  exact hl.2 i (List.mem_range.2 hi)
theorem recOk_len {l : List Ph} (hl : recOk l = true) : 1 ≤ l.length ∧ l.length ≤ 12 := by
  rw [recOk_eq, Bool.and_eq_true] at hl
  have := hl.1
  simp only [inB, Bool.and_eq_true, decide_eq_true_eq] at this
  omega
theorem within_ok {l : List Ph} (hl : recOk l = true) {i : Nat} (hi : i < l.length) : 1 ≤ (nth l i).within ∧ (nth l i).within ≤ 1000 := by
  have h := okAt_of hl hi
  simp only [okAt, phaseOk, inB, Bool.and_eq_true, decide_eq_true_eq] at h
  omega
theorem ysZs68 : zeroSz Tryz.prog 68 = some 8 := by kernel_rfl
theorem ysFo229_0 : fieldOff Tryz.prog 229 0 = some 0 := by kernel_rfl
theorem ysSc9 : scalarB Tryz.prog 9 = true := by kernel_rfl
theorem ysFo68_0 : fieldOff Tryz.prog 68 0 = some 0 := by kernel_rfl
theorem ysCs9 : cellsSz Tryz.prog 9 = some (0 + 1) := by kernel_rfl
theorem ysFo229_1 : fieldOff Tryz.prog 229 1 = some 1 := by kernel_rfl
theorem ysSc3 : scalarB Tryz.prog 3 = true := by kernel_rfl
theorem ysFo68_1 : fieldOff Tryz.prog 68 1 = some 1 := by kernel_rfl
theorem ysCs3 : cellsSz Tryz.prog 3 = some (0 + 1) := by kernel_rfl
theorem ysFo229_2 : fieldOff Tryz.prog 229 2 = some 2 := by kernel_rfl
theorem ysFo68_2 : fieldOff Tryz.prog 68 2 = some 2 := by kernel_rfl
theorem ysFo229_3 : fieldOff Tryz.prog 229 3 = some 3 := by kernel_rfl
theorem ysFo68_3 : fieldOff Tryz.prog 68 3 = some 3 := by kernel_rfl
theorem ysFo229_4 : fieldOff Tryz.prog 229 4 = some 4 := by kernel_rfl
theorem ysFo68_4 : fieldOff Tryz.prog 68 4 = some 4 := by kernel_rfl
theorem ysFo229_5 : fieldOff Tryz.prog 229 5 = some 5 := by kernel_rfl
theorem ysFo68_5 : fieldOff Tryz.prog 68 5 = some 5 := by kernel_rfl
theorem ysFo229_6 : fieldOff Tryz.prog 229 6 = some 6 := by kernel_rfl
theorem ysFo68_6 : fieldOff Tryz.prog 68 6 = some 6 := by kernel_rfl
theorem ysFo229_7 : fieldOff Tryz.prog 229 7 = some 7 := by kernel_rfl
theorem ysFo68_7 : fieldOff Tryz.prog 68 7 = some 7 := by kernel_rfl
theorem ysSt68 : structSz Tryz.prog 68 = some 8 := by kernel_rfl
theorem ysCs68 : cellsSz Tryz.prog 68 = some (7 + 1) := by kernel_rfl
theorem ysSl138 : sliceT Tryz.prog 138 = some ⟨229, 8, 104⟩ := by kernel_rfl
theorem ysSl59 : sliceT Tryz.prog 59 = some ⟨68, 8, 104⟩ := by kernel_rfl
theorem ysSt229 : structSz Tryz.prog 229 = some 8 := by kernel_rfl
theorem ysCo222 : callOk Tryz.prog 222 = true := by kernel_rfl
theorem ysCo224 : callOk Tryz.prog 224 = true := by kernel_rfl
theorem ysMo : Tryz.prog.follows .mixedOrders = true := by kernel_rfl
theorem ysCo60 : callOk Tryz.prog 60 = true := by kernel_rfl
theorem phTo (p : Ph)  : ASpec Tryz.prog 222 [.agg p.cells] (.agg p.cells) := by
  refine ASpec.bodyC Tryz.func222 rfl 2 68 [] rfl rfl 29 rfl rfl rfl ?_
  refine AWp.seq (AWp.region ?_)
  refine ARun.step rfl (step_box_p (m := 7) rfl (hn rfl) rfl rfl rfl rfl rfl) ?_
  refine ARun.step rfl (step_alloc_p rfl (hn rfl) rfl ysZs68) ?_
  refine ARun.nil ?_
  refine AWp.seq (AWp.region ?_)
  refine ARun.step rfl (step_alloc_p rfl (hn rfl) rfl ysZs68) ?_
  refine ARun.nil ?_
  refine AWp.seq (AWp.region ?_)
  refine ARun.step rfl (step_field_b rfl (hn rfl) rfl ysFo229_0 rfl (by exact List.cons_ne_nil _ _)) ?_
  refine ARun.step rfl (step_load_b rfl (hn rfl) rfl ysSc9 rfl rfl) ?_
  refine ARun.step rfl (step_field_b rfl (hn rfl) rfl ysFo68_0 rfl (by exact List.cons_ne_nil _ _)) ?_
  refine ARun.step rfl (step_store_p rfl rfl ysCs9 rfl rfl rfl rfl rfl rfl rfl) ?_
  refine ARun.nil ?_
  refine AWp.seq (AWp.region ?_)
  refine ARun.step rfl (step_field_b rfl (hn rfl) rfl ysFo229_1 rfl (by exact List.cons_ne_nil _ _)) ?_
  refine ARun.step rfl (step_load_b rfl (hn rfl) rfl ysSc3 rfl rfl) ?_
  refine ARun.step rfl (step_field_b rfl (hn rfl) rfl ysFo68_1 rfl (by exact List.cons_ne_nil _ _)) ?_
  refine ARun.step rfl (step_store_p rfl rfl ysCs3 rfl rfl rfl rfl rfl rfl rfl) ?_
  refine ARun.nil ?_
  refine AWp.seq (AWp.region ?_)
  refine ARun.step rfl (step_field_b rfl (hn rfl) rfl ysFo229_2 rfl (by exact List.cons_ne_nil _ _)) ?_
  refine ARun.step rfl (step_load_b rfl (hn rfl) rfl ysSc9 rfl rfl) ?_
  refine ARun.step rfl (step_field_b rfl (hn rfl) rfl ysFo68_2 rfl (by exact List.cons_ne_nil _ _)) ?_
  refine ARun.step rfl (step_store_p rfl rfl ysCs9 rfl rfl rfl rfl rfl rfl rfl) ?_
  refine ARun.nil ?_
  refine AWp.seq (AWp.region ?_)
  refine ARun.step rfl (step_field_b rfl (hn rfl) rfl ysFo229_3 rfl (by exact List.cons_ne_nil _ _)) ?_
  refine ARun.step rfl (step_load_b rfl (hn rfl) rfl ysSc9 rfl rfl) ?_
  refine ARun.step rfl (step_field_b rfl (hn rfl) rfl ysFo68_3 rfl (by exact List.cons_ne_nil _ _)) ?_
  refine ARun.step rfl (step_store_p rfl rfl ysCs9 rfl rfl rfl rfl rfl rfl rfl) ?_
  refine ARun.nil ?_
  refine AWp.seq (AWp.region ?_)
  refine ARun.step rfl (step_field_b rfl (hn rfl) rfl ysFo229_4 rfl (by exact List.cons_ne_nil _ _)) ?_
  refine ARun.step rfl (step_load_b rfl (hn rfl) rfl ysSc3 rfl rfl) ?_
  refine ARun.step rfl (step_field_b rfl (hn rfl) rfl ysFo68_4 rfl (by exact List.cons_ne_nil _ _)) ?_
  refine ARun.step rfl (step_store_p rfl rfl ysCs3 rfl rfl rfl rfl rfl rfl rfl) ?_
  refine ARun.nil ?_
  refine AWp.seq (AWp.region ?_)
  refine ARun.step rfl (step_field_b rfl (hn rfl) rfl ysFo229_5 rfl (by exact List.cons_ne_nil _ _)) ?_
  refine ARun.step rfl (step_load_b rfl (hn rfl) rfl ysSc3 rfl rfl) ?_
  refine ARun.step rfl (step_field_b rfl (hn rfl) rfl ysFo68_5 rfl (by exact List.cons_ne_nil _ _)) ?_
  refine ARun.step rfl (step_store_p rfl rfl ysCs3 rfl rfl rfl rfl rfl rfl rfl) ?_
  refine ARun.nil ?_
  refine AWp.seq (AWp.region ?_)
  refine ARun.step rfl (step_field_b rfl (hn rfl) rfl ysFo229_6 rfl (by exact List.cons_ne_nil _ _)) ?_
  refine ARun.step rfl (step_load_b rfl (hn rfl) rfl ysSc9 rfl rfl) ?_
  refine ARun.step rfl (step_field_b rfl (hn rfl) rfl ysFo68_6 rfl (by exact List.cons_ne_nil _ _)) ?_
  refine ARun.step rfl (step_store_p rfl rfl ysCs9 rfl rfl rfl rfl rfl rfl rfl) ?_
  refine ARun.nil ?_
  refine AWp.seq (AWp.region ?_)
  refine ARun.step rfl (step_field_b rfl (hn rfl) rfl ysFo229_7 rfl (by exact List.cons_ne_nil _ _)) ?_
  refine ARun.step rfl (step_load_b rfl (hn rfl) rfl ysSc9 rfl rfl) ?_
  refine ARun.step rfl (step_field_b rfl (hn rfl) rfl ysFo68_7 rfl (by exact List.cons_ne_nil _ _)) ?_
  refine ARun.step rfl (step_store_p rfl rfl ysCs9 rfl rfl rfl rfl rfl rfl rfl) ?_
  refine ARun.nil ?_
  refine AWp.seq (AWp.region ?_)
  refine ARun.step rfl (step_loadS_b rfl (hn rfl) rfl ysSt68 rfl rfl rfl (by decide)) ?_
  refine ARun.step rfl (step_store_p rfl rfl ysCs68 rfl rfl rfl rfl rfl rfl rfl) ?_
  refine ARun.nil ?_
  refine AWp.ret ?_
  refine ⟨.inr rfl, 2, 8, _, _, _, ysSt68, by decide, rfl, rfl, rfl, rfl, (.cons rfl (.agg (.cons (.sc _ _ rfl) (.cons (.sc _ _ rfl) (.cons (.sc _ _ rfl) (.cons (.sc _ _ rfl) (.cons (.sc _ _ rfl) (.cons (.sc _ _ rfl) (.cons (.sc _ _ rfl) (.cons (.sc _ _ rfl) (.nil _)))))))))) (.nil _)), rfl, ?_⟩
  refine congrArg PV.agg ?_
  rfl
theorem phToL (l : List Ph) (hl : l.length ≤ 1048576) : ASpec Tryz.prog 179 [.one (phs 229 l)] (.one (phs 68 l)) := by
  refine ASpec.body Tryz.func179 rfl [2] rfl 23 rfl rfl rfl ?_
  refine AWp.seq (AWp.region ?_)
  refine ARun.step rfl (step_assignV rfl (hn rfl) rfl rfl) ?_
  refine ARun.nil ?_
  refine AWp.seq (AWp.region ?_)
  refine ARun.step rfl (step_moveV rfl (hn rfl) rfl rfl) ?_
  refine ARun.step rfl (step_len_f rfl (hn rfl) rfl ysSl138 rfl) ?_
  refine ARun.step rfl (step_makeSliceZ rfl (hn rfl) rfl ysSl59 (zeroOk_dead ysZs68) rfl (by omega) (by omega)) ?_
  refine ARun.step rfl (step_assignV rfl (hn rfl) rfl rfl) ?_
  refine ARun.nil ?_
  refine AWp.seq ?_
  refine AWp.seq (AWp.region ?_)
  refine ARun.step rfl (step_assignV rfl (hn rfl) rfl rfl) ?_
  refine ARun.nil ?_
  refine AWp.block ?_
  refine AWp.loopM (fun i : Nat => mkAS 23 [(0, ⟨true, .one (.v (phs 229 l))⟩), (3, ⟨true, .one (.ref ⟨.arr 7 0, []⟩)⟩), (4, ⟨true, .one (.v (.int .i64 (i : Nat)))⟩)] [] [(7, 0, .sl 68 8 l.length (rowsTo l Ph.cells (List.replicate 8 .dead) i))]) (fun i => i ≤ l.length) (fun i => l.length - i) 0 ?_ (Le.forgetR rfl ⟨rfl, rfl, rfl, trivial⟩ trivial ⟨.rows (fun _ _ => rfl), trivial⟩) ?_
  · try dsimp only
    omega
  rintro i hi
  refine AWp.seq ?_
  refine AWp.seq (AWp.region ?_)
  refine ARun.step rfl (step_moveV rfl (hn rfl) rfl rfl) ?_
  refine ARun.step rfl (step_moveV rfl (hn rfl) rfl rfl) ?_
  refine ARun.step rfl (step_len_f rfl (hn rfl) rfl ysSl138 rfl) ?_
  refine ARun.step rfl (step_lss rfl (hn rfl) rfl rfl rfl) ?_
  refine ARun.nil ?_
  refine AWp.cond rfl (fun c1 => ?_) (fun c1 => ?_)
  · try simp only [nrm] at c1
    refine AWp.skip ?_
    refine AWp.seq ?_
    refine AWp.block ?_
    refine AWp.region ?_
    refine ARun.step rfl (step_moveV rfl (hn rfl) rfl rfl) ?_
    refine ARun.step rfl (step_moveV rfl (hn rfl) rfl rfl) ?_
    refine ARun.step rfl (step_moveV rfl (hn rfl) rfl rfl) ?_
    refine ARun.step rfl (step_moveV rfl (hn rfl) rfl rfl) ?_
    refine ARun.step rfl (step_index_fN rfl (hn rfl) rfl ysSl138 rfl rfl (by omega)) ?_
    refine ARun.step rfl (step_loadS_f rfl (hn rfl) rfl ysSt229 rfl (hn rfl) rfl rfl) ?_
    refine ARun.step rfl (call_step1 rfl (hn rfl) rfl ysCo222 (.cons rfl (.agg (.cons (.v _) (.cons (.v _) (.cons (.v _) (.cons (.v _) (.cons (.v _) (.cons (.v _) (.cons (.v _) (.cons (.v _) .nil))))))))) (.nil)) (phTo _) rfl) ?_
    refine ARun.step rfl (step_index_rN rfl (hn rfl) rfl ysSl59 rfl rfl rfl (by omega)) ?_
    refine ARun.step rfl (step_store_row rfl rfl ysCs68 rfl rfl (by omega) rfl rfl rfl rfl rfl (by show (rowsTo l Ph.cells (List.replicate 8 .dead) i i).length = _; rw [rowsTo_at]; rfl)) ?_
    refine ARun.nil ?_
    refine AWp.region ?_
    refine ARun.step rfl (step_moveV rfl (hn rfl) rfl rfl) ?_
    refine ARun.step rfl (step_addI rfl (hn rfl) rfl rfl rfl (by omega) (by omega)) ?_
    refine ARun.step rfl (step_assignV rfl (hn rfl) rfl rfl) ?_
    refine ARun.nil ?_
    refine ⟨i + 1, ?_, ?_, Le.forgetR rfl ⟨rfl, rfl, rfl, trivial⟩ trivial ⟨.rows (fun j _ => rowsTo_next l Ph.cells _ i j), trivial⟩⟩
    · try dsimp only
      omega
    · try dsimp only
      omega
  · try simp only [nrm] at c1
    refine AWp.exit ?_
    refine AWp.seq (AWp.region ?_)
    refine ARun.step rfl (step_moveV rfl (hn rfl) rfl rfl) ?_
    refine ARun.step rfl (step_assignV rfl (hn rfl) rfl rfl) ?_
    refine ARun.nil ?_
    refine AWp.le (Le.forgetR (n := 23) (sl := [(2, ⟨true, .one (.ref ⟨.arr 7 0, []⟩)⟩)]) (bl := []) (al := [(7, 0, phs 68 l)]) rfl ⟨rfl, trivial⟩ trivial ⟨.rows (fun j hj => rowsTo_all l Ph.cells _ _ j (by omega)), trivial⟩) ?_
    refine AWp.ret ?_
    refine RetIs.ref (.inr rfl) rfl rfl ?_
    rfl
theorem phEqL (a b : List Ph)  : ASpec Tryz.prog 182 [.one (phs 68 a), .one (phs 68 b)] (.one (.bool (eqL eqPh a b))) := by
  refine ASpec.body Tryz.func182 rfl [4] rfl 27 rfl rfl rfl ?_
  refine AWp.lenLe 0 rfl (fun hl => ?_)
  refine AWp.seq (AWp.region ?_)
  refine ARun.step rfl (step_assignV rfl (hn rfl) rfl rfl) ?_
  refine ARun.nil ?_
  refine AWp.seq ?_
  refine AWp.seq (AWp.region ?_)
  refine ARun.step rfl (step_moveV rfl (hn rfl) rfl rfl) ?_
  refine ARun.step rfl (step_len_f rfl (hn rfl) rfl ysSl59 rfl) ?_
  refine ARun.step rfl (step_moveV rfl (hn rfl) rfl rfl) ?_
  refine ARun.step rfl (step_len_f rfl (hn rfl) rfl ysSl59 rfl) ?_
  refine ARun.step rfl (step_neq rfl (hn rfl) rfl rfl rfl) ?_
  refine ARun.nil ?_
  refine AWp.cond rfl (fun c1 => ?_) (fun c1 => ?_)
  · try simp only [nrm] at c1
    refine AWp.seq (AWp.region ?_)
    refine ARun.step rfl (step_assignV rfl (hn rfl) rfl rfl) ?_
    refine ARun.nil ?_
    refine AWp.ret ?_
    refine RetIs.sc (.inr rfl) rfl rfl ?_
    refine congrArg T.bool ?_
    rw [eqL, show (a.length == b.length) = false by simp; omega, Bool.false_and]
  · try simp only [nrm] at c1
    refine AWp.skip ?_
    refine AWp.seq ?_
    refine AWp.seq (AWp.region ?_)
    refine ARun.step rfl (step_assignV rfl (hn rfl) rfl rfl) ?_
    refine ARun.nil ?_
    refine AWp.block ?_
    refine AWp.loopM (fun i : Nat => mkAS 27 [(0, ⟨true, .one (.v (phs 68 a))⟩), (1, ⟨true, .one (.v (phs 68 b))⟩), (5, ⟨true, .one (.v (.int .i64 (i : Nat)))⟩)] [] []) (fun i => i ≤ a.length ∧ ∀ j, j < i → eqPh (nth a j) (nth b j) = true) (fun i => a.length - i) 0 ?_ (Le.forgetR rfl ⟨rfl, rfl, rfl, trivial⟩ trivial trivial) ?_
    · try dsimp only
      exact ⟨by omega, by omega⟩
    rintro i ⟨hi, hall⟩
    refine AWp.seq ?_
    refine AWp.seq (AWp.region ?_)
    refine ARun.step rfl (step_moveV rfl (hn rfl) rfl rfl) ?_
    refine ARun.step rfl (step_moveV rfl (hn rfl) rfl rfl) ?_
    refine ARun.step rfl (step_len_f rfl (hn rfl) rfl ysSl59 rfl) ?_
    refine ARun.step rfl (step_lss rfl (hn rfl) rfl rfl rfl) ?_
    refine ARun.nil ?_
    refine AWp.cond rfl (fun c2 => ?_) (fun c2 => ?_)
    · try simp only [nrm] at c2
      refine AWp.skip ?_
      refine AWp.seq ?_
      refine AWp.block ?_
      refine AWp.seq (AWp.draw [⟨[.s 0], [.s 17], false⟩, ⟨[.s 5], [.s 18], false⟩, ⟨[.s 17, .s 18], [.s 19], false⟩, ⟨[.s 19], [.s 20], false⟩, ⟨[.s 1], [.s 21], false⟩, ⟨[.s 5], [.s 22], false⟩, ⟨[.s 21, .s 22], [.s 23], false⟩, ⟨[.s 23], [.s 24], false⟩, ⟨[.s 24, .s 20], [.s 25], false⟩, ⟨[.s 25], [.s 26], false⟩] ysMo rfl ?_)
      refine DRun.step rfl (fun τ hN hr => step_moveV rfl (rdN hN (hn rfl)) rfl (by exact rdS hr rfl rfl)) ?_
      refine DRun.step rfl (fun τ hN hr => step_moveV rfl (rdN hN (hn rfl)) rfl (by exact rdS hr rfl rfl)) ?_
      refine DRun.step rfl (fun τ hN hr => step_index_fN rfl (rdN hN (hn rfl)) rfl ysSl59 (by exact rdS hr rfl rfl) (by exact rdS hr rfl rfl) (by omega)) ?_
      refine DRun.step rfl (fun τ hN hr => step_loadS_f rfl (rdN hN (hn rfl)) rfl ysSt68 (by exact rdS hr rfl rfl) (hn rfl) rfl rfl) ?_
      refine DRun.step rfl (fun τ hN hr => step_moveV rfl (rdN hN (hn rfl)) rfl (by exact rdS hr rfl rfl)) ?_
      refine DRun.step rfl (fun τ hN hr => step_moveV rfl (rdN hN (hn rfl)) rfl (by exact rdS hr rfl rfl)) ?_
      refine DRun.step rfl (fun τ hN hr => step_index_fN rfl (rdN hN (hn rfl)) rfl ysSl59 (by exact rdS hr rfl rfl) (by exact rdS hr rfl rfl) (by omega)) ?_
      refine DRun.step rfl (fun τ hN hr => step_loadS_f rfl (rdN hN (hn rfl)) rfl ysSt68 (by exact rdS hr rfl rfl) (hn rfl) rfl rfl) ?_
      refine DRun.step rfl (fun τ hN hr => call_step1 rfl (rdN hN (hn rfl)) rfl ysCo224 (.cons (by exact rdS hr rfl rfl) (.agg (.cons (.v _) (.cons (.v _) (.cons (.v _) (.cons (.v _) (.cons (.v _) (.cons (.v _) (.cons (.v _) (.cons (.v _) .nil))))))))) (.cons (by exact rdS hr rfl rfl) (.agg (.cons (.v _) (.cons (.v _) (.cons (.v _) (.cons (.v _) (.cons (.v _) (.cons (.v _) (.cons (.v _) (.cons (.v _) .nil))))))))) (.nil))) (eqPhI _ _) rfl) ?_
      refine DRun.step rfl (fun τ hN hr => step_not rfl (rdN hN (hn rfl)) rfl (by exact rdS hr rfl rfl)) ?_
      refine DRun.nil ?_
      refine AWp.cond rfl (fun c3 => ?_) (fun c3 => ?_)
      · try simp only [nrm] at c3
        refine AWp.seq (AWp.region ?_)
        refine ARun.step rfl (step_assignV rfl (hn rfl) rfl rfl) ?_
        refine ARun.nil ?_
        refine AWp.ret ?_
        refine RetIs.sc (.inr rfl) rfl rfl ?_
        refine congrArg T.bool ?_
        rw [eqL, all_not (i := i) (by omega) (by first | assumption | (simp only [eqPh]; grind)), Bool.and_false]
      · try simp only [nrm] at c3
        refine AWp.skip ?_
        refine AWp.region ?_
        refine ARun.step rfl (step_moveV rfl (hn rfl) rfl rfl) ?_
        refine ARun.step rfl (step_addI rfl (hn rfl) rfl rfl rfl (by omega) (by omega)) ?_
        refine ARun.step rfl (step_assignV rfl (hn rfl) rfl rfl) ?_
        refine ARun.nil ?_
        refine ⟨i + 1, ?_, ?_, Le.forgetR rfl ⟨rfl, rfl, rfl, trivial⟩ trivial trivial⟩
        · try dsimp only
          exact ⟨by omega, upto hall (by assumption)⟩
        · try dsimp only
          omega
    · try simp only [nrm] at c2
      refine AWp.exit ?_
      refine AWp.seq (AWp.region ?_)
      refine ARun.step rfl (step_assignV rfl (hn rfl) rfl rfl) ?_
      refine ARun.nil ?_
      refine AWp.ret ?_
      refine RetIs.sc (.inr rfl) rfl rfl ?_
      refine congrArg T.bool ?_
      rw [eqL, all_of (fun j hj => hall j (by omega)), show (a.length == b.length) = true by simp; omega, Bool.and_true]
theorem phMark (l : List Ph) (k : Int) (h0 : 0 ≤ k) (h1 : k + 8 * l.length ≤ 1152921504606846976) : MSpec Tryz.prog 133 [.one (.rw (phs 68 l) (mkLPh l.length k)), .one (.ro (.int .i64 k))] (.int .i64 (k + 8 * l.length)) := by
  refine MSpec.body Tryz.func133 rfl 4 rfl 74 rfl rfl rfl rfl ?_
  refine AWp.seq (AWp.region ?_)
  refine ARun.step rfl (step_assignV rfl (hn rfl) rfl rfl) ?_
  refine ARun.nil ?_
  refine AWp.seq ?_
  refine AWp.seq (AWp.region ?_)
  refine ARun.step rfl (step_assignV rfl (hn rfl) rfl rfl) ?_
  refine ARun.nil ?_
  refine AWp.block ?_
  refine AWp.loopM (fun x : Nat × Int => mkAS 74 [(0, ⟨true, .one (.ref ⟨.arr 1000000 0, []⟩)⟩), (1, ⟨true, .one (.v (.int .i64 x.2))⟩), (5, ⟨true, .one (.v (.int .i64 (x.1 : Nat)))⟩)] [] [(1000000, 0, .sl 68 8 l.length (mkToPh l k x.1))]) (fun x => x.1 ≤ l.length ∧ x.2 = k + 8 * (x.1 : Nat)) (fun x => l.length - x.1) (0, k) ?_ (Le.forgetR rfl ⟨rfl, rfl, rfl, trivial⟩ trivial ⟨.rows (fun _ _ => rfl), trivial⟩) ?_
  · try dsimp only
    exact ⟨by omega, by simp⟩
  rintro x ⟨hi, hk⟩
  refine AWp.seq ?_
  refine AWp.seq (AWp.region ?_)
  refine ARun.step rfl (step_moveV rfl (hn rfl) rfl rfl) ?_
  refine ARun.step rfl (step_moveV rfl (hn rfl) rfl rfl) ?_
  refine ARun.step rfl (step_len_r rfl (hn rfl) rfl ysSl59 rfl rfl) ?_
  refine ARun.step rfl (step_lss rfl (hn rfl) rfl rfl rfl) ?_
  refine ARun.nil ?_
  refine AWp.cond rfl (fun c1 => ?_) (fun c1 => ?_)
  · try simp only [nrm] at c1
    refine AWp.skip ?_
    refine AWp.seq ?_
    refine AWp.block ?_
    refine AWp.seq (AWp.region ?_)
    refine ARun.step rfl (step_moveV rfl (hn rfl) rfl rfl) ?_
    refine ARun.step rfl (step_moveV rfl (hn rfl) rfl rfl) ?_
    refine ARun.step rfl (step_moveV rfl (hn rfl) rfl rfl) ?_
    refine ARun.step rfl (call_step1 rfl (hn rfl) rfl ysCo60 (.cons rfl (.one (.v _)) (.nil)) (markText _ (by omega) (by omega)) rfl) ?_
    refine ARun.step rfl (step_index_rN rfl (hn rfl) rfl ysSl59 rfl rfl rfl (by omega)) ?_
    refine ARun.step rfl (step_field_e rfl (hn rfl) rfl ysFo68_0 rfl rfl) ?_
    refine ARun.step rfl (step_store_e rfl rfl ysCs9 rfl rfl (by omega) (hn rfl) rfl rfl rfl) ?_
    refine ARun.nil ?_
    refine AWp.seq (AWp.region ?_)
    refine ARun.step rfl (step_moveV rfl (hn rfl) rfl rfl) ?_
    refine ARun.step rfl (step_addI rfl (hn rfl) rfl rfl rfl (by omega) (by omega)) ?_
    refine ARun.step rfl (step_assignV rfl (hn rfl) rfl rfl) ?_
    refine ARun.nil ?_
    refine AWp.seq (AWp.region ?_)
    refine ARun.step rfl (step_moveV rfl (hn rfl) rfl rfl) ?_
    refine ARun.step rfl (step_moveV rfl (hn rfl) rfl rfl) ?_
    refine ARun.step rfl (step_moveV rfl (hn rfl) rfl rfl) ?_
    refine ARun.step rfl (step_index_rN rfl (hn rfl) rfl ysSl59 rfl rfl rfl (by omega)) ?_
    refine ARun.step rfl (step_field_e rfl (hn rfl) rfl ysFo68_1 rfl rfl) ?_
    refine ARun.step rfl (step_store_e rfl rfl ysCs3 rfl rfl (by omega) (hn rfl) rfl rfl rfl) ?_
    refine ARun.nil ?_
    refine AWp.seq (AWp.region ?_)
    refine ARun.step rfl (step_moveV rfl (hn rfl) rfl rfl) ?_
    refine ARun.step rfl (step_addI rfl (hn rfl) rfl rfl rfl (by omega) (by omega)) ?_
    refine ARun.step rfl (step_assignV rfl (hn rfl) rfl rfl) ?_
    refine ARun.nil ?_
    refine AWp.seq (AWp.region ?_)
    refine ARun.step rfl (step_moveV rfl (hn rfl) rfl rfl) ?_
    refine ARun.step rfl (step_moveV rfl (hn rfl) rfl rfl) ?_
    refine ARun.step rfl (step_moveV rfl (hn rfl) rfl rfl) ?_
    refine ARun.step rfl (call_step1 rfl (hn rfl) rfl ysCo60 (.cons rfl (.one (.v _)) (.nil)) (markText _ (by omega) (by omega)) rfl) ?_
    refine ARun.step rfl (step_index_rN rfl (hn rfl) rfl ysSl59 rfl rfl rfl (by omega)) ?_
    refine ARun.step rfl (step_field_e rfl (hn rfl) rfl ysFo68_2 rfl rfl) ?_
    refine ARun.step rfl (step_store_e rfl rfl ysCs9 rfl rfl (by omega) (hn rfl) rfl rfl rfl) ?_
    refine ARun.nil ?_
    refine AWp.seq (AWp.region ?_)
    refine ARun.step rfl (step_moveV rfl (hn rfl) rfl rfl) ?_
    refine ARun.step rfl (step_addI rfl (hn rfl) rfl rfl rfl (by omega) (by omega)) ?_
    refine ARun.step rfl (step_assignV rfl (hn rfl) rfl rfl) ?_
    refine ARun.nil ?_
    refine AWp.seq (AWp.region ?_)
    refine ARun.step rfl (step_moveV rfl (hn rfl) rfl rfl) ?_
    refine ARun.step rfl (step_moveV rfl (hn rfl) rfl rfl) ?_
    refine ARun.step rfl (step_moveV rfl (hn rfl) rfl rfl) ?_
    refine ARun.step rfl (call_step1 rfl (hn rfl) rfl ysCo60 (.cons rfl (.one (.v _)) (.nil)) (markText _ (by omega) (by omega)) rfl) ?_
    refine ARun.step rfl (step_index_rN rfl (hn rfl) rfl ysSl59 rfl rfl rfl (by omega)) ?_
    refine ARun.step rfl (step_field_e rfl (hn rfl) rfl ysFo68_3 rfl rfl) ?_
    refine ARun.step rfl (step_store_e rfl rfl ysCs9 rfl rfl (by omega) (hn rfl) rfl rfl rfl) ?_
    refine ARun.nil ?_
    refine AWp.seq (AWp.region ?_)
    refine ARun.step rfl (step_moveV rfl (hn rfl) rfl rfl) ?_
    refine ARun.step rfl (step_addI rfl (hn rfl) rfl rfl rfl (by omega) (by omega)) ?_
    refine ARun.step rfl (step_assignV rfl (hn rfl) rfl rfl) ?_
    refine ARun.nil ?_
    refine AWp.seq (AWp.region ?_)
    refine ARun.step rfl (step_moveV rfl (hn rfl) rfl rfl) ?_
    refine ARun.step rfl (step_moveV rfl (hn rfl) rfl rfl) ?_
    refine ARun.step rfl (step_moveV rfl (hn rfl) rfl rfl) ?_
    refine ARun.step rfl (step_index_rN rfl (hn rfl) rfl ysSl59 rfl rfl rfl (by omega)) ?_
    refine ARun.step rfl (step_field_e rfl (hn rfl) rfl ysFo68_4 rfl rfl) ?_
    refine ARun.step rfl (step_store_e rfl rfl ysCs3 rfl rfl (by omega) (hn rfl) rfl rfl rfl) ?_
    refine ARun.nil ?_
    refine AWp.seq (AWp.region ?_)
    refine ARun.step rfl (step_moveV rfl (hn rfl) rfl rfl) ?_
    refine ARun.step rfl (step_addI rfl (hn rfl) rfl rfl rfl (by omega) (by omega)) ?_
    refine ARun.step rfl (step_assignV rfl (hn rfl) rfl rfl) ?_
    refine ARun.nil ?_
    refine AWp.seq (AWp.region ?_)
    refine ARun.step rfl (step_moveV rfl (hn rfl) rfl rfl) ?_
    refine ARun.step rfl (step_moveV rfl (hn rfl) rfl rfl) ?_
    refine ARun.step rfl (step_moveV rfl (hn rfl) rfl rfl) ?_
    refine ARun.step rfl (step_index_rN rfl (hn rfl) rfl ysSl59 rfl rfl rfl (by omega)) ?_
    refine ARun.step rfl (step_field_e rfl (hn rfl) rfl ysFo68_5 rfl rfl) ?_
    refine ARun.step rfl (step_store_e rfl rfl ysCs3 rfl rfl (by omega) (hn rfl) rfl rfl rfl) ?_
    refine ARun.nil ?_
    refine AWp.seq (AWp.region ?_)
    refine ARun.step rfl (step_moveV rfl (hn rfl) rfl rfl) ?_
    refine ARun.step rfl (step_addI rfl (hn rfl) rfl rfl rfl (by omega) (by omega)) ?_
    refine ARun.step rfl (step_assignV rfl (hn rfl) rfl rfl) ?_
    refine ARun.nil ?_
    refine AWp.seq (AWp.region ?_)
    refine ARun.step rfl (step_moveV rfl (hn rfl) rfl rfl) ?_
    refine ARun.step rfl (step_moveV rfl (hn rfl) rfl rfl) ?_
    refine ARun.step rfl (step_moveV rfl (hn rfl) rfl rfl) ?_
    refine ARun.step rfl (call_step1 rfl (hn rfl) rfl ysCo60 (.cons rfl (.one (.v _)) (.nil)) (markText _ (by omega) (by omega)) rfl) ?_
    refine ARun.step rfl (step_index_rN rfl (hn rfl) rfl ysSl59 rfl rfl rfl (by omega)) ?_
    refine ARun.step rfl (step_field_e rfl (hn rfl) rfl ysFo68_6 rfl rfl) ?_
    refine ARun.step rfl (step_store_e rfl rfl ysCs9 rfl rfl (by omega) (hn rfl) rfl rfl rfl) ?_
    refine ARun.nil ?_
    refine AWp.seq (AWp.region ?_)
    refine ARun.step rfl (step_moveV rfl (hn rfl) rfl rfl) ?_
    refine ARun.step rfl (step_addI rfl (hn rfl) rfl rfl rfl (by omega) (by omega)) ?_
    refine ARun.step rfl (step_assignV rfl (hn rfl) rfl rfl) ?_
    refine ARun.nil ?_
    refine AWp.seq (AWp.region ?_)
    refine ARun.step rfl (step_moveV rfl (hn rfl) rfl rfl) ?_
    refine ARun.step rfl (step_moveV rfl (hn rfl) rfl rfl) ?_
    refine ARun.step rfl (step_moveV rfl (hn rfl) rfl rfl) ?_
    refine ARun.step rfl (call_step1 rfl (hn rfl) rfl ysCo60 (.cons rfl (.one (.v _)) (.nil)) (markText _ (by omega) (by omega)) rfl) ?_
    refine ARun.step rfl (step_index_rN rfl (hn rfl) rfl ysSl59 rfl rfl rfl (by omega)) ?_
    refine ARun.step rfl (step_field_e rfl (hn rfl) rfl ysFo68_7 rfl rfl) ?_
    refine ARun.step rfl (step_store_e rfl rfl ysCs9 rfl rfl (by omega) (hn rfl) rfl rfl rfl) ?_
    refine ARun.nil ?_
    refine AWp.region ?_
    refine ARun.step rfl (step_moveV rfl (hn rfl) rfl rfl) ?_
    refine ARun.step rfl (step_addI rfl (hn rfl) rfl rfl rfl (by omega) (by omega)) ?_
    refine ARun.step rfl (step_assignV rfl (hn rfl) rfl rfl) ?_
    refine ARun.nil ?_
    refine AWp.region ?_
    refine ARun.step rfl (step_moveV rfl (hn rfl) rfl rfl) ?_
    refine ARun.step rfl (step_addI rfl (hn rfl) rfl rfl rfl (by omega) (by omega)) ?_
    refine ARun.step rfl (step_assignV rfl (hn rfl) rfl rfl) ?_
    refine ARun.nil ?_
    refine ⟨(x.1 + 1, x.2 + 1 + 1 + 1 + 1 + 1 + 1 + 1 + 1), ?_, ?_, Le.forgetR rfl ⟨rfl, rfl, rfl, trivial⟩ trivial ⟨.rows (fun j _ => by rw [setRowN8 (by rw [mkToPh_at]; rfl)]; exact mkToPh_next l k x.1 j _ (by rw [hk]; simp only [mkPh, Int.add_assoc, Int.add_zero]; rfl)), trivial⟩⟩
    · try dsimp only
      exact ⟨by omega, by omega⟩
    · try dsimp only
      omega
  · try simp only [nrm] at c1
    refine AWp.exit ?_
    refine AWp.seq (AWp.region ?_)
    refine ARun.step rfl (step_moveV rfl (hn rfl) rfl rfl) ?_
    refine ARun.step rfl (step_assignV rfl (hn rfl) rfl rfl) ?_
    refine ARun.nil ?_
    refine AWp.ret ?_
    refine RetIs.mk (.inr rfl) rfl rfl ?_ ⟨⟨⟨_, _, _, _, _, rfl, rfl, .rows (fun j hj => mkToPh_all l k _ j (by omega))⟩, trivial⟩, ⟨trivial, trivial⟩⟩
    refine congrArg (T.int _) ?_
    omega

end Go.Proofs.YtkmacjdigkaabaaGreat
