/- Contracts of functions of the program, each met by its body; conditions stand in each statement. No condition. -/
import Derived.Test.YtomjieobbgcjeaaGreatzRecRun
import Derived.Test.YtomjieobbgcjeaaGreatHc
import Derived.Test.YtomjieobbgcjeaaGreatProg
import Derived.KernelRfl
set_option linter.unusedVariables false
set_option linter.unusedSimpArgs false
set_option linter.unnecessarySimpa false
set_option linter.unusedSimpArgs false
set_option maxRecDepth 100000
namespace Go.Proofs.YtomjieobbgcjeaaGreat
open Go Go.Mh

theorem szGo_each {α : Type} [Inhabited α] {f : α → Int → Int} {P : α → Prop} (hle : ∀ p m, f p m = -1 ∨ (0 ≤ f p m ∧ f p m ≤ m)) (hp : ∀ (q : α) (m : Int), m ≤ 1048576 → 0 ≤ f q m → P q) : ∀ (l : List α) {m : Int}, m ≤ 1048576 → 0 ≤ szGo f l m → ∀ i, i < l.length → P (nth l i)
  | [], m, _, _, i, hi => by simp at hi
  | p :: l, m, hm, h, i, hi => by
    simp only [szGo] at h
    split at h
    · omega
    · rename_i h0
      cases i with
      | zero => exact hp p m hm (by omega)
      | succ i =>
        have := hle p m
        exact szGo_each hle hp l (m := f p m) (by omega) h i (by simpa using hi)
theorem szL_each {α : Type} [Inhabited α] {f : α → Int → Int} {P : α → Prop} (hle : ∀ p m, f p m = -1 ∨ (0 ≤ f p m ∧ f p m ≤ m)) (hp : ∀ (q : α) (m : Int), m ≤ 1048576 → 0 ≤ f q m → P q) {l : List α} {m : Int} (hm : m ≤ 1048576) (h : 0 ≤ szL f l m) : ∀ i, i < l.length → P (nth l i) := by
  unfold szL at h
  split at h
  · omega
  · exact szGo_each hle hp l (m := m - l.length) (by omega) h
structure Slt where
  slot : Str
  thing : Str
deriving Inhabited
def Slt.cells (p : Slt) : List T := [.str p.slot, .str p.thing]
def slts (e : Nat) (l : List Slt) : T := .sl e 2 l.length (fun i => (Slt.cells (nth l i)))
theorem clean_slts (e : Nat) (l : List Slt) : Mh.Clean (slts e l) := .sl (fun i j hi hj => match j with | 0 => .str _ | 1 => .str _ | _ + 2 => (by omega))
def eqSlt (p q : Slt) : Bool := strEq p.slot q.slot && strEq p.thing q.thing
theorem eqSlt_refl (p : Slt) : eqSlt p p = true := by simp [eqSlt, strEq_refl, eqL_refl]
def szSlt (p : Slt) (m : Int) : Int :=
  if (m - p.slot.size) < 0 then -1 else
  if ((m - p.slot.size) - p.thing.size) < 0 then -1 else
  ((m - p.slot.size) - p.thing.size)
theorem szSlt_le (p : Slt) (m : Int) : szSlt p m = -1 ∨ (0 ≤ szSlt p m ∧ szSlt p m ≤ m) := by
  unfold szSlt; repeat' split
  all_goals omega
def mkSlt (k : Int) : List T := [.str (markT (k + 0)), .str (markT (k + 1))]
def mkLSlt (n : Nat) (k : Int) : T := .sl 106 2 n (fun i => mkSlt (k + 2 * (i : Nat)))
def mkToSlt (l : List Slt) (k : Int) (i : Nat) : Nat → List T := fun j => if j < i then mkSlt (k + 2 * (j : Nat)) else (nth l j).cells
theorem mkToSlt_at (l : List Slt) (k : Int) (i : Nat) : mkToSlt l k i i = (nth l i).cells := by simp only [mkToSlt, if_neg (Nat.lt_irrefl i)]
theorem mkToSlt_next (l : List Slt) (k : Int) (i j : Nat) (r : List T) (hr : r = mkSlt (k + 2 * (i : Nat))) : putRow (mkToSlt l k i) i r j = mkToSlt l k (i + 1) j := by
  by_cases h : j = i
  · subst h; rw [putRow_self]; simp only [mkToSlt]; rw [if_pos (by omega), hr]
  · rw [putRow_other _ _ _ h]; simp only [mkToSlt]
    by_cases h2 : j < i
    · rw [if_pos h2, if_pos (by omega)]
    · rw [if_neg h2, if_neg (by omega)]
theorem mkToSlt_all (l : List Slt) (k : Int) (i j : Nat) (h : j < i) : mkToSlt l k i j = mkSlt (k + 2 * (j : Nat)) := by simp only [mkToSlt, if_pos h]
structure Rb where
  name : Str
  recipe : List Ph
  slots : List Slt
  at_ : Str
  since : Int
  start : Int
deriving Inhabited
def Rb.cells (eRecPhase : Nat) (eRunSlot : Nat) (p : Rb) : List T := [.str p.name, phs eRecPhase p.recipe, slts eRunSlot p.slots, .str p.at_, .int .i64 p.since, .int .i64 p.start]
def Rb.zcells (eRecPhase : Nat) (eRunSlot : Nat) (p : Rb) : List T := [.str p.name, .fz (phs eRecPhase p.recipe), .fz (slts eRunSlot p.slots), .str p.at_, .int .i64 p.since, .int .i64 p.start]
def rbs (e : Nat) (eRecPhase : Nat) (eRunSlot : Nat) (l : List Rb) : T := .sl e 6 l.length (fun i => (Rb.zcells eRecPhase eRunSlot (nth l i)))
def rbsO (e : Nat) (eRecPhase : Nat) (eRunSlot : Nat) (l : List Rb) : T := .sl e 6 l.length (fun i => (Rb.cells eRecPhase eRunSlot (nth l i)))
theorem fz_rbs (e : Nat) (eRecPhase : Nat) (eRunSlot : Nat) (l : List Rb) : Fz (rbsO e eRecPhase eRunSlot l) (rbs e eRecPhase eRunSlot l) := .rows (fun i hi => rfl) (fun i j hi => match j with | 0 => .refl _ | 1 => .fz (.refl _) | 2 => .fz (.refl _) | 3 => .refl _ | 4 => .refl _ | 5 => .refl _ | _ + 6 => .refl _)
theorem clean_rbsO (e : Nat) (eRecPhase : Nat) (eRunSlot : Nat) (l : List Rb) : Mh.Clean (rbsO e eRecPhase eRunSlot l) := .sl (fun i j hi hj => match j with | 0 => .str _ | 1 => clean_phs _ _ | 2 => clean_slts _ _ | 3 => .str _ | 4 => .int _ _ | 5 => .int _ _ | _ + 6 => (by omega))
def eqRb (p q : Rb) : Bool := strEq p.name q.name && eqL eqPh p.recipe q.recipe && eqL eqSlt p.slots q.slots && strEq p.at_ q.at_ && p.since == q.since && p.start == q.start
theorem eqRb_refl (p : Rb) : eqRb p p = true := by simp [eqRb, strEq_refl, eqL_refl, eqPh_refl, eqSlt_refl]
def szRb (p : Rb) (m : Int) : Int :=
  if (m - p.name.size) < 0 then -1 else
  if (szL szPh p.recipe (m - p.name.size)) < 0 then -1 else
  if (szL szSlt p.slots (szL szPh p.recipe (m - p.name.size))) < 0 then -1 else
  if ((szL szSlt p.slots (szL szPh p.recipe (m - p.name.size))) - p.at_.size) < 0 then -1 else
  ((szL szSlt p.slots (szL szPh p.recipe (m - p.name.size))) - p.at_.size)
theorem szRb_le (p : Rb) (m : Int) : szRb p m = -1 ∨ (0 ≤ szRb p m ∧ szRb p m ≤ m) := by
  have h0 := szL_le szPh_le p.recipe (m - p.name.size)
  have h1 := szL_le szSlt_le p.slots (szL szPh p.recipe (m - p.name.size))
  unfold szRb; repeat' split
  all_goals omega
def smallRb (p : Rb) : Prop := p.recipe.length ≤ 1048576 ∧ p.slots.length ≤ 1048576
theorem szRb_small {p : Rb} {m : Int} (hm : m ≤ 1048576) (h : 0 ≤ szRb p m) : smallRb p := by
  unfold szRb at h
  have h0 := szL_le szPh_le p.recipe (m - p.name.size)
  have h1 := szL_le szSlt_le p.slots (szL szPh p.recipe (m - p.name.size))
  repeat' split at h
  all_goals first | omega | skip
  have l0 := szL_len (f := szPh) (l := p.recipe) (m := (m - p.name.size)) (by omega)
  have l1 := szL_len (f := szSlt) (l := p.slots) (m := (szL szPh p.recipe (m - p.name.size))) (by omega)
  exact ⟨by omega, by omega⟩
theorem setRowN6 {f : Nat → List T} {i : Nat} {a0 a1 a2 a3 a4 a5 : T} (h : (f i).length = 6) : setRow (setRow (setRow (setRow (setRow (setRow f i 0 a0) i 1 a1) i 2 a2) i 3 a3) i 4 a4) i 5 a5 = putRow f i [a0, a1, a2, a3, a4, a5] := by
  funext k
  by_cases hk : k = i
  · subst hk
    simp only [Mh.setRow_self, putRow_self]
    match f k, h with
    | [x0, x1, x2, x3, x4, x5], _ => rfl
  · simp only [Mh.setRow_other _ _ _ _ hk, putRow_other _ _ _ hk]

theorem yuFo121_0 : fieldOff Tryz.prog 121 0 = some 0 := by kernel_rfl
theorem yuSc9 : scalarB Tryz.prog 9 = true := by kernel_rfl
theorem yuUs9 : Tryz.prog.underlying 9 = some .string := by kernel_rfl
theorem yuFo121_1 : fieldOff Tryz.prog 121 1 = some 1 := by kernel_rfl
theorem yuSl75 : sliceT Tryz.prog 75 = some ⟨121, 2, 32⟩ := by kernel_rfl
theorem yuSt121 : structSz Tryz.prog 121 = some 2 := by kernel_rfl
theorem yuCo95 : callOk Tryz.prog 95 = true := by kernel_rfl
theorem yuZs106 : zeroSz Tryz.prog 106 = some 2 := by kernel_rfl
theorem yuFo106_0 : fieldOff Tryz.prog 106 0 = some 0 := by kernel_rfl
theorem yuCs9 : cellsSz Tryz.prog 9 = some (0 + 1) := by kernel_rfl
theorem yuFo106_1 : fieldOff Tryz.prog 106 1 = some 1 := by kernel_rfl
theorem yuSt106 : structSz Tryz.prog 106 = some 2 := by kernel_rfl
theorem yuCs106 : cellsSz Tryz.prog 106 = some (1 + 1) := by kernel_rfl
theorem yuSl49 : sliceT Tryz.prog 49 = some ⟨106, 2, 32⟩ := by kernel_rfl
theorem yuCo107 : callOk Tryz.prog 107 = true := by kernel_rfl
theorem yuCo115 : callOk Tryz.prog 115 = true := by kernel_rfl
theorem yuMo : Tryz.prog.follows .mixedOrders = true := by kernel_rfl
theorem yuFo77_0 : fieldOff Tryz.prog 77 0 = some 0 := by kernel_rfl
theorem yuFo77_1 : fieldOff Tryz.prog 77 1 = some 1 := by kernel_rfl
theorem yuSc74 : scalarB Tryz.prog 74 = true := by kernel_rfl
theorem yuCo71 : callOk Tryz.prog 71 = true := by kernel_rfl
theorem yuFo77_2 : fieldOff Tryz.prog 77 2 = some 2 := by kernel_rfl
theorem yuSc75 : scalarB Tryz.prog 75 = true := by kernel_rfl
theorem yuCo72 : callOk Tryz.prog 72 = true := by kernel_rfl
theorem yuFo77_3 : fieldOff Tryz.prog 77 3 = some 3 := by kernel_rfl
theorem yuSl26 : sliceT Tryz.prog 26 = some ⟨77, 6, 96⟩ := by kernel_rfl
theorem yuSt77 : structSz Tryz.prog 77 = some 6 := by kernel_rfl
theorem yuCo40 : callOk Tryz.prog 40 = true := by kernel_rfl
theorem yuZs51 : zeroSz Tryz.prog 51 = some 6 := by kernel_rfl
theorem yuFo51_0 : fieldOff Tryz.prog 51 0 = some 0 := by kernel_rfl
theorem yuCo82 : callOk Tryz.prog 82 = true := by kernel_rfl
theorem yuFo51_1 : fieldOff Tryz.prog 51 1 = some 1 := by kernel_rfl
theorem yuCs48 : cellsSz Tryz.prog 48 = some (0 + 1) := by kernel_rfl
theorem yuCo83 : callOk Tryz.prog 83 = true := by kernel_rfl
theorem yuFo51_2 : fieldOff Tryz.prog 51 2 = some 2 := by kernel_rfl
theorem yuCs49 : cellsSz Tryz.prog 49 = some (0 + 1) := by kernel_rfl
theorem yuFo51_3 : fieldOff Tryz.prog 51 3 = some 3 := by kernel_rfl
theorem yuFo77_4 : fieldOff Tryz.prog 77 4 = some 4 := by kernel_rfl
theorem yuSc3 : scalarB Tryz.prog 3 = true := by kernel_rfl
theorem yuFo51_4 : fieldOff Tryz.prog 51 4 = some 4 := by kernel_rfl
theorem yuCs3 : cellsSz Tryz.prog 3 = some (0 + 1) := by kernel_rfl
theorem yuFo77_5 : fieldOff Tryz.prog 77 5 = some 5 := by kernel_rfl
theorem yuFo51_5 : fieldOff Tryz.prog 51 5 = some 5 := by kernel_rfl
theorem yuSt51 : structSz Tryz.prog 51 = some 6 := by kernel_rfl
theorem yuCs51 : cellsSz Tryz.prog 51 = some (5 + 1) := by kernel_rfl
theorem yuSl35 : sliceT Tryz.prog 35 = some ⟨51, 6, 96⟩ := by kernel_rfl
theorem yuCo54 : callOk Tryz.prog 54 = true := by kernel_rfl
theorem yuSc48 : scalarB Tryz.prog 48 = true := by kernel_rfl
theorem yuCo92 : callOk Tryz.prog 92 = true := by kernel_rfl
theorem yuSc49 : scalarB Tryz.prog 49 = true := by kernel_rfl
theorem yuCo93 : callOk Tryz.prog 93 = true := by kernel_rfl
theorem yuCo67 : callOk Tryz.prog 67 = true := by kernel_rfl
theorem sltSz (p : Slt) (m : Int) (hm : 0 ≤ m) (hm2 : m ≤ 1048576) : ASpec Tryz.prog 95 [.agg p.cells, .one (.int .i64 m)] (.one (.int .i64 (szSlt p m))) := by
  refine ASpec.body Tryz.func95 rfl [4] rfl 20 rfl rfl rfl ?_
  refine AWp.aggLe 0 rfl (fun hc => ?_)
  have q0 : p.slot.size ≤ 9223372036854775807 := hc (.v (.str p.slot)) (by simp [Slt.cells])
  have q1 : p.thing.size ≤ 9223372036854775807 := hc (.v (.str p.thing)) (by simp [Slt.cells])
  clear hc
  refine AWp.seq (AWp.region ?_)
  refine ARun.step rfl (step_box_p (m := 1) rfl (hn rfl) rfl rfl rfl rfl rfl) ?_
  refine ARun.step rfl (step_assignV rfl (hn rfl) rfl rfl) ?_
  refine ARun.nil ?_
  refine AWp.seq (AWp.region ?_)
  refine ARun.step rfl (step_moveV rfl (hn rfl) rfl rfl) ?_
  refine ARun.step rfl (step_field_b rfl (hn rfl) rfl yuFo121_0 rfl (by exact List.cons_ne_nil _ _)) ?_
  refine ARun.step rfl (step_load_b rfl (hn rfl) rfl yuSc9 rfl rfl) ?_
  refine ARun.step rfl (step_len_str rfl (hn rfl) rfl yuUs9 rfl) ?_
  refine ARun.step rfl (step_subI rfl (hn rfl) rfl rfl rfl (by omega) (by omega)) ?_
  refine ARun.step rfl (step_assignV rfl (hn rfl) rfl rfl) ?_
  refine ARun.nil ?_
  refine AWp.seq ?_
  refine AWp.seq (AWp.region ?_)
  refine ARun.step rfl (step_moveV rfl (hn rfl) rfl rfl) ?_
  refine ARun.step rfl (step_lss rfl (hn rfl) rfl rfl rfl) ?_
  refine ARun.nil ?_
  refine AWp.cond rfl (fun c1 => ?_) (fun c1 => ?_)
  · try simp only [nrm] at c1
    refine AWp.seq (AWp.region ?_)
    refine ARun.step rfl (step_assignV rfl (hn rfl) rfl rfl) ?_
    refine ARun.nil ?_
    refine AWp.ret ?_
    refine RetIs.sc (.inr rfl) rfl rfl ?_
    refine congrArg (T.int _) ?_
    simp only [szSlt]
    repeat' split
    all_goals first | rfl | omega
  · try simp only [nrm] at c1
    refine AWp.skip ?_
    refine AWp.seq (AWp.region ?_)
    refine ARun.step rfl (step_moveV rfl (hn rfl) rfl rfl) ?_
    refine ARun.step rfl (step_field_b rfl (hn rfl) rfl yuFo121_1 rfl (by exact List.cons_ne_nil _ _)) ?_
    refine ARun.step rfl (step_load_b rfl (hn rfl) rfl yuSc9 rfl rfl) ?_
    refine ARun.step rfl (step_len_str rfl (hn rfl) rfl yuUs9 rfl) ?_
    refine ARun.step rfl (step_subI rfl (hn rfl) rfl rfl rfl (by omega) (by omega)) ?_
    refine ARun.step rfl (step_assignV rfl (hn rfl) rfl rfl) ?_
    refine ARun.nil ?_
    refine AWp.seq ?_
    refine AWp.seq (AWp.region ?_)
    refine ARun.step rfl (step_moveV rfl (hn rfl) rfl rfl) ?_
    refine ARun.step rfl (step_lss rfl (hn rfl) rfl rfl rfl) ?_
    refine ARun.nil ?_
    refine AWp.cond rfl (fun c2 => ?_) (fun c2 => ?_)
    · try simp only [nrm] at c2
      refine AWp.seq (AWp.region ?_)
      refine ARun.step rfl (step_assignV rfl (hn rfl) rfl rfl) ?_
      refine ARun.nil ?_
      refine AWp.ret ?_
      refine RetIs.sc (.inr rfl) rfl rfl ?_
      refine congrArg (T.int _) ?_
      simp only [szSlt]
      repeat' split
      all_goals first | rfl | omega
    · try simp only [nrm] at c2
      refine AWp.skip ?_
      refine AWp.seq (AWp.region ?_)
      refine ARun.step rfl (step_moveV rfl (hn rfl) rfl rfl) ?_
      refine ARun.step rfl (step_assignV rfl (hn rfl) rfl rfl) ?_
      refine ARun.nil ?_
      refine AWp.ret ?_
      refine RetIs.sc (.inr rfl) rfl rfl ?_
      refine congrArg (T.int _) ?_
      simp only [szSlt]
      repeat' split
      all_goals first | rfl | omega
theorem sltSzL (l : List Slt) (m : Int) (hm : 0 ≤ m) (hm2 : m ≤ 1048576) : ASpec Tryz.prog 72 [.one (slts 121 l), .one (.int .i64 m)] (.one (.int .i64 (szL szSlt l m))) := by
  refine ASpec.body Tryz.func72 rfl [4] rfl 27 rfl rfl rfl ?_
  refine AWp.lenLe 0 rfl (fun hl => ?_)
  refine AWp.seq (AWp.region ?_)
  refine ARun.step rfl (step_assignV rfl (hn rfl) rfl rfl) ?_
  refine ARun.nil ?_
  refine AWp.seq (AWp.region ?_)
  refine ARun.step rfl (step_moveV rfl (hn rfl) rfl rfl) ?_
  refine ARun.step rfl (step_moveV rfl (hn rfl) rfl rfl) ?_
  refine ARun.step rfl (step_len_f rfl (hn rfl) rfl yuSl75 rfl) ?_
  refine ARun.step rfl (step_subI rfl (hn rfl) rfl rfl rfl (by omega) (by omega)) ?_
  refine ARun.step rfl (step_assignV rfl (hn rfl) rfl rfl) ?_
  refine ARun.nil ?_
  refine AWp.seq ?_
  refine AWp.seq (AWp.region ?_)
  refine ARun.step rfl (step_moveV rfl (hn rfl) rfl rfl) ?_
  refine ARun.step rfl (step_lss rfl (hn rfl) rfl rfl rfl) ?_
  refine ARun.nil ?_
  refine AWp.cond rfl (fun c1 => ?_) (fun c1 => ?_)
  · try simp only [nrm] at c1
    refine AWp.seq (AWp.region ?_)
    refine ARun.step rfl (step_assignV rfl (hn rfl) rfl rfl) ?_
    refine ARun.nil ?_
    refine AWp.ret ?_
    refine RetIs.sc (.inr rfl) rfl rfl ?_
    refine congrArg (T.int _) ?_
    rw [szL, if_pos (by omega)]
  · try simp only [nrm] at c1
    refine AWp.skip ?_
    refine AWp.seq ?_
    refine AWp.seq (AWp.region ?_)
    refine ARun.step rfl (step_assignV rfl (hn rfl) rfl rfl) ?_
    refine ARun.nil ?_
    refine AWp.block ?_
    refine AWp.loopM (fun x : Nat × Int => mkAS 27 [(0, ⟨true, .one (.v (slts 121 l))⟩), (1, ⟨true, .one (.v (.int .i64 x.2))⟩), (5, ⟨true, .one (.v (.int .i64 (x.1 : Nat)))⟩)] [] []) (fun x => x.1 ≤ l.length ∧ 0 ≤ x.2 ∧ x.2 ≤ 1048576 ∧ szGo szSlt (l.drop x.1) x.2 = szL szSlt l m) (fun x => l.length - x.1) (0, m - l.length) ?_ (Le.forgetR rfl ⟨rfl, rfl, rfl, trivial⟩ trivial trivial) ?_
    · try dsimp only
      exact ⟨by omega, by omega, by omega, by rw [szL, if_neg (by omega), List.drop_zero]⟩
    rintro x ⟨hi, hm3, hm4, hg⟩
    refine AWp.seq ?_
    refine AWp.seq (AWp.region ?_)
    refine ARun.step rfl (step_moveV rfl (hn rfl) rfl rfl) ?_
    refine ARun.step rfl (step_moveV rfl (hn rfl) rfl rfl) ?_
    refine ARun.step rfl (step_len_f rfl (hn rfl) rfl yuSl75 rfl) ?_
    refine ARun.step rfl (step_lss rfl (hn rfl) rfl rfl rfl) ?_
    refine ARun.nil ?_
    refine AWp.cond rfl (fun c2 => ?_) (fun c2 => ?_)
    · try simp only [nrm] at c2
      refine AWp.skip ?_
      refine AWp.seq ?_
      refine AWp.block ?_
      refine AWp.seq (AWp.region ?_)
      refine ARun.step rfl (step_moveV rfl (hn rfl) rfl rfl) ?_
      refine ARun.step rfl (step_moveV rfl (hn rfl) rfl rfl) ?_
      refine ARun.step rfl (step_index_fN rfl (hn rfl) rfl yuSl75 rfl rfl (by omega)) ?_
      refine ARun.step rfl (step_loadS_f rfl (hn rfl) rfl yuSt121 rfl (hn rfl) rfl rfl) ?_
      refine ARun.step rfl (step_moveV rfl (hn rfl) rfl rfl) ?_
      refine ARun.step rfl (call_step1 rfl (hn rfl) rfl yuCo95 (.cons rfl (.agg (.cons (.v _) (.cons (.v _) .nil))) (.cons rfl (.one (.v _)) (.nil))) (sltSz _ _ (by assumption) (by assumption)) rfl) ?_
      refine ARun.step rfl (step_assignV rfl (hn rfl) rfl rfl) ?_
      refine ARun.nil ?_
      refine AWp.seq (AWp.region ?_)
      refine ARun.step rfl (step_moveV rfl (hn rfl) rfl rfl) ?_
      refine ARun.step rfl (step_lss rfl (hn rfl) rfl rfl rfl) ?_
      refine ARun.nil ?_
      refine AWp.cond rfl (fun c3 => ?_) (fun c3 => ?_)
      · try simp only [nrm] at c3
        refine AWp.seq (AWp.region ?_)
        refine ARun.step rfl (step_assignV rfl (hn rfl) rfl rfl) ?_
        refine ARun.nil ?_
        refine AWp.ret ?_
        refine RetIs.sc (.inr rfl) rfl rfl ?_
        refine congrArg (T.int _) ?_
        rw [← hg, drop_nth (i := x.1) (by omega), szGo, if_pos (by omega)]
      · try simp only [nrm] at c3
        refine AWp.skip ?_
        refine AWp.region ?_
        refine ARun.step rfl (step_moveV rfl (hn rfl) rfl rfl) ?_
        refine ARun.step rfl (step_addI rfl (hn rfl) rfl rfl rfl (by omega) (by omega)) ?_
        refine ARun.step rfl (step_assignV rfl (hn rfl) rfl rfl) ?_
        refine ARun.nil ?_
        refine ⟨(x.1 + 1, szSlt (nth l x.1) x.2), ?_, ?_, Le.forgetR rfl ⟨rfl, rfl, rfl, trivial⟩ trivial trivial⟩
        · try dsimp only
          exact ⟨by omega, by omega, by have := szSlt_le (nth l x.1) x.2; omega, by rw [← hg, drop_nth (i := x.1) (by omega), szGo, if_neg (by omega)]⟩
        · try dsimp only
          omega
    · try simp only [nrm] at c2
      refine AWp.exit ?_
      refine AWp.seq (AWp.region ?_)
      refine ARun.step rfl (step_moveV rfl (hn rfl) rfl rfl) ?_
      refine ARun.step rfl (step_assignV rfl (hn rfl) rfl rfl) ?_
      refine ARun.nil ?_
      refine AWp.ret ?_
      refine RetIs.sc (.inr rfl) rfl rfl ?_
      refine congrArg (T.int _) ?_
      rw [← hg, List.drop_of_length_le (by omega), szGo]
theorem sltTo (p : Slt)  : ASpec Tryz.prog 107 [.agg p.cells] (.agg p.cells) := by
  refine ASpec.bodyC Tryz.func107 rfl 2 106 [] rfl rfl 11 rfl rfl rfl ?_
  refine AWp.seq (AWp.region ?_)
  refine ARun.step rfl (step_box_p (m := 1) rfl (hn rfl) rfl rfl rfl rfl rfl) ?_
  refine ARun.step rfl (step_alloc_p rfl (hn rfl) rfl yuZs106) ?_
  refine ARun.nil ?_
  refine AWp.seq (AWp.region ?_)
  refine ARun.step rfl (step_alloc_p rfl (hn rfl) rfl yuZs106) ?_
  refine ARun.nil ?_
  refine AWp.seq (AWp.region ?_)
  refine ARun.step rfl (step_field_b rfl (hn rfl) rfl yuFo121_0 rfl (by exact List.cons_ne_nil _ _)) ?_
  refine ARun.step rfl (step_load_b rfl (hn rfl) rfl yuSc9 rfl rfl) ?_
  refine ARun.step rfl (step_field_b rfl (hn rfl) rfl yuFo106_0 rfl (by exact List.cons_ne_nil _ _)) ?_
  refine ARun.step rfl (step_store_p rfl rfl yuCs9 rfl rfl rfl rfl rfl rfl rfl) ?_
  refine ARun.nil ?_
  refine AWp.seq (AWp.region ?_)
  refine ARun.step rfl (step_field_b rfl (hn rfl) rfl yuFo121_1 rfl (by exact List.cons_ne_nil _ _)) ?_
  refine ARun.step rfl (step_load_b rfl (hn rfl) rfl yuSc9 rfl rfl) ?_
  refine ARun.step rfl (step_field_b rfl (hn rfl) rfl yuFo106_1 rfl (by exact List.cons_ne_nil _ _)) ?_
  refine ARun.step rfl (step_store_p rfl rfl yuCs9 rfl rfl rfl rfl rfl rfl rfl) ?_
  refine ARun.nil ?_
  refine AWp.seq (AWp.region ?_)
  refine ARun.step rfl (step_loadS_b rfl (hn rfl) rfl yuSt106 rfl rfl rfl (by decide)) ?_
  refine ARun.step rfl (step_store_p rfl rfl yuCs106 rfl rfl rfl rfl rfl rfl rfl) ?_
  refine ARun.nil ?_
  refine AWp.ret ?_
  refine ⟨.inr rfl, 2, 2, _, _, _, yuSt106, by decide, rfl, rfl, rfl, rfl, (.cons rfl (.agg (.cons (.sc _ _ rfl) (.cons (.sc _ _ rfl) (.nil _)))) (.nil _)), rfl, ?_⟩
  refine congrArg PV.agg ?_
  rfl
theorem sltToL (l : List Slt) (hl : l.length ≤ 1048576) : ASpec Tryz.prog 83 [.one (slts 121 l)] (.one (slts 106 l)) := by
  refine ASpec.body Tryz.func83 rfl [2] rfl 23 rfl rfl rfl ?_
  refine AWp.seq (AWp.region ?_)
  refine ARun.step rfl (step_assignV rfl (hn rfl) rfl rfl) ?_
  refine ARun.nil ?_
  refine AWp.seq (AWp.region ?_)
  refine ARun.step rfl (step_moveV rfl (hn rfl) rfl rfl) ?_
  refine ARun.step rfl (step_len_f rfl (hn rfl) rfl yuSl75 rfl) ?_
  refine ARun.step rfl (step_makeSliceZ rfl (hn rfl) rfl yuSl49 (zeroOk_dead yuZs106) rfl (by omega) (by omega)) ?_
  refine ARun.step rfl (step_assignV rfl (hn rfl) rfl rfl) ?_
  refine ARun.nil ?_
  refine AWp.seq ?_
  refine AWp.seq (AWp.region ?_)
  refine ARun.step rfl (step_assignV rfl (hn rfl) rfl rfl) ?_
  refine ARun.nil ?_
  refine AWp.block ?_
  refine AWp.loopM (fun i : Nat => mkAS 23 [(0, ⟨true, .one (.v (slts 121 l))⟩), (3, ⟨true, .one (.ref ⟨.arr 7 0, []⟩)⟩), (4, ⟨true, .one (.v (.int .i64 (i : Nat)))⟩)] [] [(7, 0, .sl 106 2 l.length (rowsTo l Slt.cells (List.replicate 2 .dead) i))]) (fun i => i ≤ l.length) (fun i => l.length - i) 0 ?_ (Le.forgetR rfl ⟨rfl, rfl, rfl, trivial⟩ trivial ⟨.rows (fun _ _ => rfl), trivial⟩) ?_
  · try dsimp only
    omega
  rintro i hi
  refine AWp.seq ?_
  refine AWp.seq (AWp.region ?_)
  refine ARun.step rfl (step_moveV rfl (hn rfl) rfl rfl) ?_
  refine ARun.step rfl (step_moveV rfl (hn rfl) rfl rfl) ?_
  refine ARun.step rfl (step_len_f rfl (hn rfl) rfl yuSl75 rfl) ?_
  refine ARun.step rfl (step_lss rfl (hn rfl) rfl rfl rfl) ?_
  refine ARun.nil ?_
  refine AWp.cond rfl (fun c1 => ?_) (fun c1 => ?_)
  · try simp only [nrm] at c1
    refine AWp.skip ?_
    refine AWp.seq ?_
    refine AWp.block ?_
    refine AWp.region ?_
    refine ARun.step rfl (step_moveV rfl (hn rfl) rfl rfl) ?_
    refine ARun.step rfl (step_moveV rfl (hn rfl) rfl rfl) ?_
    refine ARun.step rfl (step_moveV rfl (hn rfl) rfl rfl) ?_
    refine ARun.step rfl (step_moveV rfl (hn rfl) rfl rfl) ?_
    refine ARun.step rfl (step_index_fN rfl (hn rfl) rfl yuSl75 rfl rfl (by omega)) ?_
    refine ARun.step rfl (step_loadS_f rfl (hn rfl) rfl yuSt121 rfl (hn rfl) rfl rfl) ?_
    refine ARun.step rfl (call_step1 rfl (hn rfl) rfl yuCo107 (.cons rfl (.agg (.cons (.v _) (.cons (.v _) .nil))) (.nil)) (sltTo _) rfl) ?_
    refine ARun.step rfl (step_index_rN rfl (hn rfl) rfl yuSl49 rfl rfl rfl (by omega)) ?_
    refine ARun.step rfl (step_store_row rfl rfl yuCs106 rfl rfl (by omega) rfl rfl rfl rfl rfl (by show (rowsTo l Slt.cells (List.replicate 2 .dead) i i).length = _; rw [rowsTo_at]; rfl)) ?_
    refine ARun.nil ?_
    refine AWp.region ?_
    refine ARun.step rfl (step_moveV rfl (hn rfl) rfl rfl) ?_
    refine ARun.step rfl (step_addI rfl (hn rfl) rfl rfl rfl (by omega) (by omega)) ?_
    refine ARun.step rfl (step_assignV rfl (hn rfl) rfl rfl) ?_
    refine ARun.nil ?_
    refine ⟨i + 1, ?_, ?_, Le.forgetR rfl ⟨rfl, rfl, rfl, trivial⟩ trivial ⟨.rows (fun j _ => rowsTo_next l Slt.cells _ i j), trivial⟩⟩
    · try dsimp only
      omega
    · try dsimp only
      omega
  · try simp only [nrm] at c1
    refine AWp.exit ?_
    refine AWp.seq (AWp.region ?_)
    refine ARun.step rfl (step_moveV rfl (hn rfl) rfl rfl) ?_
    refine ARun.step rfl (step_assignV rfl (hn rfl) rfl rfl) ?_
    refine ARun.nil ?_
    refine AWp.le (Le.forgetR (n := 23) (sl := [(2, ⟨true, .one (.ref ⟨.arr 7 0, []⟩)⟩)]) (bl := []) (al := [(7, 0, slts 106 l)]) rfl ⟨rfl, trivial⟩ trivial ⟨.rows (fun j hj => rowsTo_all l Slt.cells _ _ j (by omega)), trivial⟩) ?_
    refine AWp.ret ?_
    refine RetIs.ref (.inr rfl) rfl rfl ?_
    rfl
theorem sltToLZ (l : List Slt) (hl : l.length ≤ 1048576) : ASpec Tryz.prog 83 [.one (slts 121 l)] (.one (.fz (slts 106 l))) := (sltToL l hl).letGo (.p (.one (.fz (.refl _))))
theorem sltEq (p q : Slt)  : ASpec Tryz.prog 115 [.agg p.cells, .agg q.cells] (.one (.bool (eqSlt p q))) := by
  refine ASpec.body Tryz.func115 rfl [4] rfl 15 rfl rfl rfl ?_
  refine AWp.seq (AWp.region ?_)
  refine ARun.step rfl (step_box_p (m := 1) rfl (hn rfl) rfl rfl rfl rfl rfl) ?_
  refine ARun.step rfl (step_box_p (m := 1) rfl (hn rfl) rfl rfl rfl rfl rfl) ?_
  refine ARun.step rfl (step_assignV rfl (hn rfl) rfl rfl) ?_
  refine ARun.nil ?_
  refine AWp.seq ?_
  refine AWp.seq (AWp.region ?_)
  refine ARun.step rfl (step_field_b rfl (hn rfl) rfl yuFo106_0 rfl (by exact List.cons_ne_nil _ _)) ?_
  refine ARun.step rfl (step_load_b rfl (hn rfl) rfl yuSc9 rfl rfl) ?_
  refine ARun.step rfl (step_field_b rfl (hn rfl) rfl yuFo106_0 rfl (by exact List.cons_ne_nil _ _)) ?_
  refine ARun.step rfl (step_load_b rfl (hn rfl) rfl yuSc9 rfl rfl) ?_
  refine ARun.step rfl (step_sneq rfl (hn rfl) rfl rfl rfl) ?_
  refine ARun.nil ?_
  refine AWp.cond rfl (fun c1 => ?_) (fun c1 => ?_)
  · try simp only [nrm] at c1
    refine AWp.seq (AWp.region ?_)
    refine ARun.step rfl (step_assignV rfl (hn rfl) rfl rfl) ?_
    refine ARun.nil ?_
    refine AWp.ret ?_
    refine RetIs.sc (.inr rfl) rfl rfl ?_
    refine congrArg T.bool ?_
    simp_all [eqSlt]
  · try simp only [nrm] at c1
    refine AWp.skip ?_
    refine AWp.seq ?_
    refine AWp.seq (AWp.region ?_)
    refine ARun.step rfl (step_field_b rfl (hn rfl) rfl yuFo106_1 rfl (by exact List.cons_ne_nil _ _)) ?_
    refine ARun.step rfl (step_load_b rfl (hn rfl) rfl yuSc9 rfl rfl) ?_
    refine ARun.step rfl (step_field_b rfl (hn rfl) rfl yuFo106_1 rfl (by exact List.cons_ne_nil _ _)) ?_
    refine ARun.step rfl (step_load_b rfl (hn rfl) rfl yuSc9 rfl rfl) ?_
    refine ARun.step rfl (step_sneq rfl (hn rfl) rfl rfl rfl) ?_
    refine ARun.nil ?_
    refine AWp.cond rfl (fun c2 => ?_) (fun c2 => ?_)
    · try simp only [nrm] at c2
      refine AWp.seq (AWp.region ?_)
      refine ARun.step rfl (step_assignV rfl (hn rfl) rfl rfl) ?_
      refine ARun.nil ?_
      refine AWp.ret ?_
      refine RetIs.sc (.inr rfl) rfl rfl ?_
      refine congrArg T.bool ?_
      simp_all [eqSlt]
    · try simp only [nrm] at c2
      refine AWp.skip ?_
      refine AWp.seq (AWp.region ?_)
      refine ARun.step rfl (step_assignV rfl (hn rfl) rfl rfl) ?_
      refine ARun.nil ?_
      refine AWp.ret ?_
      refine RetIs.sc (.inr rfl) rfl rfl ?_
      refine congrArg T.bool ?_
      simp_all [eqSlt]
theorem sltEqL (a b : List Slt)  : ASpec Tryz.prog 93 [.one (slts 106 a), .one (slts 106 b)] (.one (.bool (eqL eqSlt a b))) := by
  refine ASpec.body Tryz.func93 rfl [4] rfl 27 rfl rfl rfl ?_
  refine AWp.lenLe 0 rfl (fun hl => ?_)
  refine AWp.seq (AWp.region ?_)
  refine ARun.step rfl (step_assignV rfl (hn rfl) rfl rfl) ?_
  refine ARun.nil ?_
  refine AWp.seq ?_
  refine AWp.seq (AWp.region ?_)
  refine ARun.step rfl (step_moveV rfl (hn rfl) rfl rfl) ?_
  refine ARun.step rfl (step_len_f rfl (hn rfl) rfl yuSl49 rfl) ?_
  refine ARun.step rfl (step_moveV rfl (hn rfl) rfl rfl) ?_
  refine ARun.step rfl (step_len_f rfl (hn rfl) rfl yuSl49 rfl) ?_
  refine ARun.step rfl (step_neq rfl (hn rfl) rfl rfl rfl) ?_
  refine ARun.nil ?_
  refine AWp.cond rfl (fun c1 => ?_) (fun c1 => ?_)
  · try simp only [nrm] at c1
    refine AWp.seq (AWp.region ?_)
    refine ARun.step rfl (step_assignV rfl (hn rfl) rfl rfl) ?_
    refine ARun.nil ?_
    refine AWp.ret ?_
    refine RetIs.sc (.inr rfl) rfl rfl ?_
    refine congrArg T.bool ?_
    rw [eqL, show (a.length == b.length) = false by simp; omega, Bool.false_and]
  · try simp only [nrm] at c1
    refine AWp.skip ?_
    refine AWp.seq ?_
    refine AWp.seq (AWp.region ?_)
    refine ARun.step rfl (step_assignV rfl (hn rfl) rfl rfl) ?_
    refine ARun.nil ?_
    refine AWp.block ?_
    refine AWp.loopM (fun i : Nat => mkAS 27 [(0, ⟨true, .one (.v (slts 106 a))⟩), (1, ⟨true, .one (.v (slts 106 b))⟩), (5, ⟨true, .one (.v (.int .i64 (i : Nat)))⟩)] [] []) (fun i => i ≤ a.length ∧ ∀ j, j < i → eqSlt (nth a j) (nth b j) = true) (fun i => a.length - i) 0 ?_ (Le.forgetR rfl ⟨rfl, rfl, rfl, trivial⟩ trivial trivial) ?_
    · try dsimp only
      exact ⟨by omega, by omega⟩
    rintro i ⟨hi, hall⟩
    refine AWp.seq ?_
    refine AWp.seq (AWp.region ?_)
    refine ARun.step rfl (step_moveV rfl (hn rfl) rfl rfl) ?_
    refine ARun.step rfl (step_moveV rfl (hn rfl) rfl rfl) ?_
    refine ARun.step rfl (step_len_f rfl (hn rfl) rfl yuSl49 rfl) ?_
    refine ARun.step rfl (step_lss rfl (hn rfl) rfl rfl rfl) ?_
    refine ARun.nil ?_
    refine AWp.cond rfl (fun c2 => ?_) (fun c2 => ?_)
    · try simp only [nrm] at c2
      refine AWp.skip ?_
      refine AWp.seq ?_
      refine AWp.block ?_
      refine AWp.seq (AWp.draw [⟨[.s 0], [.s 17], false⟩, ⟨[.s 5], [.s 18], false⟩, ⟨[.s 17, .s 18], [.s 19], false⟩, ⟨[.s 19], [.s 20], false⟩, ⟨[.s 1], [.s 21], false⟩, ⟨[.s 5], [.s 22], false⟩, ⟨[.s 21, .s 22], [.s 23], false⟩, ⟨[.s 23], [.s 24], false⟩, ⟨[.s 24, .s 20], [.s 25], false⟩, ⟨[.s 25], [.s 26], false⟩] yuMo rfl ?_)
      refine DRun.step rfl (fun τ hN hr => step_moveV rfl (rdN hN (hn rfl)) rfl (by exact rdS hr rfl rfl)) ?_
      refine DRun.step rfl (fun τ hN hr => step_moveV rfl (rdN hN (hn rfl)) rfl (by exact rdS hr rfl rfl)) ?_
      refine DRun.step rfl (fun τ hN hr => step_index_fN rfl (rdN hN (hn rfl)) rfl yuSl49 (by exact rdS hr rfl rfl) (by exact rdS hr rfl rfl) (by omega)) ?_
      refine DRun.step rfl (fun τ hN hr => step_loadS_f rfl (rdN hN (hn rfl)) rfl yuSt106 (by exact rdS hr rfl rfl) (hn rfl) rfl rfl) ?_
      refine DRun.step rfl (fun τ hN hr => step_moveV rfl (rdN hN (hn rfl)) rfl (by exact rdS hr rfl rfl)) ?_
      refine DRun.step rfl (fun τ hN hr => step_moveV rfl (rdN hN (hn rfl)) rfl (by exact rdS hr rfl rfl)) ?_
      refine DRun.step rfl (fun τ hN hr => step_index_fN rfl (rdN hN (hn rfl)) rfl yuSl49 (by exact rdS hr rfl rfl) (by exact rdS hr rfl rfl) (by omega)) ?_
      refine DRun.step rfl (fun τ hN hr => step_loadS_f rfl (rdN hN (hn rfl)) rfl yuSt106 (by exact rdS hr rfl rfl) (hn rfl) rfl rfl) ?_
      refine DRun.step rfl (fun τ hN hr => call_step1 rfl (rdN hN (hn rfl)) rfl yuCo115 (.cons (by exact rdS hr rfl rfl) (.agg (.cons (.v _) (.cons (.v _) .nil))) (.cons (by exact rdS hr rfl rfl) (.agg (.cons (.v _) (.cons (.v _) .nil))) (.nil))) (sltEq _ _) rfl) ?_
      refine DRun.step rfl (fun τ hN hr => step_not rfl (rdN hN (hn rfl)) rfl (by exact rdS hr rfl rfl)) ?_
      refine DRun.nil ?_
      refine AWp.cond rfl (fun c3 => ?_) (fun c3 => ?_)
      · try simp only [nrm] at c3
        refine AWp.seq (AWp.region ?_)
        refine ARun.step rfl (step_assignV rfl (hn rfl) rfl rfl) ?_
        refine ARun.nil ?_
        refine AWp.ret ?_
        refine RetIs.sc (.inr rfl) rfl rfl ?_
        refine congrArg T.bool ?_
        rw [eqL, all_not (i := i) (by omega) (by first | assumption | (simp only [eqSlt]; grind)), Bool.and_false]
      · try simp only [nrm] at c3
        refine AWp.skip ?_
        refine AWp.region ?_
        refine ARun.step rfl (step_moveV rfl (hn rfl) rfl rfl) ?_
        refine ARun.step rfl (step_addI rfl (hn rfl) rfl rfl rfl (by omega) (by omega)) ?_
        refine ARun.step rfl (step_assignV rfl (hn rfl) rfl rfl) ?_
        refine ARun.nil ?_
        refine ⟨i + 1, ?_, ?_, Le.forgetR rfl ⟨rfl, rfl, rfl, trivial⟩ trivial trivial⟩
        · try dsimp only
          exact ⟨by omega, upto hall (by first | assumption | (simp only [eqSlt]; grind))⟩
        · try dsimp only
          omega
    · try simp only [nrm] at c2
      refine AWp.exit ?_
      refine AWp.seq (AWp.region ?_)
      refine ARun.step rfl (step_assignV rfl (hn rfl) rfl rfl) ?_
      refine ARun.nil ?_
      refine AWp.ret ?_
      refine RetIs.sc (.inr rfl) rfl rfl ?_
      refine congrArg T.bool ?_
      rw [eqL, all_of (fun j hj => hall j (by omega)), show (a.length == b.length) = true by simp; omega, Bool.and_true]
theorem rbSz (p : Rb) (m : Int) (hm : 0 ≤ m) (hm2 : m ≤ 1048576) : ASpec Tryz.prog 40 [.agg (Rb.cells 119 121 p), .one (.int .i64 m)] (.one (.int .i64 (szRb p m))) := by
  refine ASpec.body Tryz.func40 rfl [4] rfl 32 rfl rfl rfl ?_
  refine AWp.aggLe 0 rfl (fun hc => ?_)
  have q0 : p.name.size ≤ 9223372036854775807 := hc (.v (.str p.name)) (by simp [Rb.cells])
  have q1 : p.at_.size ≤ 9223372036854775807 := hc (.v (.str p.at_)) (by simp [Rb.cells])
  clear hc
  have z0 := szL_le szPh_le p.recipe (m - p.name.size)
  have z1 := szL_le szSlt_le p.slots (szL szPh p.recipe (m - p.name.size))
  refine AWp.seq (AWp.region ?_)
  refine ARun.step rfl (step_box_p (m := 5) rfl (hn rfl) rfl rfl rfl rfl rfl) ?_
  refine ARun.step rfl (step_assignV rfl (hn rfl) rfl rfl) ?_
  refine ARun.nil ?_
  refine AWp.seq (AWp.region ?_)
  refine ARun.step rfl (step_moveV rfl (hn rfl) rfl rfl) ?_
  refine ARun.step rfl (step_field_b rfl (hn rfl) rfl yuFo77_0 rfl (by exact List.cons_ne_nil _ _)) ?_
  refine ARun.step rfl (step_load_b rfl (hn rfl) rfl yuSc9 rfl rfl) ?_
  refine ARun.step rfl (step_len_str rfl (hn rfl) rfl yuUs9 rfl) ?_
  refine ARun.step rfl (step_subI rfl (hn rfl) rfl rfl rfl (by omega) (by omega)) ?_
  refine ARun.step rfl (step_assignV rfl (hn rfl) rfl rfl) ?_
  refine ARun.nil ?_
  refine AWp.seq ?_
  refine AWp.seq (AWp.region ?_)
  refine ARun.step rfl (step_moveV rfl (hn rfl) rfl rfl) ?_
  refine ARun.step rfl (step_lss rfl (hn rfl) rfl rfl rfl) ?_
  refine ARun.nil ?_
  refine AWp.cond rfl (fun c1 => ?_) (fun c1 => ?_)
  · try simp only [nrm] at c1
    refine AWp.seq (AWp.region ?_)
    refine ARun.step rfl (step_assignV rfl (hn rfl) rfl rfl) ?_
    refine ARun.nil ?_
    refine AWp.ret ?_
    refine RetIs.sc (.inr rfl) rfl rfl ?_
    refine congrArg (T.int _) ?_
    simp only [szRb]
    repeat' split
    all_goals first | rfl | omega
  · try simp only [nrm] at c1
    refine AWp.skip ?_
    refine AWp.seq (AWp.region ?_)
    refine ARun.step rfl (step_field_b rfl (hn rfl) rfl yuFo77_1 rfl (by exact List.cons_ne_nil _ _)) ?_
    refine ARun.step rfl (step_load_b rfl (hn rfl) rfl yuSc74 rfl rfl) ?_
    refine ARun.step rfl (step_moveV rfl (hn rfl) rfl rfl) ?_
    refine ARun.step rfl (call_step1 rfl (hn rfl) rfl yuCo71 (.cons rfl (.one (.v _)) (.cons rfl (.one (.v _)) (.nil))) (szPhSI _ _ (by omega) (by omega)) rfl) ?_
    refine ARun.step rfl (step_assignV rfl (hn rfl) rfl rfl) ?_
    refine ARun.nil ?_
    refine AWp.seq ?_
    refine AWp.seq (AWp.region ?_)
    refine ARun.step rfl (step_moveV rfl (hn rfl) rfl rfl) ?_
    refine ARun.step rfl (step_lss rfl (hn rfl) rfl rfl rfl) ?_
    refine ARun.nil ?_
    refine AWp.cond rfl (fun c2 => ?_) (fun c2 => ?_)
    · try simp only [nrm] at c2
      refine AWp.seq (AWp.region ?_)
      refine ARun.step rfl (step_assignV rfl (hn rfl) rfl rfl) ?_
      refine ARun.nil ?_
      refine AWp.ret ?_
      refine RetIs.sc (.inr rfl) rfl rfl ?_
      refine congrArg (T.int _) ?_
      simp only [szRb]
      repeat' split
      all_goals first | rfl | omega
    · try simp only [nrm] at c2
      refine AWp.skip ?_
      refine AWp.seq (AWp.region ?_)
      refine ARun.step rfl (step_field_b rfl (hn rfl) rfl yuFo77_2 rfl (by exact List.cons_ne_nil _ _)) ?_
      refine ARun.step rfl (step_load_b rfl (hn rfl) rfl yuSc75 rfl rfl) ?_
      refine ARun.step rfl (step_moveV rfl (hn rfl) rfl rfl) ?_
      refine ARun.step rfl (call_step1 rfl (hn rfl) rfl yuCo72 (.cons rfl (.one (.v _)) (.cons rfl (.one (.v _)) (.nil))) (sltSzL _ _ (by omega) (by omega)) rfl) ?_
      refine ARun.step rfl (step_assignV rfl (hn rfl) rfl rfl) ?_
      refine ARun.nil ?_
      refine AWp.seq ?_
      refine AWp.seq (AWp.region ?_)
      refine ARun.step rfl (step_moveV rfl (hn rfl) rfl rfl) ?_
      refine ARun.step rfl (step_lss rfl (hn rfl) rfl rfl rfl) ?_
      refine ARun.nil ?_
      refine AWp.cond rfl (fun c3 => ?_) (fun c3 => ?_)
      · try simp only [nrm] at c3
        refine AWp.seq (AWp.region ?_)
        refine ARun.step rfl (step_assignV rfl (hn rfl) rfl rfl) ?_
        refine ARun.nil ?_
        refine AWp.ret ?_
        refine RetIs.sc (.inr rfl) rfl rfl ?_
        refine congrArg (T.int _) ?_
        simp only [szRb]
        repeat' split
        all_goals first | rfl | omega
      · try simp only [nrm] at c3
        refine AWp.skip ?_
        refine AWp.seq (AWp.region ?_)
        refine ARun.step rfl (step_moveV rfl (hn rfl) rfl rfl) ?_
        refine ARun.step rfl (step_field_b rfl (hn rfl) rfl yuFo77_3 rfl (by exact List.cons_ne_nil _ _)) ?_
        refine ARun.step rfl (step_load_b rfl (hn rfl) rfl yuSc9 rfl rfl) ?_
        refine ARun.step rfl (step_len_str rfl (hn rfl) rfl yuUs9 rfl) ?_
        refine ARun.step rfl (step_subI rfl (hn rfl) rfl rfl rfl (by omega) (by omega)) ?_
        refine ARun.step rfl (step_assignV rfl (hn rfl) rfl rfl) ?_
        refine ARun.nil ?_
        refine AWp.seq ?_
        refine AWp.seq (AWp.region ?_)
        refine ARun.step rfl (step_moveV rfl (hn rfl) rfl rfl) ?_
        refine ARun.step rfl (step_lss rfl (hn rfl) rfl rfl rfl) ?_
        refine ARun.nil ?_
        refine AWp.cond rfl (fun c4 => ?_) (fun c4 => ?_)
        · try simp only [nrm] at c4
          refine AWp.seq (AWp.region ?_)
          refine ARun.step rfl (step_assignV rfl (hn rfl) rfl rfl) ?_
          refine ARun.nil ?_
          refine AWp.ret ?_
          refine RetIs.sc (.inr rfl) rfl rfl ?_
          refine congrArg (T.int _) ?_
          simp only [szRb]
          repeat' split
          all_goals first | rfl | omega
        · try simp only [nrm] at c4
          refine AWp.skip ?_
          refine AWp.seq (AWp.region ?_)
          refine ARun.step rfl (step_moveV rfl (hn rfl) rfl rfl) ?_
          refine ARun.step rfl (step_assignV rfl (hn rfl) rfl rfl) ?_
          refine ARun.nil ?_
          refine AWp.ret ?_
          refine RetIs.sc (.inr rfl) rfl rfl ?_
          refine congrArg (T.int _) ?_
          simp only [szRb]
          repeat' split
          all_goals first | rfl | omega
theorem rbSzL (l : List Rb) (m : Int) (hm : 0 ≤ m) (hm2 : m ≤ 1048576) : ASpec Tryz.prog 13 [.one (rbs 77 119 121 l), .one (.int .i64 m)] (.one (.int .i64 (szL szRb l m))) := by
  refine ASpec.body Tryz.func13 rfl [4] rfl 27 rfl rfl rfl ?_
  refine AWp.lenLe 0 rfl (fun hl => ?_)
  refine AWp.seq (AWp.region ?_)
  refine ARun.step rfl (step_assignV rfl (hn rfl) rfl rfl) ?_
  refine ARun.nil ?_
  refine AWp.seq (AWp.region ?_)
  refine ARun.step rfl (step_moveV rfl (hn rfl) rfl rfl) ?_
  refine ARun.step rfl (step_moveV rfl (hn rfl) rfl rfl) ?_
  refine ARun.step rfl (step_len_f rfl (hn rfl) rfl yuSl26 rfl) ?_
  refine ARun.step rfl (step_subI rfl (hn rfl) rfl rfl rfl (by omega) (by omega)) ?_
  refine ARun.step rfl (step_assignV rfl (hn rfl) rfl rfl) ?_
  refine ARun.nil ?_
  refine AWp.seq ?_
  refine AWp.seq (AWp.region ?_)
  refine ARun.step rfl (step_moveV rfl (hn rfl) rfl rfl) ?_
  refine ARun.step rfl (step_lss rfl (hn rfl) rfl rfl rfl) ?_
  refine ARun.nil ?_
  refine AWp.cond rfl (fun c1 => ?_) (fun c1 => ?_)
  · try simp only [nrm] at c1
    refine AWp.seq (AWp.region ?_)
    refine ARun.step rfl (step_assignV rfl (hn rfl) rfl rfl) ?_
    refine ARun.nil ?_
    refine AWp.ret ?_
    refine RetIs.sc (.inr rfl) rfl rfl ?_
    refine congrArg (T.int _) ?_
    rw [szL, if_pos (by omega)]
  · try simp only [nrm] at c1
    refine AWp.skip ?_
    refine AWp.seq ?_
    refine AWp.seq (AWp.region ?_)
    refine ARun.step rfl (step_assignV rfl (hn rfl) rfl rfl) ?_
    refine ARun.nil ?_
    refine AWp.block ?_
    refine AWp.loopM (fun x : Nat × Int => mkAS 27 [(0, ⟨true, .one (.v (rbs 77 119 121 l))⟩), (1, ⟨true, .one (.v (.int .i64 x.2))⟩), (5, ⟨true, .one (.v (.int .i64 (x.1 : Nat)))⟩)] [] []) (fun x => x.1 ≤ l.length ∧ 0 ≤ x.2 ∧ x.2 ≤ 1048576 ∧ szGo szRb (l.drop x.1) x.2 = szL szRb l m) (fun x => l.length - x.1) (0, m - l.length) ?_ (Le.forgetR rfl ⟨rfl, rfl, rfl, trivial⟩ trivial trivial) ?_
    · try dsimp only
      exact ⟨by omega, by omega, by omega, by rw [szL, if_neg (by omega), List.drop_zero]⟩
    rintro x ⟨hi, hm3, hm4, hg⟩
    refine AWp.seq ?_
    refine AWp.seq (AWp.region ?_)
    refine ARun.step rfl (step_moveV rfl (hn rfl) rfl rfl) ?_
    refine ARun.step rfl (step_moveV rfl (hn rfl) rfl rfl) ?_
    refine ARun.step rfl (step_len_f rfl (hn rfl) rfl yuSl26 rfl) ?_
    refine ARun.step rfl (step_lss rfl (hn rfl) rfl rfl rfl) ?_
    refine ARun.nil ?_
    refine AWp.cond rfl (fun c2 => ?_) (fun c2 => ?_)
    · try simp only [nrm] at c2
      refine AWp.skip ?_
      refine AWp.seq ?_
      refine AWp.block ?_
      refine AWp.seq (AWp.region ?_)
      refine ARun.step rfl (step_moveV rfl (hn rfl) rfl rfl) ?_
      refine ARun.step rfl (step_moveV rfl (hn rfl) rfl rfl) ?_
      refine ARun.step rfl (step_index_fN rfl (hn rfl) rfl yuSl26 rfl rfl (by omega)) ?_
      refine ARun.step rfl (step_loadS_f rfl (hn rfl) rfl yuSt77 rfl (hn rfl) rfl rfl) ?_
      refine ARun.step rfl (step_moveV rfl (hn rfl) rfl rfl) ?_
      refine ARun.step rfl (call_step1 rfl (hn rfl) rfl yuCo40 (.cons rfl (.agg (.cons (.v _) (.cons (.v _) (.cons (.v _) (.cons (.v _) (.cons (.v _) (.cons (.v _) .nil))))))) (.cons rfl (.one (.v _)) (.nil))) (rbSz _ _ (by assumption) (by assumption)) rfl) ?_
      refine ARun.step rfl (step_assignV rfl (hn rfl) rfl rfl) ?_
      refine ARun.nil ?_
      refine AWp.seq (AWp.region ?_)
      refine ARun.step rfl (step_moveV rfl (hn rfl) rfl rfl) ?_
      refine ARun.step rfl (step_lss rfl (hn rfl) rfl rfl rfl) ?_
      refine ARun.nil ?_
      refine AWp.cond rfl (fun c3 => ?_) (fun c3 => ?_)
      · try simp only [nrm] at c3
        refine AWp.seq (AWp.region ?_)
        refine ARun.step rfl (step_assignV rfl (hn rfl) rfl rfl) ?_
        refine ARun.nil ?_
        refine AWp.ret ?_
        refine RetIs.sc (.inr rfl) rfl rfl ?_
        refine congrArg (T.int _) ?_
        rw [← hg, drop_nth (i := x.1) (by omega), szGo, if_pos (by omega)]
      · try simp only [nrm] at c3
        refine AWp.skip ?_
        refine AWp.region ?_
        refine ARun.step rfl (step_moveV rfl (hn rfl) rfl rfl) ?_
        refine ARun.step rfl (step_addI rfl (hn rfl) rfl rfl rfl (by omega) (by omega)) ?_
        refine ARun.step rfl (step_assignV rfl (hn rfl) rfl rfl) ?_
        refine ARun.nil ?_
        refine ⟨(x.1 + 1, szRb (nth l x.1) x.2), ?_, ?_, Le.forgetR rfl ⟨rfl, rfl, rfl, trivial⟩ trivial trivial⟩
        · try dsimp only
          exact ⟨by omega, by omega, by have := szRb_le (nth l x.1) x.2; omega, by rw [← hg, drop_nth (i := x.1) (by omega), szGo, if_neg (by omega)]⟩
        · try dsimp only
          omega
    · try simp only [nrm] at c2
      refine AWp.exit ?_
      refine AWp.seq (AWp.region ?_)
      refine ARun.step rfl (step_moveV rfl (hn rfl) rfl rfl) ?_
      refine ARun.step rfl (step_assignV rfl (hn rfl) rfl rfl) ?_
      refine ARun.nil ?_
      refine AWp.ret ?_
      refine RetIs.sc (.inr rfl) rfl rfl ?_
      refine congrArg (T.int _) ?_
      rw [← hg, List.drop_of_length_le (by omega), szGo]
theorem rbTo (p : Rb) (hs : smallRb p) : ASpec Tryz.prog 54 [.agg (Rb.cells 119 121 p)] (.agg (Rb.cells 85 106 p)) := by
  refine ASpec.bodyC Tryz.func54 rfl 2 51 [] rfl rfl 25 rfl rfl rfl ?_
  refine AWp.seq (AWp.region ?_)
  refine ARun.step rfl (step_box_p (m := 5) rfl (hn rfl) rfl rfl rfl rfl rfl) ?_
  refine ARun.step rfl (step_alloc_p rfl (hn rfl) rfl yuZs51) ?_
  refine ARun.nil ?_
  refine AWp.seq (AWp.region ?_)
  refine ARun.step rfl (step_alloc_p rfl (hn rfl) rfl yuZs51) ?_
  refine ARun.nil ?_
  refine AWp.seq (AWp.region ?_)
  refine ARun.step rfl (step_field_b rfl (hn rfl) rfl yuFo77_0 rfl (by exact List.cons_ne_nil _ _)) ?_
  refine ARun.step rfl (step_load_b rfl (hn rfl) rfl yuSc9 rfl rfl) ?_
  refine ARun.step rfl (step_field_b rfl (hn rfl) rfl yuFo51_0 rfl (by exact List.cons_ne_nil _ _)) ?_
  refine ARun.step rfl (step_store_p rfl rfl yuCs9 rfl rfl rfl rfl rfl rfl rfl) ?_
  refine ARun.nil ?_
  refine AWp.seq (AWp.region ?_)
  refine ARun.step rfl (step_field_b rfl (hn rfl) rfl yuFo77_1 rfl (by exact List.cons_ne_nil _ _)) ?_
  refine ARun.step rfl (step_load_b rfl (hn rfl) rfl yuSc74 rfl rfl) ?_
  refine ARun.step rfl (call_stepN rfl (hn rfl) rfl yuCo82 (.cons rfl (.one (.v _)) (.nil)) (phToL _ hs.1) rfl rfl) ?_
  refine ARun.step rfl (step_field_b rfl (hn rfl) rfl yuFo51_1 rfl (by exact List.cons_ne_nil _ _)) ?_
  refine ARun.step rfl (step_store_r rfl rfl yuCs48 rfl rfl rfl rfl rfl rfl rfl) ?_
  refine ARun.nil ?_
  refine AWp.seq (AWp.region ?_)
  refine ARun.step rfl (step_field_b rfl (hn rfl) rfl yuFo77_2 rfl (by exact List.cons_ne_nil _ _)) ?_
  refine ARun.step rfl (step_load_b rfl (hn rfl) rfl yuSc75 rfl rfl) ?_
  refine ARun.step rfl (call_stepN rfl (hn rfl) rfl yuCo83 (.cons rfl (.one (.v _)) (.nil)) (sltToL _ hs.2) rfl rfl) ?_
  refine ARun.step rfl (step_field_b rfl (hn rfl) rfl yuFo51_2 rfl (by exact List.cons_ne_nil _ _)) ?_
  refine ARun.step rfl (step_store_r rfl rfl yuCs49 rfl rfl rfl rfl rfl rfl rfl) ?_
  refine ARun.nil ?_
  refine AWp.seq (AWp.region ?_)
  refine ARun.step rfl (step_field_b rfl (hn rfl) rfl yuFo77_3 rfl (by exact List.cons_ne_nil _ _)) ?_
  refine ARun.step rfl (step_load_b rfl (hn rfl) rfl yuSc9 rfl rfl) ?_
  refine ARun.step rfl (step_field_b rfl (hn rfl) rfl yuFo51_3 rfl (by exact List.cons_ne_nil _ _)) ?_
  refine ARun.step rfl (step_store_p rfl rfl yuCs9 rfl rfl rfl rfl rfl rfl rfl) ?_
  refine ARun.nil ?_
  refine AWp.seq (AWp.region ?_)
  refine ARun.step rfl (step_field_b rfl (hn rfl) rfl yuFo77_4 rfl (by exact List.cons_ne_nil _ _)) ?_
  refine ARun.step rfl (step_load_b rfl (hn rfl) rfl yuSc3 rfl rfl) ?_
  refine ARun.step rfl (step_field_b rfl (hn rfl) rfl yuFo51_4 rfl (by exact List.cons_ne_nil _ _)) ?_
  refine ARun.step rfl (step_store_p rfl rfl yuCs3 rfl rfl rfl rfl rfl rfl rfl) ?_
  refine ARun.nil ?_
  refine AWp.seq (AWp.region ?_)
  refine ARun.step rfl (step_field_b rfl (hn rfl) rfl yuFo77_5 rfl (by exact List.cons_ne_nil _ _)) ?_
  refine ARun.step rfl (step_load_b rfl (hn rfl) rfl yuSc3 rfl rfl) ?_
  refine ARun.step rfl (step_field_b rfl (hn rfl) rfl yuFo51_5 rfl (by exact List.cons_ne_nil _ _)) ?_
  refine ARun.step rfl (step_store_p rfl rfl yuCs3 rfl rfl rfl rfl rfl rfl rfl) ?_
  refine ARun.nil ?_
  refine AWp.seq (AWp.region ?_)
  refine ARun.step rfl (step_loadS_b rfl (hn rfl) rfl yuSt51 rfl rfl rfl (by decide)) ?_
  refine ARun.step rfl (step_store_r rfl rfl yuCs51 rfl rfl rfl rfl rfl rfl rfl) ?_
  refine ARun.nil ?_
  refine AWp.ret ?_
  refine ⟨.inr rfl, 2, 6, _, _, _, yuSt51, by decide, rfl, rfl, rfl, rfl, (.cons rfl (.agg (.cons (.sc _ _ rfl) (.cons (.ref _ _ rfl) (.cons (.ref _ _ rfl) (.cons (.sc _ _ rfl) (.cons (.sc _ _ rfl) (.cons (.sc _ _ rfl) (.nil _)))))))) (.nil _)), rfl, ?_⟩
  refine congrArg PV.agg ?_
  rfl
theorem rbToZ (p : Rb) (hs : smallRb p) : ASpec Tryz.prog 54 [.agg (Rb.cells 119 121 p)] (.agg (Rb.zcells 85 106 p)) := (rbTo p hs).letGo (.p (.agg (.cons (.sc _ rfl) (.cons (.fz (.refl _)) (.cons (.fz (.refl _)) (.cons (.sc _ rfl) (.cons (.sc _ rfl) (.cons (.sc _ rfl) .nil))))))))
theorem rbToL (l : List Rb) (hl : l.length ≤ 1048576) (hs : ∀ i, i < l.length → smallRb (nth l i)) : ASpec Tryz.prog 22 [.one (rbs 77 119 121 l)] (.one (rbsO 51 85 106 l)) := by
  refine ASpec.body Tryz.func22 rfl [2] rfl 23 rfl rfl rfl ?_
  refine AWp.seq (AWp.region ?_)
  refine ARun.step rfl (step_assignV rfl (hn rfl) rfl rfl) ?_
  refine ARun.nil ?_
  refine AWp.seq (AWp.region ?_)
  refine ARun.step rfl (step_moveV rfl (hn rfl) rfl rfl) ?_
  refine ARun.step rfl (step_len_f rfl (hn rfl) rfl yuSl26 rfl) ?_
  refine ARun.step rfl (step_makeSliceZ rfl (hn rfl) rfl yuSl35 (zeroOk_dead yuZs51) rfl (by omega) (by omega)) ?_
  refine ARun.step rfl (step_assignV rfl (hn rfl) rfl rfl) ?_
  refine ARun.nil ?_
  refine AWp.seq ?_
  refine AWp.seq (AWp.region ?_)
  refine ARun.step rfl (step_assignV rfl (hn rfl) rfl rfl) ?_
  refine ARun.nil ?_
  refine AWp.block ?_
  refine AWp.loopM (fun i : Nat => mkAS 23 [(0, ⟨true, .one (.v (rbs 77 119 121 l))⟩), (3, ⟨true, .one (.ref ⟨.arr 7 0, []⟩)⟩), (4, ⟨true, .one (.v (.int .i64 (i : Nat)))⟩)] [] [(7, 0, .sl 51 6 l.length (rowsTo l (Rb.cells 85 106) (List.replicate 6 .dead) i))]) (fun i => i ≤ l.length) (fun i => l.length - i) 0 ?_ (Le.forgetR rfl ⟨rfl, rfl, rfl, trivial⟩ trivial ⟨.rows (fun _ _ => rfl), trivial⟩) ?_
  · try dsimp only
    omega
  rintro i hi
  refine AWp.seq ?_
  refine AWp.seq (AWp.region ?_)
  refine ARun.step rfl (step_moveV rfl (hn rfl) rfl rfl) ?_
  refine ARun.step rfl (step_moveV rfl (hn rfl) rfl rfl) ?_
  refine ARun.step rfl (step_len_f rfl (hn rfl) rfl yuSl26 rfl) ?_
  refine ARun.step rfl (step_lss rfl (hn rfl) rfl rfl rfl) ?_
  refine ARun.nil ?_
  refine AWp.cond rfl (fun c1 => ?_) (fun c1 => ?_)
  · try simp only [nrm] at c1
    refine AWp.skip ?_
    refine AWp.seq ?_
    refine AWp.block ?_
    refine AWp.region ?_
    refine ARun.step rfl (step_moveV rfl (hn rfl) rfl rfl) ?_
    refine ARun.step rfl (step_moveV rfl (hn rfl) rfl rfl) ?_
    refine ARun.step rfl (step_moveV rfl (hn rfl) rfl rfl) ?_
    refine ARun.step rfl (step_moveV rfl (hn rfl) rfl rfl) ?_
    refine ARun.step rfl (step_index_fN rfl (hn rfl) rfl yuSl26 rfl rfl (by omega)) ?_
    refine ARun.step rfl (step_loadS_f rfl (hn rfl) rfl yuSt77 rfl (hn rfl) rfl rfl) ?_
    refine ARun.step rfl (call_stepN rfl (hn rfl) rfl yuCo54 (.cons rfl (.agg (.cons (.v _) (.cons (.v _) (.cons (.v _) (.cons (.v _) (.cons (.v _) (.cons (.v _) .nil))))))) (.nil)) (rbTo _ (hs i (by omega))) rfl rfl) ?_
    refine ARun.step rfl (step_index_rN rfl (hn rfl) rfl yuSl35 rfl rfl rfl (by omega)) ?_
    refine ARun.step rfl (step_store_e rfl rfl yuCs51 rfl rfl (by omega) (hn rfl) rfl rfl rfl) ?_
    refine ARun.nil ?_
    refine AWp.region ?_
    refine ARun.step rfl (step_moveV rfl (hn rfl) rfl rfl) ?_
    refine ARun.step rfl (step_addI rfl (hn rfl) rfl rfl rfl (by omega) (by omega)) ?_
    refine ARun.step rfl (step_assignV rfl (hn rfl) rfl rfl) ?_
    refine ARun.nil ?_
    refine ⟨i + 1, ?_, ?_, Le.forgetR rfl ⟨rfl, rfl, rfl, trivial⟩ trivial ⟨.rows (fun j _ => by rw [setRowN6 (by rw [rowsTo_at]; rfl)]; exact rowsTo_next l (Rb.cells 85 106) _ i j), trivial⟩⟩
    · try dsimp only
      omega
    · try dsimp only
      omega
  · try simp only [nrm] at c1
    refine AWp.exit ?_
    refine AWp.seq (AWp.region ?_)
    refine ARun.step rfl (step_moveV rfl (hn rfl) rfl rfl) ?_
    refine ARun.step rfl (step_assignV rfl (hn rfl) rfl rfl) ?_
    refine ARun.nil ?_
    refine AWp.le (Le.forgetR (n := 23) (sl := [(2, ⟨true, .one (.ref ⟨.arr 7 0, []⟩)⟩)]) (bl := []) (al := [(7, 0, rbsO 51 85 106 l)]) rfl ⟨rfl, trivial⟩ trivial ⟨.rows (fun j hj => rowsTo_all l (Rb.cells 85 106) _ _ j (by omega)), trivial⟩) ?_
    refine AWp.ret ?_
    refine RetIs.ref (.inr rfl) rfl rfl ?_
    rfl
theorem rbToLZ (l : List Rb) (hl : l.length ≤ 1048576) (hs : ∀ i, i < l.length → smallRb (nth l i)) : ASpec Tryz.prog 22 [.one (rbs 77 119 121 l)] (.one (.fz (rbs 51 85 106 l))) := (rbToL l hl hs).letGo (.p (.one (.fz (fz_rbs _ _ _ _))))
theorem rbEq (p q : Rb)  : ASpec Tryz.prog 67 [.agg (Rb.cells 85 106 p), .agg (Rb.cells 85 106 q)] (.one (.bool (eqRb p q))) := by
  refine ASpec.body Tryz.func67 rfl [4] rfl 37 rfl rfl rfl ?_
  refine AWp.seq (AWp.region ?_)
  refine ARun.step rfl (step_box_p (m := 5) rfl (hn rfl) rfl rfl rfl rfl rfl) ?_
  refine ARun.step rfl (step_box_p (m := 5) rfl (hn rfl) rfl rfl rfl rfl rfl) ?_
  refine ARun.step rfl (step_assignV rfl (hn rfl) rfl rfl) ?_
  refine ARun.nil ?_
  refine AWp.seq ?_
  refine AWp.seq (AWp.region ?_)
  refine ARun.step rfl (step_field_b rfl (hn rfl) rfl yuFo51_0 rfl (by exact List.cons_ne_nil _ _)) ?_
  refine ARun.step rfl (step_load_b rfl (hn rfl) rfl yuSc9 rfl rfl) ?_
  refine ARun.step rfl (step_field_b rfl (hn rfl) rfl yuFo51_0 rfl (by exact List.cons_ne_nil _ _)) ?_
  refine ARun.step rfl (step_load_b rfl (hn rfl) rfl yuSc9 rfl rfl) ?_
  refine ARun.step rfl (step_sneq rfl (hn rfl) rfl rfl rfl) ?_
  refine ARun.nil ?_
  refine AWp.cond rfl (fun c1 => ?_) (fun c1 => ?_)
  · try simp only [nrm] at c1
    refine AWp.seq (AWp.region ?_)
    refine ARun.step rfl (step_assignV rfl (hn rfl) rfl rfl) ?_
    refine ARun.nil ?_
    refine AWp.ret ?_
    refine RetIs.sc (.inr rfl) rfl rfl ?_
    refine congrArg T.bool ?_
    simp_all [eqRb]
  · try simp only [nrm] at c1
    refine AWp.skip ?_
    refine AWp.seq ?_
    refine AWp.seq (AWp.region ?_)
    refine ARun.step rfl (step_field_b rfl (hn rfl) rfl yuFo51_1 rfl (by exact List.cons_ne_nil _ _)) ?_
    refine ARun.step rfl (step_load_b rfl (hn rfl) rfl yuSc48 rfl rfl) ?_
    refine ARun.step rfl (step_field_b rfl (hn rfl) rfl yuFo51_1 rfl (by exact List.cons_ne_nil _ _)) ?_
    refine ARun.step rfl (step_load_b rfl (hn rfl) rfl yuSc48 rfl rfl) ?_
    refine ARun.step rfl (call_step1 rfl (hn rfl) rfl yuCo92 (.cons rfl (.one (.v _)) (.cons rfl (.one (.v _)) (.nil))) (phEqL _ _) rfl) ?_
    refine ARun.step rfl (step_not rfl (hn rfl) rfl rfl) ?_
    refine ARun.nil ?_
    refine AWp.cond rfl (fun c2 => ?_) (fun c2 => ?_)
    · try simp only [nrm] at c2
      refine AWp.seq (AWp.region ?_)
      refine ARun.step rfl (step_assignV rfl (hn rfl) rfl rfl) ?_
      refine ARun.nil ?_
      refine AWp.ret ?_
      refine RetIs.sc (.inr rfl) rfl rfl ?_
      refine congrArg T.bool ?_
      simp_all [eqRb]
    · try simp only [nrm] at c2
      refine AWp.skip ?_
      refine AWp.seq ?_
      refine AWp.seq (AWp.region ?_)
      refine ARun.step rfl (step_field_b rfl (hn rfl) rfl yuFo51_2 rfl (by exact List.cons_ne_nil _ _)) ?_
      refine ARun.step rfl (step_load_b rfl (hn rfl) rfl yuSc49 rfl rfl) ?_
      refine ARun.step rfl (step_field_b rfl (hn rfl) rfl yuFo51_2 rfl (by exact List.cons_ne_nil _ _)) ?_
      refine ARun.step rfl (step_load_b rfl (hn rfl) rfl yuSc49 rfl rfl) ?_
      refine ARun.step rfl (call_step1 rfl (hn rfl) rfl yuCo93 (.cons rfl (.one (.v _)) (.cons rfl (.one (.v _)) (.nil))) (sltEqL _ _) rfl) ?_
      refine ARun.step rfl (step_not rfl (hn rfl) rfl rfl) ?_
      refine ARun.nil ?_
      refine AWp.cond rfl (fun c3 => ?_) (fun c3 => ?_)
      · try simp only [nrm] at c3
        refine AWp.seq (AWp.region ?_)
        refine ARun.step rfl (step_assignV rfl (hn rfl) rfl rfl) ?_
        refine ARun.nil ?_
        refine AWp.ret ?_
        refine RetIs.sc (.inr rfl) rfl rfl ?_
        refine congrArg T.bool ?_
        simp_all [eqRb]
      · try simp only [nrm] at c3
        refine AWp.skip ?_
        refine AWp.seq ?_
        refine AWp.seq (AWp.region ?_)
        refine ARun.step rfl (step_field_b rfl (hn rfl) rfl yuFo51_3 rfl (by exact List.cons_ne_nil _ _)) ?_
        refine ARun.step rfl (step_load_b rfl (hn rfl) rfl yuSc9 rfl rfl) ?_
        refine ARun.step rfl (step_field_b rfl (hn rfl) rfl yuFo51_3 rfl (by exact List.cons_ne_nil _ _)) ?_
        refine ARun.step rfl (step_load_b rfl (hn rfl) rfl yuSc9 rfl rfl) ?_
        refine ARun.step rfl (step_sneq rfl (hn rfl) rfl rfl rfl) ?_
        refine ARun.nil ?_
        refine AWp.cond rfl (fun c4 => ?_) (fun c4 => ?_)
        · try simp only [nrm] at c4
          refine AWp.seq (AWp.region ?_)
          refine ARun.step rfl (step_assignV rfl (hn rfl) rfl rfl) ?_
          refine ARun.nil ?_
          refine AWp.ret ?_
          refine RetIs.sc (.inr rfl) rfl rfl ?_
          refine congrArg T.bool ?_
          simp_all [eqRb]
        · try simp only [nrm] at c4
          refine AWp.skip ?_
          refine AWp.seq ?_
          refine AWp.seq (AWp.region ?_)
          refine ARun.step rfl (step_field_b rfl (hn rfl) rfl yuFo51_4 rfl (by exact List.cons_ne_nil _ _)) ?_
          refine ARun.step rfl (step_load_b rfl (hn rfl) rfl yuSc3 rfl rfl) ?_
          refine ARun.step rfl (step_field_b rfl (hn rfl) rfl yuFo51_4 rfl (by exact List.cons_ne_nil _ _)) ?_
          refine ARun.step rfl (step_load_b rfl (hn rfl) rfl yuSc3 rfl rfl) ?_
          refine ARun.step rfl (step_neq rfl (hn rfl) rfl rfl rfl) ?_
          refine ARun.nil ?_
          refine AWp.cond rfl (fun c5 => ?_) (fun c5 => ?_)
          · try simp only [nrm] at c5
            refine AWp.seq (AWp.region ?_)
            refine ARun.step rfl (step_assignV rfl (hn rfl) rfl rfl) ?_
            refine ARun.nil ?_
            refine AWp.ret ?_
            refine RetIs.sc (.inr rfl) rfl rfl ?_
            refine congrArg T.bool ?_
            simp_all [eqRb]
          · try simp only [nrm] at c5
            refine AWp.skip ?_
            refine AWp.seq ?_
            refine AWp.seq (AWp.region ?_)
            refine ARun.step rfl (step_field_b rfl (hn rfl) rfl yuFo51_5 rfl (by exact List.cons_ne_nil _ _)) ?_
            refine ARun.step rfl (step_load_b rfl (hn rfl) rfl yuSc3 rfl rfl) ?_
            refine ARun.step rfl (step_field_b rfl (hn rfl) rfl yuFo51_5 rfl (by exact List.cons_ne_nil _ _)) ?_
            refine ARun.step rfl (step_load_b rfl (hn rfl) rfl yuSc3 rfl rfl) ?_
            refine ARun.step rfl (step_neq rfl (hn rfl) rfl rfl rfl) ?_
            refine ARun.nil ?_
            refine AWp.cond rfl (fun c6 => ?_) (fun c6 => ?_)
            · try simp only [nrm] at c6
              refine AWp.seq (AWp.region ?_)
              refine ARun.step rfl (step_assignV rfl (hn rfl) rfl rfl) ?_
              refine ARun.nil ?_
              refine AWp.ret ?_
              refine RetIs.sc (.inr rfl) rfl rfl ?_
              refine congrArg T.bool ?_
              simp_all [eqRb]
            · try simp only [nrm] at c6
              refine AWp.skip ?_
              refine AWp.seq (AWp.region ?_)
              refine ARun.step rfl (step_assignV rfl (hn rfl) rfl rfl) ?_
              refine ARun.nil ?_
              refine AWp.ret ?_
              refine RetIs.sc (.inr rfl) rfl rfl ?_
              refine congrArg T.bool ?_
              simp_all [eqRb]
theorem rbEqL (a b : List Rb)  : ASpec Tryz.prog 34 [.one (rbs 51 85 106 a), .one (rbs 51 85 106 b)] (.one (.bool (eqL eqRb a b))) := by
  refine ASpec.body Tryz.func34 rfl [4] rfl 27 rfl rfl rfl ?_
  refine AWp.lenLe 0 rfl (fun hl => ?_)
  refine AWp.seq (AWp.region ?_)
  refine ARun.step rfl (step_assignV rfl (hn rfl) rfl rfl) ?_
  refine ARun.nil ?_
  refine AWp.seq ?_
  refine AWp.seq (AWp.region ?_)
  refine ARun.step rfl (step_moveV rfl (hn rfl) rfl rfl) ?_
  refine ARun.step rfl (step_len_f rfl (hn rfl) rfl yuSl35 rfl) ?_
  refine ARun.step rfl (step_moveV rfl (hn rfl) rfl rfl) ?_
  refine ARun.step rfl (step_len_f rfl (hn rfl) rfl yuSl35 rfl) ?_
  refine ARun.step rfl (step_neq rfl (hn rfl) rfl rfl rfl) ?_
  refine ARun.nil ?_
  refine AWp.cond rfl (fun c1 => ?_) (fun c1 => ?_)
  · try simp only [nrm] at c1
    refine AWp.seq (AWp.region ?_)
    refine ARun.step rfl (step_assignV rfl (hn rfl) rfl rfl) ?_
    refine ARun.nil ?_
    refine AWp.ret ?_
    refine RetIs.sc (.inr rfl) rfl rfl ?_
    refine congrArg T.bool ?_
    rw [eqL, show (a.length == b.length) = false by simp; omega, Bool.false_and]
  · try simp only [nrm] at c1
    refine AWp.skip ?_
    refine AWp.seq ?_
    refine AWp.seq (AWp.region ?_)
    refine ARun.step rfl (step_assignV rfl (hn rfl) rfl rfl) ?_
    refine ARun.nil ?_
    refine AWp.block ?_
    refine AWp.loopM (fun i : Nat => mkAS 27 [(0, ⟨true, .one (.v (rbs 51 85 106 a))⟩), (1, ⟨true, .one (.v (rbs 51 85 106 b))⟩), (5, ⟨true, .one (.v (.int .i64 (i : Nat)))⟩)] [] []) (fun i => i ≤ a.length ∧ ∀ j, j < i → eqRb (nth a j) (nth b j) = true) (fun i => a.length - i) 0 ?_ (Le.forgetR rfl ⟨rfl, rfl, rfl, trivial⟩ trivial trivial) ?_
    · try dsimp only
      exact ⟨by omega, by omega⟩
    rintro i ⟨hi, hall⟩
    refine AWp.seq ?_
    refine AWp.seq (AWp.region ?_)
    refine ARun.step rfl (step_moveV rfl (hn rfl) rfl rfl) ?_
    refine ARun.step rfl (step_moveV rfl (hn rfl) rfl rfl) ?_
    refine ARun.step rfl (step_len_f rfl (hn rfl) rfl yuSl35 rfl) ?_
    refine ARun.step rfl (step_lss rfl (hn rfl) rfl rfl rfl) ?_
    refine ARun.nil ?_
    refine AWp.cond rfl (fun c2 => ?_) (fun c2 => ?_)
    · try simp only [nrm] at c2
      refine AWp.skip ?_
      refine AWp.seq ?_
      refine AWp.block ?_
      refine AWp.seq (AWp.draw [⟨[.s 0], [.s 17], false⟩, ⟨[.s 5], [.s 18], false⟩, ⟨[.s 17, .s 18], [.s 19], false⟩, ⟨[.s 19], [.s 20], false⟩, ⟨[.s 1], [.s 21], false⟩, ⟨[.s 5], [.s 22], false⟩, ⟨[.s 21, .s 22], [.s 23], false⟩, ⟨[.s 23], [.s 24], false⟩, ⟨[.s 24, .s 20], [.s 25], false⟩, ⟨[.s 25], [.s 26], false⟩] yuMo rfl ?_)
      refine DRun.step rfl (fun τ hN hr => step_moveV rfl (rdN hN (hn rfl)) rfl (by exact rdS hr rfl rfl)) ?_
      refine DRun.step rfl (fun τ hN hr => step_moveV rfl (rdN hN (hn rfl)) rfl (by exact rdS hr rfl rfl)) ?_
      refine DRun.step rfl (fun τ hN hr => step_index_fN rfl (rdN hN (hn rfl)) rfl yuSl35 (by exact rdS hr rfl rfl) (by exact rdS hr rfl rfl) (by omega)) ?_
      refine DRun.step rfl (fun τ hN hr => step_loadS_f rfl (rdN hN (hn rfl)) rfl yuSt51 (by exact rdS hr rfl rfl) (hn rfl) rfl rfl) ?_
      refine DRun.step rfl (fun τ hN hr => step_moveV rfl (rdN hN (hn rfl)) rfl (by exact rdS hr rfl rfl)) ?_
      refine DRun.step rfl (fun τ hN hr => step_moveV rfl (rdN hN (hn rfl)) rfl (by exact rdS hr rfl rfl)) ?_
      refine DRun.step rfl (fun τ hN hr => step_index_fN rfl (rdN hN (hn rfl)) rfl yuSl35 (by exact rdS hr rfl rfl) (by exact rdS hr rfl rfl) (by omega)) ?_
      refine DRun.step rfl (fun τ hN hr => step_loadS_f rfl (rdN hN (hn rfl)) rfl yuSt51 (by exact rdS hr rfl rfl) (hn rfl) rfl rfl) ?_
      refine DRun.step rfl (fun τ hN hr => call_step1 rfl (rdN hN (hn rfl)) rfl yuCo67 (.cons (by exact rdS hr rfl rfl) (.agg (.cons (.v _) (.cons (.v _) (.cons (.v _) (.cons (.v _) (.cons (.v _) (.cons (.v _) .nil))))))) (.cons (by exact rdS hr rfl rfl) (.agg (.cons (.v _) (.cons (.v _) (.cons (.v _) (.cons (.v _) (.cons (.v _) (.cons (.v _) .nil))))))) (.nil))) (rbEq _ _) rfl) ?_
      refine DRun.step rfl (fun τ hN hr => step_not rfl (rdN hN (hn rfl)) rfl (by exact rdS hr rfl rfl)) ?_
      refine DRun.nil ?_
      refine AWp.cond rfl (fun c3 => ?_) (fun c3 => ?_)
      · try simp only [nrm] at c3
        refine AWp.seq (AWp.region ?_)
        refine ARun.step rfl (step_assignV rfl (hn rfl) rfl rfl) ?_
        refine ARun.nil ?_
        refine AWp.ret ?_
        refine RetIs.sc (.inr rfl) rfl rfl ?_
        refine congrArg T.bool ?_
        rw [eqL, all_not (i := i) (by omega) (by first | assumption | (simp only [eqRb]; grind)), Bool.and_false]
      · try simp only [nrm] at c3
        refine AWp.skip ?_
        refine AWp.region ?_
        refine ARun.step rfl (step_moveV rfl (hn rfl) rfl rfl) ?_
        refine ARun.step rfl (step_addI rfl (hn rfl) rfl rfl rfl (by omega) (by omega)) ?_
        refine ARun.step rfl (step_assignV rfl (hn rfl) rfl rfl) ?_
        refine ARun.nil ?_
        refine ⟨i + 1, ?_, ?_, Le.forgetR rfl ⟨rfl, rfl, rfl, trivial⟩ trivial trivial⟩
        · try dsimp only
          exact ⟨by omega, upto hall (by first | assumption | (simp only [eqRb]; grind))⟩
        · try dsimp only
          omega
    · try simp only [nrm] at c2
      refine AWp.exit ?_
      refine AWp.seq (AWp.region ?_)
      refine ARun.step rfl (step_assignV rfl (hn rfl) rfl rfl) ?_
      refine ARun.nil ?_
      refine AWp.ret ?_
      refine RetIs.sc (.inr rfl) rfl rfl ?_
      refine congrArg T.bool ?_
      rw [eqL, all_of (fun j hj => hall j (by omega)), show (a.length == b.length) = true by simp; omega, Bool.and_true]

end Go.Proofs.YtomjieobbgcjeaaGreat
