/- Contracts of functions of the program, each met by its body; conditions stand in each statement. No condition. -/
import Derived.Test.YtkmacjdigkaabaaGreatGe
import Derived.Test.YtkmacjdigkaabaaGreatProg
import Derived.KernelRfl
set_option linter.unusedVariables false
set_option linter.unusedSimpArgs false
set_option linter.unnecessarySimpa false
set_option linter.unusedSimpArgs false
set_option maxRecDepth 100000
namespace Go.Proofs.YtkmacjdigkaabaaGreat
open Go Go.Mh

abbrev Str := ByteArray
def bAt (s : Str) (i : Nat) : Int := ((s.data.getD i 0).toNat : Int)
def nmC (c : Int) : Bool := ((decide (c ≥ 97) && decide (c ≤ 122)) || (decide (c ≥ 48) && decide (c ≤ 57))) || c == 45
def nameB (s : Str) : Bool := (List.range s.size).all fun i => nmC (bAt s i)
def inB (x a b : Int) : Bool := decide (x ≥ a) && decide (x ≤ b)
def nameOk (s : Str) : Bool := inB s.size 1 8 && nameB s
theorem all_of {n : Nat} {p : Nat → Bool} (h : ∀ j, j < n → p j = true) : (List.range n).all p = true := by
  rw [List.all_eq_true]; intro x hx; exact h x (List.mem_range.1 hx)
theorem all_not {n i : Nat} {p : Nat → Bool} (hi : i < n) (h : p i = false) : (List.range n).all p = false := by
  rw [List.all_eq_false]; exact ⟨i, List.mem_range.2 hi, by simp [h]⟩
theorem upto {i : Nat} {p : Nat → Prop} (h : ∀ j, j < i → p j) (hi : p i) : ∀ j, j < i + 1 → p j := by
  intro j hj
  by_cases e : j = i
  · subst e; exact hi
  · exact h j (by omega)
def nth {α : Type} [Inhabited α] (l : List α) (i : Nat) : α := l.getD i default
structure Ph where
  name : Str
  kind : Int
  a : Str
  b : Str
  n : Int
  within : Int
  thn : Str
  els : Str
deriving Inhabited
def Ph.cells (p : Ph) : List T := [.str p.name, .int .i64 p.kind, .str p.a, .str p.b, .int .i64 p.n, .int .i64 p.within, .str p.thn, .str p.els]
theorem Ph.le {p : Ph} (h : ∀ c, c ∈ p.cells.map C.v → fitsC c) : p.name.size ≤ 9223372036854775807 ∧ p.a.size ≤ 9223372036854775807 ∧ p.b.size ≤ 9223372036854775807 ∧ p.thn.size ≤ 9223372036854775807 ∧ p.els.size ≤ 9223372036854775807 :=
  ⟨h (.v (.str p.name)) (by simp [Ph.cells]), h (.v (.str p.a)) (by simp [Ph.cells]), h (.v (.str p.b)) (by simp [Ph.cells]), h (.v (.str p.thn)) (by simp [Ph.cells]), h (.v (.str p.els)) (by simp [Ph.cells])⟩
def eqL {α : Type} [Inhabited α] (f : α → α → Bool) (a b : List α) : Bool := a.length == b.length && (List.range a.length).all fun i => f (nth a i) (nth b i)
theorem strEq_refl (s : Str) : strEq s s = true := by simp [strEq]
theorem eqL_refl {α : Type} [Inhabited α] {f : α → α → Bool} (h : ∀ p, f p p = true) (l : List α) : eqL f l l = true := by
  simp only [eqL, beq_self_eq_true, Bool.true_and]; exact all_of fun j _ => h _
def strs (l : List Str) : T := .sl 9 1 l.length (fun i => [.str (nth l i)])
structure Bt where
  name : Str
  has : List Str
  needs : List Str
deriving Inhabited
def Bt.cells (p : Bt) : List T := [.str p.name, strs p.has, strs p.needs]
def Bt.zcells (p : Bt) : List T := [.str p.name, .fz (strs p.has), .fz (strs p.needs)]
def bts (e : Nat) (l : List Bt) : T := .sl e 3 l.length (fun i => (nth l i).zcells)
structure Bk where
  things : List Str
  bs : List Bt
deriving Inhabited
def Bk.cells (e : Nat) (p : Bk) : List T := [strs p.things, bts e p.bs]
def Bk.zcells (e : Nat) (p : Bk) : List T := [.fz (strs p.things), .fz (bts e p.bs)]
/-- rows that own what they hold -/
def btsO (e : Nat) (l : List Bt) : T := .sl e 3 l.length (fun i => (nth l i).cells)
def Bk.ocells (e : Nat) (p : Bk) : List T := [strs p.things, btsO e p.bs]
theorem fz_bts (e : Nat) (l : List Bt) : Fz (btsO e l) (bts e l) := .rows (fun i hi => rfl) (fun i j hi => match j with | 0 => .refl _ | 1 => .fz (.refl _) | 2 => .fz (.refl _) | _ + 3 => .refl _)
theorem clean_strs (l : List Str) : Mh.Clean (strs l) := .sl (fun i j hi hj => by
  obtain rfl : j = 0 := by omega
  exact .str _)
theorem clean_btsO (e : Nat) (l : List Bt) : Mh.Clean (btsO e l) := .sl (fun i j hi hj => match j with | 0 => .str _ | 1 => clean_strs _ | 2 => clean_strs _ | _ + 3 => (by omega))
/-- what the size looked at has shown: no list is long -/
def smallBt (p : Bt) : Prop := p.has.length ≤ 1048576 ∧ p.needs.length ≤ 1048576
def smallBk (p : Bk) : Prop := p.things.length ≤ 1048576 ∧ p.bs.length ≤ 1048576 ∧ ∀ i, i < p.bs.length → smallBt (nth p.bs i)
def eqBt (p q : Bt) : Bool := strEq p.name q.name && eqL strEq p.has q.has && eqL strEq p.needs q.needs
theorem eqBt_refl (p : Bt) : eqBt p p = true := by simp [eqBt, strEq_refl, eqL_refl]
def eqBk (p q : Bk) : Bool := eqL strEq p.things q.things && eqL eqBt p.bs q.bs
theorem eqBk_refl (p : Bk) : eqBk p p = true := by simp [eqBk, strEq_refl, eqL_refl, eqBt_refl]
def hasB (l : List Str) (s : Str) : Bool := (List.range l.length).any fun i => strEq (nth l i) s
theorem any_of {n i : Nat} {p : Nat → Bool} (hi : i < n) (h : p i = true) : (List.range n).any p = true := by
  rw [List.any_eq_true]; exact ⟨i, List.mem_range.2 hi, h⟩
theorem any_not {n : Nat} {p : Nat → Bool} (h : ∀ j, j < n → p j = false) : (List.range n).any p = false := by
  rw [List.any_eq_false]; intro x hx; simp [h x (List.mem_range.1 hx)]
def meetsB (a b : List Str) : Bool := (List.range a.length).any fun i => hasB b (nth a i)
def withinB (a b : List Str) : Bool := (List.range a.length).all fun i => hasB b (nth a i)
theorem strEq_comm (s t : Str) : strEq s t = strEq t s := by simp only [strEq, Bool.beq_comm]
def idxS (l : List Str) (s : Str) : Int := match (List.range l.length).find? (fun i => strEq s (nth l i)) with | some i => (i : Int) | none => -1
theorem idxS_none {l : List Str} {s : Str} {i : Nat} (h : ∀ j, j < i → strEq s (nth l j) = false) (hi : l.length ≤ i) : -1 = idxS l s := by
  have : (List.range l.length).find? (fun i => strEq s (nth l i)) = none := by
    rw [List.find?_eq_none]; intro x hx; have := h x (by have := List.mem_range.1 hx; omega); simp [this]
  simp [idxS, this]
theorem idxS_some {l : List Str} {s : Str} {i : Nat} (h : ∀ j, j < i → strEq s (nth l j) = false) (hi : i < l.length) (hs : strEq s (nth l i) = true) : (i : Int) = idxS l s := by
  have : (List.range l.length).find? (fun i => strEq s (nth l i)) = some i := by
    rw [List.find?_range_eq_some]
    exact ⟨hs, List.mem_range.2 hi, fun j hj => by simp [h j hj]⟩
  simp [idxS, this]
theorem idxS_has (l : List Str) (s : Str) : decide (idxS l s ≥ 0) = hasB l s := by
  unfold idxS hasB
  split
  · rename_i i h
    have h1 := List.find?_some h
    have h2 := List.mem_of_find?_eq_some h
    rw [any_of (i := i) (List.mem_range.1 h2) (by rw [strEq_comm]; exact h1)]
    simp
  · rename_i h
    rw [List.find?_eq_none] at h
    rw [any_not fun j hj => by have := h j (List.mem_range.2 hj); rw [strEq_comm]; simpa using this]
    simp

def risAt (l : List Str) (i : Nat) : Bool := i == 0 || strLt (nth l (i - 1)) (nth l i)
def risingB (l : List Str) : Bool := (List.range l.length).all (risAt l)
theorem all_and2 {n : Nat} {p q : Nat → Bool} : ((List.range n).all p && (List.range n).all q) = (List.range n).all (fun i => p i && q i) := by
  rw [Bool.eq_iff_iff]
  simp only [Bool.and_eq_true, List.all_eq_true]
  exact ⟨fun h x hx => ⟨h.1 x hx, h.2 x hx⟩, fun h => ⟨fun x hx => (h x hx).1, fun x hx => (h x hx).2⟩⟩
def namesB (l : List Str) : Bool := (List.range l.length).all (fun i => nameOk (nth l i)) && risingB l
theorem namesB_eq (l : List Str) : namesB l = (List.range l.length).all (fun i => nameOk (nth l i) && risAt l i) := all_and2
theorem within_eq (a b : List Str) : (withinB a b && risingB a) = (List.range a.length).all (fun i => hasB b (nth a i) && risAt a i) := all_and2

def btAt (p : Bk) (i : Nat) : Bool := nameOk (nth p.bs i).name && (i == 0 || strLt (nth p.bs (i - 1)).name (nth p.bs i).name) && (withinB (nth p.bs i).needs p.things && risingB (nth p.bs i).needs) && (withinB (nth p.bs i).has (nth p.bs i).needs && risingB (nth p.bs i).has)
def btFree (p : Bk) (i : Nat) : Bool := (List.range i).all fun j => !meetsB (nth p.bs i).has (nth p.bs j).has
def bookOk (p : Bk) : Bool := (decide (p.things.length ≤ 8) && namesB p.things && decide (p.bs.length ≤ 5)) && (List.range p.bs.length).all fun i => btAt p i && btFree p i
theorem bookOk_not {p : Bk} {i : Nat} (hi : i < p.bs.length) (h : (btAt p i && btFree p i) = false) : bookOk p = false := by
  rw [bookOk, all_not (i := i) hi h, Bool.and_false]

def nameAt (p : Bk) (s : Str) (i : Nat) : Bool := strEq (nth p.bs i).name s
def idxB (p : Bk) (s : Str) : Int := match (List.range p.bs.length).find? (nameAt p s) with | some i => (i : Int) | none => -1
theorem idxB_none {p : Bk} {s : Str} {i : Nat} (h : ∀ j, j < i → nameAt p s j = false) (hi : p.bs.length ≤ i) : -1 = idxB p s := by
  have : (List.range p.bs.length).find? (nameAt p s) = none := by
    rw [List.find?_eq_none]; intro x hx; have := h x (by have := List.mem_range.1 hx; omega); simp [this]
  simp [idxB, this]
theorem idxB_some {p : Bk} {s : Str} {i : Nat} (h : ∀ j, j < i → nameAt p s j = false) (hi : i < p.bs.length) (hs : nameAt p s i = true) : (i : Int) = idxB p s := by
  have : (List.range p.bs.length).find? (nameAt p s) = some i := by
    rw [List.find?_range_eq_some]
    exact ⟨hs, List.mem_range.2 hi, fun j hj => by simp [h j hj]⟩
  simp [idxB, this]
theorem idxB_lt (p : Bk) (s : Str) : -1 ≤ idxB p s ∧ idxB p s < p.bs.length := by
  unfold idxB
  split
  · rename_i i h
    have h2 := List.mem_range.1 (List.mem_of_find?_eq_some h)
    exact ⟨by omega, by omega⟩
  · exact ⟨by omega, by omega⟩
def blk (p : Bk) (i : Nat) (gone : List Str) (k : Nat) : Bool := !Nat.beq k i && !hasB gone (nth p.bs k).name && meetsB (nth p.bs k).has (nth p.bs i).needs
def canB (p : Bk) (i : Nat) (gone : List Str) : Bool := (List.range p.bs.length).all fun k => !blk p i gone k
theorem beq_toNat {k : Nat} {z : Int} (hz : 0 ≤ z) : Nat.beq k z.toNat = ((k : Int) == z) := by
  by_cases h : k = z.toNat
  · subst h; simp; omega
  · rw [beq_false h]; symm; rw [beq_eq_false_iff_ne]; omega

theorem nth_take {l : List Str} {i j : Nat} (h : j < i) : nth (l.take i) j = nth l j := by
  unfold nth
  rw [List.getD_eq_getElem?_getD, List.getD_eq_getElem?_getD, List.getElem?_take, if_pos h]

theorem strs_take (l : List Str) (i q : Nat) (h : q < (l.take i).length) : [T.str (nth l (0 + q))] = [T.str (nth (l.take i) q)] := by
  rw [List.length_take] at h
  rw [Nat.zero_add, nth_take (by omega)]
theorem nth_append_left {α : Type} [Inhabited α] {a b : List α} {i : Nat} (h : i < a.length) : nth (a ++ b) i = nth a i := by
  simp [nth, List.getD_eq_getElem?_getD, List.getElem?_append_left h]
theorem nth_append_right {α : Type} [Inhabited α] {a b : List α} {i : Nat} (h : a.length ≤ i) : nth (a ++ b) i = nth b (i - a.length) := by
  simp [nth, List.getD_eq_getElem?_getD, List.getElem?_append_right h]
theorem step_append_strs {P : Program} {o : Oper} {σ : AS} {dst : Nat} (hd : o.dst = some dst) (hn : dst < σ.n) {t by' : Nat} {x y : Operand} (ho : o.op = .call { callee := .builtin .append, args := #[x, y], argTypes := #[t, t] }) (ht : sliceT P t = some ⟨9, 1, by'⟩) {d k : Nat} {a b : List Str} {c : C}
    (hx : σ.ev x = ⟨true, .one (.ref ⟨.arr d k, []⟩)⟩) (hp : σ.arr d k = strs a) (hy : σ.ev y = ⟨true, .one c⟩) (hc : ArgC σ c (strs b)) (hb : (a.length + b.length) * by' ≤ 140737488355328) (hm : a.length + b.length ≤ 140737488355328) (hdr : Nat.beq d RR = false := by rfl) :
    Step P o σ (((σ.mapC (onArr d k)).setArr d k (strs (a ++ b))).setS dst ⟨true, .one (.ref ⟨.arr d k, []⟩)⟩) := by
  have h := step_append hd hn ho ht hx hp hy hc (fun _ _ => rfl) hb hm hdr
  refine h.le (Le.eqvArr ?_)
  unfold strs
  rw [List.length_append]
  refine .rows fun i hi => ?_
  simp only [catF]
  split
  · rename_i h1; rw [nth_append_left h1]
  · rename_i h1; rw [nth_append_right (by omega)]
theorem step_build0 {P : Program} {o : Oper} {σ : AS} {d : Nat} (hd : o.dst = some d) (hn : d < σ.n) {t by' : Nat} (ho : o.op = .buildSlice t 0 ([] : List (Nat × Operand)).toArray) (ht : sliceT P t = some ⟨9, 1, by'⟩) :
    Step P o σ (((σ.kill d).setArr d 0 (strs [])).setS d ⟨true, .one (.ref ⟨.arr d 0, []⟩)⟩) := by
  have h := step_buildSlice (ps := []) hd hn ho ht (by simp) rfl (by simp) (by intro q hq; cases hq) rfl
  exact h.le (Le.eqvArr (.rows (fun i hi => absurd hi (by omega))))
theorem eqv_strs {a b : List Str} (h : a = b) : Eqv (strs a) (strs b) := h ▸ .refl _
def movesGo (p : Bk) : Nat → List Str
  | 0 => []
  | i + 1 => if canB p i [] = true then movesGo p i ++ [(nth p.bs i).name] else movesGo p i
theorem movesGo_len (p : Bk) (i : Nat) : (movesGo p i).length ≤ i := by
  induction i with
  | zero => exact Nat.le_refl _
  | succ i ih =>
    simp only [movesGo]; split
    · simp; omega
    · omega
def movesB (p : Bk) : List Str := if bookOk p = true then movesGo p p.bs.length else []
theorem bookOk_bs {p : Bk} (h : bookOk p = true) : p.bs.length ≤ 5 := by
  simp only [bookOk, Bool.and_eq_true, decide_eq_true_eq] at h
  exact h.1.2

theorem movesGo_yes {p : Bk} {i : Nat} (h : canB p i [] = true) : movesGo p i ++ [(nth p.bs i).name] = movesGo p (i + 1) := by simp only [movesGo, if_pos h]
theorem movesGo_no {p : Bk} {i : Nat} (h : canB p i [] = false) : movesGo p i = movesGo p (i + 1) := by simp only [movesGo, h]; rfl
def nextOk (p : Bk) (l : List Str) (i : Nat) : Bool := !hasB l (nth p.bs i).name && canB p i l
def nextB (p : Bk) (l : List Str) : Option Nat := (List.range p.bs.length).find? (nextOk p l)
def nextI (p : Bk) (l : List Str) : Int := match nextB p l with | some i => (i : Int) | none => -1
theorem nextB_none {p : Bk} {l : List Str} {i : Nat} (h : ∀ j, j < i → nextOk p l j = false) (hi : p.bs.length ≤ i) : nextB p l = none := by
  unfold nextB
  rw [List.find?_eq_none]; intro x hx; have := h x (by have := List.mem_range.1 hx; omega); simp [this]
theorem nextB_some {p : Bk} {l : List Str} {i : Nat} (h : ∀ j, j < i → nextOk p l j = false) (hi : i < p.bs.length) (hs : nextOk p l i = true) : nextB p l = some i := by
  unfold nextB
  rw [List.find?_range_eq_some]
  exact ⟨hs, List.mem_range.2 hi, fun j hj => by simp [h j hj]⟩
theorem nextI_neg {p : Bk} {l : List Str} (h : nextI p l < 0) : nextB p l = none := by
  unfold nextI at h
  cases hh : nextB p l with
  | none => rfl
  | some i => rw [hh] at h; dsimp only at h; omega
theorem nextI_nn {p : Bk} {l : List Str} (h : 0 ≤ nextI p l) : ∃ i, nextB p l = some i ∧ nextI p l = (i : Nat) := by
  unfold nextI at h
  cases hh : nextB p l with
  | none => rw [hh] at h; dsimp only at h; omega
  | some i => exact ⟨i, rfl, by rw [nextI, hh]⟩
theorem nextB_lt {p : Bk} {l : List Str} {i : Nat} (h : nextB p l = some i) : i < p.bs.length := List.mem_range.1 (List.mem_of_find?_eq_some h)
def orderGo (p : Bk) : Nat → List Str → Option (List Str)
  | 0, l => some l
  | k + 1, l => match nextB p l with
    | some i => orderGo p k (l ++ [(nth p.bs i).name])
    | none => none
def orderB (p : Bk) : Option (List Str) := if bookOk p = true then orderGo p p.bs.length [] else none
theorem orderGo_step {p : Bk} {l : List Str} {i : Nat} (h : nextB p l = some i) (hl : l.length < p.bs.length) : orderGo p (p.bs.length - l.length) l = orderGo p (p.bs.length - (l ++ [(nth p.bs i).name]).length) (l ++ [(nth p.bs i).name]) := by
  rw [show p.bs.length - l.length = (p.bs.length - (l ++ [(nth p.bs i).name]).length) + 1 by simp; omega]
  simp only [orderGo, h]
theorem orderGo_stuck {p : Bk} {l : List Str} (h : nextB p l = none) (hl : l.length < p.bs.length) : orderGo p (p.bs.length - l.length) l = none := by
  rw [show p.bs.length - l.length = (p.bs.length - l.length - 1) + 1 by omega]
  simp only [orderGo, h]
theorem orderGo_end {p : Bk} {l : List Str} (hl : p.bs.length ≤ l.length) : orderGo p (p.bs.length - l.length) l = some l := by
  rw [show p.bs.length - l.length = 0 by omega]; rfl
def stuckB (p : Bk) : Bool := bookOk p && decide (0 < p.bs.length) && (movesB p).length == 0

theorem beq_len0 (n : Nat) : ((n : Int) == 0) = (n == 0) := by
  rw [Bool.eq_iff_iff, beq_iff_eq, beq_iff_eq]; omega

theorem yaUs9 : Tryz.prog.underlying 9 = some .string := by kernel_rfl
theorem yaSl22 : sliceT Tryz.prog 22 = some ⟨9, 1, 16⟩ := by kernel_rfl
theorem yaSc9 : scalarB Tryz.prog 9 = true := by kernel_rfl
theorem yaCo205 : callOk Tryz.prog 205 = true := by kernel_rfl
theorem yaCo148 : callOk Tryz.prog 148 = true := by kernel_rfl
theorem yaCo86 : callOk Tryz.prog 86 = true := by kernel_rfl
theorem yaMo : Tryz.prog.follows .mixedOrders = true := by kernel_rfl
theorem yaCo67 : callOk Tryz.prog 67 = true := by kernel_rfl
theorem yaCo68 : callOk Tryz.prog 68 = true := by kernel_rfl
theorem isNameI (s : Str)  : ASpec Tryz.prog 67 [.one (.str s)] (.one (.bool (nameOk s))) := by
  refine ASpec.body Tryz.func67 rfl [2] rfl 40 rfl rfl rfl ?_
  refine AWp.strLe 0 rfl (fun hs => ?_)
  refine AWp.seq (AWp.region ?_)
  refine ARun.step rfl (step_assignV rfl (hn rfl) rfl rfl) ?_
  refine ARun.nil ?_
  refine AWp.seq ?_
  refine AWp.seq (AWp.region ?_)
  refine ARun.step rfl (step_moveV rfl (hn rfl) rfl rfl) ?_
  refine ARun.step rfl (step_len_str rfl (hn rfl) rfl yaUs9 rfl) ?_
  refine ARun.step rfl (step_moveV rfl (hn rfl) rfl rfl) ?_
  refine ARun.nil ?_
  refine AWp.block ?_
  refine AWp.loopM (fun i : Nat => mkAS 40 [(0, ⟨true, .one (.v (.str s))⟩), (6, ⟨true, .one (.v (.int .i64 (s.size : Nat)))⟩), (7, ⟨true, .one (.v (.int .i64 (i : Nat)))⟩)] [] []) (fun i => i ≤ s.size ∧ ∀ j, j < i → nmC (bAt s j) = true) (fun i => s.size - i) 0 ?_ (Le.forgetR rfl ⟨rfl, rfl, rfl, trivial⟩ trivial trivial) ?_
  · try dsimp only
    exact ⟨by omega, by omega⟩
  rintro i ⟨hi, hall⟩
  refine AWp.seq (AWp.region ?_)
  refine ARun.step rfl (step_lss rfl (hn rfl) rfl rfl rfl) ?_
  refine ARun.nil ?_
  refine AWp.seq ?_
  refine AWp.cond rfl (fun c1 => ?_) (fun c1 => ?_)
  · try simp only [nrm] at c1
    refine AWp.skip ?_
    refine AWp.seq ?_
    refine AWp.block ?_
    refine AWp.seq (AWp.region ?_)
    refine ARun.step rfl (step_moveV rfl (hn rfl) rfl rfl) ?_
    refine ARun.step rfl (step_assignV rfl (hn rfl) rfl rfl) ?_
    refine ARun.nil ?_
    refine AWp.seq (AWp.region ?_)
    refine ARun.step rfl (step_moveV rfl (hn rfl) rfl rfl) ?_
    refine ARun.step rfl (step_moveV rfl (hn rfl) rfl rfl) ?_
    refine ARun.step rfl (step_index_str rfl (hn rfl) rfl yaUs9 rfl rfl (by omega) (by omega)) ?_
    refine ARun.step rfl (step_assignV rfl (hn rfl) rfl rfl) ?_
    refine ARun.nil ?_
    refine AWp.seq (AWp.region ?_)
    refine ARun.step rfl (step_moveV rfl (hn rfl) rfl rfl) ?_
    refine ARun.step rfl (step_lss rfl (hn rfl) rfl rfl rfl) ?_
    refine ARun.step rfl (step_moveV rfl (hn rfl) rfl rfl) ?_
    refine guardS rfl rfl rfl rfl (hn rfl) (fun g1 g2 => step_moveV rfl (hn rfl) rfl rfl) ?_
    refine guardS rfl rfl rfl rfl (hn rfl) (fun g1 g2 => step_gtr rfl (hn rfl) rfl (ev_true rfl (by exact flag2 g1 g2)) rfl) ?_
    refine ARun.step rfl (step_or rfl (hn rfl) rfl rfl rfl (fun h => (by exact flag1 h))) ?_
    refine ARun.step rfl (step_moveV rfl (hn rfl) rfl rfl) ?_
    refine guardS rfl rfl rfl rfl (hn rfl) (fun g1 g2 => step_moveV rfl (hn rfl) rfl rfl) ?_
    refine guardS rfl rfl rfl rfl (hn rfl) (fun g1 g2 => step_lss rfl (hn rfl) rfl (ev_true rfl (by exact flag2 g1 g2)) rfl) ?_
    refine guardS rfl rfl rfl rfl (hn rfl) (fun g1 g2 => step_moveV rfl (hn rfl) rfl (ev_true rfl (by exact flag2 g1 g2))) ?_
    refine guardS rfl rfl rfl rfl (hn rfl) (fun g1 g2 => step_moveV rfl (hn rfl) rfl rfl) ?_
    refine guardS rfl rfl rfl rfl (hn rfl) (fun g1 g2 => step_gtr rfl (hn rfl) rfl (ev_true rfl (by exact flag2 g1 g2)) rfl) ?_
    refine guardS rfl rfl rfl rfl (hn rfl) (fun g1 g2 => step_or rfl (hn rfl) rfl (ev_true rfl (by exact flag2 g1 g2)) rfl (fun h => (by exact flag2 (by exact flag2 g1 g2) h))) ?_
    refine ARun.step rfl (step_and rfl (hn rfl) rfl rfl rfl (fun h => (by exact flag1 h))) ?_
    refine ARun.step rfl (step_moveV rfl (hn rfl) rfl rfl) ?_
    refine guardS rfl rfl rfl rfl (hn rfl) (fun g1 g2 => step_moveV rfl (hn rfl) rfl rfl) ?_
    refine guardS rfl rfl rfl rfl (hn rfl) (fun g1 g2 => step_neq rfl (hn rfl) rfl (ev_true rfl (by exact flag2 g1 g2)) rfl) ?_
    refine ARun.step rfl (step_and rfl (hn rfl) rfl rfl rfl (fun h => (by exact flag1 h))) ?_
    refine ARun.nil ?_
    refine AWp.cond rfl (fun c2 => ?_) (fun c2 => ?_)
    · try simp only [nrm] at c2
      refine AWp.seq (AWp.region ?_)
      refine ARun.step rfl (step_assignV rfl (hn rfl) rfl rfl) ?_
      refine ARun.nil ?_
      refine AWp.ret ?_
      refine RetIs.sc (.inr rfl) rfl rfl ?_
      refine congrArg T.bool ?_
      rw [nameOk, nameB, all_not (i := i) (by omega) (by simp only [nmC, bAt] at *; grind), Bool.and_false]
    · try simp only [nrm] at c2
      refine AWp.skip ?_
      refine AWp.region ?_
      refine ARun.step rfl (step_addI rfl (hn rfl) rfl rfl rfl (by omega) (by omega)) ?_
      refine ARun.step rfl (step_moveV rfl (hn rfl) rfl rfl) ?_
      refine ARun.nil ?_
      refine ⟨i + 1, ?_, ?_, Le.forgetR rfl ⟨rfl, rfl, rfl, trivial⟩ trivial trivial⟩
      · try dsimp only
        exact ⟨by omega, upto hall (by simp only [nmC, bAt] at *; grind)⟩
      · try dsimp only
        omega
  · try simp only [nrm] at c1
    refine AWp.exit ?_
    refine AWp.seq (AWp.region ?_)
    refine ARun.step rfl (step_moveV rfl (hn rfl) rfl rfl) ?_
    refine ARun.step rfl (step_len_str rfl (hn rfl) rfl yaUs9 rfl) ?_
    refine ARun.step rfl (step_geq rfl (hn rfl) rfl rfl rfl) ?_
    refine ARun.step rfl (step_moveV rfl (hn rfl) rfl rfl) ?_
    refine guardS rfl rfl rfl rfl (hn rfl) (fun g1 g2 => step_moveV rfl (hn rfl) rfl rfl) ?_
    refine guardS rfl rfl rfl rfl (hn rfl) (fun g1 g2 => step_len_str rfl (hn rfl) rfl yaUs9 (ev_true rfl (by exact flag2 g1 g2))) ?_
    refine guardS rfl rfl rfl rfl (hn rfl) (fun g1 g2 => step_leq rfl (hn rfl) rfl (ev_true rfl (by exact flag2 g1 g2)) rfl) ?_
    refine ARun.step rfl (step_and rfl (hn rfl) rfl rfl rfl (fun h => (by exact flag1 h))) ?_
    refine ARun.step rfl (step_assignV rfl (hn rfl) rfl rfl) ?_
    refine ARun.nil ?_
    refine AWp.ret ?_
    refine RetIs.sc (.inr rfl) rfl rfl ?_
    refine congrArg T.bool ?_
    rw [nameOk, nameB, all_of (fun j hj => hall j (by omega)), Bool.and_true]; rfl
theorem indexS (l : List Str) (s : Str)  : ASpec Tryz.prog 205 [.one (strs l), .one (.str s)] (.one (.int .i64 (idxS l s))) := by
  refine ASpec.body Tryz.func205 rfl [4] rfl 19 rfl rfl rfl ?_
  refine AWp.lenLe 0 rfl (fun hl => ?_)
  refine AWp.seq (AWp.region ?_)
  refine ARun.step rfl (step_assignV rfl (hn rfl) rfl rfl) ?_
  refine ARun.nil ?_
  refine AWp.seq ?_
  refine AWp.seq (AWp.region ?_)
  refine ARun.step rfl (step_moveV rfl (hn rfl) rfl rfl) ?_
  refine ARun.step rfl (step_len_f rfl (hn rfl) rfl yaSl22 rfl) ?_
  refine ARun.step rfl (step_moveV rfl (hn rfl) rfl rfl) ?_
  refine ARun.nil ?_
  refine AWp.block ?_
  refine AWp.loopM (fun i : Nat => mkAS 19 [(0, ⟨true, .one (.v (strs l))⟩), (1, ⟨true, .one (.v (.str s))⟩), (7, ⟨true, .one (.v (.int .i64 (l.length : Nat)))⟩), (8, ⟨true, .one (.v (.int .i64 (i : Nat)))⟩)] [] []) (fun i => i ≤ l.length ∧ ∀ j, j < i → strEq s (nth l j) = false) (fun i => l.length - i) 0 ?_ (Le.forgetR rfl ⟨rfl, rfl, rfl, rfl, trivial⟩ trivial trivial) ?_
  · try dsimp only
    exact ⟨by omega, by omega⟩
  rintro i ⟨hi, hall⟩
  refine AWp.seq (AWp.region ?_)
  refine ARun.step rfl (step_lss rfl (hn rfl) rfl rfl rfl) ?_
  refine ARun.nil ?_
  refine AWp.seq ?_
  refine AWp.cond rfl (fun c1 => ?_) (fun c1 => ?_)
  · try simp only [nrm] at c1
    refine AWp.skip ?_
    refine AWp.seq ?_
    refine AWp.block ?_
    refine AWp.seq (AWp.region ?_)
    refine ARun.step rfl (step_moveV rfl (hn rfl) rfl rfl) ?_
    refine ARun.step rfl (step_assignV rfl (hn rfl) rfl rfl) ?_
    refine ARun.nil ?_
    refine AWp.seq (AWp.region ?_)
    refine ARun.step rfl (step_moveV rfl (hn rfl) rfl rfl) ?_
    refine ARun.step rfl (step_moveV rfl (hn rfl) rfl rfl) ?_
    refine ARun.step rfl (step_moveV rfl (hn rfl) rfl rfl) ?_
    refine ARun.step rfl (step_index_fN rfl (hn rfl) rfl yaSl22 rfl rfl (by omega)) ?_
    refine ARun.step rfl (step_load_f rfl (hn rfl) rfl yaSc9 rfl (hn rfl) rfl) ?_
    refine ARun.step rfl (step_seql rfl (hn rfl) rfl rfl rfl) ?_
    refine ARun.nil ?_
    refine AWp.cond rfl (fun c2 => ?_) (fun c2 => ?_)
    · try simp only [nrm] at c2
      refine AWp.seq (AWp.region ?_)
      refine ARun.step rfl (step_moveV rfl (hn rfl) rfl rfl) ?_
      refine ARun.step rfl (step_assignV rfl (hn rfl) rfl rfl) ?_
      refine ARun.nil ?_
      refine AWp.ret ?_
      refine RetIs.sc (.inr rfl) rfl rfl ?_
      refine congrArg (T.int _) ?_
      exact idxS_some hall (by omega) c2
    · try simp only [nrm] at c2
      refine AWp.skip ?_
      refine AWp.region ?_
      refine ARun.step rfl (step_addI rfl (hn rfl) rfl rfl rfl (by omega) (by omega)) ?_
      refine ARun.step rfl (step_moveV rfl (hn rfl) rfl rfl) ?_
      refine ARun.nil ?_
      refine ⟨i + 1, ?_, ?_, Le.forgetR rfl ⟨rfl, rfl, rfl, rfl, trivial⟩ trivial trivial⟩
      · try dsimp only
        exact ⟨by omega, upto hall (by assumption)⟩
      · try dsimp only
        omega
  · try simp only [nrm] at c1
    refine AWp.exit ?_
    refine AWp.seq (AWp.region ?_)
    refine ARun.step rfl (step_assignV rfl (hn rfl) rfl rfl) ?_
    refine ARun.nil ?_
    refine AWp.ret ?_
    refine RetIs.sc (.inr rfl) rfl rfl ?_
    refine congrArg (T.int _) ?_
    exact idxS_none hall (by omega)
theorem containsS (l : List Str) (s : Str)  : ASpec Tryz.prog 148 [.one (strs l), .one (.str s)] (.one (.bool (hasB l s))) := by
  refine ASpec.body Tryz.func148 rfl [4] rfl 9 rfl rfl rfl ?_
  refine AWp.seq (AWp.region ?_)
  refine ARun.step rfl (step_assignV rfl (hn rfl) rfl rfl) ?_
  refine ARun.nil ?_
  refine AWp.seq (AWp.region ?_)
  refine ARun.step rfl (step_moveV rfl (hn rfl) rfl rfl) ?_
  refine ARun.step rfl (step_moveV rfl (hn rfl) rfl rfl) ?_
  refine ARun.step rfl (call_step1 rfl (hn rfl) rfl yaCo205 (.cons rfl (.one (.v _)) (.cons rfl (.one (.v _)) (.nil))) (indexS _ _) rfl) ?_
  refine ARun.step rfl (step_geq rfl (hn rfl) rfl rfl rfl) ?_
  refine ARun.step rfl (step_assignV rfl (hn rfl) rfl rfl) ?_
  refine ARun.nil ?_
  refine AWp.ret ?_
  refine RetIs.sc (.inr rfl) rfl rfl ?_
  refine congrArg T.bool ?_
  exact idxS_has l s
theorem hasI (l : List Str) (s : Str)  : ASpec Tryz.prog 86 [.one (strs l), .one (.str s)] (.one (.bool (hasB l s))) := by
  refine ASpec.body Tryz.func86 rfl [4] rfl 8 rfl rfl rfl ?_
  refine AWp.seq (AWp.region ?_)
  refine ARun.step rfl (step_assignV rfl (hn rfl) rfl rfl) ?_
  refine ARun.nil ?_
  refine AWp.seq (AWp.region ?_)
  refine ARun.step rfl (step_moveV rfl (hn rfl) rfl rfl) ?_
  refine ARun.step rfl (step_moveV rfl (hn rfl) rfl rfl) ?_
  refine ARun.step rfl (call_step1 rfl (hn rfl) rfl yaCo148 (.cons rfl (.one (.v _)) (.cons rfl (.one (.v _)) (.nil))) (containsS _ _) rfl) ?_
  refine ARun.step rfl (step_assignV rfl (hn rfl) rfl rfl) ?_
  refine ARun.nil ?_
  refine AWp.ret ?_
  refine RetIs.sc (.inr rfl) rfl rfl ?_
  refine congrArg T.bool ?_
  rfl
theorem meetsI (a b : List Str)  : ASpec Tryz.prog 80 [.one (strs a), .one (strs b)] (.one (.bool (meetsB a b))) := by
  refine ASpec.body Tryz.func80 rfl [4] rfl 17 rfl rfl rfl ?_
  refine AWp.lenLe 0 rfl (fun hl => ?_)
  refine AWp.seq (AWp.region ?_)
  refine ARun.step rfl (step_assignV rfl (hn rfl) rfl rfl) ?_
  refine ARun.nil ?_
  refine AWp.seq ?_
  refine AWp.seq (AWp.region ?_)
  refine ARun.step rfl (step_moveV rfl (hn rfl) rfl rfl) ?_
  refine ARun.step rfl (step_len_f rfl (hn rfl) rfl yaSl22 rfl) ?_
  refine ARun.step rfl (step_moveV rfl (hn rfl) rfl rfl) ?_
  refine ARun.nil ?_
  refine AWp.block ?_
  refine AWp.loopM (fun i : Nat => mkAS 17 [(0, ⟨true, .one (.v (strs a))⟩), (1, ⟨true, .one (.v (strs b))⟩), (7, ⟨true, .one (.v (strs a))⟩), (8, ⟨true, .one (.v (.int .i64 (a.length : Nat)))⟩), (9, ⟨true, .one (.v (.int .i64 (i : Nat)))⟩)] [] []) (fun i => i ≤ a.length ∧ ∀ j, j < i → hasB b (nth a j) = false) (fun i => a.length - i) 0 ?_ (Le.forgetR rfl ⟨rfl, rfl, rfl, rfl, rfl, trivial⟩ trivial trivial) ?_
  · try dsimp only
    exact ⟨by omega, by omega⟩
  rintro i ⟨hi, hall⟩
  refine AWp.seq (AWp.region ?_)
  refine ARun.step rfl (step_lss rfl (hn rfl) rfl rfl rfl) ?_
  refine ARun.nil ?_
  refine AWp.seq ?_
  refine AWp.cond rfl (fun c1 => ?_) (fun c1 => ?_)
  · try simp only [nrm] at c1
    refine AWp.skip ?_
    refine AWp.seq ?_
    refine AWp.block ?_
    refine AWp.seq (AWp.region ?_)
    refine ARun.step rfl (step_index_fN rfl (hn rfl) rfl yaSl22 rfl rfl (by omega)) ?_
    refine ARun.step rfl (step_load_f rfl (hn rfl) rfl yaSc9 rfl (hn rfl) rfl) ?_
    refine ARun.step rfl (step_assignV rfl (hn rfl) rfl rfl) ?_
    refine ARun.nil ?_
    refine AWp.seq (AWp.region ?_)
    refine ARun.step rfl (step_moveV rfl (hn rfl) rfl rfl) ?_
    refine ARun.step rfl (step_moveV rfl (hn rfl) rfl rfl) ?_
    refine ARun.step rfl (call_step1 rfl (hn rfl) rfl yaCo86 (.cons rfl (.one (.v _)) (.cons rfl (.one (.v _)) (.nil))) (hasI _ _) rfl) ?_
    refine ARun.nil ?_
    refine AWp.cond rfl (fun c2 => ?_) (fun c2 => ?_)
    · try simp only [nrm] at c2
      refine AWp.seq (AWp.region ?_)
      refine ARun.step rfl (step_assignV rfl (hn rfl) rfl rfl) ?_
      refine ARun.nil ?_
      refine AWp.ret ?_
      refine RetIs.sc (.inr rfl) rfl rfl ?_
      refine congrArg T.bool ?_
      rw [meetsB, any_of (i := i) (by omega) c2]
    · try simp only [nrm] at c2
      refine AWp.skip ?_
      refine AWp.region ?_
      refine ARun.step rfl (step_addI rfl (hn rfl) rfl rfl rfl (by omega) (by omega)) ?_
      refine ARun.step rfl (step_moveV rfl (hn rfl) rfl rfl) ?_
      refine ARun.nil ?_
      refine ⟨i + 1, ?_, ?_, Le.forgetR rfl ⟨rfl, rfl, rfl, rfl, rfl, trivial⟩ trivial trivial⟩
      · try dsimp only
        exact ⟨by omega, upto hall (by assumption)⟩
      · try dsimp only
        omega
  · try simp only [nrm] at c1
    refine AWp.exit ?_
    refine AWp.seq (AWp.region ?_)
    refine ARun.step rfl (step_assignV rfl (hn rfl) rfl rfl) ?_
    refine ARun.nil ?_
    refine AWp.ret ?_
    refine RetIs.sc (.inr rfl) rfl rfl ?_
    refine congrArg T.bool ?_
    rw [meetsB, any_not (fun j hj => hall j (by omega))]
theorem withinI (a b : List Str)  : ASpec Tryz.prog 69 [.one (strs a), .one (strs b)] (.one (.bool (withinB a b))) := by
  refine ASpec.body Tryz.func69 rfl [4] rfl 18 rfl rfl rfl ?_
  refine AWp.lenLe 0 rfl (fun hl => ?_)
  refine AWp.seq (AWp.region ?_)
  refine ARun.step rfl (step_assignV rfl (hn rfl) rfl rfl) ?_
  refine ARun.nil ?_
  refine AWp.seq ?_
  refine AWp.seq (AWp.region ?_)
  refine ARun.step rfl (step_moveV rfl (hn rfl) rfl rfl) ?_
  refine ARun.step rfl (step_len_f rfl (hn rfl) rfl yaSl22 rfl) ?_
  refine ARun.step rfl (step_moveV rfl (hn rfl) rfl rfl) ?_
  refine ARun.nil ?_
  refine AWp.block ?_
  refine AWp.loopM (fun i : Nat => mkAS 18 [(0, ⟨true, .one (.v (strs a))⟩), (1, ⟨true, .one (.v (strs b))⟩), (7, ⟨true, .one (.v (strs a))⟩), (8, ⟨true, .one (.v (.int .i64 (a.length : Nat)))⟩), (9, ⟨true, .one (.v (.int .i64 (i : Nat)))⟩)] [] []) (fun i => i ≤ a.length ∧ ∀ j, j < i → hasB b (nth a j) = true) (fun i => a.length - i) 0 ?_ (Le.forgetR rfl ⟨rfl, rfl, rfl, rfl, rfl, trivial⟩ trivial trivial) ?_
  · try dsimp only
    exact ⟨by omega, by omega⟩
  rintro i ⟨hi, hall⟩
  refine AWp.seq (AWp.region ?_)
  refine ARun.step rfl (step_lss rfl (hn rfl) rfl rfl rfl) ?_
  refine ARun.nil ?_
  refine AWp.seq ?_
  refine AWp.cond rfl (fun c1 => ?_) (fun c1 => ?_)
  · try simp only [nrm] at c1
    refine AWp.skip ?_
    refine AWp.seq ?_
    refine AWp.block ?_
    refine AWp.seq (AWp.region ?_)
    refine ARun.step rfl (step_index_fN rfl (hn rfl) rfl yaSl22 rfl rfl (by omega)) ?_
    refine ARun.step rfl (step_load_f rfl (hn rfl) rfl yaSc9 rfl (hn rfl) rfl) ?_
    refine ARun.step rfl (step_assignV rfl (hn rfl) rfl rfl) ?_
    refine ARun.nil ?_
    refine AWp.seq (AWp.region ?_)
    refine ARun.step rfl (step_moveV rfl (hn rfl) rfl rfl) ?_
    refine ARun.step rfl (step_moveV rfl (hn rfl) rfl rfl) ?_
    refine ARun.step rfl (call_step1 rfl (hn rfl) rfl yaCo86 (.cons rfl (.one (.v _)) (.cons rfl (.one (.v _)) (.nil))) (hasI _ _) rfl) ?_
    refine ARun.step rfl (step_not rfl (hn rfl) rfl rfl) ?_
    refine ARun.nil ?_
    refine AWp.cond rfl (fun c2 => ?_) (fun c2 => ?_)
    · try simp only [nrm] at c2
      refine AWp.seq (AWp.region ?_)
      refine ARun.step rfl (step_assignV rfl (hn rfl) rfl rfl) ?_
      refine ARun.nil ?_
      refine AWp.ret ?_
      refine RetIs.sc (.inr rfl) rfl rfl ?_
      refine congrArg T.bool ?_
      rw [withinB, all_not (i := i) (by omega) c2]
    · try simp only [nrm] at c2
      refine AWp.skip ?_
      refine AWp.region ?_
      refine ARun.step rfl (step_addI rfl (hn rfl) rfl rfl rfl (by omega) (by omega)) ?_
      refine ARun.step rfl (step_moveV rfl (hn rfl) rfl rfl) ?_
      refine ARun.nil ?_
      refine ⟨i + 1, ?_, ?_, Le.forgetR rfl ⟨rfl, rfl, rfl, rfl, rfl, trivial⟩ trivial trivial⟩
      · try dsimp only
        exact ⟨by omega, upto hall (by assumption)⟩
      · try dsimp only
        omega
  · try simp only [nrm] at c1
    refine AWp.exit ?_
    refine AWp.seq (AWp.region ?_)
    refine ARun.step rfl (step_assignV rfl (hn rfl) rfl rfl) ?_
    refine ARun.nil ?_
    refine AWp.ret ?_
    refine RetIs.sc (.inr rfl) rfl rfl ?_
    refine congrArg T.bool ?_
    rw [withinB, all_of (fun j hj => hall j (by omega))]
theorem risingI (l : List Str)  : ASpec Tryz.prog 68 [.one (strs l)] (.one (.bool (risingB l))) := by
  refine ASpec.body Tryz.func68 rfl [2] rfl 20 rfl rfl rfl ?_
  refine AWp.lenLe 0 rfl (fun hl => ?_)
  refine AWp.seq (AWp.region ?_)
  refine ARun.step rfl (step_assignV rfl (hn rfl) rfl rfl) ?_
  refine ARun.nil ?_
  refine AWp.seq ?_
  refine AWp.seq (AWp.region ?_)
  refine ARun.step rfl (step_assignV rfl (hn rfl) rfl rfl) ?_
  refine ARun.nil ?_
  refine AWp.block ?_
  refine AWp.loopM (fun i : Nat => mkAS 20 [(0, ⟨true, .one (.v (strs l))⟩), (3, ⟨true, .one (.v (.int .i64 (i : Nat)))⟩)] [] []) (fun i => 1 ≤ i ∧ i ≤ l.length + 1 ∧ ∀ j, j < i → risAt l j = true) (fun i => l.length + 1 - i) 1 ?_ (Le.forgetR rfl ⟨rfl, rfl, trivial⟩ trivial trivial) ?_
  · try dsimp only
    exact ⟨Nat.le_refl 1, by omega, fun j hj => (by cases j with | zero => rfl | succ j => exact absurd hj (by omega))⟩
  rintro i ⟨h1, hi, hall⟩
  refine AWp.seq ?_
  refine AWp.seq (AWp.region ?_)
  refine ARun.step rfl (step_moveV rfl (hn rfl) rfl rfl) ?_
  refine ARun.step rfl (step_moveV rfl (hn rfl) rfl rfl) ?_
  refine ARun.step rfl (step_len_f rfl (hn rfl) rfl yaSl22 rfl) ?_
  refine ARun.step rfl (step_lss rfl (hn rfl) rfl rfl rfl) ?_
  refine ARun.nil ?_
  refine AWp.cond rfl (fun c1 => ?_) (fun c1 => ?_)
  · try simp only [nrm] at c1
    refine AWp.skip ?_
    refine AWp.seq ?_
    refine AWp.block ?_
    refine AWp.seq (AWp.draw [⟨[.s 0], [.s 10], false⟩, ⟨[.s 3], [.s 11], false⟩, ⟨[.s 11], [.s 12], false⟩, ⟨[.s 10, .s 12], [.s 13], false⟩, ⟨[.s 13], [.s 14], false⟩, ⟨[.s 0], [.s 15], false⟩, ⟨[.s 3], [.s 16], false⟩, ⟨[.s 15, .s 16], [.s 17], false⟩, ⟨[.s 17], [.s 18], false⟩, ⟨[.s 14, .s 18], [.s 19], false⟩] yaMo rfl ?_)
    refine DRun.step rfl (fun τ hN hr => step_moveV rfl (rdN hN (hn rfl)) rfl (by exact rdS hr rfl rfl)) ?_
    refine DRun.step rfl (fun τ hN hr => step_moveV rfl (rdN hN (hn rfl)) rfl (by exact rdS hr rfl rfl)) ?_
    refine DRun.step rfl (fun τ hN hr => step_decN rfl (rdN hN (hn rfl)) rfl (by exact rdS hr rfl rfl) rfl (by omega) (by omega)) ?_
    refine DRun.step rfl (fun τ hN hr => step_index_fN rfl (rdN hN (hn rfl)) rfl yaSl22 (by exact rdS hr rfl rfl) (by exact rdS hr rfl rfl) (by omega)) ?_
    refine DRun.step rfl (fun τ hN hr => step_load_f rfl (rdN hN (hn rfl)) rfl yaSc9 (by exact rdS hr rfl rfl) (hn rfl) rfl) ?_
    refine DRun.step rfl (fun τ hN hr => step_moveV rfl (rdN hN (hn rfl)) rfl (by exact rdS hr rfl rfl)) ?_
    refine DRun.step rfl (fun τ hN hr => step_moveV rfl (rdN hN (hn rfl)) rfl (by exact rdS hr rfl rfl)) ?_
    refine DRun.step rfl (fun τ hN hr => step_index_fN rfl (rdN hN (hn rfl)) rfl yaSl22 (by exact rdS hr rfl rfl) (by exact rdS hr rfl rfl) (by omega)) ?_
    refine DRun.step rfl (fun τ hN hr => step_load_f rfl (rdN hN (hn rfl)) rfl yaSc9 (by exact rdS hr rfl rfl) (hn rfl) rfl) ?_
    refine DRun.step rfl (fun τ hN hr => step_sgeq rfl (rdN hN (hn rfl)) rfl (by exact rdS hr rfl rfl) (by exact rdS hr rfl rfl)) ?_
    refine DRun.nil ?_
    refine AWp.cond rfl (fun c2 => ?_) (fun c2 => ?_)
    · try simp only [nrm] at c2
      refine AWp.seq (AWp.region ?_)
      refine ARun.step rfl (step_assignV rfl (hn rfl) rfl rfl) ?_
      refine ARun.nil ?_
      refine AWp.ret ?_
      refine RetIs.sc (.inr rfl) rfl rfl ?_
      refine congrArg T.bool ?_
      rw [risingB, all_not (i := i) (by omega) (by simp only [risAt]; grind)]
    · try simp only [nrm] at c2
      refine AWp.skip ?_
      refine AWp.region ?_
      refine ARun.step rfl (step_moveV rfl (hn rfl) rfl rfl) ?_
      refine ARun.step rfl (step_addI rfl (hn rfl) rfl rfl rfl (by omega) (by omega)) ?_
      refine ARun.step rfl (step_assignV rfl (hn rfl) rfl rfl) ?_
      refine ARun.nil ?_
      refine ⟨i + 1, ?_, ?_, Le.forgetR rfl ⟨rfl, rfl, trivial⟩ trivial trivial⟩
      · try dsimp only
        exact ⟨by omega, by omega, upto hall (by simp only [risAt]; grind)⟩
      · try dsimp only
        omega
  · try simp only [nrm] at c1
    refine AWp.exit ?_
    refine AWp.seq (AWp.region ?_)
    refine ARun.step rfl (step_assignV rfl (hn rfl) rfl rfl) ?_
    refine ARun.nil ?_
    refine AWp.ret ?_
    refine RetIs.sc (.inr rfl) rfl rfl ?_
    refine congrArg T.bool ?_
    rw [risingB, all_of (fun j hj => hall j (by omega))]
theorem namesI (l : List Str)  : ASpec Tryz.prog 89 [.one (strs l)] (.one (.bool (namesB l))) := by
  refine ASpec.body Tryz.func89 rfl [2] rfl 17 rfl rfl rfl ?_
  refine AWp.lenLe 0 rfl (fun hl => ?_)
  refine AWp.seq (AWp.region ?_)
  refine ARun.step rfl (step_assignV rfl (hn rfl) rfl rfl) ?_
  refine ARun.nil ?_
  refine AWp.seq ?_
  refine AWp.seq (AWp.region ?_)
  refine ARun.step rfl (step_moveV rfl (hn rfl) rfl rfl) ?_
  refine ARun.step rfl (step_len_f rfl (hn rfl) rfl yaSl22 rfl) ?_
  refine ARun.step rfl (step_moveV rfl (hn rfl) rfl rfl) ?_
  refine ARun.nil ?_
  refine AWp.block ?_
  refine AWp.loopM (fun i : Nat => mkAS 17 [(0, ⟨true, .one (.v (strs l))⟩), (5, ⟨true, .one (.v (strs l))⟩), (6, ⟨true, .one (.v (.int .i64 (l.length : Nat)))⟩), (7, ⟨true, .one (.v (.int .i64 (i : Nat)))⟩)] [] []) (fun i => i ≤ l.length ∧ ∀ j, j < i → nameOk (nth l j) = true) (fun i => l.length - i) 0 ?_ (Le.forgetR rfl ⟨rfl, rfl, rfl, rfl, trivial⟩ trivial trivial) ?_
  · try dsimp only
    exact ⟨by omega, by omega⟩
  rintro i ⟨hi, hall⟩
  refine AWp.seq (AWp.region ?_)
  refine ARun.step rfl (step_lss rfl (hn rfl) rfl rfl rfl) ?_
  refine ARun.nil ?_
  refine AWp.seq ?_
  refine AWp.cond rfl (fun c1 => ?_) (fun c1 => ?_)
  · try simp only [nrm] at c1
    refine AWp.skip ?_
    refine AWp.seq ?_
    refine AWp.block ?_
    refine AWp.seq (AWp.region ?_)
    refine ARun.step rfl (step_index_fN rfl (hn rfl) rfl yaSl22 rfl rfl (by omega)) ?_
    refine ARun.step rfl (step_load_f rfl (hn rfl) rfl yaSc9 rfl (hn rfl) rfl) ?_
    refine ARun.step rfl (step_assignV rfl (hn rfl) rfl rfl) ?_
    refine ARun.nil ?_
    refine AWp.seq (AWp.region ?_)
    refine ARun.step rfl (step_moveV rfl (hn rfl) rfl rfl) ?_
    refine ARun.step rfl (call_step1 rfl (hn rfl) rfl yaCo67 (.cons rfl (.one (.v _)) (.nil)) (isNameI _) rfl) ?_
    refine ARun.step rfl (step_not rfl (hn rfl) rfl rfl) ?_
    refine ARun.nil ?_
    refine AWp.cond rfl (fun c2 => ?_) (fun c2 => ?_)
    · try simp only [nrm] at c2
      refine AWp.seq (AWp.region ?_)
      refine ARun.step rfl (step_assignV rfl (hn rfl) rfl rfl) ?_
      refine ARun.nil ?_
      refine AWp.ret ?_
      refine RetIs.sc (.inr rfl) rfl rfl ?_
      refine congrArg T.bool ?_
      rw [namesB, all_not (i := i) (by omega) c2, Bool.false_and]
    · try simp only [nrm] at c2
      refine AWp.skip ?_
      refine AWp.region ?_
      refine ARun.step rfl (step_addI rfl (hn rfl) rfl rfl rfl (by omega) (by omega)) ?_
      refine ARun.step rfl (step_moveV rfl (hn rfl) rfl rfl) ?_
      refine ARun.nil ?_
      refine ⟨i + 1, ?_, ?_, Le.forgetR rfl ⟨rfl, rfl, rfl, rfl, trivial⟩ trivial trivial⟩
      · try dsimp only
        exact ⟨by omega, upto hall (by assumption)⟩
      · try dsimp only
        omega
  · try simp only [nrm] at c1
    refine AWp.exit ?_
    refine AWp.seq (AWp.region ?_)
    refine ARun.step rfl (step_moveV rfl (hn rfl) rfl rfl) ?_
    refine ARun.step rfl (call_step1 rfl (hn rfl) rfl yaCo68 (.cons rfl (.one (.v _)) (.nil)) (risingI _) rfl) ?_
    refine ARun.step rfl (step_assignV rfl (hn rfl) rfl rfl) ?_
    refine ARun.nil ?_
    refine AWp.ret ?_
    refine RetIs.sc (.inr rfl) rfl rfl ?_
    refine congrArg T.bool ?_
    rw [namesB, all_of (fun j hj => hall j (by omega)), Bool.true_and]

end Go.Proofs.YtkmacjdigkaabaaGreat
