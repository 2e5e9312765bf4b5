/- Contracts of functions of the program, each met by its body; conditions stand in each statement. No condition. -/
import Derived.Test.YtkmacjdigkaabaaGe
import Derived.Test.YtkmacjdigkaabaaProg
import Derived.KernelRfl
set_option linter.unusedVariables false
set_option linter.unusedSimpArgs false
set_option linter.unnecessarySimpa false
set_option linter.unusedSimpArgs false
set_option maxRecDepth 100000
namespace Go.Proofs.Ytkmacjdigkaabaa
open Go Go.Mh

abbrev Str := ByteArray
def bAt (s : Str) (i : Nat) : Int := ((s.data.getD i 0).toNat : Int)
def nmC (c : Int) : Bool := ((decide (c ≥ 97) && decide (c ≤ 122)) || (decide (c ≥ 48) && decide (c ≤ 57))) || c == 45
def nameB (s : Str) : Bool := (List.range s.size).all fun i => nmC (bAt s i)
def inB (x a b : Int) : Bool := decide (x ≥ a) && decide (x ≤ b)
def nameOk (s : Str) : Bool := inB s.size 1 8 && nameB s
theorem all_of {n : Nat} {p : Nat → Bool} (h : ∀ j, j < n → p j = true) : (List.range n).all p = true := by
  rw [List.all_eq_true]; intro x hx; exact h x (List.mem_range.1 hx)
theorem all_not {n i : Nat} {p : Nat → Bool} (hi : i < n) (h : p i = false) : (List.range n).all p = false := by
  rw [List.all_eq_false]; exact ⟨i, List.mem_range.2 hi, by simp [h]⟩
theorem upto {i : Nat} {p : Nat → Prop} (h : ∀ j, j < i → p j) (hi : p i) : ∀ j, j < i + 1 → p j := by
  intro j hj
  by_cases e : j = i
  · subst e; exact hi
  · exact h j (by omega)
def nth {α : Type} [Inhabited α] (l : List α) (i : Nat) : α := l.getD i default
structure Ph where
  name : Str
  kind : Int
  a : Str
  b : Str
  n : Int
  within : Int
  thn : Str
  els : Str
deriving Inhabited
def Ph.cells (p : Ph) : List T := [.str p.name, .int .i64 p.kind, .str p.a, .str p.b, .int .i64 p.n, .int .i64 p.within, .str p.thn, .str p.els]
def szGo {α : Type} (f : α → Int → Int) : List α → Int → Int
  | [], m => m
  | p :: l, m => if f p m < 0 then -1 else szGo f l (f p m)
def szL {α : Type} (f : α → Int → Int) (l : List α) (m : Int) : Int := if m - l.length < 0 then -1 else szGo f l (m - l.length)
theorem drop_nth {α : Type} [Inhabited α] {l : List α} {i : Nat} (h : i < l.length) : l.drop i = nth l i :: l.drop (i + 1) := by
  rw [List.drop_eq_getElem_cons h]; simp [nth, List.getD_eq_getElem?_getD, h]
theorem Ph.le {p : Ph} (h : ∀ c, c ∈ p.cells.map C.v → fitsC c) : p.name.size ≤ 9223372036854775807 ∧ p.a.size ≤ 9223372036854775807 ∧ p.b.size ≤ 9223372036854775807 ∧ p.thn.size ≤ 9223372036854775807 ∧ p.els.size ≤ 9223372036854775807 :=
  ⟨h (.v (.str p.name)) (by simp [Ph.cells]), h (.v (.str p.a)) (by simp [Ph.cells]), h (.v (.str p.b)) (by simp [Ph.cells]), h (.v (.str p.thn)) (by simp [Ph.cells]), h (.v (.str p.els)) (by simp [Ph.cells])⟩
def rowsTo {α : Type} [Inhabited α] (l : List α) (f : α → List T) (z : List T) (i : Nat) : Nat → List T := fun j => match Nat.blt j i with | true => f (nth l j) | false => z
theorem rowsTo_at {α : Type} [Inhabited α] (l : List α) (f : α → List T) (z : List T) (i : Nat) : rowsTo l f z i i = z := by
  have : Nat.blt i i = false := by
    cases h : Nat.blt i i with
    | false => rfl
    | true => simp only [Nat.blt_eq] at h; omega
  simp only [rowsTo, this]
theorem rowsTo_next {α : Type} [Inhabited α] (l : List α) (f : α → List T) (z : List T) (i j : Nat) : putRow (rowsTo l f z i) i (f (nth l i)) j = rowsTo l f z (i + 1) j := by
  by_cases h : j = i
  · subst h
    have : Nat.blt j (j + 1) = true := by simp [Nat.blt]
    simp only [rowsTo, putRow_self, this]
  · rw [putRow_other _ _ _ h]
    have : Nat.blt j (i + 1) = Nat.blt j i := by
      rw [Bool.eq_iff_iff]; simp only [Nat.blt_eq]; omega
    simp only [rowsTo, this]
theorem rowsTo_all {α : Type} [Inhabited α] (l : List α) (f : α → List T) (z : List T) (n i : Nat) (hi : i < n) : rowsTo l f z n i = f (nth l i) := by
  have : Nat.blt i n = true := by simp only [Nat.blt_eq]; omega
  simp only [rowsTo, this]
def eqL {α : Type} [Inhabited α] (f : α → α → Bool) (a b : List α) : Bool := a.length == b.length && (List.range a.length).all fun i => f (nth a i) (nth b i)
theorem strEq_refl (s : Str) : strEq s s = true := by simp [strEq]
theorem eqL_refl {α : Type} [Inhabited α] {f : α → α → Bool} (h : ∀ p, f p p = true) (l : List α) : eqL f l l = true := by
  simp only [eqL, beq_self_eq_true, Bool.true_and]; exact all_of fun j _ => h _
theorem szL_len {α : Type} {f : α → Int → Int} {l : List α} {m : Int} (h : 0 ≤ szL f l m) : l.length ≤ m := by
  unfold szL at h; split at h
  · omega
  · omega
def strs (l : List Str) : T := .sl 9 1 l.length (fun i => [.str (nth l i)])
structure Bt where
  name : Str
  has : List Str
  needs : List Str
deriving Inhabited
def Bt.cells (p : Bt) : List T := [.str p.name, strs p.has, strs p.needs]
def Bt.zcells (p : Bt) : List T := [.str p.name, .fz (strs p.has), .fz (strs p.needs)]
def bts (e : Nat) (l : List Bt) : T := .sl e 3 l.length (fun i => (nth l i).zcells)
structure Bk where
  things : List Str
  bs : List Bt
deriving Inhabited
def Bk.cells (e : Nat) (p : Bk) : List T := [strs p.things, bts e p.bs]
def Bk.zcells (e : Nat) (p : Bk) : List T := [.fz (strs p.things), .fz (bts e p.bs)]
/-- rows that own what they hold -/
def btsO (e : Nat) (l : List Bt) : T := .sl e 3 l.length (fun i => (nth l i).cells)
def Bk.ocells (e : Nat) (p : Bk) : List T := [strs p.things, btsO e p.bs]
theorem fz_bts (e : Nat) (l : List Bt) : Fz (btsO e l) (bts e l) := .rows (fun i hi => rfl) (fun i j hi => match j with | 0 => .refl _ | 1 => .fz (.refl _) | 2 => .fz (.refl _) | _ + 3 => .refl _)
theorem clean_strs (l : List Str) : Mh.Clean (strs l) := .sl (fun i j hi hj => by
  obtain rfl : j = 0 := by omega
  exact .str _)
theorem clean_btsO (e : Nat) (l : List Bt) : Mh.Clean (btsO e l) := .sl (fun i j hi hj => match j with | 0 => .str _ | 1 => clean_strs _ | 2 => clean_strs _ | _ + 3 => (by omega))
def szStr (s : Str) (m : Int) : Int := if m - s.size < 0 then -1 else m - s.size
theorem szStr_le (p : Str) (m : Int) : szStr p m = -1 ∨ (0 ≤ szStr p m ∧ szStr p m ≤ m) := by
  unfold szStr; split <;> omega
theorem szL_le {α : Type} {f : α → Int → Int} (h : ∀ p m, f p m = -1 ∨ (0 ≤ f p m ∧ f p m ≤ m)) (l : List α) (m : Int) : szL f l m = -1 ∨ (0 ≤ szL f l m ∧ szL f l m ≤ m) := by
  have key : ∀ (l : List α) (m : Int), 0 ≤ m → szGo f l m = -1 ∨ (0 ≤ szGo f l m ∧ szGo f l m ≤ m) := by
    intro l
    induction l with
    | nil => intro m hm; exact .inr ⟨hm, Int.le_refl _⟩
    | cons p l ih =>
      intro m hm
      simp only [szGo]; split
      · exact .inl rfl
      · have h1 := h p m
        have h2 := ih (f p m) (by omega)
        omega
  unfold szL; split
  · exact .inl rfl
  · have := key l (m - l.length) (by omega); omega
def szBt (p : Bt) (m : Int) : Int :=
  if m - p.name.size < 0 then -1 else
  if szL szStr p.has (m - p.name.size) < 0 then -1 else
  if szL szStr p.needs (szL szStr p.has (m - p.name.size)) < 0 then -1 else
  szL szStr p.needs (szL szStr p.has (m - p.name.size))
theorem szBt_le (p : Bt) (m : Int) : szBt p m = -1 ∨ (0 ≤ szBt p m ∧ szBt p m ≤ m) := by
  have h1 := szL_le szStr_le p.has (m - p.name.size)
  have h2 := szL_le szStr_le p.needs (szL szStr p.has (m - p.name.size))
  unfold szBt; repeat' split
  all_goals omega
def szBk (p : Bk) (m : Int) : Int := if szL szStr p.things m < 0 then -1 else if szL szBt p.bs (szL szStr p.things m) < 0 then -1 else szL szBt p.bs (szL szStr p.things m)
/-- what the size looked at has shown: no list is long -/
def smallBt (p : Bt) : Prop := p.has.length ≤ 1048576 ∧ p.needs.length ≤ 1048576
def smallBk (p : Bk) : Prop := p.things.length ≤ 1048576 ∧ p.bs.length ≤ 1048576 ∧ ∀ i, i < p.bs.length → smallBt (nth p.bs i)
theorem szBt_small {p : Bt} {m : Int} (hm : m ≤ 1048576) (h : 0 ≤ szBt p m) : smallBt p := by
  have h1 := szL_le szStr_le p.has (m - p.name.size)
  unfold szBt at h
  split at h
  · omega
  · split at h
    · omega
    · split at h
      · omega
      · have := szL_len (f := szStr) (l := p.has) (m := m - p.name.size) (by omega)
        have := szL_len (f := szStr) (l := p.needs) h
        exact ⟨by omega, by omega⟩
theorem szGo_small {l : List Bt} : ∀ {m : Int}, m ≤ 1048576 → 0 ≤ szGo szBt l m → ∀ i, i < l.length → smallBt (nth l i) := by
  induction l with
  | nil => intro m _ _ i hi; simp at hi
  | cons p l ih =>
    intro m hm h i hi
    simp only [szGo] at h
    split at h
    · omega
    · rename_i h0
      cases i with
      | zero => exact szBt_small (p := p) hm (by omega)
      | succ i =>
        have := szBt_le p m
        exact ih (m := szBt p m) (by omega) h i (by simpa using hi)
theorem szBk_small {p : Bk} (h : 0 ≤ szBk p 1048576) : smallBk p := by
  have h1 := szL_le szStr_le p.things 1048576
  unfold szBk at h
  split at h
  · omega
  · split at h
    · omega
    · have a1 := szL_len (f := szStr) (l := p.things) (m := 1048576) (by omega)
      have a2 := szL_len (f := szBt) (l := p.bs) h
      refine ⟨by omega, by omega, ?_⟩
      unfold szL at h
      rw [if_neg (by unfold szL at *; omega)] at h
      exact szGo_small (m := szL szStr p.things 1048576 - p.bs.length) (by omega) h
def eqBt (p q : Bt) : Bool := strEq p.name q.name && eqL strEq p.has q.has && eqL strEq p.needs q.needs
theorem eqBt_refl (p : Bt) : eqBt p p = true := by simp [eqBt, strEq_refl, eqL_refl]
def eqBk (p q : Bk) : Bool := eqL strEq p.things q.things && eqL eqBt p.bs q.bs
theorem eqBk_refl (p : Bk) : eqBk p p = true := by simp [eqBk, strEq_refl, eqL_refl, eqBt_refl]
def strC (s : Str) : List T := [.str s]
def hasB (l : List Str) (s : Str) : Bool := (List.range l.length).any fun i => strEq (nth l i) s
theorem any_of {n i : Nat} {p : Nat → Bool} (hi : i < n) (h : p i = true) : (List.range n).any p = true := by
  rw [List.any_eq_true]; exact ⟨i, List.mem_range.2 hi, h⟩
theorem any_not {n : Nat} {p : Nat → Bool} (h : ∀ j, j < n → p j = false) : (List.range n).any p = false := by
  rw [List.any_eq_false]; intro x hx; simp [h x (List.mem_range.1 hx)]
def meetsB (a b : List Str) : Bool := (List.range a.length).any fun i => hasB b (nth a i)
def withinB (a b : List Str) : Bool := (List.range a.length).all fun i => hasB b (nth a i)
theorem strEq_comm (s t : Str) : strEq s t = strEq t s := by simp only [strEq, Bool.beq_comm]
def idxS (l : List Str) (s : Str) : Int := match (List.range l.length).find? (fun i => strEq s (nth l i)) with | some i => (i : Int) | none => -1
theorem idxS_none {l : List Str} {s : Str} {i : Nat} (h : ∀ j, j < i → strEq s (nth l j) = false) (hi : l.length ≤ i) : -1 = idxS l s := by
  have : (List.range l.length).find? (fun i => strEq s (nth l i)) = none := by
    rw [List.find?_eq_none]; intro x hx; have := h x (by have := List.mem_range.1 hx; omega); simp [this]
  simp [idxS, this]
theorem idxS_some {l : List Str} {s : Str} {i : Nat} (h : ∀ j, j < i → strEq s (nth l j) = false) (hi : i < l.length) (hs : strEq s (nth l i) = true) : (i : Int) = idxS l s := by
  have : (List.range l.length).find? (fun i => strEq s (nth l i)) = some i := by
    rw [List.find?_range_eq_some]
    exact ⟨hs, List.mem_range.2 hi, fun j hj => by simp [h j hj]⟩
  simp [idxS, this]
theorem idxS_has (l : List Str) (s : Str) : decide (idxS l s ≥ 0) = hasB l s := by
  unfold idxS hasB
  split
  · rename_i i h
    have h1 := List.find?_some h
    have h2 := List.mem_of_find?_eq_some h
    rw [any_of (i := i) (List.mem_range.1 h2) (by rw [strEq_comm]; exact h1)]
    simp
  · rename_i h
    rw [List.find?_eq_none] at h
    rw [any_not fun j hj => by have := h j (List.mem_range.2 hj); rw [strEq_comm]; simpa using this]
    simp

def risAt (l : List Str) (i : Nat) : Bool := i == 0 || strLt (nth l (i - 1)) (nth l i)
def risingB (l : List Str) : Bool := (List.range l.length).all (risAt l)
theorem all_and2 {n : Nat} {p q : Nat → Bool} : ((List.range n).all p && (List.range n).all q) = (List.range n).all (fun i => p i && q i) := by
  rw [Bool.eq_iff_iff]
  simp only [Bool.and_eq_true, List.all_eq_true]
  exact ⟨fun h x hx => ⟨h.1 x hx, h.2 x hx⟩, fun h => ⟨fun x hx => (h x hx).1, fun x hx => (h x hx).2⟩⟩
def namesB (l : List Str) : Bool := (List.range l.length).all (fun i => nameOk (nth l i)) && risingB l
theorem namesB_eq (l : List Str) : namesB l = (List.range l.length).all (fun i => nameOk (nth l i) && risAt l i) := all_and2
theorem within_eq (a b : List Str) : (withinB a b && risingB a) = (List.range a.length).all (fun i => hasB b (nth a i) && risAt a i) := all_and2

def btAt (p : Bk) (i : Nat) : Bool := nameOk (nth p.bs i).name && (i == 0 || strLt (nth p.bs (i - 1)).name (nth p.bs i).name) && (withinB (nth p.bs i).needs p.things && risingB (nth p.bs i).needs) && (withinB (nth p.bs i).has (nth p.bs i).needs && risingB (nth p.bs i).has)
def btFree (p : Bk) (i : Nat) : Bool := (List.range i).all fun j => !meetsB (nth p.bs i).has (nth p.bs j).has
def bookOk (p : Bk) : Bool := (decide (p.things.length ≤ 8) && namesB p.things && decide (p.bs.length ≤ 5)) && (List.range p.bs.length).all fun i => btAt p i && btFree p i
theorem bookOk_not {p : Bk} {i : Nat} (hi : i < p.bs.length) (h : (btAt p i && btFree p i) = false) : bookOk p = false := by
  rw [bookOk, all_not (i := i) hi h, Bool.and_false]

def nameAt (p : Bk) (s : Str) (i : Nat) : Bool := strEq (nth p.bs i).name s
def idxB (p : Bk) (s : Str) : Int := match (List.range p.bs.length).find? (nameAt p s) with | some i => (i : Int) | none => -1
theorem idxB_none {p : Bk} {s : Str} {i : Nat} (h : ∀ j, j < i → nameAt p s j = false) (hi : p.bs.length ≤ i) : -1 = idxB p s := by
  have : (List.range p.bs.length).find? (nameAt p s) = none := by
    rw [List.find?_eq_none]; intro x hx; have := h x (by have := List.mem_range.1 hx; omega); simp [this]
  simp [idxB, this]
theorem idxB_some {p : Bk} {s : Str} {i : Nat} (h : ∀ j, j < i → nameAt p s j = false) (hi : i < p.bs.length) (hs : nameAt p s i = true) : (i : Int) = idxB p s := by
  have : (List.range p.bs.length).find? (nameAt p s) = some i := by
    rw [List.find?_range_eq_some]
    exact ⟨hs, List.mem_range.2 hi, fun j hj => by simp [h j hj]⟩
  simp [idxB, this]
theorem idxB_lt (p : Bk) (s : Str) : -1 ≤ idxB p s ∧ idxB p s < p.bs.length := by
  unfold idxB
  split
  · rename_i i h
    have h2 := List.mem_range.1 (List.mem_of_find?_eq_some h)
    exact ⟨by omega, by omega⟩
  · exact ⟨by omega, by omega⟩
def blk (p : Bk) (i : Nat) (gone : List Str) (k : Nat) : Bool := !Nat.beq k i && !hasB gone (nth p.bs k).name && meetsB (nth p.bs k).has (nth p.bs i).needs
theorem nth_append_left {α : Type} [Inhabited α] {a b : List α} {i : Nat} (h : i < a.length) : nth (a ++ b) i = nth a i := by
  simp [nth, List.getD_eq_getElem?_getD, List.getElem?_append_left h]
theorem nth_append_right {α : Type} [Inhabited α] {a b : List α} {i : Nat} (h : a.length ≤ i) : nth (a ++ b) i = nth b (i - a.length) := by
  simp [nth, List.getD_eq_getElem?_getD, List.getElem?_append_right h]
theorem step_append_strs {P : Program} {o : Oper} {σ : AS} {dst : Nat} (hd : o.dst = some dst) (hn : dst < σ.n) {t by' : Nat} {x y : Operand} (ho : o.op = .call { callee := .builtin .append, args := #[x, y], argTypes := #[t, t] }) (ht : sliceT P t = some ⟨9, 1, by'⟩) {d k : Nat} {a b : List Str} {c : C}
    (hx : σ.ev x = ⟨true, .one (.ref ⟨.arr d k, []⟩)⟩) (hp : σ.arr d k = strs a) (hy : σ.ev y = ⟨true, .one c⟩) (hc : ArgC σ c (strs b)) (hb : (a.length + b.length) * by' ≤ 140737488355328) (hm : a.length + b.length ≤ 140737488355328) (hdr : Nat.beq d RR = false := by rfl) :
    Step P o σ (((σ.mapC (onArr d k)).setArr d k (strs (a ++ b))).setS dst ⟨true, .one (.ref ⟨.arr d k, []⟩)⟩) := by
  have h := step_append hd hn ho ht hx hp hy hc (fun _ _ => rfl) hb hm hdr
  refine h.le (Le.eqvArr ?_)
  unfold strs
  rw [List.length_append]
  refine .rows fun i hi => ?_
  simp only [catF]
  split
  · rename_i h1; rw [nth_append_left h1]
  · rename_i h1; rw [nth_append_right (by omega)]
theorem step_build0 {P : Program} {o : Oper} {σ : AS} {d : Nat} (hd : o.dst = some d) (hn : d < σ.n) {t by' : Nat} (ho : o.op = .buildSlice t 0 ([] : List (Nat × Operand)).toArray) (ht : sliceT P t = some ⟨9, 1, by'⟩) :
    Step P o σ (((σ.kill d).setArr d 0 (strs [])).setS d ⟨true, .one (.ref ⟨.arr d 0, []⟩)⟩) := by
  have h := step_buildSlice (ps := []) hd hn ho ht (by simp) rfl (by simp) (by intro q hq; cases hq) rfl
  exact h.le (Le.eqvArr (.rows (fun i hi => absurd hi (by omega))))
theorem szBk_le (p : Bk) (m : Int) : szBk p m ≤ m ∨ szBk p m = -1 := by
  have h1 := szL_le szStr_le p.things m
  have h2 := szL_le szBt_le p.bs (szL szStr p.things m)
  unfold szBk; repeat' split
  all_goals omega

def digB (k : Int) : Str := bytesOf [IntKind.u8.wrap (IntKind.i64.wrap (48 + k.tmod 10))]
def digF : Nat → Int → Str → Str
  | 0, _, s => s
  | f + 1, k, s => if 0 < k then digF f (IntKind.i64.wrap (k.tdiv 10)) (digB k ++ s) else s
theorem digF_end {f : Nat} {k : Int} {s : Str} (h : k ≤ 0) : digF f k s = s := by
  cases f with
  | zero => rfl
  | succ f => rw [digF, if_neg (by omega)]
theorem tdiv_lt {k : Int} (h : 0 < k) (h2 : k ≤ 1152921504606846976) : 0 ≤ IntKind.i64.wrap (k.tdiv 10) ∧ IntKind.i64.wrap (k.tdiv 10) < k := by
  have e : k.tdiv 10 = k / 10 := Int.tdiv_eq_ediv_of_nonneg (by omega)
  rw [e, wrap_in (by omega) (by omega)]
  omega
def markT (k : Int) : Str := if k ≤ 0 then ⟨#[109, 48]⟩ else ⟨#[109]⟩ ++ digF k.toNat k ⟨#[]⟩
/-- an array of marks -/
def mkS (n : Nat) (k : Int) : T := .sl 9 1 n (fun i => [.str (markT (k + (i : Nat)))])
def mkTo (l : List Str) (k : Int) (i : Nat) : Nat → List T := fun j => if j < i then [.str (markT (k + (j : Nat)))] else [.str (nth l j)]
theorem mkTo_next (l : List Str) (k kk : Int) (i j : Nat) (hk : kk = k + (i : Nat)) : putRow (mkTo l k i) i [.str (markT kk)] j = mkTo l k (i + 1) j := by
  by_cases h : j = i
  · subst h; rw [putRow_self]; simp only [mkTo]; rw [if_pos (by omega), hk]
  · rw [putRow_other _ _ _ h]; simp only [mkTo]
    by_cases h2 : j < i
    · rw [if_pos h2, if_pos (by omega)]
    · rw [if_neg h2, if_neg (by omega)]
theorem mkTo_all (l : List Str) (k : Int) (i j : Nat) (h : j < i) : mkTo l k i j = [.str (markT (k + (j : Nat)))] := by simp only [mkTo, if_pos h]
theorem mkTo_len (l : List Str) (k : Int) (i j : Nat) : (mkTo l k i j).length = 1 := by simp only [mkTo]; split <;> rfl

/-- marks of a batch, of batches -/
def mkBt (p : Bt) (k : Int) : List T := [.str (markT k), mkS p.has.length (k + 1), mkS p.needs.length (k + 1 + p.has.length)]
def cntBt (p : Bt) : Int := 1 + p.has.length + p.needs.length
def cntTo (l : List Bt) : Nat → Int
  | 0 => 0
  | i + 1 => cntTo l i + cntBt (nth l i)
theorem cntTo_nn (l : List Bt) (i : Nat) : 0 ≤ cntTo l i := by
  induction i with
  | zero => exact Int.le_refl _
  | succ i ih => simp only [cntTo, cntBt]; omega
theorem cntTo_ge (l : List Bt) (i : Nat) : (i : Int) ≤ cntTo l i := by
  induction i with
  | zero => exact Int.le_refl _
  | succ i ih => simp only [cntTo, cntBt]; omega
theorem cntTo_mono (l : List Bt) {i j : Nat} (h : i ≤ j) : cntTo l i ≤ cntTo l j := by
  induction j with
  | zero => have : i = 0 := by omega
            subst this; exact Int.le_refl _
  | succ j ih =>
    by_cases h' : i = j + 1
    · subst h'; exact Int.le_refl _
    · have := ih (by omega)
      simp only [cntTo, cntBt]; omega
theorem cntTo_small {l : List Bt} (h : ∀ i, i < l.length → smallBt (nth l i)) : ∀ i, i ≤ l.length → cntTo l i ≤ 2097153 * (i : Nat) := by
  intro i
  induction i with
  | zero => intro _; exact Int.le_refl _
  | succ i ih =>
    intro hi
    have h1 := ih (by omega)
    have h2 := h i (by omega)
    unfold smallBt at h2
    simp only [cntTo, cntBt]; omega
def mkBts (l : List Bt) (k : Int) : T := .sl 48 3 l.length (fun j => mkBt (nth l j) (k + cntTo l j))
def mkBtTo (l : List Bt) (k : Int) (i : Nat) : Nat → List T := fun j => if j < i then mkBt (nth l j) (k + cntTo l j) else (nth l j).cells
theorem mkBtTo_at (l : List Bt) (k : Int) (i : Nat) : mkBtTo l k i i = (nth l i).cells := by simp only [mkBtTo, if_neg (Nat.lt_irrefl i)]
theorem mkBtTo_next (l : List Bt) (k : Int) (i j : Nat) (r : List T) (hr : r = mkBt (nth l i) (k + cntTo l i)) : putRow (mkBtTo l k i) i r j = mkBtTo l k (i + 1) j := by
  by_cases h : j = i
  · subst h; rw [putRow_self]; simp only [mkBtTo]; rw [if_pos (by omega), hr]
  · rw [putRow_other _ _ _ h]; simp only [mkBtTo]
    by_cases h2 : j < i
    · rw [if_pos h2, if_pos (by omega)]
    · rw [if_neg h2, if_neg (by omega)]
theorem mkBtTo_all (l : List Bt) (k : Int) (i j : Nat) (h : j < i) : mkBtTo l k i j = mkBt (nth l j) (k + cntTo l j) := by simp only [mkBtTo, if_pos h]
theorem btRow1 {l : List Bt} {k : Int} {i : Nat} {x : T} : (setRow (mkBtTo l k i) i 0 x i).getD 1 .dead = strs (nth l i).has := setRow_at (mkBtTo_at l k i) rfl
theorem btRow2 {l : List Bt} {k : Int} {i : Nat} {x y : T} : (setRow (setRow (mkBtTo l k i) i 0 x) i 1 y i).getD 2 .dead = strs (nth l i).needs := by
  rw [setRow_at (r := setRow (mkBtTo l k i) i 0 x i) rfl rfl]
  exact setRow_at (mkBtTo_at l k i) rfl

theorem yaSl22 : sliceT Try.prog 22 = some ⟨9, 1, 16⟩ := by kernel_rfl
theorem yaSc9 : scalarB Try.prog 9 = true := by kernel_rfl
theorem yaUs9 : Try.prog.underlying 9 = some .string := by kernel_rfl
theorem yaZs9 : zeroSz Try.prog 9 = some 1 := by kernel_rfl
theorem yaCs9 : cellsSz Try.prog 9 = some (0 + 1) := by kernel_rfl
theorem yaMo : Try.prog.follows .mixedOrders = true := by kernel_rfl
theorem yaCo171 : callOk Try.prog 171 = true := by kernel_rfl
theorem yaCo136 : callOk Try.prog 136 = true := by kernel_rfl
theorem yaCo91 : callOk Try.prog 91 = true := by kernel_rfl
theorem yaCo81 : callOk Try.prog 81 = true := by kernel_rfl
theorem yaCo82 : callOk Try.prog 82 = true := by kernel_rfl
theorem yaUi3 : Try.prog.underlying 3 = some (.int .i64) := by kernel_rfl
theorem yaUi5 : Try.prog.underlying 5 = some (.int .u8) := by kernel_rfl
theorem yaSl41 : sliceT Try.prog 41 = some ⟨5, 1, 1⟩ := by kernel_rfl
theorem yaUl41 : Try.prog.underlying 41 = some (.slice 5) := by kernel_rfl
theorem yaCo87 : callOk Try.prog 87 = true := by kernel_rfl
theorem szStrS (l : List Str) (m : Int) (hm : 0 ≤ m) (hm2 : m ≤ 1048576) : ASpec Try.prog 18 [.one (strs l), .one (.int .i64 m)] (.one (.int .i64 (szL szStr l m))) := by
  refine ASpec.body Try.func18 rfl [4] rfl 28 rfl rfl rfl ?_
  refine AWp.lenLe 0 rfl (fun hl => ?_)
  refine AWp.rowsLe 0 rfl (fun hr0 => ?_)
  have hr : ∀ i, i < l.length → (nth l i).size ≤ 9223372036854775807 := fun i hi => hr0 i 0 hi (by decide)
  clear hr0
  refine AWp.seq (AWp.region ?_)
  refine ARun.step rfl (step_assignV rfl (hn rfl) rfl rfl) ?_
  refine ARun.nil ?_
  refine AWp.seq (AWp.region ?_)
  refine ARun.step rfl (step_moveV rfl (hn rfl) rfl rfl) ?_
  refine ARun.step rfl (step_moveV rfl (hn rfl) rfl rfl) ?_
  refine ARun.step rfl (step_len_f rfl (hn rfl) rfl yaSl22 rfl) ?_
  refine ARun.step rfl (step_subI rfl (hn rfl) rfl rfl rfl (by omega) (by omega)) ?_
  refine ARun.step rfl (step_assignV rfl (hn rfl) rfl rfl) ?_
  refine ARun.nil ?_
  refine AWp.seq ?_
  refine AWp.seq (AWp.region ?_)
  refine ARun.step rfl (step_moveV rfl (hn rfl) rfl rfl) ?_
  refine ARun.step rfl (step_lss rfl (hn rfl) rfl rfl rfl) ?_
  refine ARun.nil ?_
  refine AWp.cond rfl (fun c1 => ?_) (fun c1 => ?_)
  · try simp only [nrm] at c1
    refine AWp.seq (AWp.region ?_)
    refine ARun.step rfl (step_assignV rfl (hn rfl) rfl rfl) ?_
    refine ARun.nil ?_
    refine AWp.ret ?_
    refine RetIs.sc (.inr rfl) rfl rfl ?_
    refine congrArg (T.int _) ?_
    rw [szL, if_pos (by omega)]
  · try simp only [nrm] at c1
    refine AWp.skip ?_
    refine AWp.seq ?_
    refine AWp.seq (AWp.region ?_)
    refine ARun.step rfl (step_assignV rfl (hn rfl) rfl rfl) ?_
    refine ARun.nil ?_
    refine AWp.block ?_
    refine AWp.loopM (fun x : Nat × Int => mkAS 28 [(0, ⟨true, .one (.v (strs l))⟩), (1, ⟨true, .one (.v (.int .i64 x.2))⟩), (5, ⟨true, .one (.v (.int .i64 (x.1 : Nat)))⟩)] [] []) (fun x => x.1 ≤ l.length ∧ 0 ≤ x.2 ∧ x.2 ≤ 1048576 ∧ szGo szStr (l.drop x.1) x.2 = szL szStr l m) (fun x => l.length - x.1) (0, m - l.length) ?_ (Le.forgetR rfl ⟨rfl, rfl, rfl, trivial⟩ trivial trivial) ?_
    · try dsimp only
      exact ⟨by omega, by omega, by omega, by rw [szL, if_neg (by omega), List.drop_zero]⟩
    rintro x ⟨hi, hm3, hm4, hg⟩
    refine AWp.seq ?_
    refine AWp.seq (AWp.region ?_)
    refine ARun.step rfl (step_moveV rfl (hn rfl) rfl rfl) ?_
    refine ARun.step rfl (step_moveV rfl (hn rfl) rfl rfl) ?_
    refine ARun.step rfl (step_len_f rfl (hn rfl) rfl yaSl22 rfl) ?_
    refine ARun.step rfl (step_lss rfl (hn rfl) rfl rfl rfl) ?_
    refine ARun.nil ?_
    refine AWp.cond rfl (fun c2 => ?_) (fun c2 => ?_)
    · try simp only [nrm] at c2
      try have hr1 := hr x.1 (by omega)
      refine AWp.skip ?_
      refine AWp.seq ?_
      refine AWp.block ?_
      refine AWp.seq (AWp.region ?_)
      refine ARun.step rfl (step_moveV rfl (hn rfl) rfl rfl) ?_
      refine ARun.step rfl (step_moveV rfl (hn rfl) rfl rfl) ?_
      refine ARun.step rfl (step_moveV rfl (hn rfl) rfl rfl) ?_
      refine ARun.step rfl (step_index_fN rfl (hn rfl) rfl yaSl22 rfl rfl (by omega)) ?_
      refine ARun.step rfl (step_load_f rfl (hn rfl) rfl yaSc9 rfl (hn rfl) rfl) ?_
      refine ARun.step rfl (step_len_str rfl (hn rfl) rfl yaUs9 rfl) ?_
      refine ARun.step rfl (step_subI rfl (hn rfl) rfl rfl rfl (by omega) (by omega)) ?_
      refine ARun.step rfl (step_assignV rfl (hn rfl) rfl rfl) ?_
      refine ARun.nil ?_
      refine AWp.seq (AWp.region ?_)
      refine ARun.step rfl (step_moveV rfl (hn rfl) rfl rfl) ?_
      refine ARun.step rfl (step_lss rfl (hn rfl) rfl rfl rfl) ?_
      refine ARun.nil ?_
      refine AWp.cond rfl (fun c3 => ?_) (fun c3 => ?_)
      · try simp only [nrm] at c3
        refine AWp.seq (AWp.region ?_)
        refine ARun.step rfl (step_assignV rfl (hn rfl) rfl rfl) ?_
        refine ARun.nil ?_
        refine AWp.ret ?_
        refine RetIs.sc (.inr rfl) rfl rfl ?_
        refine congrArg (T.int _) ?_
        rw [← hg, drop_nth (i := x.1) (by omega), szGo, if_pos (by unfold szStr; grind)]
      · try simp only [nrm] at c3
        refine AWp.skip ?_
        refine AWp.region ?_
        refine ARun.step rfl (step_moveV rfl (hn rfl) rfl rfl) ?_
        refine ARun.step rfl (step_addI rfl (hn rfl) rfl rfl rfl (by omega) (by omega)) ?_
        refine ARun.step rfl (step_assignV rfl (hn rfl) rfl rfl) ?_
        refine ARun.nil ?_
        refine ⟨(x.1 + 1, x.2 - (nth l x.1).size), ?_, ?_, Le.forgetR rfl ⟨rfl, rfl, rfl, trivial⟩ trivial trivial⟩
        · try dsimp only
          exact ⟨by omega, by first | assumption | omega, by have := szStr_le (nth l x.1) x.2; omega, by rw [← hg, drop_nth (i := x.1) (by omega), szGo, if_neg (by first | omega | (unfold szStr; split <;> omega))]; try (unfold szStr; rw [if_neg (by omega)])⟩
        · try dsimp only
          omega
    · try simp only [nrm] at c2
      try have hr1 := hr x.1 (by omega)
      refine AWp.exit ?_
      refine AWp.seq (AWp.region ?_)
      refine ARun.step rfl (step_moveV rfl (hn rfl) rfl rfl) ?_
      refine ARun.step rfl (step_assignV rfl (hn rfl) rfl rfl) ?_
      refine ARun.nil ?_
      refine AWp.ret ?_
      refine RetIs.sc (.inr rfl) rfl rfl ?_
      refine congrArg (T.int _) ?_
      rw [← hg, List.drop_of_length_le (by omega), szGo]
theorem toStrS (l : List Str) (hl : l.length ≤ 1048576) : ASpec Try.prog 20 [.one (strs l)] (.one (strs l)) := by
  refine ASpec.body Try.func20 rfl [2] rfl 22 rfl rfl rfl ?_
  refine AWp.seq (AWp.region ?_)
  refine ARun.step rfl (step_assignV rfl (hn rfl) rfl rfl) ?_
  refine ARun.nil ?_
  refine AWp.seq (AWp.region ?_)
  refine ARun.step rfl (step_moveV rfl (hn rfl) rfl rfl) ?_
  refine ARun.step rfl (step_len_f rfl (hn rfl) rfl yaSl22 rfl) ?_
  refine ARun.step rfl (step_makeSliceZ rfl (hn rfl) rfl yaSl22 (zeroOk_dead yaZs9) rfl (by omega) (by omega)) ?_
  refine ARun.step rfl (step_assignV rfl (hn rfl) rfl rfl) ?_
  refine ARun.nil ?_
  refine AWp.seq ?_
  refine AWp.seq (AWp.region ?_)
  refine ARun.step rfl (step_assignV rfl (hn rfl) rfl rfl) ?_
  refine ARun.nil ?_
  refine AWp.block ?_
  refine AWp.loopM (fun i : Nat => mkAS 22 [(0, ⟨true, .one (.v (strs l))⟩), (3, ⟨true, .one (.ref ⟨.arr 7 0, []⟩)⟩), (4, ⟨true, .one (.v (.int .i64 (i : Nat)))⟩)] [] [(7, 0, .sl 9 1 l.length (rowsTo l strC (List.replicate 1 .dead) i))]) (fun i => i ≤ l.length) (fun i => l.length - i) 0 ?_ (Le.forgetR rfl ⟨rfl, rfl, rfl, trivial⟩ trivial ⟨.rows (fun _ _ => rfl), trivial⟩) ?_
  · try dsimp only
    omega
  rintro i hi
  refine AWp.seq ?_
  refine AWp.seq (AWp.region ?_)
  refine ARun.step rfl (step_moveV rfl (hn rfl) rfl rfl) ?_
  refine ARun.step rfl (step_moveV rfl (hn rfl) rfl rfl) ?_
  refine ARun.step rfl (step_len_f rfl (hn rfl) rfl yaSl22 rfl) ?_
  refine ARun.step rfl (step_lss rfl (hn rfl) rfl rfl rfl) ?_
  refine ARun.nil ?_
  refine AWp.cond rfl (fun c1 => ?_) (fun c1 => ?_)
  · try simp only [nrm] at c1
    refine AWp.skip ?_
    refine AWp.seq ?_
    refine AWp.block ?_
    refine AWp.region ?_
    refine ARun.step rfl (step_moveV rfl (hn rfl) rfl rfl) ?_
    refine ARun.step rfl (step_moveV rfl (hn rfl) rfl rfl) ?_
    refine ARun.step rfl (step_moveV rfl (hn rfl) rfl rfl) ?_
    refine ARun.step rfl (step_moveV rfl (hn rfl) rfl rfl) ?_
    refine ARun.step rfl (step_index_fN rfl (hn rfl) rfl yaSl22 rfl rfl (by omega)) ?_
    refine ARun.step rfl (step_load_f rfl (hn rfl) rfl yaSc9 rfl (hn rfl) rfl) ?_
    refine ARun.step rfl (step_index_rN rfl (hn rfl) rfl yaSl22 rfl rfl rfl (by omega)) ?_
    refine ARun.step rfl (step_store_row rfl rfl yaCs9 rfl rfl (by omega) rfl rfl rfl rfl rfl (by show (rowsTo l strC (List.replicate 1 .dead) i i).length = _; rw [rowsTo_at]; rfl)) ?_
    refine ARun.nil ?_
    refine AWp.region ?_
    refine ARun.step rfl (step_moveV rfl (hn rfl) rfl rfl) ?_
    refine ARun.step rfl (step_addI rfl (hn rfl) rfl rfl rfl (by omega) (by omega)) ?_
    refine ARun.step rfl (step_assignV rfl (hn rfl) rfl rfl) ?_
    refine ARun.nil ?_
    refine ⟨i + 1, ?_, ?_, Le.forgetR rfl ⟨rfl, rfl, rfl, trivial⟩ trivial ⟨.rows (fun j _ => rowsTo_next l strC _ i j), trivial⟩⟩
    · try dsimp only
      omega
    · try dsimp only
      omega
  · try simp only [nrm] at c1
    refine AWp.exit ?_
    refine AWp.seq (AWp.region ?_)
    refine ARun.step rfl (step_moveV rfl (hn rfl) rfl rfl) ?_
    refine ARun.step rfl (step_assignV rfl (hn rfl) rfl rfl) ?_
    refine ARun.nil ?_
    refine AWp.le (Le.forgetR (n := 22) (sl := [(2, ⟨true, .one (.ref ⟨.arr 7 0, []⟩)⟩)]) (bl := []) (al := [(7, 0, strs l)]) rfl ⟨rfl, trivial⟩ trivial ⟨.rows (fun j hj => rowsTo_all l strC _ _ j (by omega)), trivial⟩) ?_
    refine AWp.ret ?_
    refine RetIs.ref (.inr rfl) rfl rfl ?_
    rfl
theorem toStrSZ (l : List Str) (hl : l.length ≤ 1048576) : ASpec Try.prog 20 [.one (strs l)] (.one (.fz (strs l))) := (toStrS l hl).letGo (.p (.one (.fz (.refl _))))
theorem eqStrS (a b : List Str)  : ASpec Try.prog 22 [.one (strs a), .one (strs b)] (.one (.bool (eqL strEq a b))) := by
  refine ASpec.body Try.func22 rfl [4] rfl 26 rfl rfl rfl ?_
  refine AWp.lenLe 0 rfl (fun hl => ?_)
  refine AWp.seq (AWp.region ?_)
  refine ARun.step rfl (step_assignV rfl (hn rfl) rfl rfl) ?_
  refine ARun.nil ?_
  refine AWp.seq ?_
  refine AWp.seq (AWp.region ?_)
  refine ARun.step rfl (step_moveV rfl (hn rfl) rfl rfl) ?_
  refine ARun.step rfl (step_len_f rfl (hn rfl) rfl yaSl22 rfl) ?_
  refine ARun.step rfl (step_moveV rfl (hn rfl) rfl rfl) ?_
  refine ARun.step rfl (step_len_f rfl (hn rfl) rfl yaSl22 rfl) ?_
  refine ARun.step rfl (step_neq rfl (hn rfl) rfl rfl rfl) ?_
  refine ARun.nil ?_
  refine AWp.cond rfl (fun c1 => ?_) (fun c1 => ?_)
  · try simp only [nrm] at c1
    refine AWp.seq (AWp.region ?_)
    refine ARun.step rfl (step_assignV rfl (hn rfl) rfl rfl) ?_
    refine ARun.nil ?_
    refine AWp.ret ?_
    refine RetIs.sc (.inr rfl) rfl rfl ?_
    refine congrArg T.bool ?_
    rw [eqL, show (a.length == b.length) = false by simp; omega, Bool.false_and]
  · try simp only [nrm] at c1
    refine AWp.skip ?_
    refine AWp.seq ?_
    refine AWp.seq (AWp.region ?_)
    refine ARun.step rfl (step_assignV rfl (hn rfl) rfl rfl) ?_
    refine ARun.nil ?_
    refine AWp.block ?_
    refine AWp.loopM (fun i : Nat => mkAS 26 [(0, ⟨true, .one (.v (strs a))⟩), (1, ⟨true, .one (.v (strs b))⟩), (5, ⟨true, .one (.v (.int .i64 (i : Nat)))⟩)] [] []) (fun i => i ≤ a.length ∧ ∀ j, j < i → strEq (nth a j) (nth b j) = true) (fun i => a.length - i) 0 ?_ (Le.forgetR rfl ⟨rfl, rfl, rfl, trivial⟩ trivial trivial) ?_
    · try dsimp only
      exact ⟨by omega, by omega⟩
    rintro i ⟨hi, hall⟩
    refine AWp.seq ?_
    refine AWp.seq (AWp.region ?_)
    refine ARun.step rfl (step_moveV rfl (hn rfl) rfl rfl) ?_
    refine ARun.step rfl (step_moveV rfl (hn rfl) rfl rfl) ?_
    refine ARun.step rfl (step_len_f rfl (hn rfl) rfl yaSl22 rfl) ?_
    refine ARun.step rfl (step_lss rfl (hn rfl) rfl rfl rfl) ?_
    refine ARun.nil ?_
    refine AWp.cond rfl (fun c2 => ?_) (fun c2 => ?_)
    · try simp only [nrm] at c2
      refine AWp.skip ?_
      refine AWp.seq ?_
      refine AWp.block ?_
      refine AWp.seq (AWp.draw [⟨[.s 0], [.s 17], false⟩, ⟨[.s 5], [.s 18], false⟩, ⟨[.s 17, .s 18], [.s 19], false⟩, ⟨[.s 19], [.s 20], false⟩, ⟨[.s 1], [.s 21], false⟩, ⟨[.s 5], [.s 22], false⟩, ⟨[.s 21, .s 22], [.s 23], false⟩, ⟨[.s 23], [.s 24], false⟩, ⟨[.s 20, .s 24], [.s 25], false⟩] yaMo rfl ?_)
      refine DRun.step rfl (fun τ hN hr => step_moveV rfl (rdN hN (hn rfl)) rfl (by exact rdS hr rfl rfl)) ?_
      refine DRun.step rfl (fun τ hN hr => step_moveV rfl (rdN hN (hn rfl)) rfl (by exact rdS hr rfl rfl)) ?_
      refine DRun.step rfl (fun τ hN hr => step_index_fN rfl (rdN hN (hn rfl)) rfl yaSl22 (by exact rdS hr rfl rfl) (by exact rdS hr rfl rfl) (by omega)) ?_
      refine DRun.step rfl (fun τ hN hr => step_load_f rfl (rdN hN (hn rfl)) rfl yaSc9 (by exact rdS hr rfl rfl) (hn rfl) rfl) ?_
      refine DRun.step rfl (fun τ hN hr => step_moveV rfl (rdN hN (hn rfl)) rfl (by exact rdS hr rfl rfl)) ?_
      refine DRun.step rfl (fun τ hN hr => step_moveV rfl (rdN hN (hn rfl)) rfl (by exact rdS hr rfl rfl)) ?_
      refine DRun.step rfl (fun τ hN hr => step_index_fN rfl (rdN hN (hn rfl)) rfl yaSl22 (by exact rdS hr rfl rfl) (by exact rdS hr rfl rfl) (by omega)) ?_
      refine DRun.step rfl (fun τ hN hr => step_load_f rfl (rdN hN (hn rfl)) rfl yaSc9 (by exact rdS hr rfl rfl) (hn rfl) rfl) ?_
      refine DRun.step rfl (fun τ hN hr => step_sneq rfl (rdN hN (hn rfl)) rfl (by exact rdS hr rfl rfl) (by exact rdS hr rfl rfl)) ?_
      refine DRun.nil ?_
      refine AWp.cond rfl (fun c3 => ?_) (fun c3 => ?_)
      · try simp only [nrm] at c3
        refine AWp.seq (AWp.region ?_)
        refine ARun.step rfl (step_assignV rfl (hn rfl) rfl rfl) ?_
        refine ARun.nil ?_
        refine AWp.ret ?_
        refine RetIs.sc (.inr rfl) rfl rfl ?_
        refine congrArg T.bool ?_
        rw [eqL, all_not (i := i) (by omega) (by assumption), Bool.and_false]
      · try simp only [nrm] at c3
        refine AWp.skip ?_
        refine AWp.region ?_
        refine ARun.step rfl (step_moveV rfl (hn rfl) rfl rfl) ?_
        refine ARun.step rfl (step_addI rfl (hn rfl) rfl rfl rfl (by omega) (by omega)) ?_
        refine ARun.step rfl (step_assignV rfl (hn rfl) rfl rfl) ?_
        refine ARun.nil ?_
        refine ⟨i + 1, ?_, ?_, Le.forgetR rfl ⟨rfl, rfl, rfl, trivial⟩ trivial trivial⟩
        · try dsimp only
          exact ⟨by omega, upto hall (by assumption)⟩
        · try dsimp only
          omega
    · try simp only [nrm] at c2
      refine AWp.exit ?_
      refine AWp.seq (AWp.region ?_)
      refine ARun.step rfl (step_assignV rfl (hn rfl) rfl rfl) ?_
      refine ARun.nil ?_
      refine AWp.ret ?_
      refine RetIs.sc (.inr rfl) rfl rfl ?_
      refine congrArg T.bool ?_
      rw [eqL, all_of (fun j hj => hall j (by omega)), show (a.length == b.length) = true by simp; omega, Bool.and_true]
theorem isNameI (s : Str)  : ASpec Try.prog 81 [.one (.str s)] (.one (.bool (nameOk s))) := by
  refine ASpec.body Try.func81 rfl [2] rfl 40 rfl rfl rfl ?_
  refine AWp.strLe 0 rfl (fun hs => ?_)
  refine AWp.seq (AWp.region ?_)
  refine ARun.step rfl (step_assignV rfl (hn rfl) rfl rfl) ?_
  refine ARun.nil ?_
  refine AWp.seq ?_
  refine AWp.seq (AWp.region ?_)
  refine ARun.step rfl (step_moveV rfl (hn rfl) rfl rfl) ?_
  refine ARun.step rfl (step_len_str rfl (hn rfl) rfl yaUs9 rfl) ?_
  refine ARun.step rfl (step_moveV rfl (hn rfl) rfl rfl) ?_
  refine ARun.nil ?_
  refine AWp.block ?_
  refine AWp.loopM (fun i : Nat => mkAS 40 [(0, ⟨true, .one (.v (.str s))⟩), (6, ⟨true, .one (.v (.int .i64 (s.size : Nat)))⟩), (7, ⟨true, .one (.v (.int .i64 (i : Nat)))⟩)] [] []) (fun i => i ≤ s.size ∧ ∀ j, j < i → nmC (bAt s j) = true) (fun i => s.size - i) 0 ?_ (Le.forgetR rfl ⟨rfl, rfl, rfl, trivial⟩ trivial trivial) ?_
  · try dsimp only
    exact ⟨by omega, by omega⟩
  rintro i ⟨hi, hall⟩
  refine AWp.seq (AWp.region ?_)
  refine ARun.step rfl (step_lss rfl (hn rfl) rfl rfl rfl) ?_
  refine ARun.nil ?_
  refine AWp.seq ?_
  refine AWp.cond rfl (fun c1 => ?_) (fun c1 => ?_)
  · try simp only [nrm] at c1
    refine AWp.skip ?_
    refine AWp.seq ?_
    refine AWp.block ?_
    refine AWp.seq (AWp.region ?_)
    refine ARun.step rfl (step_moveV rfl (hn rfl) rfl rfl) ?_
    refine ARun.step rfl (step_assignV rfl (hn rfl) rfl rfl) ?_
    refine ARun.nil ?_
    refine AWp.seq (AWp.region ?_)
    refine ARun.step rfl (step_moveV rfl (hn rfl) rfl rfl) ?_
    refine ARun.step rfl (step_moveV rfl (hn rfl) rfl rfl) ?_
    refine ARun.step rfl (step_index_str rfl (hn rfl) rfl yaUs9 rfl rfl (by omega) (by omega)) ?_
    refine ARun.step rfl (step_assignV rfl (hn rfl) rfl rfl) ?_
    refine ARun.nil ?_
    refine AWp.seq (AWp.region ?_)
    refine ARun.step rfl (step_moveV rfl (hn rfl) rfl rfl) ?_
    refine ARun.step rfl (step_lss rfl (hn rfl) rfl rfl rfl) ?_
    refine ARun.step rfl (step_moveV rfl (hn rfl) rfl rfl) ?_
    refine guardS rfl rfl rfl rfl (hn rfl) (fun g1 g2 => step_moveV rfl (hn rfl) rfl rfl) ?_
    refine guardS rfl rfl rfl rfl (hn rfl) (fun g1 g2 => step_gtr rfl (hn rfl) rfl (ev_true rfl (by exact flag2 g1 g2)) rfl) ?_
    refine ARun.step rfl (step_or rfl (hn rfl) rfl rfl rfl (fun h => (by exact flag1 h))) ?_
    refine ARun.step rfl (step_moveV rfl (hn rfl) rfl rfl) ?_
    refine guardS rfl rfl rfl rfl (hn rfl) (fun g1 g2 => step_moveV rfl (hn rfl) rfl rfl) ?_
    refine guardS rfl rfl rfl rfl (hn rfl) (fun g1 g2 => step_lss rfl (hn rfl) rfl (ev_true rfl (by exact flag2 g1 g2)) rfl) ?_
    refine guardS rfl rfl rfl rfl (hn rfl) (fun g1 g2 => step_moveV rfl (hn rfl) rfl (ev_true rfl (by exact flag2 g1 g2))) ?_
    refine guardS rfl rfl rfl rfl (hn rfl) (fun g1 g2 => step_moveV rfl (hn rfl) rfl rfl) ?_
    refine guardS rfl rfl rfl rfl (hn rfl) (fun g1 g2 => step_gtr rfl (hn rfl) rfl (ev_true rfl (by exact flag2 g1 g2)) rfl) ?_
    refine guardS rfl rfl rfl rfl (hn rfl) (fun g1 g2 => step_or rfl (hn rfl) rfl (ev_true rfl (by exact flag2 g1 g2)) rfl (fun h => (by exact flag2 (by exact flag2 g1 g2) h))) ?_
    refine ARun.step rfl (step_and rfl (hn rfl) rfl rfl rfl (fun h => (by exact flag1 h))) ?_
    refine ARun.step rfl (step_moveV rfl (hn rfl) rfl rfl) ?_
    refine guardS rfl rfl rfl rfl (hn rfl) (fun g1 g2 => step_moveV rfl (hn rfl) rfl rfl) ?_
    refine guardS rfl rfl rfl rfl (hn rfl) (fun g1 g2 => step_neq rfl (hn rfl) rfl (ev_true rfl (by exact flag2 g1 g2)) rfl) ?_
    refine ARun.step rfl (step_and rfl (hn rfl) rfl rfl rfl (fun h => (by exact flag1 h))) ?_
    refine ARun.nil ?_
    refine AWp.cond rfl (fun c2 => ?_) (fun c2 => ?_)
    · try simp only [nrm] at c2
      refine AWp.seq (AWp.region ?_)
      refine ARun.step rfl (step_assignV rfl (hn rfl) rfl rfl) ?_
      refine ARun.nil ?_
      refine AWp.ret ?_
      refine RetIs.sc (.inr rfl) rfl rfl ?_
      refine congrArg T.bool ?_
      rw [nameOk, nameB, all_not (i := i) (by omega) (by simp only [nmC, bAt] at *; grind), Bool.and_false]
    · try simp only [nrm] at c2
      refine AWp.skip ?_
      refine AWp.region ?_
      refine ARun.step rfl (step_addI rfl (hn rfl) rfl rfl rfl (by omega) (by omega)) ?_
      refine ARun.step rfl (step_moveV rfl (hn rfl) rfl rfl) ?_
      refine ARun.nil ?_
      refine ⟨i + 1, ?_, ?_, Le.forgetR rfl ⟨rfl, rfl, rfl, trivial⟩ trivial trivial⟩
      · try dsimp only
        exact ⟨by omega, upto hall (by simp only [nmC, bAt] at *; grind)⟩
      · try dsimp only
        omega
  · try simp only [nrm] at c1
    refine AWp.exit ?_
    refine AWp.seq (AWp.region ?_)
    refine ARun.step rfl (step_moveV rfl (hn rfl) rfl rfl) ?_
    refine ARun.step rfl (step_len_str rfl (hn rfl) rfl yaUs9 rfl) ?_
    refine ARun.step rfl (step_geq rfl (hn rfl) rfl rfl rfl) ?_
    refine ARun.step rfl (step_moveV rfl (hn rfl) rfl rfl) ?_
    refine guardS rfl rfl rfl rfl (hn rfl) (fun g1 g2 => step_moveV rfl (hn rfl) rfl rfl) ?_
    refine guardS rfl rfl rfl rfl (hn rfl) (fun g1 g2 => step_len_str rfl (hn rfl) rfl yaUs9 (ev_true rfl (by exact flag2 g1 g2))) ?_
    refine guardS rfl rfl rfl rfl (hn rfl) (fun g1 g2 => step_leq rfl (hn rfl) rfl (ev_true rfl (by exact flag2 g1 g2)) rfl) ?_
    refine ARun.step rfl (step_and rfl (hn rfl) rfl rfl rfl (fun h => (by exact flag1 h))) ?_
    refine ARun.step rfl (step_assignV rfl (hn rfl) rfl rfl) ?_
    refine ARun.nil ?_
    refine AWp.ret ?_
    refine RetIs.sc (.inr rfl) rfl rfl ?_
    refine congrArg T.bool ?_
    rw [nameOk, nameB, all_of (fun j hj => hall j (by omega)), Bool.and_true]; rfl
theorem indexS (l : List Str) (s : Str)  : ASpec Try.prog 171 [.one (strs l), .one (.str s)] (.one (.int .i64 (idxS l s))) := by
  refine ASpec.body Try.func171 rfl [4] rfl 19 rfl rfl rfl ?_
  refine AWp.lenLe 0 rfl (fun hl => ?_)
  refine AWp.seq (AWp.region ?_)
  refine ARun.step rfl (step_assignV rfl (hn rfl) rfl rfl) ?_
  refine ARun.nil ?_
  refine AWp.seq ?_
  refine AWp.seq (AWp.region ?_)
  refine ARun.step rfl (step_moveV rfl (hn rfl) rfl rfl) ?_
  refine ARun.step rfl (step_len_f rfl (hn rfl) rfl yaSl22 rfl) ?_
  refine ARun.step rfl (step_moveV rfl (hn rfl) rfl rfl) ?_
  refine ARun.nil ?_
  refine AWp.block ?_
  refine AWp.loopM (fun i : Nat => mkAS 19 [(0, ⟨true, .one (.v (strs l))⟩), (1, ⟨true, .one (.v (.str s))⟩), (7, ⟨true, .one (.v (.int .i64 (l.length : Nat)))⟩), (8, ⟨true, .one (.v (.int .i64 (i : Nat)))⟩)] [] []) (fun i => i ≤ l.length ∧ ∀ j, j < i → strEq s (nth l j) = false) (fun i => l.length - i) 0 ?_ (Le.forgetR rfl ⟨rfl, rfl, rfl, rfl, trivial⟩ trivial trivial) ?_
  · try dsimp only
    exact ⟨by omega, by omega⟩
  rintro i ⟨hi, hall⟩
  refine AWp.seq (AWp.region ?_)
  refine ARun.step rfl (step_lss rfl (hn rfl) rfl rfl rfl) ?_
  refine ARun.nil ?_
  refine AWp.seq ?_
  refine AWp.cond rfl (fun c1 => ?_) (fun c1 => ?_)
  · try simp only [nrm] at c1
    refine AWp.skip ?_
    refine AWp.seq ?_
    refine AWp.block ?_
    refine AWp.seq (AWp.region ?_)
    refine ARun.step rfl (step_moveV rfl (hn rfl) rfl rfl) ?_
    refine ARun.step rfl (step_assignV rfl (hn rfl) rfl rfl) ?_
    refine ARun.nil ?_
    refine AWp.seq (AWp.region ?_)
    refine ARun.step rfl (step_moveV rfl (hn rfl) rfl rfl) ?_
    refine ARun.step rfl (step_moveV rfl (hn rfl) rfl rfl) ?_
    refine ARun.step rfl (step_moveV rfl (hn rfl) rfl rfl) ?_
    refine ARun.step rfl (step_index_fN rfl (hn rfl) rfl yaSl22 rfl rfl (by omega)) ?_
    refine ARun.step rfl (step_load_f rfl (hn rfl) rfl yaSc9 rfl (hn rfl) rfl) ?_
    refine ARun.step rfl (step_seql rfl (hn rfl) rfl rfl rfl) ?_
    refine ARun.nil ?_
    refine AWp.cond rfl (fun c2 => ?_) (fun c2 => ?_)
    · try simp only [nrm] at c2
      refine AWp.seq (AWp.region ?_)
      refine ARun.step rfl (step_moveV rfl (hn rfl) rfl rfl) ?_
      refine ARun.step rfl (step_assignV rfl (hn rfl) rfl rfl) ?_
      refine ARun.nil ?_
      refine AWp.ret ?_
      refine RetIs.sc (.inr rfl) rfl rfl ?_
      refine congrArg (T.int _) ?_
      exact idxS_some hall (by omega) c2
    · try simp only [nrm] at c2
      refine AWp.skip ?_
      refine AWp.region ?_
      refine ARun.step rfl (step_addI rfl (hn rfl) rfl rfl rfl (by omega) (by omega)) ?_
      refine ARun.step rfl (step_moveV rfl (hn rfl) rfl rfl) ?_
      refine ARun.nil ?_
      refine ⟨i + 1, ?_, ?_, Le.forgetR rfl ⟨rfl, rfl, rfl, rfl, trivial⟩ trivial trivial⟩
      · try dsimp only
        exact ⟨by omega, upto hall (by assumption)⟩
      · try dsimp only
        omega
  · try simp only [nrm] at c1
    refine AWp.exit ?_
    refine AWp.seq (AWp.region ?_)
    refine ARun.step rfl (step_assignV rfl (hn rfl) rfl rfl) ?_
    refine ARun.nil ?_
    refine AWp.ret ?_
    refine RetIs.sc (.inr rfl) rfl rfl ?_
    refine congrArg (T.int _) ?_
    exact idxS_none hall (by omega)
theorem containsS (l : List Str) (s : Str)  : ASpec Try.prog 136 [.one (strs l), .one (.str s)] (.one (.bool (hasB l s))) := by
  refine ASpec.body Try.func136 rfl [4] rfl 9 rfl rfl rfl ?_
  refine AWp.seq (AWp.region ?_)
  refine ARun.step rfl (step_assignV rfl (hn rfl) rfl rfl) ?_
  refine ARun.nil ?_
  refine AWp.seq (AWp.region ?_)
  refine ARun.step rfl (step_moveV rfl (hn rfl) rfl rfl) ?_
  refine ARun.step rfl (step_moveV rfl (hn rfl) rfl rfl) ?_
  refine ARun.step rfl (call_step1 rfl (hn rfl) rfl yaCo171 (.cons rfl (.one (.v _)) (.cons rfl (.one (.v _)) (.nil))) (indexS _ _) rfl) ?_
  refine ARun.step rfl (step_geq rfl (hn rfl) rfl rfl rfl) ?_
  refine ARun.step rfl (step_assignV rfl (hn rfl) rfl rfl) ?_
  refine ARun.nil ?_
  refine AWp.ret ?_
  refine RetIs.sc (.inr rfl) rfl rfl ?_
  refine congrArg T.bool ?_
  exact idxS_has l s
theorem hasI (l : List Str) (s : Str)  : ASpec Try.prog 91 [.one (strs l), .one (.str s)] (.one (.bool (hasB l s))) := by
  refine ASpec.body Try.func91 rfl [4] rfl 8 rfl rfl rfl ?_
  refine AWp.seq (AWp.region ?_)
  refine ARun.step rfl (step_assignV rfl (hn rfl) rfl rfl) ?_
  refine ARun.nil ?_
  refine AWp.seq (AWp.region ?_)
  refine ARun.step rfl (step_moveV rfl (hn rfl) rfl rfl) ?_
  refine ARun.step rfl (step_moveV rfl (hn rfl) rfl rfl) ?_
  refine ARun.step rfl (call_step1 rfl (hn rfl) rfl yaCo136 (.cons rfl (.one (.v _)) (.cons rfl (.one (.v _)) (.nil))) (containsS _ _) rfl) ?_
  refine ARun.step rfl (step_assignV rfl (hn rfl) rfl rfl) ?_
  refine ARun.nil ?_
  refine AWp.ret ?_
  refine RetIs.sc (.inr rfl) rfl rfl ?_
  refine congrArg T.bool ?_
  rfl
theorem meetsI (a b : List Str)  : ASpec Try.prog 97 [.one (strs a), .one (strs b)] (.one (.bool (meetsB a b))) := by
  refine ASpec.body Try.func97 rfl [4] rfl 17 rfl rfl rfl ?_
  refine AWp.lenLe 0 rfl (fun hl => ?_)
  refine AWp.seq (AWp.region ?_)
  refine ARun.step rfl (step_assignV rfl (hn rfl) rfl rfl) ?_
  refine ARun.nil ?_
  refine AWp.seq ?_
  refine AWp.seq (AWp.region ?_)
  refine ARun.step rfl (step_moveV rfl (hn rfl) rfl rfl) ?_
  refine ARun.step rfl (step_len_f rfl (hn rfl) rfl yaSl22 rfl) ?_
  refine ARun.step rfl (step_moveV rfl (hn rfl) rfl rfl) ?_
  refine ARun.nil ?_
  refine AWp.block ?_
  refine AWp.loopM (fun i : Nat => mkAS 17 [(0, ⟨true, .one (.v (strs a))⟩), (1, ⟨true, .one (.v (strs b))⟩), (7, ⟨true, .one (.v (strs a))⟩), (8, ⟨true, .one (.v (.int .i64 (a.length : Nat)))⟩), (9, ⟨true, .one (.v (.int .i64 (i : Nat)))⟩)] [] []) (fun i => i ≤ a.length ∧ ∀ j, j < i → hasB b (nth a j) = false) (fun i => a.length - i) 0 ?_ (Le.forgetR rfl ⟨rfl, rfl, rfl, rfl, rfl, trivial⟩ trivial trivial) ?_
  · try dsimp only
    exact ⟨by omega, by omega⟩
  rintro i ⟨hi, hall⟩
  refine AWp.seq (AWp.region ?_)
  refine ARun.step rfl (step_lss rfl (hn rfl) rfl rfl rfl) ?_
  refine ARun.nil ?_
  refine AWp.seq ?_
  refine AWp.cond rfl (fun c1 => ?_) (fun c1 => ?_)
  · try simp only [nrm] at c1
    refine AWp.skip ?_
    refine AWp.seq ?_
    refine AWp.block ?_
    refine AWp.seq (AWp.region ?_)
    refine ARun.step rfl (step_index_fN rfl (hn rfl) rfl yaSl22 rfl rfl (by omega)) ?_
    refine ARun.step rfl (step_load_f rfl (hn rfl) rfl yaSc9 rfl (hn rfl) rfl) ?_
    refine ARun.step rfl (step_assignV rfl (hn rfl) rfl rfl) ?_
    refine ARun.nil ?_
    refine AWp.seq (AWp.region ?_)
    refine ARun.step rfl (step_moveV rfl (hn rfl) rfl rfl) ?_
    refine ARun.step rfl (step_moveV rfl (hn rfl) rfl rfl) ?_
    refine ARun.step rfl (call_step1 rfl (hn rfl) rfl yaCo91 (.cons rfl (.one (.v _)) (.cons rfl (.one (.v _)) (.nil))) (hasI _ _) rfl) ?_
    refine ARun.nil ?_
    refine AWp.cond rfl (fun c2 => ?_) (fun c2 => ?_)
    · try simp only [nrm] at c2
      refine AWp.seq (AWp.region ?_)
      refine ARun.step rfl (step_assignV rfl (hn rfl) rfl rfl) ?_
      refine ARun.nil ?_
      refine AWp.ret ?_
      refine RetIs.sc (.inr rfl) rfl rfl ?_
      refine congrArg T.bool ?_
      rw [meetsB, any_of (i := i) (by omega) c2]
    · try simp only [nrm] at c2
      refine AWp.skip ?_
      refine AWp.region ?_
      refine ARun.step rfl (step_addI rfl (hn rfl) rfl rfl rfl (by omega) (by omega)) ?_
      refine ARun.step rfl (step_moveV rfl (hn rfl) rfl rfl) ?_
      refine ARun.nil ?_
      refine ⟨i + 1, ?_, ?_, Le.forgetR rfl ⟨rfl, rfl, rfl, rfl, rfl, trivial⟩ trivial trivial⟩
      · try dsimp only
        exact ⟨by omega, upto hall (by assumption)⟩
      · try dsimp only
        omega
  · try simp only [nrm] at c1
    refine AWp.exit ?_
    refine AWp.seq (AWp.region ?_)
    refine ARun.step rfl (step_assignV rfl (hn rfl) rfl rfl) ?_
    refine ARun.nil ?_
    refine AWp.ret ?_
    refine RetIs.sc (.inr rfl) rfl rfl ?_
    refine congrArg T.bool ?_
    rw [meetsB, any_not (fun j hj => hall j (by omega))]
theorem withinI (a b : List Str)  : ASpec Try.prog 83 [.one (strs a), .one (strs b)] (.one (.bool (withinB a b))) := by
  refine ASpec.body Try.func83 rfl [4] rfl 18 rfl rfl rfl ?_
  refine AWp.lenLe 0 rfl (fun hl => ?_)
  refine AWp.seq (AWp.region ?_)
  refine ARun.step rfl (step_assignV rfl (hn rfl) rfl rfl) ?_
  refine ARun.nil ?_
  refine AWp.seq ?_
  refine AWp.seq (AWp.region ?_)
  refine ARun.step rfl (step_moveV rfl (hn rfl) rfl rfl) ?_
  refine ARun.step rfl (step_len_f rfl (hn rfl) rfl yaSl22 rfl) ?_
  refine ARun.step rfl (step_moveV rfl (hn rfl) rfl rfl) ?_
  refine ARun.nil ?_
  refine AWp.block ?_
  refine AWp.loopM (fun i : Nat => mkAS 18 [(0, ⟨true, .one (.v (strs a))⟩), (1, ⟨true, .one (.v (strs b))⟩), (7, ⟨true, .one (.v (strs a))⟩), (8, ⟨true, .one (.v (.int .i64 (a.length : Nat)))⟩), (9, ⟨true, .one (.v (.int .i64 (i : Nat)))⟩)] [] []) (fun i => i ≤ a.length ∧ ∀ j, j < i → hasB b (nth a j) = true) (fun i => a.length - i) 0 ?_ (Le.forgetR rfl ⟨rfl, rfl, rfl, rfl, rfl, trivial⟩ trivial trivial) ?_
  · try dsimp only
    exact ⟨by omega, by omega⟩
  rintro i ⟨hi, hall⟩
  refine AWp.seq (AWp.region ?_)
  refine ARun.step rfl (step_lss rfl (hn rfl) rfl rfl rfl) ?_
  refine ARun.nil ?_
  refine AWp.seq ?_
  refine AWp.cond rfl (fun c1 => ?_) (fun c1 => ?_)
  · try simp only [nrm] at c1
    refine AWp.skip ?_
    refine AWp.seq ?_
    refine AWp.block ?_
    refine AWp.seq (AWp.region ?_)
    refine ARun.step rfl (step_index_fN rfl (hn rfl) rfl yaSl22 rfl rfl (by omega)) ?_
    refine ARun.step rfl (step_load_f rfl (hn rfl) rfl yaSc9 rfl (hn rfl) rfl) ?_
    refine ARun.step rfl (step_assignV rfl (hn rfl) rfl rfl) ?_
    refine ARun.nil ?_
    refine AWp.seq (AWp.region ?_)
    refine ARun.step rfl (step_moveV rfl (hn rfl) rfl rfl) ?_
    refine ARun.step rfl (step_moveV rfl (hn rfl) rfl rfl) ?_
    refine ARun.step rfl (call_step1 rfl (hn rfl) rfl yaCo91 (.cons rfl (.one (.v _)) (.cons rfl (.one (.v _)) (.nil))) (hasI _ _) rfl) ?_
    refine ARun.step rfl (step_not rfl (hn rfl) rfl rfl) ?_
    refine ARun.nil ?_
    refine AWp.cond rfl (fun c2 => ?_) (fun c2 => ?_)
    · try simp only [nrm] at c2
      refine AWp.seq (AWp.region ?_)
      refine ARun.step rfl (step_assignV rfl (hn rfl) rfl rfl) ?_
      refine ARun.nil ?_
      refine AWp.ret ?_
      refine RetIs.sc (.inr rfl) rfl rfl ?_
      refine congrArg T.bool ?_
      rw [withinB, all_not (i := i) (by omega) c2]
    · try simp only [nrm] at c2
      refine AWp.skip ?_
      refine AWp.region ?_
      refine ARun.step rfl (step_addI rfl (hn rfl) rfl rfl rfl (by omega) (by omega)) ?_
      refine ARun.step rfl (step_moveV rfl (hn rfl) rfl rfl) ?_
      refine ARun.nil ?_
      refine ⟨i + 1, ?_, ?_, Le.forgetR rfl ⟨rfl, rfl, rfl, rfl, rfl, trivial⟩ trivial trivial⟩
      · try dsimp only
        exact ⟨by omega, upto hall (by assumption)⟩
      · try dsimp only
        omega
  · try simp only [nrm] at c1
    refine AWp.exit ?_
    refine AWp.seq (AWp.region ?_)
    refine ARun.step rfl (step_assignV rfl (hn rfl) rfl rfl) ?_
    refine ARun.nil ?_
    refine AWp.ret ?_
    refine RetIs.sc (.inr rfl) rfl rfl ?_
    refine congrArg T.bool ?_
    rw [withinB, all_of (fun j hj => hall j (by omega))]
theorem risingI (l : List Str)  : ASpec Try.prog 82 [.one (strs l)] (.one (.bool (risingB l))) := by
  refine ASpec.body Try.func82 rfl [2] rfl 20 rfl rfl rfl ?_
  refine AWp.lenLe 0 rfl (fun hl => ?_)
  refine AWp.seq (AWp.region ?_)
  refine ARun.step rfl (step_assignV rfl (hn rfl) rfl rfl) ?_
  refine ARun.nil ?_
  refine AWp.seq ?_
  refine AWp.seq (AWp.region ?_)
  refine ARun.step rfl (step_assignV rfl (hn rfl) rfl rfl) ?_
  refine ARun.nil ?_
  refine AWp.block ?_
  refine AWp.loopM (fun i : Nat => mkAS 20 [(0, ⟨true, .one (.v (strs l))⟩), (3, ⟨true, .one (.v (.int .i64 (i : Nat)))⟩)] [] []) (fun i => 1 ≤ i ∧ i ≤ l.length + 1 ∧ ∀ j, j < i → risAt l j = true) (fun i => l.length + 1 - i) 1 ?_ (Le.forgetR rfl ⟨rfl, rfl, trivial⟩ trivial trivial) ?_
  · try dsimp only
    exact ⟨Nat.le_refl 1, by omega, fun j hj => (by cases j with | zero => rfl | succ j => exact absurd hj (by omega))⟩
  rintro i ⟨h1, hi, hall⟩
  refine AWp.seq ?_
  refine AWp.seq (AWp.region ?_)
  refine ARun.step rfl (step_moveV rfl (hn rfl) rfl rfl) ?_
  refine ARun.step rfl (step_moveV rfl (hn rfl) rfl rfl) ?_
  refine ARun.step rfl (step_len_f rfl (hn rfl) rfl yaSl22 rfl) ?_
  refine ARun.step rfl (step_lss rfl (hn rfl) rfl rfl rfl) ?_
  refine ARun.nil ?_
  refine AWp.cond rfl (fun c1 => ?_) (fun c1 => ?_)
  · try simp only [nrm] at c1
    refine AWp.skip ?_
    refine AWp.seq ?_
    refine AWp.block ?_
    refine AWp.seq (AWp.draw [⟨[.s 0], [.s 10], false⟩, ⟨[.s 3], [.s 11], false⟩, ⟨[.s 11], [.s 12], false⟩, ⟨[.s 10, .s 12], [.s 13], false⟩, ⟨[.s 13], [.s 14], false⟩, ⟨[.s 0], [.s 15], false⟩, ⟨[.s 3], [.s 16], false⟩, ⟨[.s 15, .s 16], [.s 17], false⟩, ⟨[.s 17], [.s 18], false⟩, ⟨[.s 14, .s 18], [.s 19], false⟩] yaMo rfl ?_)
    refine DRun.step rfl (fun τ hN hr => step_moveV rfl (rdN hN (hn rfl)) rfl (by exact rdS hr rfl rfl)) ?_
    refine DRun.step rfl (fun τ hN hr => step_moveV rfl (rdN hN (hn rfl)) rfl (by exact rdS hr rfl rfl)) ?_
    refine DRun.step rfl (fun τ hN hr => step_decN rfl (rdN hN (hn rfl)) rfl (by exact rdS hr rfl rfl) rfl (by omega) (by omega)) ?_
    refine DRun.step rfl (fun τ hN hr => step_index_fN rfl (rdN hN (hn rfl)) rfl yaSl22 (by exact rdS hr rfl rfl) (by exact rdS hr rfl rfl) (by omega)) ?_
    refine DRun.step rfl (fun τ hN hr => step_load_f rfl (rdN hN (hn rfl)) rfl yaSc9 (by exact rdS hr rfl rfl) (hn rfl) rfl) ?_
    refine DRun.step rfl (fun τ hN hr => step_moveV rfl (rdN hN (hn rfl)) rfl (by exact rdS hr rfl rfl)) ?_
    refine DRun.step rfl (fun τ hN hr => step_moveV rfl (rdN hN (hn rfl)) rfl (by exact rdS hr rfl rfl)) ?_
    refine DRun.step rfl (fun τ hN hr => step_index_fN rfl (rdN hN (hn rfl)) rfl yaSl22 (by exact rdS hr rfl rfl) (by exact rdS hr rfl rfl) (by omega)) ?_
    refine DRun.step rfl (fun τ hN hr => step_load_f rfl (rdN hN (hn rfl)) rfl yaSc9 (by exact rdS hr rfl rfl) (hn rfl) rfl) ?_
    refine DRun.step rfl (fun τ hN hr => step_sgeq rfl (rdN hN (hn rfl)) rfl (by exact rdS hr rfl rfl) (by exact rdS hr rfl rfl)) ?_
    refine DRun.nil ?_
    refine AWp.cond rfl (fun c2 => ?_) (fun c2 => ?_)
    · try simp only [nrm] at c2
      refine AWp.seq (AWp.region ?_)
      refine ARun.step rfl (step_assignV rfl (hn rfl) rfl rfl) ?_
      refine ARun.nil ?_
      refine AWp.ret ?_
      refine RetIs.sc (.inr rfl) rfl rfl ?_
      refine congrArg T.bool ?_
      rw [risingB, all_not (i := i) (by omega) (by simp only [risAt]; grind)]
    · try simp only [nrm] at c2
      refine AWp.skip ?_
      refine AWp.region ?_
      refine ARun.step rfl (step_moveV rfl (hn rfl) rfl rfl) ?_
      refine ARun.step rfl (step_addI rfl (hn rfl) rfl rfl rfl (by omega) (by omega)) ?_
      refine ARun.step rfl (step_assignV rfl (hn rfl) rfl rfl) ?_
      refine ARun.nil ?_
      refine ⟨i + 1, ?_, ?_, Le.forgetR rfl ⟨rfl, rfl, trivial⟩ trivial trivial⟩
      · try dsimp only
        exact ⟨by omega, by omega, upto hall (by simp only [risAt]; grind)⟩
      · try dsimp only
        omega
  · try simp only [nrm] at c1
    refine AWp.exit ?_
    refine AWp.seq (AWp.region ?_)
    refine ARun.step rfl (step_assignV rfl (hn rfl) rfl rfl) ?_
    refine ARun.nil ?_
    refine AWp.ret ?_
    refine RetIs.sc (.inr rfl) rfl rfl ?_
    refine congrArg T.bool ?_
    rw [risingB, all_of (fun j hj => hall j (by omega))]
theorem namesI (l : List Str)  : ASpec Try.prog 101 [.one (strs l)] (.one (.bool (namesB l))) := by
  refine ASpec.body Try.func101 rfl [2] rfl 17 rfl rfl rfl ?_
  refine AWp.lenLe 0 rfl (fun hl => ?_)
  refine AWp.seq (AWp.region ?_)
  refine ARun.step rfl (step_assignV rfl (hn rfl) rfl rfl) ?_
  refine ARun.nil ?_
  refine AWp.seq ?_
  refine AWp.seq (AWp.region ?_)
  refine ARun.step rfl (step_moveV rfl (hn rfl) rfl rfl) ?_
  refine ARun.step rfl (step_len_f rfl (hn rfl) rfl yaSl22 rfl) ?_
  refine ARun.step rfl (step_moveV rfl (hn rfl) rfl rfl) ?_
  refine ARun.nil ?_
  refine AWp.block ?_
  refine AWp.loopM (fun i : Nat => mkAS 17 [(0, ⟨true, .one (.v (strs l))⟩), (5, ⟨true, .one (.v (strs l))⟩), (6, ⟨true, .one (.v (.int .i64 (l.length : Nat)))⟩), (7, ⟨true, .one (.v (.int .i64 (i : Nat)))⟩)] [] []) (fun i => i ≤ l.length ∧ ∀ j, j < i → nameOk (nth l j) = true) (fun i => l.length - i) 0 ?_ (Le.forgetR rfl ⟨rfl, rfl, rfl, rfl, trivial⟩ trivial trivial) ?_
  · try dsimp only
    exact ⟨by omega, by omega⟩
  rintro i ⟨hi, hall⟩
  refine AWp.seq (AWp.region ?_)
  refine ARun.step rfl (step_lss rfl (hn rfl) rfl rfl rfl) ?_
  refine ARun.nil ?_
  refine AWp.seq ?_
  refine AWp.cond rfl (fun c1 => ?_) (fun c1 => ?_)
  · try simp only [nrm] at c1
    refine AWp.skip ?_
    refine AWp.seq ?_
    refine AWp.block ?_
    refine AWp.seq (AWp.region ?_)
    refine ARun.step rfl (step_index_fN rfl (hn rfl) rfl yaSl22 rfl rfl (by omega)) ?_
    refine ARun.step rfl (step_load_f rfl (hn rfl) rfl yaSc9 rfl (hn rfl) rfl) ?_
    refine ARun.step rfl (step_assignV rfl (hn rfl) rfl rfl) ?_
    refine ARun.nil ?_
    refine AWp.seq (AWp.region ?_)
    refine ARun.step rfl (step_moveV rfl (hn rfl) rfl rfl) ?_
    refine ARun.step rfl (call_step1 rfl (hn rfl) rfl yaCo81 (.cons rfl (.one (.v _)) (.nil)) (isNameI _) rfl) ?_
    refine ARun.step rfl (step_not rfl (hn rfl) rfl rfl) ?_
    refine ARun.nil ?_
    refine AWp.cond rfl (fun c2 => ?_) (fun c2 => ?_)
    · try simp only [nrm] at c2
      refine AWp.seq (AWp.region ?_)
      refine ARun.step rfl (step_assignV rfl (hn rfl) rfl rfl) ?_
      refine ARun.nil ?_
      refine AWp.ret ?_
      refine RetIs.sc (.inr rfl) rfl rfl ?_
      refine congrArg T.bool ?_
      rw [namesB, all_not (i := i) (by omega) c2, Bool.false_and]
    · try simp only [nrm] at c2
      refine AWp.skip ?_
      refine AWp.region ?_
      refine ARun.step rfl (step_addI rfl (hn rfl) rfl rfl rfl (by omega) (by omega)) ?_
      refine ARun.step rfl (step_moveV rfl (hn rfl) rfl rfl) ?_
      refine ARun.nil ?_
      refine ⟨i + 1, ?_, ?_, Le.forgetR rfl ⟨rfl, rfl, rfl, rfl, trivial⟩ trivial trivial⟩
      · try dsimp only
        exact ⟨by omega, upto hall (by assumption)⟩
      · try dsimp only
        omega
  · try simp only [nrm] at c1
    refine AWp.exit ?_
    refine AWp.seq (AWp.region ?_)
    refine ARun.step rfl (step_moveV rfl (hn rfl) rfl rfl) ?_
    refine ARun.step rfl (call_step1 rfl (hn rfl) rfl yaCo82 (.cons rfl (.one (.v _)) (.nil)) (risingI _) rfl) ?_
    refine ARun.step rfl (step_assignV rfl (hn rfl) rfl rfl) ?_
    refine ARun.nil ?_
    refine AWp.ret ?_
    refine RetIs.sc (.inr rfl) rfl rfl ?_
    refine congrArg T.bool ?_
    rw [namesB, all_of (fun j hj => hall j (by omega)), Bool.true_and]
theorem markText (k : Int) (h0 : 0 ≤ k) (h1 : k ≤ 1152921504606846976) : ASpec Try.prog 87 [.one (.int .i64 k)] (.one (.str (markT k))) := by
  refine ASpec.body Try.func87 rfl [2] rfl 20 rfl rfl rfl ?_
  refine AWp.seq (AWp.region ?_)
  refine ARun.step rfl (step_assignV rfl (hn rfl) rfl rfl) ?_
  refine ARun.nil ?_
  refine AWp.seq ?_
  refine AWp.seq (AWp.region ?_)
  refine ARun.step rfl (step_moveV rfl (hn rfl) rfl rfl) ?_
  refine ARun.step rfl (step_leq rfl (hn rfl) rfl rfl rfl) ?_
  refine ARun.nil ?_
  refine AWp.cond rfl (fun c1 => ?_) (fun c1 => ?_)
  · try simp only [nrm] at c1
    refine AWp.seq (AWp.region ?_)
    refine ARun.step rfl (step_assignV rfl (hn rfl) rfl rfl) ?_
    refine ARun.nil ?_
    refine AWp.ret ?_
    refine RetIs.sc (.inr rfl) rfl rfl ?_
    refine congrArg T.str ?_
    rw [markT, if_pos c1]
  · try simp only [nrm] at c1
    refine AWp.skip ?_
    refine AWp.seq (AWp.region ?_)
    refine ARun.step rfl (step_assignV rfl (hn rfl) rfl rfl) ?_
    refine ARun.nil ?_
    refine AWp.seq ?_
    refine AWp.block ?_
    refine AWp.loopM (fun x : Nat × Int × Str => mkAS 20 [(0, ⟨true, .one (.v (.int .i64 x.2.1))⟩), (3, ⟨true, .one (.v (.str x.2.2))⟩)] [] []) (fun x => 0 ≤ x.2.1 ∧ x.2.1 ≤ k ∧ x.2.1.toNat ≤ x.1 ∧ x.2.2.size + x.1 = k.toNat ∧ digF x.1 x.2.1 x.2.2 = digF k.toNat k ⟨#[]⟩) (fun x => x.1) (k.toNat, k, ⟨#[]⟩) ?_ (Le.forgetR rfl ⟨rfl, rfl, trivial⟩ trivial trivial) ?_
    · try dsimp only
      exact ⟨by omega, by omega, by omega, by show (0 : Nat) + k.toNat = k.toNat; omega, rfl⟩
    rintro x ⟨q0, q1, q2, q3, q4⟩
    refine AWp.seq ?_
    refine AWp.seq (AWp.region ?_)
    refine ARun.step rfl (step_moveV rfl (hn rfl) rfl rfl) ?_
    refine ARun.step rfl (step_gtr rfl (hn rfl) rfl rfl rfl) ?_
    refine ARun.nil ?_
    refine AWp.cond rfl (fun c2 => ?_) (fun c2 => ?_)
    · try simp only [nrm] at c2
      refine AWp.skip ?_
      refine AWp.block ?_
      refine AWp.seq (AWp.region ?_)
      refine ARun.step rfl (step_moveV rfl (hn rfl) rfl rfl) ?_
      refine ARun.step rfl (step_rem rfl (hn rfl) rfl rfl rfl (by decide)) ?_
      refine ARun.step rfl (step_add rfl (hn rfl) rfl rfl rfl) ?_
      refine ARun.step rfl (step_convInt rfl (hn rfl) rfl ⟨_, yaUi3⟩ yaUi5 rfl) ?_
      refine ARun.step rfl (step_buildV rfl (hn rfl) rfl yaSl41 (.cons rfl rfl rfl rfl (.nil _)) rfl rfl) ?_
      refine ARun.step rfl (step_convBytes rfl (hn rfl) rfl yaUl41 yaUi5 yaUs9 [_] rfl rfl (by exact Nat.succ_pos _) (rows1 rfl)) ?_
      refine ARun.step rfl (step_moveV rfl (hn rfl) rfl rfl) ?_
      refine ARun.step rfl (step_sadd rfl (hn rfl) rfl rfl rfl (by simp only [bytesOf_size, List.length_cons, List.length_nil]; omega)) ?_
      refine ARun.step rfl (step_assignV rfl (hn rfl) rfl rfl) ?_
      refine ARun.nil ?_
      refine AWp.region ?_
      refine ARun.step rfl (step_moveV rfl (hn rfl) rfl rfl) ?_
      refine ARun.step rfl (step_quo rfl (hn rfl) rfl rfl rfl (by decide)) ?_
      refine ARun.step rfl (step_assignV rfl (hn rfl) rfl rfl) ?_
      refine ARun.nil ?_
      refine ⟨(x.1 - 1, IntKind.i64.wrap (x.2.1.tdiv 10), digB x.2.1 ++ x.2.2), ?_, ?_, Le.forgetR rfl ⟨rfl, rfl, trivial⟩ trivial trivial⟩
      · try dsimp only
        have q5 := tdiv_lt (k := x.2.1) (by omega) (by omega)
        have q6 : x.1 = (x.1 - 1) + 1 := by omega
        exact ⟨q5.1, by omega, by omega, by simp only [digB, ByteArray.size_append, bytesOf_size, List.length_cons, List.length_nil]; omega, by rw [← q4]; conv => rhs; rw [q6]; rw [digF, if_pos (by omega)]⟩
      · try dsimp only
        omega
    · try simp only [nrm] at c2
      refine AWp.exit ?_
      refine AWp.seq (AWp.region ?_)
      refine ARun.step rfl (step_moveV rfl (hn rfl) rfl rfl) ?_
      refine ARun.step rfl (step_sadd rfl (hn rfl) rfl rfl rfl (by have : (⟨#[109]⟩ : Str).size = 1 := rfl; omega)) ?_
      refine ARun.step rfl (step_assignV rfl (hn rfl) rfl rfl) ?_
      refine ARun.nil ?_
      refine AWp.ret ?_
      refine RetIs.sc (.inr rfl) rfl rfl ?_
      refine congrArg T.str ?_
      rw [markT, if_neg (by omega), ← q4, digF_end (by omega)]
theorem markStrS (l : List Str) (k : Int) (h0 : 0 ≤ k) (h1 : k + l.length ≤ 1152921504606846976) : MSpec Try.prog 23 [.one (.rw (strs l) (mkS l.length k)), .one (.ro (.int .i64 k))] (.int .i64 (k + l.length)) := by
  refine MSpec.body Try.func23 rfl 4 rfl 20 rfl rfl rfl rfl ?_
  refine AWp.seq (AWp.region ?_)
  refine ARun.step rfl (step_assignV rfl (hn rfl) rfl rfl) ?_
  refine ARun.nil ?_
  refine AWp.seq ?_
  refine AWp.seq (AWp.region ?_)
  refine ARun.step rfl (step_assignV rfl (hn rfl) rfl rfl) ?_
  refine ARun.nil ?_
  refine AWp.block ?_
  refine AWp.loopM (fun x : Nat × Int => mkAS 20 [(0, ⟨true, .one (.ref ⟨.arr 1000000 0, []⟩)⟩), (1, ⟨true, .one (.v (.int .i64 x.2))⟩), (5, ⟨true, .one (.v (.int .i64 (x.1 : Nat)))⟩)] [] [(1000000, 0, .sl 9 1 l.length (mkTo l k x.1))]) (fun x => x.1 ≤ l.length ∧ x.2 = k + (x.1 : Nat)) (fun x => l.length - x.1) (0, k) ?_ (Le.forgetR rfl ⟨rfl, rfl, rfl, trivial⟩ trivial ⟨.rows (fun _ _ => rfl), trivial⟩) ?_
  · try dsimp only
    exact ⟨by omega, by simp⟩
  rintro x ⟨hi, hk⟩
  refine AWp.seq ?_
  refine AWp.seq (AWp.region ?_)
  refine ARun.step rfl (step_moveV rfl (hn rfl) rfl rfl) ?_
  refine ARun.step rfl (step_moveV rfl (hn rfl) rfl rfl) ?_
  refine ARun.step rfl (step_len_r rfl (hn rfl) rfl yaSl22 rfl rfl) ?_
  refine ARun.step rfl (step_lss rfl (hn rfl) rfl rfl rfl) ?_
  refine ARun.nil ?_
  refine AWp.cond rfl (fun c1 => ?_) (fun c1 => ?_)
  · try simp only [nrm] at c1
    refine AWp.skip ?_
    refine AWp.seq ?_
    refine AWp.block ?_
    refine AWp.seq (AWp.region ?_)
    refine ARun.step rfl (step_moveV rfl (hn rfl) rfl rfl) ?_
    refine ARun.step rfl (step_moveV rfl (hn rfl) rfl rfl) ?_
    refine ARun.step rfl (step_moveV rfl (hn rfl) rfl rfl) ?_
    refine ARun.step rfl (call_step1 rfl (hn rfl) rfl yaCo87 (.cons rfl (.one (.v _)) (.nil)) (markText _ (by omega) (by omega)) rfl) ?_
    refine ARun.step rfl (step_index_rN rfl (hn rfl) rfl yaSl22 rfl rfl rfl (by omega)) ?_
    refine ARun.step rfl (step_store_row rfl rfl yaCs9 rfl rfl (by omega) rfl rfl rfl rfl rfl (mkTo_len _ _ _ _)) ?_
    refine ARun.nil ?_
    refine AWp.region ?_
    refine ARun.step rfl (step_moveV rfl (hn rfl) rfl rfl) ?_
    refine ARun.step rfl (step_addI rfl (hn rfl) rfl rfl rfl (by omega) (by omega)) ?_
    refine ARun.step rfl (step_assignV rfl (hn rfl) rfl rfl) ?_
    refine ARun.nil ?_
    refine AWp.region ?_
    refine ARun.step rfl (step_moveV rfl (hn rfl) rfl rfl) ?_
    refine ARun.step rfl (step_addI rfl (hn rfl) rfl rfl rfl (by omega) (by omega)) ?_
    refine ARun.step rfl (step_assignV rfl (hn rfl) rfl rfl) ?_
    refine ARun.nil ?_
    refine ⟨(x.1 + 1, x.2 + 1), ?_, ?_, Le.forgetR rfl ⟨rfl, rfl, rfl, trivial⟩ trivial ⟨.rows (fun j _ => mkTo_next l k x.2 x.1 j hk), trivial⟩⟩
    · try dsimp only
      exact ⟨by omega, by omega⟩
    · try dsimp only
      omega
  · try simp only [nrm] at c1
    refine AWp.exit ?_
    refine AWp.seq (AWp.region ?_)
    refine ARun.step rfl (step_moveV rfl (hn rfl) rfl rfl) ?_
    refine ARun.step rfl (step_assignV rfl (hn rfl) rfl rfl) ?_
    refine ARun.nil ?_
    refine AWp.ret ?_
    refine RetIs.mk (.inr rfl) rfl rfl ?_ ⟨⟨⟨_, _, _, _, _, rfl, rfl, .rows (fun j hj => mkTo_all l k _ j (by omega))⟩, trivial⟩, ⟨trivial, trivial⟩⟩
    refine congrArg (T.int _) ?_
    omega
theorem heldStrS (n : Nat) (k : Int) (h0 : 0 ≤ k) (h1 : k + n ≤ 1152921504606846976) : ASpec Try.prog 76 [.one (mkS n k), .one (.int .i64 k)] (.one (.int .i64 (k + n))) := by
  refine ASpec.body Try.func76 rfl [4] rfl 22 rfl rfl rfl ?_
  refine AWp.seq (AWp.region ?_)
  refine ARun.step rfl (step_assignV rfl (hn rfl) rfl rfl) ?_
  refine ARun.nil ?_
  refine AWp.seq ?_
  refine AWp.seq (AWp.region ?_)
  refine ARun.step rfl (step_assignV rfl (hn rfl) rfl rfl) ?_
  refine ARun.nil ?_
  refine AWp.block ?_
  refine AWp.loopM (fun x : Nat × Int => mkAS 22 [(0, ⟨true, .one (.v (mkS n k))⟩), (1, ⟨true, .one (.v (.int .i64 x.2))⟩), (5, ⟨true, .one (.v (.int .i64 (x.1 : Nat)))⟩)] [] []) (fun x => x.1 ≤ n ∧ x.2 = k + (x.1 : Nat)) (fun x => n - x.1) (0, k) ?_ (Le.forgetR rfl ⟨rfl, rfl, rfl, trivial⟩ trivial trivial) ?_
  · try dsimp only
    exact ⟨by omega, by simp⟩
  rintro x ⟨hi, hk⟩
  refine AWp.seq ?_
  refine AWp.seq (AWp.region ?_)
  refine ARun.step rfl (step_moveV rfl (hn rfl) rfl rfl) ?_
  refine ARun.step rfl (step_moveV rfl (hn rfl) rfl rfl) ?_
  refine ARun.step rfl (step_len_f rfl (hn rfl) rfl yaSl22 rfl) ?_
  refine ARun.step rfl (step_lss rfl (hn rfl) rfl rfl rfl) ?_
  refine ARun.nil ?_
  refine AWp.cond rfl (fun c1 => ?_) (fun c1 => ?_)
  · try simp only [nrm] at c1
    refine AWp.skip ?_
    refine AWp.seq ?_
    refine AWp.block ?_
    refine AWp.seq ?_
    refine AWp.seq (AWp.draw [⟨[.s 0], [.s 12], false⟩, ⟨[.s 5], [.s 13], false⟩, ⟨[.s 12, .s 13], [.s 14], false⟩, ⟨[.s 14], [.s 15], false⟩, ⟨[.s 1], [.s 16], false⟩, ⟨[.s 16], [.s 17], false⟩, ⟨[.s 15, .s 17], [.s 18], false⟩] yaMo rfl ?_)
    refine DRun.step rfl (fun τ hN hr => step_moveV rfl (rdN hN (hn rfl)) rfl (by exact rdS hr rfl rfl)) ?_
    refine DRun.step rfl (fun τ hN hr => step_moveV rfl (rdN hN (hn rfl)) rfl (by exact rdS hr rfl rfl)) ?_
    refine DRun.step rfl (fun τ hN hr => step_index_fN rfl (rdN hN (hn rfl)) rfl yaSl22 (by exact rdS hr rfl rfl) (by exact rdS hr rfl rfl) (by omega)) ?_
    refine DRun.step rfl (fun τ hN hr => step_load_f rfl (rdN hN (hn rfl)) rfl yaSc9 (by exact rdS hr rfl rfl) (hn rfl) rfl) ?_
    refine DRun.step rfl (fun τ hN hr => step_moveV rfl (rdN hN (hn rfl)) rfl (by exact rdS hr rfl rfl)) ?_
    refine DRun.step rfl (fun τ hN hr => call_step1 rfl (rdN hN (hn rfl)) rfl yaCo87 (.cons (by exact rdS hr rfl rfl) (.one (.v _)) (.nil)) (markText _ (by omega) (by omega)) rfl) ?_
    refine DRun.step rfl (fun τ hN hr => step_sneq rfl (rdN hN (hn rfl)) rfl (by exact rdS hr rfl rfl) (by exact rdS hr rfl rfl)) ?_
    refine DRun.nil ?_
    refine AWp.cond rfl (fun c2 => ?_) (fun c2 => ?_)
    · try simp only [nrm] at c2
      refine AWp.seq (AWp.region ?_)
      refine ARun.step rfl (step_assignV rfl (hn rfl) rfl rfl) ?_
      refine ARun.nil ?_
      refine AWp.ret ?_
      refine RetIs.sc (.inr rfl) rfl rfl ?_
      refine congrArg (T.int _) ?_
      rw [hk, strEq_refl] at c2; cases c2
    · try simp only [nrm] at c2
      refine AWp.skip ?_
      refine AWp.region ?_
      refine ARun.step rfl (step_moveV rfl (hn rfl) rfl rfl) ?_
      refine ARun.step rfl (step_addI rfl (hn rfl) rfl rfl rfl (by omega) (by omega)) ?_
      refine ARun.step rfl (step_assignV rfl (hn rfl) rfl rfl) ?_
      refine ARun.nil ?_
      refine AWp.region ?_
      refine ARun.step rfl (step_moveV rfl (hn rfl) rfl rfl) ?_
      refine ARun.step rfl (step_addI rfl (hn rfl) rfl rfl rfl (by omega) (by omega)) ?_
      refine ARun.step rfl (step_assignV rfl (hn rfl) rfl rfl) ?_
      refine ARun.nil ?_
      refine ⟨(x.1 + 1, x.2 + 1), ?_, ?_, Le.forgetR rfl ⟨rfl, rfl, rfl, trivial⟩ trivial trivial⟩
      · try dsimp only
        exact ⟨by omega, by omega⟩
      · try dsimp only
        omega
  · try simp only [nrm] at c1
    refine AWp.exit ?_
    refine AWp.seq (AWp.region ?_)
    refine ARun.step rfl (step_moveV rfl (hn rfl) rfl rfl) ?_
    refine ARun.step rfl (step_assignV rfl (hn rfl) rfl rfl) ?_
    refine ARun.nil ?_
    refine AWp.ret ?_
    refine RetIs.sc (.inr rfl) rfl rfl ?_
    refine congrArg (T.int _) ?_
    omega

end Go.Proofs.Ytkmacjdigkaabaa
