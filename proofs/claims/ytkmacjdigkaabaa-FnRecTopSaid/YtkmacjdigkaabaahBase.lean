/- Contracts of functions of the program, each met by its body; conditions stand in each statement. No condition. -/
import Derived.Test.YtkmacjdigkaabaaGe
import Derived.Test.YtkmacjdigkaabaaProg
import Derived.KernelRfl
set_option linter.unusedVariables false
set_option linter.unusedSimpArgs false
set_option linter.unnecessarySimpa false
set_option linter.unusedSimpArgs false
set_option maxRecDepth 100000
namespace Go.Proofs.Ytkmacjdigkaabaa
open Go Go.Mh

abbrev Str := ByteArray
def bAt (s : Str) (i : Nat) : Int := ((s.data.getD i 0).toNat : Int)
def nmC (c : Int) : Bool := ((decide (c ≥ 97) && decide (c ≤ 122)) || (decide (c ≥ 48) && decide (c ≤ 57))) || c == 45
def nameB (s : Str) : Bool := (List.range s.size).all fun i => nmC (bAt s i)
def inB (x a b : Int) : Bool := decide (x ≥ a) && decide (x ≤ b)
def nameOk (s : Str) : Bool := inB s.size 1 8 && nameB s
def recEnd (s : Str) : Int := if strEq s ⟨#[103, 111, 111, 100]⟩ then 1 else if strEq s ⟨#[115, 97, 118, 101, 100]⟩ then 2 else if strEq s ⟨#[115, 99, 114, 97, 112, 112, 101, 100]⟩ then 3 else 0
theorem all_of {n : Nat} {p : Nat → Bool} (h : ∀ j, j < n → p j = true) : (List.range n).all p = true := by
  rw [List.all_eq_true]; intro x hx; exact h x (List.mem_range.1 hx)
theorem all_not {n i : Nat} {p : Nat → Bool} (hi : i < n) (h : p i = false) : (List.range n).all p = false := by
  rw [List.all_eq_false]; exact ⟨i, List.mem_range.2 hi, by simp [h]⟩
theorem upto {i : Nat} {p : Nat → Prop} (h : ∀ j, j < i → p j) (hi : p i) : ∀ j, j < i + 1 → p j := by
  intro j hj
  by_cases e : j = i
  · subst e; exact hi
  · exact h j (by omega)
def nth {α : Type} [Inhabited α] (l : List α) (i : Nat) : α := l.getD i default
structure Ph where
  name : Str
  kind : Int
  a : Str
  b : Str
  n : Int
  within : Int
  thn : Str
  els : Str
deriving Inhabited
def Ph.cells (p : Ph) : List T := [.str p.name, .int .i64 p.kind, .str p.a, .str p.b, .int .i64 p.n, .int .i64 p.within, .str p.thn, .str p.els]
def phs (e : Nat) (l : List Ph) : T := .sl e 8 l.length (fun i => (nth l i).cells)
def plainOk (s : Str) : Bool := nameOk s && recEnd s == 0
def argsOk (p : Ph) : Bool :=
  if p.kind = 1 then nameOk p.a && nameOk p.b && inB p.n 1 1000
  else if p.kind = 2 then nameOk p.a && nameOk p.b && !strEq p.a p.b && inB p.n 1 1000
  else if p.kind = 3 then nameOk p.a && strEq p.b ⟨#[]⟩ && inB p.n 1 p.within
  else if p.kind = 4 ∨ p.kind = 5 then nameOk p.a && strEq p.b ⟨#[]⟩ && p.n == 0
  else false
def phaseOk (p : Ph) : Bool := plainOk p.name && inB p.within 1 1000 && argsOk p && nameOk p.thn && nameOk p.els
def atP (l : List Ph) (s : Str) : Int := match (List.range l.length).find? (fun i => strEq (nth l i).name s) with | some i => (i : Int) | none => -1
theorem atP_none {l : List Ph} {s : Str} {i : Nat} (h : ∀ j, j < i → strEq (nth l j).name s = false) (hi : l.length ≤ i) : -1 = atP l s := by
  have : (List.range l.length).find? (fun i => strEq (nth l i).name s) = none := by
    rw [List.find?_eq_none]; intro x hx; have := h x (by have := List.mem_range.1 hx; omega); simp [this]
  simp [atP, this]
theorem atP_some {l : List Ph} {s : Str} {i : Nat} (h : ∀ j, j < i → strEq (nth l j).name s = false) (hi : i < l.length) (hs : strEq (nth l i).name s = true) : (i : Int) = atP l s := by
  have : (List.range l.length).find? (fun i => strEq (nth l i).name s) = some i := by
    rw [List.find?_range_eq_some]
    exact ⟨hs, List.mem_range.2 hi, fun j hj => by simp [h j hj]⟩
  simp [atP, this]
def refOk (l : List Ph) (i : Int) (s : Str) : Bool := !(recEnd s == 0 && decide (atP l s ≤ i))
def recOk (l : List Ph) : Bool := inB l.length 1 12 && (List.range l.length).all fun i => phaseOk (nth l i) && atP l (nth l i).name == i && refOk l i (nth l i).thn && refOk l i (nth l i).els

theorem drop_nth {α : Type} [Inhabited α] {l : List α} {i : Nat} (h : i < l.length) : l.drop i = nth l i :: l.drop (i + 1) := by
  rw [List.drop_eq_getElem_cons h]; simp [nth, List.getD_eq_getElem?_getD, h]
theorem Ph.le {p : Ph} (h : ∀ c, c ∈ p.cells.map C.v → fitsC c) : p.name.size ≤ 9223372036854775807 ∧ p.a.size ≤ 9223372036854775807 ∧ p.b.size ≤ 9223372036854775807 ∧ p.thn.size ≤ 9223372036854775807 ∧ p.els.size ≤ 9223372036854775807 :=
  ⟨h (.v (.str p.name)) (by simp [Ph.cells]), h (.v (.str p.a)) (by simp [Ph.cells]), h (.v (.str p.b)) (by simp [Ph.cells]), h (.v (.str p.thn)) (by simp [Ph.cells]), h (.v (.str p.els)) (by simp [Ph.cells])⟩
def eqL {α : Type} [Inhabited α] (f : α → α → Bool) (a b : List α) : Bool := a.length == b.length && (List.range a.length).all fun i => f (nth a i) (nth b i)
theorem strEq_refl (s : Str) : strEq s s = true := by simp [strEq]
theorem eqL_refl {α : Type} [Inhabited α] {f : α → α → Bool} (h : ∀ p, f p p = true) (l : List α) : eqL f l l = true := by
  simp only [eqL, beq_self_eq_true, Bool.true_and]; exact all_of fun j _ => h _
def okAt (l : List Ph) (i : Nat) : Bool := phaseOk (nth l i) && atP l (nth l i).name == i && refOk l i (nth l i).thn && refOk l i (nth l i).els
theorem recOk_eq (l : List Ph) : recOk l = (inB l.length 1 12 && (List.range l.length).all (okAt l)) := rfl
theorem atP_lt (l : List Ph) (s : Str) : atP l s = -1 ∨ (0 ≤ atP l s ∧ atP l s < l.length) := by
  unfold atP; split
  · rename_i i h
    have := List.mem_of_find?_eq_some h
    rw [List.mem_range] at this; omega
  · exact .inl rfl
def rank (l : List Ph) (s : Str) : Nat := if atP l s < 0 then 0 else l.length - (atP l s).toNat
theorem atP_name {l : List Ph} {s : Str} (h : 0 ≤ atP l s) : strEq (nth l (atP l s).toNat).name s = true := by
  unfold atP at *
  split at h
  · rename_i i hf
    have := List.find?_some hf
    simpa using this
  · omega
theorem strEq_eq {s t : Str} (h : strEq s t = true) : s = t := by
  unfold strEq at h
  rw [ByteArray.toList_eq, ByteArray.toList_eq, beq_iff_eq] at h
  exact ByteArray.ext (Array.toList_inj.1 h)
theorem rank_lt {l : List Ph} {i : Nat} (hi : i < l.length) {s : Str} (h : refOk l i s = true) (hl : recOk l = true) : rank l s < l.length - i := by
  unfold rank
  split
  · omega
  · rename_i h0
    have ha := atP_lt l s
    have hn := atP_name (l := l) (s := s) (by omega)
    rw [recOk_eq, Bool.and_eq_true, List.all_eq_true] at hl
    have hk := hl.2 (atP l s).toNat (List.mem_range.2 (by omega))
    have hs := strEq_eq hn
    simp only [okAt, phaseOk, plainOk, Bool.and_eq_true, beq_iff_eq] at hk
    rw [hs] at hk
    simp only [refOk, hk.1.1.1.1.1.1.1.2, beq_self_eq_true, Bool.true_and, Bool.not_eq_true', decide_eq_false_iff_not] at h
    omega
theorem rank_thn {l : List Ph} {s : Str} (hl : recOk l = true) (h : 0 ≤ atP l s) : rank l (nth l (atP l s).toNat).thn < rank l s ∧ rank l (nth l (atP l s).toNat).els < rank l s := by
  have ha := atP_lt l s
  have hl' := hl
  rw [recOk_eq, Bool.and_eq_true, List.all_eq_true] at hl'
  have hk := hl'.2 (atP l s).toNat (List.mem_range.2 (by omega))
  simp only [okAt, Bool.and_eq_true] at hk
  have e : rank l s = l.length - (atP l s).toNat := by rw [rank, if_neg (by omega)]
  rw [e]
  exact ⟨rank_lt (by omega) hk.1.2 hl, rank_lt (by omega) hk.2 hl⟩
theorem rank_le (l : List Ph) (s : Str) : rank l s < l.length + 1 := by unfold rank; split <;> omega
def canG (l : List Ph) (o : Int) : Nat → Str → Bool
  | 0, _ => false
  | n + 1, s => if atP l s < 0 then recEnd s == o else canG l o n (nth l (atP l s).toNat).thn || canG l o n (nth l (atP l s).toNat).els
def recCan (l : List Ph) (s : Str) (o : Int) : Bool := recOk l && inB o 1 3 && canG l o (l.length + 1) s

theorem okAt_two {l : List Ph} {i q : Nat} (_ : q ≤ 2) (hq : q < 2) (h : refOk l i (nth [(nth l i).thn, (nth l i).els] q) = false) : okAt l i = false := by
  match q, hq with
  | 0, _ => have h' : refOk l i (nth l i).thn = false := h; simp [okAt, h']
  | 1, _ => have h' : refOk l i (nth l i).els = false := h; simp [okAt, h']

def strs (l : List Str) : T := .sl 9 1 l.length (fun i => [.str (nth l i)])
structure Bt where
  name : Str
  has : List Str
  needs : List Str
deriving Inhabited
def Bt.cells (p : Bt) : List T := [.str p.name, strs p.has, strs p.needs]
def Bt.zcells (p : Bt) : List T := [.str p.name, .fz (strs p.has), .fz (strs p.needs)]
def bts (e : Nat) (l : List Bt) : T := .sl e 3 l.length (fun i => (nth l i).zcells)
structure Bk where
  things : List Str
  bs : List Bt
deriving Inhabited
def Bk.cells (e : Nat) (p : Bk) : List T := [strs p.things, bts e p.bs]
def Bk.zcells (e : Nat) (p : Bk) : List T := [.fz (strs p.things), .fz (bts e p.bs)]
def hasB (l : List Str) (s : Str) : Bool := (List.range l.length).any fun i => strEq (nth l i) s
theorem any_of {n i : Nat} {p : Nat → Bool} (hi : i < n) (h : p i = true) : (List.range n).any p = true := by
  rw [List.any_eq_true]; exact ⟨i, List.mem_range.2 hi, h⟩
theorem any_not {n : Nat} {p : Nat → Bool} (h : ∀ j, j < n → p j = false) : (List.range n).any p = false := by
  rw [List.any_eq_false]; intro x hx; simp [h x (List.mem_range.1 hx)]
def meetsB (a b : List Str) : Bool := (List.range a.length).any fun i => hasB b (nth a i)
def withinB (a b : List Str) : Bool := (List.range a.length).all fun i => hasB b (nth a i)
theorem strEq_comm (s t : Str) : strEq s t = strEq t s := by simp only [strEq, Bool.beq_comm]
def idxS (l : List Str) (s : Str) : Int := match (List.range l.length).find? (fun i => strEq s (nth l i)) with | some i => (i : Int) | none => -1
theorem idxS_none {l : List Str} {s : Str} {i : Nat} (h : ∀ j, j < i → strEq s (nth l j) = false) (hi : l.length ≤ i) : -1 = idxS l s := by
  have : (List.range l.length).find? (fun i => strEq s (nth l i)) = none := by
    rw [List.find?_eq_none]; intro x hx; have := h x (by have := List.mem_range.1 hx; omega); simp [this]
  simp [idxS, this]
theorem idxS_some {l : List Str} {s : Str} {i : Nat} (h : ∀ j, j < i → strEq s (nth l j) = false) (hi : i < l.length) (hs : strEq s (nth l i) = true) : (i : Int) = idxS l s := by
  have : (List.range l.length).find? (fun i => strEq s (nth l i)) = some i := by
    rw [List.find?_range_eq_some]
    exact ⟨hs, List.mem_range.2 hi, fun j hj => by simp [h j hj]⟩
  simp [idxS, this]
theorem idxS_has (l : List Str) (s : Str) : decide (idxS l s ≥ 0) = hasB l s := by
  unfold idxS hasB
  split
  · rename_i i h
    have h1 := List.find?_some h
    have h2 := List.mem_of_find?_eq_some h
    rw [any_of (i := i) (List.mem_range.1 h2) (by rw [strEq_comm]; exact h1)]
    simp
  · rename_i h
    rw [List.find?_eq_none] at h
    rw [any_not fun j hj => by have := h j (List.mem_range.2 hj); rw [strEq_comm]; simpa using this]
    simp

def blk (p : Bk) (i : Nat) (gone : List Str) (k : Nat) : Bool := !Nat.beq k i && !hasB gone (nth p.bs k).name && meetsB (nth p.bs k).has (nth p.bs i).needs
theorem nth_append_left {α : Type} [Inhabited α] {a b : List α} {i : Nat} (h : i < a.length) : nth (a ++ b) i = nth a i := by
  simp [nth, List.getD_eq_getElem?_getD, List.getElem?_append_left h]
theorem nth_append_right {α : Type} [Inhabited α] {a b : List α} {i : Nat} (h : a.length ≤ i) : nth (a ++ b) i = nth b (i - a.length) := by
  simp [nth, List.getD_eq_getElem?_getD, List.getElem?_append_right h]
theorem step_append_strs {P : Program} {o : Oper} {σ : AS} {dst : Nat} (hd : o.dst = some dst) (hn : dst < σ.n) {t by' : Nat} {x y : Operand} (ho : o.op = .call { callee := .builtin .append, args := #[x, y], argTypes := #[t, t] }) (ht : sliceT P t = some ⟨9, 1, by'⟩) {d k : Nat} {a b : List Str} {c : C}
    (hx : σ.ev x = ⟨true, .one (.ref ⟨.arr d k, []⟩)⟩) (hp : σ.arr d k = strs a) (hy : σ.ev y = ⟨true, .one c⟩) (hc : ArgC σ c (strs b)) (hb : (a.length + b.length) * by' ≤ 140737488355328) (hm : a.length + b.length ≤ 140737488355328) (hdr : Nat.beq d RR = false := by rfl) :
    Step P o σ (((σ.mapC (onArr d k)).setArr d k (strs (a ++ b))).setS dst ⟨true, .one (.ref ⟨.arr d k, []⟩)⟩) := by
  have h := step_append hd hn ho ht hx hp hy hc (fun _ _ => rfl) hb hm hdr
  refine h.le (Le.eqvArr ?_)
  unfold strs
  rw [List.length_append]
  refine .rows fun i hi => ?_
  simp only [catF]
  split
  · rename_i h1; rw [nth_append_left h1]
  · rename_i h1; rw [nth_append_right (by omega)]
theorem step_build0 {P : Program} {o : Oper} {σ : AS} {d : Nat} (hd : o.dst = some d) (hn : d < σ.n) {t by' : Nat} (ho : o.op = .buildSlice t 0 ([] : List (Nat × Operand)).toArray) (ht : sliceT P t = some ⟨9, 1, by'⟩) :
    Step P o σ (((σ.kill d).setArr d 0 (strs [])).setS d ⟨true, .one (.ref ⟨.arr d 0, []⟩)⟩) := by
  have h := step_buildSlice (ps := []) hd hn ho ht (by simp) rfl (by simp) (by intro q hq; cases hq) rfl
  exact h.le (Le.eqvArr (.rows (fun i hi => absurd hi (by omega))))
theorem eqv_strs {a b : List Str} (h : a = b) : Eqv (strs a) (strs b) := h ▸ .refl _
theorem yaUs9 : Try.prog.underlying 9 = some .string := by kernel_rfl
theorem yaSl22 : sliceT Try.prog 22 = some ⟨9, 1, 16⟩ := by kernel_rfl
theorem yaSc9 : scalarB Try.prog 9 = true := by kernel_rfl
theorem yaCo171 : callOk Try.prog 171 = true := by kernel_rfl
theorem yaCo136 : callOk Try.prog 136 = true := by kernel_rfl
theorem isNameI (s : Str)  : ASpec Try.prog 81 [.one (.str s)] (.one (.bool (nameOk s))) := by
  refine ASpec.body Try.func81 rfl [2] rfl 40 rfl rfl rfl ?_
  refine AWp.strLe 0 rfl (fun hs => ?_)
  refine AWp.seq (AWp.region ?_)
  refine ARun.step rfl (step_assignV rfl (hn rfl) rfl rfl) ?_
  refine ARun.nil ?_
  refine AWp.seq ?_
  refine AWp.seq (AWp.region ?_)
  refine ARun.step rfl (step_moveV rfl (hn rfl) rfl rfl) ?_
  refine ARun.step rfl (step_len_str rfl (hn rfl) rfl yaUs9 rfl) ?_
  refine ARun.step rfl (step_moveV rfl (hn rfl) rfl rfl) ?_
  refine ARun.nil ?_
  refine AWp.block ?_
  refine AWp.loopM (fun i : Nat => mkAS 40 [(0, ⟨true, .one (.v (.str s))⟩), (6, ⟨true, .one (.v (.int .i64 (s.size : Nat)))⟩), (7, ⟨true, .one (.v (.int .i64 (i : Nat)))⟩)] [] []) (fun i => i ≤ s.size ∧ ∀ j, j < i → nmC (bAt s j) = true) (fun i => s.size - i) 0 ?_ (Le.forgetR rfl ⟨rfl, rfl, rfl, trivial⟩ trivial trivial) ?_
  · try dsimp only
    exact ⟨by omega, by omega⟩
  rintro i ⟨hi, hall⟩
  refine AWp.seq (AWp.region ?_)
  refine ARun.step rfl (step_lss rfl (hn rfl) rfl rfl rfl) ?_
  refine ARun.nil ?_
  refine AWp.seq ?_
  refine AWp.cond rfl (fun c1 => ?_) (fun c1 => ?_)
  · try simp only [nrm] at c1
    refine AWp.skip ?_
    refine AWp.seq ?_
    refine AWp.block ?_
    refine AWp.seq (AWp.region ?_)
    refine ARun.step rfl (step_moveV rfl (hn rfl) rfl rfl) ?_
    refine ARun.step rfl (step_assignV rfl (hn rfl) rfl rfl) ?_
    refine ARun.nil ?_
    refine AWp.seq (AWp.region ?_)
    refine ARun.step rfl (step_moveV rfl (hn rfl) rfl rfl) ?_
    refine ARun.step rfl (step_moveV rfl (hn rfl) rfl rfl) ?_
    refine ARun.step rfl (step_index_str rfl (hn rfl) rfl yaUs9 rfl rfl (by omega) (by omega)) ?_
    refine ARun.step rfl (step_assignV rfl (hn rfl) rfl rfl) ?_
    refine ARun.nil ?_
    refine AWp.seq (AWp.region ?_)
    refine ARun.step rfl (step_moveV rfl (hn rfl) rfl rfl) ?_
    refine ARun.step rfl (step_lss rfl (hn rfl) rfl rfl rfl) ?_
    refine ARun.step rfl (step_moveV rfl (hn rfl) rfl rfl) ?_
    refine guardS rfl rfl rfl rfl (hn rfl) (fun g1 g2 => step_moveV rfl (hn rfl) rfl rfl) ?_
    refine guardS rfl rfl rfl rfl (hn rfl) (fun g1 g2 => step_gtr rfl (hn rfl) rfl (ev_true rfl (by exact flag2 g1 g2)) rfl) ?_
    refine ARun.step rfl (step_or rfl (hn rfl) rfl rfl rfl (fun h => (by exact flag1 h))) ?_
    refine ARun.step rfl (step_moveV rfl (hn rfl) rfl rfl) ?_
    refine guardS rfl rfl rfl rfl (hn rfl) (fun g1 g2 => step_moveV rfl (hn rfl) rfl rfl) ?_
    refine guardS rfl rfl rfl rfl (hn rfl) (fun g1 g2 => step_lss rfl (hn rfl) rfl (ev_true rfl (by exact flag2 g1 g2)) rfl) ?_
    refine guardS rfl rfl rfl rfl (hn rfl) (fun g1 g2 => step_moveV rfl (hn rfl) rfl (ev_true rfl (by exact flag2 g1 g2))) ?_
    refine guardS rfl rfl rfl rfl (hn rfl) (fun g1 g2 => step_moveV rfl (hn rfl) rfl rfl) ?_
    refine guardS rfl rfl rfl rfl (hn rfl) (fun g1 g2 => step_gtr rfl (hn rfl) rfl (ev_true rfl (by exact flag2 g1 g2)) rfl) ?_
    refine guardS rfl rfl rfl rfl (hn rfl) (fun g1 g2 => step_or rfl (hn rfl) rfl (ev_true rfl (by exact flag2 g1 g2)) rfl (fun h => (by exact flag2 (by exact flag2 g1 g2) h))) ?_
    refine ARun.step rfl (step_and rfl (hn rfl) rfl rfl rfl (fun h => (by exact flag1 h))) ?_
    refine ARun.step rfl (step_moveV rfl (hn rfl) rfl rfl) ?_
    refine guardS rfl rfl rfl rfl (hn rfl) (fun g1 g2 => step_moveV rfl (hn rfl) rfl rfl) ?_
    refine guardS rfl rfl rfl rfl (hn rfl) (fun g1 g2 => step_neq rfl (hn rfl) rfl (ev_true rfl (by exact flag2 g1 g2)) rfl) ?_
    refine ARun.step rfl (step_and rfl (hn rfl) rfl rfl rfl (fun h => (by exact flag1 h))) ?_
    refine ARun.nil ?_
    refine AWp.cond rfl (fun c2 => ?_) (fun c2 => ?_)
    · try simp only [nrm] at c2
      refine AWp.seq (AWp.region ?_)
      refine ARun.step rfl (step_assignV rfl (hn rfl) rfl rfl) ?_
      refine ARun.nil ?_
      refine AWp.ret ?_
      refine RetIs.sc (.inr rfl) rfl rfl ?_
      refine congrArg T.bool ?_
      rw [nameOk, nameB, all_not (i := i) (by omega) (by simp only [nmC, bAt] at *; grind), Bool.and_false]
    · try simp only [nrm] at c2
      refine AWp.skip ?_
      refine AWp.region ?_
      refine ARun.step rfl (step_addI rfl (hn rfl) rfl rfl rfl (by omega) (by omega)) ?_
      refine ARun.step rfl (step_moveV rfl (hn rfl) rfl rfl) ?_
      refine ARun.nil ?_
      refine ⟨i + 1, ?_, ?_, Le.forgetR rfl ⟨rfl, rfl, rfl, trivial⟩ trivial trivial⟩
      · try dsimp only
        exact ⟨by omega, upto hall (by simp only [nmC, bAt] at *; grind)⟩
      · try dsimp only
        omega
  · try simp only [nrm] at c1
    refine AWp.exit ?_
    refine AWp.seq (AWp.region ?_)
    refine ARun.step rfl (step_moveV rfl (hn rfl) rfl rfl) ?_
    refine ARun.step rfl (step_len_str rfl (hn rfl) rfl yaUs9 rfl) ?_
    refine ARun.step rfl (step_geq rfl (hn rfl) rfl rfl rfl) ?_
    refine ARun.step rfl (step_moveV rfl (hn rfl) rfl rfl) ?_
    refine guardS rfl rfl rfl rfl (hn rfl) (fun g1 g2 => step_moveV rfl (hn rfl) rfl rfl) ?_
    refine guardS rfl rfl rfl rfl (hn rfl) (fun g1 g2 => step_len_str rfl (hn rfl) rfl yaUs9 (ev_true rfl (by exact flag2 g1 g2))) ?_
    refine guardS rfl rfl rfl rfl (hn rfl) (fun g1 g2 => step_leq rfl (hn rfl) rfl (ev_true rfl (by exact flag2 g1 g2)) rfl) ?_
    refine ARun.step rfl (step_and rfl (hn rfl) rfl rfl rfl (fun h => (by exact flag1 h))) ?_
    refine ARun.step rfl (step_assignV rfl (hn rfl) rfl rfl) ?_
    refine ARun.nil ?_
    refine AWp.ret ?_
    refine RetIs.sc (.inr rfl) rfl rfl ?_
    refine congrArg T.bool ?_
    rw [nameOk, nameB, all_of (fun j hj => hall j (by omega)), Bool.and_true]; rfl
theorem indexS (l : List Str) (s : Str)  : ASpec Try.prog 171 [.one (strs l), .one (.str s)] (.one (.int .i64 (idxS l s))) := by
  refine ASpec.body Try.func171 rfl [4] rfl 19 rfl rfl rfl ?_
  refine AWp.lenLe 0 rfl (fun hl => ?_)
  refine AWp.seq (AWp.region ?_)
  refine ARun.step rfl (step_assignV rfl (hn rfl) rfl rfl) ?_
  refine ARun.nil ?_
  refine AWp.seq ?_
  refine AWp.seq (AWp.region ?_)
  refine ARun.step rfl (step_moveV rfl (hn rfl) rfl rfl) ?_
  refine ARun.step rfl (step_len_f rfl (hn rfl) rfl yaSl22 rfl) ?_
  refine ARun.step rfl (step_moveV rfl (hn rfl) rfl rfl) ?_
  refine ARun.nil ?_
  refine AWp.block ?_
  refine AWp.loopM (fun i : Nat => mkAS 19 [(0, ⟨true, .one (.v (strs l))⟩), (1, ⟨true, .one (.v (.str s))⟩), (7, ⟨true, .one (.v (.int .i64 (l.length : Nat)))⟩), (8, ⟨true, .one (.v (.int .i64 (i : Nat)))⟩)] [] []) (fun i => i ≤ l.length ∧ ∀ j, j < i → strEq s (nth l j) = false) (fun i => l.length - i) 0 ?_ (Le.forgetR rfl ⟨rfl, rfl, rfl, rfl, trivial⟩ trivial trivial) ?_
  · try dsimp only
    exact ⟨by omega, by omega⟩
  rintro i ⟨hi, hall⟩
  refine AWp.seq (AWp.region ?_)
  refine ARun.step rfl (step_lss rfl (hn rfl) rfl rfl rfl) ?_
  refine ARun.nil ?_
  refine AWp.seq ?_
  refine AWp.cond rfl (fun c1 => ?_) (fun c1 => ?_)
  · try simp only [nrm] at c1
    refine AWp.skip ?_
    refine AWp.seq ?_
    refine AWp.block ?_
    refine AWp.seq (AWp.region ?_)
    refine ARun.step rfl (step_moveV rfl (hn rfl) rfl rfl) ?_
    refine ARun.step rfl (step_assignV rfl (hn rfl) rfl rfl) ?_
    refine ARun.nil ?_
    refine AWp.seq (AWp.region ?_)
    refine ARun.step rfl (step_moveV rfl (hn rfl) rfl rfl) ?_
    refine ARun.step rfl (step_moveV rfl (hn rfl) rfl rfl) ?_
    refine ARun.step rfl (step_moveV rfl (hn rfl) rfl rfl) ?_
    refine ARun.step rfl (step_index_fN rfl (hn rfl) rfl yaSl22 rfl rfl (by omega)) ?_
    refine ARun.step rfl (step_load_f rfl (hn rfl) rfl yaSc9 rfl (hn rfl) rfl) ?_
    refine ARun.step rfl (step_seql rfl (hn rfl) rfl rfl rfl) ?_
    refine ARun.nil ?_
    refine AWp.cond rfl (fun c2 => ?_) (fun c2 => ?_)
    · try simp only [nrm] at c2
      refine AWp.seq (AWp.region ?_)
      refine ARun.step rfl (step_moveV rfl (hn rfl) rfl rfl) ?_
      refine ARun.step rfl (step_assignV rfl (hn rfl) rfl rfl) ?_
      refine ARun.nil ?_
      refine AWp.ret ?_
      refine RetIs.sc (.inr rfl) rfl rfl ?_
      refine congrArg (T.int _) ?_
      exact idxS_some hall (by omega) c2
    · try simp only [nrm] at c2
      refine AWp.skip ?_
      refine AWp.region ?_
      refine ARun.step rfl (step_addI rfl (hn rfl) rfl rfl rfl (by omega) (by omega)) ?_
      refine ARun.step rfl (step_moveV rfl (hn rfl) rfl rfl) ?_
      refine ARun.nil ?_
      refine ⟨i + 1, ?_, ?_, Le.forgetR rfl ⟨rfl, rfl, rfl, rfl, trivial⟩ trivial trivial⟩
      · try dsimp only
        exact ⟨by omega, upto hall (by assumption)⟩
      · try dsimp only
        omega
  · try simp only [nrm] at c1
    refine AWp.exit ?_
    refine AWp.seq (AWp.region ?_)
    refine ARun.step rfl (step_assignV rfl (hn rfl) rfl rfl) ?_
    refine ARun.nil ?_
    refine AWp.ret ?_
    refine RetIs.sc (.inr rfl) rfl rfl ?_
    refine congrArg (T.int _) ?_
    exact idxS_none hall (by omega)
theorem containsS (l : List Str) (s : Str)  : ASpec Try.prog 136 [.one (strs l), .one (.str s)] (.one (.bool (hasB l s))) := by
  refine ASpec.body Try.func136 rfl [4] rfl 9 rfl rfl rfl ?_
  refine AWp.seq (AWp.region ?_)
  refine ARun.step rfl (step_assignV rfl (hn rfl) rfl rfl) ?_
  refine ARun.nil ?_
  refine AWp.seq (AWp.region ?_)
  refine ARun.step rfl (step_moveV rfl (hn rfl) rfl rfl) ?_
  refine ARun.step rfl (step_moveV rfl (hn rfl) rfl rfl) ?_
  refine ARun.step rfl (call_step1 rfl (hn rfl) rfl yaCo171 (.cons rfl (.one (.v _)) (.cons rfl (.one (.v _)) (.nil))) (indexS _ _) rfl) ?_
  refine ARun.step rfl (step_geq rfl (hn rfl) rfl rfl rfl) ?_
  refine ARun.step rfl (step_assignV rfl (hn rfl) rfl rfl) ?_
  refine ARun.nil ?_
  refine AWp.ret ?_
  refine RetIs.sc (.inr rfl) rfl rfl ?_
  refine congrArg T.bool ?_
  exact idxS_has l s
theorem hasI (l : List Str) (s : Str)  : ASpec Try.prog 91 [.one (strs l), .one (.str s)] (.one (.bool (hasB l s))) := by
  refine ASpec.body Try.func91 rfl [4] rfl 8 rfl rfl rfl ?_
  refine AWp.seq (AWp.region ?_)
  refine ARun.step rfl (step_assignV rfl (hn rfl) rfl rfl) ?_
  refine ARun.nil ?_
  refine AWp.seq (AWp.region ?_)
  refine ARun.step rfl (step_moveV rfl (hn rfl) rfl rfl) ?_
  refine ARun.step rfl (step_moveV rfl (hn rfl) rfl rfl) ?_
  refine ARun.step rfl (call_step1 rfl (hn rfl) rfl yaCo136 (.cons rfl (.one (.v _)) (.cons rfl (.one (.v _)) (.nil))) (containsS _ _) rfl) ?_
  refine ARun.step rfl (step_assignV rfl (hn rfl) rfl rfl) ?_
  refine ARun.nil ?_
  refine AWp.ret ?_
  refine RetIs.sc (.inr rfl) rfl rfl ?_
  refine congrArg T.bool ?_
  rfl

end Go.Proofs.Ytkmacjdigkaabaa
