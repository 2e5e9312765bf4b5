/- Values are told by trees, and a frame owns blocks by places. No condition. -/
import Derived.Tactics
import Derived.Orders
import Derived.Laws.AppendOwn
import Derived.Laws.OwnMore
import Derived.Laws.MakeOwn
import Derived.Below
set_option linter.unusedVariables false
set_option linter.unusedSimpArgs false
set_option linter.unnecessarySimpa false
namespace Go.Mh
open Go

/-! ### trees, places, abstract states -/
inductive T where
  | int (k : IntKind) (n : Int)
  | bool (b : Bool)
  | str (s : ByteArray)
  | sl (e sz n : Nat) (f : Nat → List T)
  | fz (t : T)
  | nl
  | dead

inductive Root where
  | box (d : Nat)
  | arr (d k : Nat)
  deriving DecidableEq

structure Place where
  r : Root
  p : List (Nat × Nat)

abbrev Own := Nat → Option Place
def noOwn : Own := fun _ => none

inductive C where
  | v (t : T)
  | own (t : T)
  | ref (p : Place)
  | bptr (d j : Nat)
  | eptr (p : Place) (i j : Nat)
  | sub (p : Place) (lo n : Nat) (full : Bool)
  | ifc (ty : TypeId) (p : Place)
  | fptr (e sz n : Nat) (f : Nat → List T) (i j : Nat)
  | fn (f : FuncId) (ds : List Nat)
  | nil
  | any

inductive V where
  | one (c : C)
  | agg (cs : List C)
  | tup (vs : List V)
  | any

structure SV where
  c : Bool
  v : V

structure AS where
  n : Nat
  s : Nat → SV
  box : Nat → List C
  arr : Nat → Nat → T

def follow : T → List (Nat × Nat) → T
  | t, [] => t
  | .sl _ _ n f, (i, j) :: ps => if i < n then follow ((f i).getD j .dead) ps else .dead
  | _, _ :: _ => .dead

def cellTree : Option C → T
  | some (.own t) => t
  | _ => .dead

def AS.node (σ : AS) : Place → T
  | ⟨.arr d k, ps⟩ => follow (σ.arr d k) ps
  | ⟨.box d, (0, j) :: ps⟩ => follow (cellTree (σ.box d)[j]?) ps
  | ⟨.box _, _⟩ => .dead

def Place.push (p : Place) (i j : Nat) : Place := ⟨p.r, p.p ++ [(i, j)]⟩

/-! ### what a value in the world stands for -/
/-- room for cap rows in a block of s cells; a slice cut at its end may leave cells behind -/
def Room (s cap sz n : Nat) : Prop := s = cap * sz ∨ (n = cap ∧ cap * sz ≤ s)
theorem Room.le {s cap sz n : Nat} (h : Room s cap sz n) : cap * sz ≤ s := by
  rcases h with h | h
  · exact Nat.le_of_eq h.symm
  · exact h.2
theorem Room.lt {s cap sz n q : Nat} (h : Room s cap sz n) (hn : n ≤ cap) (hq : q < n * sz) : q < s :=
  Nat.lt_of_lt_of_le hq (Nat.le_trans (Nat.mul_le_mul_right sz hn) h.le)
inductive Ok (w : World) (own : Own) : Option Place → Value → T → Prop where
  | int {pl} (k : IntKind) (n : Int) : Ok w own pl (.int k n) (.int k n)
  | bool {pl} (b : Bool) : Ok w own pl (.bool b) (.bool b)
  | str {pl} (s : ByteArray) (hs : s.size ≤ maxLen) : Ok w own pl (.string s) (.str s)
  | dead {pl} (v : Value) : Ok w own pl v .dead
  | nl {pl} : Ok w own pl (.slice none 0 0) .nl
  | fz {pl v t} (h : Ok w own none v t) : Ok w own pl v (.fz t)
  | nil {pl} (e sz : Nat) (f : Nat → List T) : Ok w own pl (.slice none 0 0) (.sl e sz 0 f)
  | fsl {b off n cap e sz : Nat} {f : Nat → List T} (x : Nat → Nat → Value) (hn : n ≤ cap) (hcap : cap ≤ maxLen) (hl : ∀ i, i < n → (f i).length = sz)
      (hb : 0 < n → 0 < sz → own b = none)
      (hc : ∀ i j, i < n → j < sz → w.cell? ⟨b, off + i * sz + j, none⟩ = some (x i j))
      (hr : ∀ i j, i < n → j < sz → Ok w own none (x i j) ((f i).getD j .dead)) :
      Ok w own none (.slice (some ⟨b, off, none⟩) n cap) (.sl e sz n f)
  | emp (a : Addr) {cap : Nat} (e sz : Nat) (f : Nat → List T) (hcap : cap ≤ maxLen) : Ok w own none (.slice (some a) 0 cap) (.sl e sz 0 f)
  | osl {p : Place} {b n cap e sz : Nat} {f : Nat → List T} {c : Array Value} (ho : own b = some p) (hh : w.heap[b]? = some (.cells c e (0, 0)))
      (hs : Room c.size cap sz n) (hn : n ≤ cap) (hcap : cap ≤ maxLen) (hl : ∀ i, i < n → (f i).length = sz)
      (hr : ∀ i j, i < n → j < sz → Ok w own (some (p.push i j)) (c.getD (i * sz + j) undef) ((f i).getD j .dead)) :
      Ok w own (some p) (.slice (some ⟨b, 0, none⟩) n cap) (.sl e sz n f)

theorem heap_lt {w : World} {b : Nat} {o : Obj} (h : w.heap[b]? = some o) : b < w.heap.size := (Array.getElem?_eq_some_iff.1 h).1

theorem cell_heap {w w' : World} {b off : Nat} (h : w'.heap[b]? = w.heap[b]?) : w'.cell? ⟨b, off, none⟩ = w.cell? ⟨b, off, none⟩ := World.cell?_of_block (w := w) h

/-- what is frozen stays as it is -/
structure Froz (w w' : World) (own own' : Own) : Prop where
  h : ∀ b, own b = none → b < w.heap.size → own' b = none ∧ w'.heap[b]? = w.heap[b]?

theorem Ok.frozen_aux {w w' : World} {own own' : Own} {pl v t} (h : Ok w own pl v t) (hf : Froz w w' own own') : pl = none → Ok w' own' none v t := by
  induction h with
  | int k n => exact fun _ => .int k n
  | bool b => exact fun _ => .bool b
  | str s hs => exact fun _ => .str s hs
  | dead v => exact fun _ => .dead v
  | nl => exact fun _ => .nl
  | fz h ih => exact fun _ => .fz (ih rfl)
  | nil e sz f => exact fun _ => .nil e sz f
  | @fsl b off n cap e sz f x hn hcap hl hb hc hr ih =>
    intro _
    by_cases h0 : 0 < n ∧ 0 < sz
    · have hlt : b < w.heap.size := World.block_lt_of_cell? w _ (hc 0 0 h0.1 h0.2)
      obtain ⟨ho, hh⟩ := hf.h b (hb h0.1 h0.2) hlt
      exact .fsl x hn hcap hl (fun _ _ => ho) (fun i j hi hj => by rw [cell_heap hh]; exact hc i j hi hj) (fun i j hi hj => ih i j hi hj rfl)
    · exact .fsl x hn hcap hl (fun h h' => absurd ⟨h, h'⟩ h0) (fun i j hi hj => by omega) (fun i j hi hj => by omega)
  | emp a e sz f hcap => exact fun _ => .emp a e sz f hcap
  | osl ho hh hs hn hcap hl hr ih => intro hpl; cases hpl

theorem Ok.frozen {w w' : World} {own own' : Own} {v t} (h : Ok w own none v t) (hf : Froz w w' own own') : Ok w' own' none v t := h.frozen_aux hf rfl

/-- a subtree's blocks go from place p to place q -/
def Moved (w w' : World) (own own' : Own) (p q : Place) : Prop :=
  ∀ b s, own b = some ⟨p.r, p.p ++ s⟩ → own' b = some ⟨q.r, q.p ++ s⟩ ∧ w'.heap[b]? = w.heap[b]?

theorem Moved.push {w w' : World} {own own' : Own} {p q : Place} (h : Moved w w' own own' p q) (i j : Nat) : Moved w w' own own' (p.push i j) (q.push i j) := by
  intro b s hb
  simp only [Place.push, List.append_assoc] at hb ⊢
  exact h b _ hb

theorem Ok.moved_aux {w w' : World} {own own' : Own} {pl v t} (h : Ok w own pl v t) (hf : Froz w w' own own') : ∀ p q, pl = some p → Moved w w' own own' p q → Ok w' own' (some q) v t := by
  induction h with
  | int k n => exact fun _ _ _ _ => .int k n
  | bool b => exact fun _ _ _ _ => .bool b
  | str s hs => exact fun _ _ _ _ => .str s hs
  | dead v => exact fun _ _ _ _ => .dead v
  | nl => exact fun _ _ _ _ => .nl
  | fz h ih => exact fun _ _ _ _ => .fz (h.frozen hf)
  | nil e sz f => exact fun _ _ _ _ => .nil e sz f
  | fsl => intro p q hp; cases hp
  | emp => intro p q hp; cases hp
  | @osl p b n cap e sz f c ho hh hs hn hcap hl hr ih =>
    intro p' q hp hm
    cases hp
    obtain ⟨ho', hh'⟩ := hm b [] (by simpa using ho)
    exact .osl (by simpa using ho') (hh'.trans hh) hs hn hcap hl (fun i j hi hj => ih i j hi hj _ _ rfl (hm.push i j))

theorem Ok.moved {w w' : World} {own own' : Own} {p q v t} (h : Ok w own (some p) v t) (hf : Froz w w' own own') (hm : Moved w w' own own' p q) : Ok w' own' (some q) v t :=
  h.moved_aux hf p q rfl hm

/-- a subtree is let go: from now on nobody writes to it -/
def Gone (w w' : World) (own own' : Own) (p : Place) : Prop := ∀ b s, own b = some ⟨p.r, p.p ++ s⟩ → own' b = none ∧ w'.heap[b]? = w.heap[b]?

theorem Gone.push {w w' : World} {own own' : Own} {p : Place} (h : Gone w w' own own' p) (i j : Nat) : Gone w w' own own' (p.push i j) := by
  intro b s hb
  simp only [Place.push, List.append_assoc] at hb
  exact h b _ hb

theorem mul_add_lt {i j n sz : Nat} (hi : i < n) (hj : j < sz) : i * sz + j < n * sz := by
  have : (i + 1) * sz ≤ n * sz := Nat.mul_le_mul_right sz hi
  rw [Nat.add_mul] at this
  omega

theorem Ok.freeze_aux {w w' : World} {own own' : Own} {pl v t} (h : Ok w own pl v t) (hf : Froz w w' own own') : (∀ p, pl = some p → Gone w w' own own' p) → Ok w' own' none v t := by
  induction h with
  | int k n => exact fun _ => .int k n
  | bool b => exact fun _ => .bool b
  | str s hs => exact fun _ => .str s hs
  | dead v => exact fun _ => .dead v
  | nl => exact fun _ => .nl
  | fz h ih => exact fun _ => .fz (h.frozen hf)
  | nil e sz f => exact fun _ => .nil e sz f
  | @fsl b off n cap e sz f x hn hcap hl hb hc hr ih =>
    intro _
    exact (Ok.fsl (e := e) x hn hcap hl hb hc hr).frozen hf
  | emp a e sz f hcap => exact fun _ => .emp a e sz f hcap
  | @osl p b n cap e sz f c ho hh hs hn hcap hl hr ih =>
    intro hg
    have hg' := hg p rfl
    obtain ⟨ho', hh'⟩ := hg' b [] (by simpa using ho)
    refine .fsl (off := 0) (fun i j => c.getD (i * sz + j) undef) hn hcap hl (fun _ _ => ho') (fun i j hi hj => ?_) (fun i j hi hj => ih i j hi hj (fun p' hp' => ?_))
    · have hlt : i * sz + j < c.size := hs.lt hn (mul_add_lt hi hj)
      simp [World.cell?, hh', hh, Array.getD, hlt]
    · cases hp'; exact hg'.push i j

theorem Ok.freeze {w w' : World} {own own' : Own} {p v t} (h : Ok w own (some p) v t) (hf : Froz w w' own own') (hg : Gone w w' own own' p) : Ok w' own' none v t :=
  h.freeze_aux hf (fun p' hp' => by cases hp'; exact hg)

/-! ### slots, boxes, the whole state -/
def Hdr (w : World) (own : Own) (p : Place) (e sz n : Nat) (v : Value) : Prop :=
  (v = .slice none 0 0 ∧ n = 0) ∨
  ∃ b cap c, v = .slice (some ⟨b, 0, none⟩) n cap ∧ own b = some p ∧ w.heap[b]? = some (.cells c e (0, 0)) ∧ Room c.size cap sz n ∧ n ≤ cap ∧ cap ≤ maxLen

def OkPtr (own : Own) (σ : AS) (d j : Nat) (v : Value) : Prop := σ.box d ≠ [] → ∃ b, v = .pointer (some ⟨b, j, none⟩) ∧ own b = some ⟨.box d, []⟩

def OkC (w : World) (own : Own) (σ : AS) (v : Value) : C → Prop
  | .v t => Ok w own none v t
  | .own _ => False
  | .ref p => ∀ e sz n f, σ.node p = .sl e sz n f → Hdr w own p e sz n v
  | .bptr d j => OkPtr own σ d j v
  | .eptr p i j => ∀ e sz n f, σ.node p = .sl e sz n f → ∃ b, v = .pointer (some ⟨b, i * sz + j, none⟩) ∧ own b = some p
  | .ifc ty p => ∀ e sz n f, σ.node p = .sl e sz n f → ∃ u, v = .iface ty u ∧ Hdr w own p e sz n u
  | .sub p lo n full => ∀ e sz N f, σ.node p = .sl e sz N f → ∃ b off cap c, v = .slice (some ⟨b, off, none⟩) n cap ∧ own b = some p ∧ w.heap[b]? = some (.cells c e (0, 0)) ∧ (lo = 0 ∨ 0 < n → off = lo * sz) ∧ (lo + n) * sz ≤ c.size ∧ n ≤ cap ∧ (full = true → cap = n) ∧ cap ≤ maxLen
  | .fptr e sz n f i j => ∃ b off cap, Ok w own none (.slice (some ⟨b, off, none⟩) n cap) (.sl e sz n f) ∧ i < n ∧ v = .pointer (some ⟨b, off + i * sz + j, none⟩)
  | .fn f ds => ∃ vs : Array Value, v = .func (.func f) #[] vs ∧ vs.size = ds.length ∧ ∀ j d, ds[j]? = some d → OkPtr own σ d 0 (vs.getD j undef)
  | .nil => v = .slice none 0 0
  | .any => True

def OkCell (w : World) (own : Own) (σ : AS) (d j : Nat) (v : Value) : C → Prop
  | .own t => Ok w own (some ⟨.box d, [(0, j)]⟩) v t
  | c => OkC w own σ v c

/-- flat parts of a value -/
def OkFlat (w : World) (own : Own) (σ : AS) (v : Value) : V → Prop
  | .one c => OkC w own σ v c
  | .agg cs => ∃ xs : Array Value, v = .agg xs ∧ xs.size = cs.length ∧ ∀ j c, cs[j]? = some c → OkC w own σ (xs.getD j undef) c
  | .tup _ => False
  | .any => True

def OkV (w : World) (own : Own) (σ : AS) (v : Value) : V → Prop
  | .tup vs => ∃ xs : Array Value, v = .tuple xs ∧ xs.size = vs.length ∧ ∀ j c, vs[j]? = some c → OkFlat w own σ (xs.getD j undef) c
  | u => OkFlat w own σ v u

def OkS (w : World) (own : Own) (σ : AS) (v : Value) (x : SV) : Prop := if x.c = true then OkV w own σ v x.v else v = undef

def OkBox (w : World) (own : Own) (σ : AS) (d : Nat) (cs : List C) : Prop :=
  ∃ b c e, own b = some ⟨.box d, []⟩ ∧ w.heap[b]? = some (.cells c e (0, 0)) ∧ c.size = cs.length ∧ ∀ j x, cs[j]? = some x → OkCell w own σ d j (c.getD j undef) x

/-- blocks that belong to somebody else: nobody here writes to them, and nothing here is told of them -/
def FF : Nat := 2000000
/-- roots that come in or go out at a call: the array a caller lends stays where it is -/
def RR : Nat := 1000000
theorem RR_lt_FF : RR < FF := by decide
def Kept (w w' : World) (own own' : Own) : Prop :=
  ∀ b k, own b = some ⟨.arr RR k, []⟩ → own' b = some ⟨.arr RR k, []⟩ ∧ ∀ c e, w.heap[b]? = some (.cells c e (0, 0)) → ∃ c' : Array Value, w'.heap[b]? = some (.cells c' e (0, 0)) ∧ c'.size = c.size
theorem Kept.of {w w' : World} {own own' : Own} (h : ∀ b k, own b = some ⟨.arr RR k, []⟩ → own' b = some ⟨.arr RR k, []⟩ ∧ w'.heap[b]? = w.heap[b]?) : Kept w w' own own' :=
  fun b k hb => ⟨(h b k hb).1, fun c e hc => ⟨c, (h b k hb).2.trans hc, rfl⟩⟩
theorem Kept.trans {a b c : World} {oa ob oc : Own} (h : Kept a b oa ob) (k : Kept b c ob oc) : Kept a c oa oc := fun x l hx => by
  obtain ⟨h1, h2⟩ := h x l hx
  obtain ⟨k1, k2⟩ := k x l h1
  refine ⟨k1, fun cc e hc => ?_⟩
  obtain ⟨c1, g1, g2⟩ := h2 cc e hc
  obtain ⟨c2, g3, g4⟩ := k2 c1 e g1
  exact ⟨c2, g3, g4.trans g2⟩
def FP (b : Nat) : Place := ⟨.arr FF b, []⟩

structure Inv (w0 : World) (own0 : Own) (σ : AS) (a : Act) (w : World) (own : Own) : Prop where
  inj : ∀ b b' p, own b = some p → own b' = some p → b = b'
  rng : ∀ b p, own b = some p → b < w.heap.size ∧ (w0.heap.size ≤ b ∨ own0 b ≠ none)
  os : w.os = w0.os
  tape : w.tape = w0.tape
  output : w.output = w0.output
  size : w0.heap.size ≤ w.heap.size
  frm : ∀ b, b < w0.heap.size → own0 b = none → w.heap[b]? = w0.heap[b]?
  fore : ∀ b, own0 b = some (FP b) → own b = some (FP b) ∧ w.heap[b]? = w0.heap[b]?
  keep : Kept w0 w own0 own
  noff : ∀ k, σ.arr FF k = .dead
  nf : σ.n ≤ RR
  tsz : a.tmps.size = σ.n
  dfr : a.defers = []
  slots : ∀ t, OkS w own σ (a.tmps.getD t undef) (σ.s t)
  boxes : ∀ d, σ.box d ≠ [] → OkBox w own σ d (σ.box d)
  arrs : ∀ d k e sz n f, σ.arr d k = .sl e sz n f → ∃ v, Ok w own (some ⟨.arr d k, []⟩) v (.sl e sz n f)

/-! ### changes of a state -/
def AS.setS (σ : AS) (d : Nat) (x : SV) : AS := { σ with s := fun t => match Nat.beq t d with | true => x | false => σ.s t }
def AS.setBox (σ : AS) (d : Nat) (x : List C) : AS := { σ with box := fun t => match Nat.beq t d with | true => x | false => σ.box t }
def AS.setArr (σ : AS) (d k : Nat) (x : T) : AS := { σ with arr := fun t l => match Nat.beq t d, Nat.beq l k with | true, true => x | _, _ => σ.arr t l }

/-- the same roots -/
def SameRoots (σ σ' : AS) : Prop := σ'.box = σ.box ∧ σ'.arr = σ.arr

theorem SameRoots.node {σ σ' : AS} (h : SameRoots σ σ') (p : Place) : σ'.node p = σ.node p := by
  obtain ⟨r, ps⟩ := p
  cases r with
  | arr d k => simp only [AS.node, h.2]
  | box d => cases ps with
    | nil => rfl
    | cons x ps => obtain ⟨i, j⟩ := x; cases i <;> simp only [AS.node, h.1]

theorem OkC.same {w own σ σ' v} (h : SameRoots σ σ') : ∀ {c}, OkC w own σ v c → OkC w own σ' v c
  | .v _, k => k
  | .own _, k => k
  | .ref p, k => fun e sz n f hn => k e sz n f (by rw [← h.node]; exact hn)
  | .bptr d j, k => fun hb => k (by rw [← h.1]; exact hb)
  | .eptr p i j, k => fun e sz n f hn => k e sz n f (by rw [← h.node]; exact hn)
  | .ifc ty p, k => fun e sz n f hn => k e sz n f (by rw [← h.node]; exact hn)
  | .sub p lo n full, k => fun e sz N f hn => k e sz N f (by rw [← h.node]; exact hn)
  | .fptr .., k => k
  | .fn f ds, ⟨vs, h1, h2, h3⟩ => ⟨vs, h1, h2, fun j d hd hb => h3 j d hd (by rw [← h.1]; exact hb)⟩
  | .nil, k => k
  | .any, _ => trivial

theorem OkFlat.same {w own σ σ' v} (h : SameRoots σ σ') : ∀ {c}, OkFlat w own σ v c → OkFlat w own σ' v c
  | .one _, k => OkC.same h k
  | .agg _, ⟨xs, h1, h2, h3⟩ => ⟨xs, h1, h2, fun j c hc => OkC.same h (h3 j c hc)⟩
  | .tup _, k => k
  | .any, _ => trivial

theorem OkV.same {w own σ σ' v} (h : SameRoots σ σ') : ∀ {c}, OkV w own σ v c → OkV w own σ' v c
  | .one _, k => OkC.same h k
  | .agg _, k => OkFlat.same (c := .agg _) h k
  | .tup _, ⟨xs, h1, h2, h3⟩ => ⟨xs, h1, h2, fun j c hc => OkFlat.same h (h3 j c hc)⟩
  | .any, _ => trivial

theorem OkS.same {w own σ σ' v x} (h : SameRoots σ σ') (k : OkS w own σ v x) : OkS w own σ' v x := by
  unfold OkS at *
  split
  · rename_i hc; rw [if_pos hc] at k; exact OkV.same h k
  · rename_i hc; rw [if_neg hc] at k; exact k

theorem OkCell.same {w own σ σ' d j v} (h : SameRoots σ σ') : ∀ {c}, OkCell w own σ d j v c → OkCell w own σ' d j v c
  | .own _, k => k
  | .v _, k => k
  | .ref p, k => OkC.same (w := w) (own := own) (c := .ref p) h k
  | .bptr d j, k => OkC.same (w := w) (own := own) (c := .bptr d j) h k
  | .eptr p i j, k => OkC.same (w := w) (own := own) (c := .eptr p i j) h k
  | .ifc ty p, k => OkC.same (w := w) (own := own) (c := .ifc ty p) h k
  | .sub p lo n full, k => OkC.same (w := w) (own := own) (c := .sub p lo n full) h k
  | .fptr .., k => k
  | .fn f ds, k => OkC.same (w := w) (own := own) (c := .fn f ds) h k
  | .nil, k => k
  | .any, _ => trivial

theorem OkBox.same {w own σ σ' d cs} (h : SameRoots σ σ') (k : OkBox w own σ d cs) : OkBox w own σ' d cs := by
  obtain ⟨b, c, e, h1, h2, h3, h4⟩ := k
  exact ⟨b, c, e, h1, h2, h3, fun j x hx => OkCell.same h (h4 j x hx)⟩

theorem put_getD (a : Act) (d t : Nat) (v : Value) (hd : d < a.tmps.size) :
    (a.put (some d) v).tmps.getD t undef = if t = d then v else a.tmps.getD t undef := by
  simp only [Act.put, Array.getD_eq_getD_getElem?, Array.getElem?_setIfInBounds]
  by_cases h : d = t
  · subst h; simp [hd]
  · rw [if_neg h, if_neg (fun e => h e.symm)]

theorem setS_s (σ : AS) (d : Nat) (x : SV) (t : Nat) : (σ.setS d x).s t = if t = d then x else σ.s t := by
  simp only [AS.setS]
  by_cases h : t = d
  · subst h; simp
  · have : Nat.beq t d = false := by
      cases h' : Nat.beq t d with
      | true => exact absurd (Nat.eq_of_beq_eq_true h') h
      | false => rfl
    simp [this, h]

/-- a value is put into a slot -/
theorem Inv.put {w0 own0 σ a w own} (h : Inv w0 own0 σ a w own) {d : Nat} {v : Value} {x : SV} (hd : d < σ.n) (hv : OkS w own σ v x) :
    Inv w0 own0 (σ.setS d x) (a.put (some d) v) w own := by
  have hs : SameRoots σ (σ.setS d x) := ⟨rfl, rfl⟩
  refine { h with noff := h.noff, nf := h.nf, tsz := ?_, dfr := h.dfr, slots := ?_, boxes := ?_, arrs := h.arrs }
  · simp [Act.put, h.tsz, AS.setS]
  · intro t
    rw [put_getD a d t v (by rw [h.tsz]; exact hd), setS_s]
    by_cases ht : t = d
    · rw [if_pos ht, if_pos ht]; exact hv.same hs
    · rw [if_neg ht, if_neg ht]; exact (h.slots t).same hs
  · intro b hb
    exact (h.boxes b hb).same hs

end Go.Mh
