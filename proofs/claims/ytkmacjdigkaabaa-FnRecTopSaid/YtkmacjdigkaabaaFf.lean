/- Stores into boxes, and new boxes, as steps. No condition. -/
import Derived.Test.YtkmacjdigkaabaaFe
set_option linter.unusedVariables false
set_option linter.unusedSimpArgs false
set_option linter.unnecessarySimpa false
namespace Go.Mh
open Go

/-! ### what surely is one cell -/
def T.solid : T → Bool
  | .dead => false
  | .fz t => t.solid
  | _ => true
theorem Ok.solid {w own pl v t} (h : Ok w own pl v t) (ht : t.solid = true) : v.oneCell' = true := by
  induction h with
  | dead v => cases ht
  | fz h ih => exact ih ht
  | _ => rfl

def isSl : T → Bool
  | .sl .. => true
  | _ => false
def solidC (σ : AS) : C → Bool
  | .v t => t.solid
  | .ref p => isSl (σ.node p)
  | .bptr d _ => match σ.box d with | [] => false | _ :: _ => true
  | .fn .. => true
  | .nil => true
  | .fptr .. => true
  | _ => false

theorem OkC.solid {w own σ v c} (h : OkC w own σ v c) (hs : solidC σ c = true) : v.oneCell' = true := by
  cases c with
  | v t => exact Ok.solid h hs
  | own t => cases h
  | ref p =>
    simp only [solidC] at hs
    cases hn : σ.node p with
    | sl e sz n f => rcases h e sz n f hn with ⟨rfl, _⟩ | ⟨b, cap, c, rfl, _⟩ <;> rfl
    | _ => rw [hn] at hs; cases hs
  | bptr d j =>
    simp only [solidC] at hs
    have hb : σ.box d ≠ [] := fun e => by rw [e] at hs; cases hs
    obtain ⟨b, rfl, _⟩ := h hb
    rfl
  | eptr p i j => cases hs
  | sub p lo n full => cases hs
  | ifc ty p => cases hs
  | fptr e sz n f i j => obtain ⟨b, off, cap, _, _, rfl⟩ := h; rfl
  | fn f ds => obtain ⟨vs, rfl, _⟩ := h; rfl
  | nil => have h : _ = _ := h; rw [h]; rfl
  | any => cases hs

def V.cells : V → List C
  | .one c => [c]
  | .agg cs => cs
  | _ => []

theorem OkV.cell {w own σ v u i c} (h : OkV w own σ v u) (hc : u.cells[i]? = some c) : OkC w own σ (v.cells.getD i undef) c ∨ (∃ x, u = .one x ∧ i = 0 ∧ c = x ∧ OkC w own σ v x) := by
  cases u with
  | one x =>
    right
    cases i with
    | zero => simp only [V.cells, List.getElem?_cons_zero, Option.some.injEq] at hc; exact ⟨x, rfl, rfl, hc.symm, h⟩
    | succ i => simp [V.cells] at hc
  | agg cs => obtain ⟨xs, rfl, h2, h3⟩ := h; exact .inl (h3 i c hc)
  | tup vs => cases hc
  | any => cases hc

/-! ### one cell of a box is written -/
def storeC1 (σ : AS) (d j : Nat) : C → AS
  | .ref ⟨.arr d' k', []⟩ => (σ.dropB d j).moveB d j d' k'
  | c => (σ.dropB d j).setBox d (((σ.dropB d j).box d).set j (c.clr (mayUnder ⟨.box d, [(0, j)]⟩)))

/-- is it a root's whole tree that moves? -/
def storeOk1 (σ : AS) : C → Bool
  | .ref ⟨.arr d' k', []⟩ => match Nat.beq d' RR with | true => false | false => isSl (σ.arr d' k')
  | c => solidC σ c
theorem storeOk1_ref {σ : AS} {d' k' : Nat} (h : storeOk1 σ (.ref ⟨.arr d' k', []⟩) = true) : d' ≠ RR ∧ isSl (σ.arr d' k') = true := by
  simp only [storeOk1] at h
  cases hb : Nat.beq d' RR with
  | true => rw [hb] at h; cases h
  | false => rw [hb] at h; exact ⟨fun e => by subst e; simp at hb, h⟩

theorem isSl_spec {t : T} (h : isSl t = true) : ∃ e sz n f, t = .sl e sz n f := by
  cases t <;> first | exact ⟨_, _, _, _, rfl⟩ | cases h

theorem dropB_any (σ : AS) (d j : Nat) : ∀ x, ((σ.dropB d j).box d)[j]? = some x → x = .any := by
  intro x hx
  simp only [AS.dropB, setBox_box, if_pos, List.getElem?_set, List.length_map] at hx
  split at hx
  · simpa using hx.symm
  · cases hx
theorem dropB_len (σ : AS) (d j t : Nat) : ((σ.dropB d j).box t).length = (σ.box t).length := by
  simp only [AS.dropB, setBox_box]
  split
  · rename_i e; subst e; simp
  · simp [AS.mapC]
/-- boxes' blocks stay theirs -/
def BoxKept (own own' : Own) : Prop := ∀ b d, own b = some ⟨.box d, []⟩ → own' b = some ⟨.box d, []⟩
theorem BoxKept.drop (own : Own) (d j : Nat) : BoxKept own (dropOwn own ⟨.box d, [(0, j)]⟩) := fun b d' h => dropOwn_keep h (by simp [under, isPre])
theorem BoxKept.re (own : Own) (d j d' k' : Nat) : BoxKept own (reOwn own (.arr d' k') ⟨.box d, [(0, j)]⟩) := fun b x h => reOwn_keep h (by simp) (by simp [under, isPre])
theorem BoxKept.trans {a b c : Own} (h : BoxKept a b) (k : BoxKept b c) : BoxKept a c := fun x d hx => k x d (h x d hx)

/-- from a cell that holds v (of which nothing else is told) to what is told of it -/
theorem Inv.tell {w0 own0 σ a w own} (h : Inv w0 own0 σ a w own) {d j b : Nat} {c : C} {v : Value} {cc : Array Value} {e : Nat}
    (hb : own b = some ⟨.box d, []⟩) (hh : w.heap[b]? = some (.cells cc e (0, 0))) (hj : j < (σ.box d).length) (hv : cc.getD j undef = v)
    (hc : OkC w own σ v c) (hok : storeOk1 σ c = true) :
    ∃ own', Inv w0 own0 (storeC1 σ d j c) a w own' ∧ BoxKept own own' := by
  have h1 := h.dropB d j
  have hb1 : dropOwn own ⟨.box d, [(0, j)]⟩ b = some ⟨.box d, []⟩ := dropOwn_keep hb (by simp [under, isPre])
  have hany : ((σ.dropB d j).box d)[j]? = some .any := by
    have hlt : j < ((σ.dropB d j).box d).length := by rw [dropB_len]; exact hj
    rw [List.getElem?_eq_getElem hlt, dropB_any σ d j _ (List.getElem?_eq_getElem hlt)]
  have hf := dropOwn_froz w own ⟨.box d, [(0, j)]⟩
  have hk : ∀ p, mayUnder ⟨.box d, [(0, j)]⟩ p = false → KeepP w w own (dropOwn own ⟨.box d, [(0, j)]⟩) σ (σ.dropB d j) p := by
    intro p hp
    refine ⟨fun e sz n f hn => ⟨f, by rw [← dropB_node σ d j p hp]; exact hn⟩, fun t ht hb => ?_, fun _ b hb => ⟨dropOwn_keep hb (not_under hp), fun c e hc => ⟨c, hc, rfl⟩⟩⟩
    intro h0
    apply hb
    have := dropB_len σ d j t
    rw [h0] at this
    exact List.eq_nil_of_length_eq_zero this
  have hc1 : OkC w (dropOwn own ⟨.box d, [(0, j)]⟩) (σ.dropB d j) v (c.clr (mayUnder ⟨.box d, [(0, j)]⟩)) := OkC.clr hf _ hk hc
  unfold storeC1
  split
  · rename_i d' k'
    have hok := storeOk1_ref hok
    have hsl := isSl_spec (t := σ.arr d' k') hok.2
    obtain ⟨e1, sz, n, f, ht⟩ := hsl
    have e2 : C.clr (mayUnder ⟨.box d, [(0, j)]⟩) (.ref ⟨.arr d' k', []⟩) = .ref ⟨.arr d' k', []⟩ := by simp [C.clr, mayUnder, Root.beq]
    rw [e2] at hc1
    exact ⟨_, h1.moveB (e1 := e1) (sz := sz) (n := n) (f := f) hb1 hh hany (by rw [hv]; exact hc1) (by exact ht) hok.1, (BoxKept.drop _ _ _).trans (BoxKept.re _ _ _ _ _)⟩
  · exact ⟨_, h1.adoptB hb1 hh hany (by rw [hv]; exact hc1), BoxKept.drop _ _ _⟩

/-! ### several cells, one behind the other: what slot (or constant) y holds -/
theorem clr_cells (u : V) (bad : Place → Bool) : (u.clr bad).cells = u.cells.map (C.clr bad) := by cases u <;> rfl

theorem ev_mapC (σ : AS) (g : Place → Bool) (y : Operand) : (σ.mapC g).ev y = σ.ev y ∨ (σ.mapC g).ev y = (σ.ev y).clr g := by
  cases y with
  | tmp t => exact .inr rfl
  | _ => exact .inl rfl
theorem cells_getD_one (v : Value) (h : v.oneCell' = true) : v.cells = #[v] := by cases v <;> first | rfl | cases h

theorem OkV.cell_solid {w own σ v u i c} (h : OkV w own σ v u) (hc : u.cells[i]? = some c) (hs : solidC σ c = true) : OkC w own σ (v.cells.getD i undef) c := by
  rcases h.cell hc with h | ⟨x, rfl, rfl, rfl, h⟩
  · exact h
  · rw [cells_getD_one v (h.solid hs)]; exact h

/-! ### stores into a box, as steps -/
def cellsSz (P : Program) (t : TypeId) : Option Nat := (P.info? t).map (·.size)

theorem run_storeVar {P : Program} {w w' : World} {t m : Nat} {ad : Addr} {v : Value} (h : cellsSz P t = some m) (hv : v.cells.toList.length = m)
    (hr : (storeCells ad v.cells.toList).run P w = .ok () w') : (storeVar t ad v).run P w = .ok () w' := by
  simp only [cellsSz, Option.map_eq_some_iff] at h
  obtain ⟨i, hi, hs⟩ := h
  have : v.cells.size = i.size := by rw [hs, ← hv]; simp
  simp only [storeVar, Sem.run_bind, sizeOf, run_info hi, Result.andThen_ok, Sem.run_pure, this, ne_eq, not_true, if_false, hr]

theorem Step.world {P : Program} {o : Oper} {σ σ' : AS} (hd : o.dst = none)
    (h : ∀ w0 own0 a w own, Inv w0 own0 σ a w own → ∃ w' own', (execOp a.eval o).run P w = .ok .skip w' ∧ Inv w0 own0 σ' a w' own') : Step P o σ σ' := by
  intro w0 own0 a w own hI K Q hK
  obtain ⟨w', own', hr, hI'⟩ := h w0 own0 a w own hI
  unfold Oper.wp
  rw [hr]
  simp only [Oper.upon, hd, Act.put]
  exact hK _ _ _ hI'

theorem evCells_len {w0 own0 σ a w own} (hI : Inv w0 own0 σ a w own) {y : Operand} {m : Nat} (hc : (σ.ev y).c = true) (hl : (σ.ev y).v.cells.length = m) (h0 : 0 < m)
    (hs : ∀ c, (σ.ev y).v = .one c → solidC σ c = true) : ((a.eval y).cells.toList).length = m := by
  have hv : OkV w own σ (a.eval y) (σ.ev y).v := by
    have := hI.ev y
    unfold OkS at this
    rwa [if_pos hc] at this
  cases hu : (σ.ev y).v with
  | one c =>
    rw [hu] at hv hl
    rw [cells_getD_one _ (OkC.solid (c := c) hv (hs c hu))]
    simpa [V.cells] using hl
  | agg cs =>
    rw [hu] at hv hl
    obtain ⟨xs, h1, h2, h3⟩ := hv
    rw [h1]
    simpa [Value.cells, V.cells, h2] using hl
  | tup us => rw [hu] at hl; simp [V.cells] at hl; omega
  | any => rw [hu] at hl; simp [V.cells] at hl; omega

/-! ### boxes made -/
/-- what is told of a new box's cells at once -/
inductive Fresh : Value → C → Prop where
  | any (v : Value) : Fresh v .any
  | sc (t : T) (h : t.sc = true) (hf : t.fits) : Fresh t.val (.v t)
  | nil (e sz : Nat) (f : Nat → List T) : Fresh (.slice none 0 0) (.own (.sl e sz 0 f))

theorem Fresh.ok {w own σ d j v c} (h : Fresh v c) : OkCell w own σ d j v c := by
  cases h with
  | any => trivial
  | sc t ht hf => exact Ok.of_sc ht hf
  | nil e sz f => exact .nil e sz f

theorem Inv.newBox {w0 own0 σ a w own} (h : Inv w0 own0 σ a w own) (d : Nat) (hdf : d < RR) (c : Array Value) (e : Nat) (cs : List C) (hl : c.size = cs.length) (hcs : ∀ (j : Nat) x, cs[j]? = some x → Fresh (c.getD j undef) x) :
    ∃ own', Inv w0 own0 ((σ.kill d).setBox d cs) a (w.alloc (.cells c e)) own' ∧ own' w.heap.size = some ⟨.box d, []⟩ := by
  have h1 := h.kill d hdf
  let o1 := killOwn own d
  have hold : ∀ b, b < w.heap.size → (w.alloc (.cells c e)).heap[b]? = w.heap[b]? := fun b hb => heap_alloc_old w _ b hb
  have hnone : ∀ b, w.heap.size ≤ b → o1 b = none := by
    intro b hb
    cases ho : o1 b with
    | none => rfl
    | some p => have := (h1.rng b p ho).1; omega
  let own' : Own := fun b => match Nat.beq b w.heap.size with | true => some ⟨.box d, []⟩ | false => o1 b
  have hnew : own' w.heap.size = some ⟨.box d, []⟩ := by simp [own']
  have hsame : ∀ b, b ≠ w.heap.size → own' b = o1 b := fun b hb => by simp only [own', beq_false hb]
  have hf : Froz w (w.alloc (.cells c e)) o1 own' := ⟨fun b hb hlt => ⟨by rw [hsame b (by omega)]; exact hb, hold b hlt⟩⟩
  have hroot : ∀ b p, o1 b = some p → p.r.num ≠ d := fun b p hb => (killOwn_some hb).2
  have hkeep : ∀ b p, o1 b = some p → own' b = some p := fun b p hb => by
    rw [hsame b (fun e => by have := (h1.rng b p hb).1; omega)]; exact hb
  have hnode : ∀ p : Place, p.r.num ≠ d → ((σ.kill d).setBox d cs).node p = (σ.kill d).node p := fun p hp => setBox_node _ _ _ _ (fun e => hp (by rw [e]; rfl))
  have hk : ∀ p : Place, onRoot d p = false → KeepP w (w.alloc (.cells c e)) o1 own' (σ.kill d) ((σ.kill d).setBox d cs) p := by
    intro p hp
    have hpd : p.r.num ≠ d := fun e => by simp [onRoot, e] at hp
    refine ⟨fun e sz n f hn => ⟨f, by rw [← hnode p hpd]; exact hn⟩, fun t ht hb => ?_, fun _ b hb => ⟨hkeep b p hb, fun cc e' hc => ⟨cc, by rw [hold b (heap_lt hc)]; exact hc, rfl⟩⟩⟩
    subst ht
    rwa [setBox_box, if_neg (show ¬ t = d from hpd)] at hb
  -- all slots are free of d
  have hclr : ∀ t, (σ.kill d).s t = (σ.s t).clr (onRoot d) := fun t => rfl
  refine ⟨own', ?_, hnew⟩
  have htr : ∀ {v x}, OkS w o1 (σ.kill d) v x → OkS (w.alloc (.cells c e)) own' ((σ.kill d).setBox d cs) v (x.clr (onRoot d)) := fun hx => hx.clr hf _ hk
  -- a second look changes nothing
  have hcc : ∀ c : C, (c.clr (onRoot d)).clr (onRoot d) = c.clr (onRoot d) := by
    intro c
    cases c with
    | ref p => simp only [C.clr]; cases hp : onRoot d p <;> simp [hp]
    | eptr p i j => simp only [C.clr]; cases hp : onRoot d p <;> simp [hp]
    | sub p lo n full => simp only [C.clr]; cases hp : onRoot d p <;> simp [hp]
    | ifc ty p => simp only [C.clr]; cases hp : onRoot d p <;> simp [hp]
    | bptr x y => simp only [C.clr]; cases hp : onRoot d ⟨.box x, []⟩ <;> simp [hp]
    | fn f ds => simp only [C.clr]; cases hp : ds.any (fun d_1 => onRoot d ⟨.box d_1, []⟩) <;> simp [hp]
    | _ => rfl
  have hv1 : ∀ u : V, (u.clr1 (onRoot d)).clr1 (onRoot d) = u.clr1 (onRoot d) := by
    intro u
    cases u with
    | one c => simp only [V.clr1, hcc]
    | agg cs => simp only [V.clr1, List.map_map]; congr 1; exact List.map_congr_left fun c _ => hcc c
    | _ => rfl
  have hss : ∀ x : SV, (x.clr (onRoot d)).clr (onRoot d) = x.clr (onRoot d) := by
    intro x
    obtain ⟨c, u⟩ := x
    simp only [SV.clr, SV.mk.injEq, true_and]
    cases u with
    | tup vs => simp only [V.clr, List.map_map]; congr 1; exact List.map_congr_left fun c _ => hv1 c
    | one c => exact hv1 (.one c)
    | agg c => exact hv1 (.agg c)
    | any => rfl
  refine h1.trans (w' := w.alloc (.cells c e)) ⟨rfl, rfl, rfl, by simp⟩ (fun b _ hlt => hold b hlt) (fun b hb => ⟨hkeep b _ hb, hold b (h1.rng b _ hb).1⟩) h1.noff ?_ ?_ rfl (fun t ht => ?_) ?_ ?_ (Kept.of fun b k hb => ⟨hkeep b _ hb, hold b (h1.rng b _ hb).1⟩)
  · intro b b' p hb hb'
    by_cases e1 : b = w.heap.size <;> by_cases e2 : b' = w.heap.size
    · rw [e1, e2]
    · subst e1
      rw [hnew] at hb
      rw [hsame b' e2] at hb'
      cases hb
      exact absurd rfl (hroot b' _ hb')
    · subst e2
      rw [hnew] at hb'
      rw [hsame b e1] at hb
      cases hb'
      exact absurd rfl (hroot b _ hb)
    · rw [hsame b e1] at hb; rw [hsame b' e2] at hb'
      exact h1.inj b b' p hb hb'
  · intro b p hb
    by_cases e1 : b = w.heap.size
    · subst e1; exact ⟨by simp, .inr (Nat.le_refl _)⟩
    · rw [hsame b e1] at hb
      exact ⟨by have := (h1.rng b p hb).1; simp; omega, .inl (by show o1 b ≠ none; rw [hb]; simp)⟩
  · have := htr ht
    rw [hclr t, hss] at this
    exact this
  · intro t ht
    rw [setBox_box] at ht ⊢
    by_cases htd : t = d
    · subst htd
      rw [if_pos rfl] at ht ⊢
      exact ⟨w.heap.size, c, e, hnew, heap_alloc_new w _, hl, fun j x hx => (hcs j x hx).ok⟩
    · rw [if_neg htd] at ht ⊢
      obtain ⟨b, cc, e', k1, k2, k3, k4⟩ := h1.boxes t ht
      refine ⟨b, cc, e', hkeep b _ k1, by rw [hold b (heap_lt k2)]; exact k2, k3, fun j x hx => ?_⟩
      have := (k4 j x hx).clr hf _ hk (fun b s hb => ⟨hkeep b _ hb, hold b ((h1.rng b _ hb).1)⟩)
      have e0 : (σ.kill d).box t = (σ.box t).map (C.clr (onRoot d)) := by simp only [AS.kill, beq_false htd]
      rw [e0, List.getElem?_map, Option.map_eq_some_iff] at hx
      obtain ⟨x0, _, rfl⟩ := hx
      rwa [hcc] at this
  · intro t k e' sz n f ht
    obtain ⟨v, hv⟩ := h1.arrs t k e' sz n f ht
    exact ⟨v, hv.moved hf (fun b s hb => ⟨hkeep b _ hb, hold b ((h1.rng b _ hb).1)⟩)⟩

theorem Step.make {P : Program} {o : Oper} {σ σ' : AS} {d : Nat} {x : SV} (hd : o.dst = some d) (hn : d < σ'.n)
    (h : ∀ w0 own0 a w own, Inv w0 own0 σ a w own → ∃ v w' own', (execOp a.eval o).run P w = .ok (.value v) w' ∧ Inv w0 own0 σ' a w' own' ∧ OkS w' own' σ' v x) : Step P o σ (σ'.setS d x) := by
  intro w0 own0 a w own hI K Q hK
  obtain ⟨v, w', own', hr, hI', hv⟩ := h w0 own0 a w own hI
  unfold Oper.wp
  rw [hr]
  simp only [Oper.upon, hd]
  exact hK _ _ _ (hI'.put hn hv)

def zeroOf (P : Program) (t : TypeId) : Option Value := (P.info? t).bind (·.zero)
theorem run_zero {P : Program} {w : World} {t : TypeId} {z : Value} (h : zeroOf P t = some z) : (zeroValue t).run P w = .ok z w := by
  simp only [zeroOf, Option.bind_eq_some_iff] at h
  obtain ⟨i, hi, hz⟩ := h
  simp [zeroValue, run_info hi, hz]

section
variable {P : Program} {o : Oper} {σ : AS} {d : Nat} (hd : o.dst = some d) (hn : d < σ.n)
include hd hn

/-- a variable of its own, at its zero value -/
theorem step_alloc {t : TypeId} (ho : o.op = .alloc t) {z : Value} (hz : zeroOf P t = some z) (cs : List C) (hl : z.cells.size = cs.length) (hcs : ∀ (j : Nat) x, cs[j]? = some x → Fresh (z.cells.getD j undef) x) :
    Step P o σ (((σ.kill d).setBox d cs).setS d ⟨true, .one (.bptr d 0)⟩) :=
  Step.make hd hn fun w0 own0 a w own hI => by
    obtain ⟨own', hI', hnew⟩ := hI.newBox d (by have := hI.nf; omega) z.cells t cs hl hcs
    exact ⟨.pointer (some ⟨w.heap.size, 0, none⟩), _, own', by simp [execOp, ho, Instr.alloc, run_zero hz, newVar, newRow, newObj, Sem.run], hI', fun _ => ⟨_, rfl, hnew⟩⟩

end

end Go.Mh
