/- Plain stores and short-circuit words. No condition. -/
import Derived.Test.YtkmacjdigkaabaaFp
set_option linter.unusedVariables false
set_option linter.unusedSimpArgs false
set_option linter.unnecessarySimpa false
namespace Go.Mh
open Go

/-! ### plain values written into a box: nothing else turns -/
def plainC : C → Bool
  | .v t => t.solid
  | .nil => true
  | _ => false
theorem plainC_solid {σ : AS} {c : C} (h : plainC c = true) : solidC σ c = true := by
  cases c <;> first | exact h | rfl | cases h
theorem plainC_clr {c : C} {bad : Place → Bool} (h : plainC c = true) : c.clr bad = c := by
  cases c <;> first | rfl | cases h
theorem plainC_ok {w w' own own' σ σ' v c} (hf : Froz w w' own own') (h : plainC c = true) (hc : OkC w own σ v c) : OkC w' own' σ' v c := by
  cases c with
  | v t => exact Ok.frozen hc hf
  | nil => exact hc
  | _ => cases h

def setN : List C → Nat → List C → List C
  | l, _, [] => l
  | l, j, c :: cs => setN (l.set j c) (j + 1) cs
theorem setN_len : ∀ (cs l : List C) (j : Nat), (setN l j cs).length = l.length
  | [], _, _ => rfl
  | c :: cs, l, j => by simp only [setN, setN_len cs, List.length_set]
theorem setBox_self (σ : AS) (d : Nat) : σ.setBox d (σ.box d) = σ := by
  obtain ⟨n, s, b, r⟩ := σ
  simp only [AS.setBox, AS.mk.injEq, true_and, and_true]
  funext t
  cases h : Nat.beq t d with
  | true => rw [Nat.eq_of_beq_eq_true h]
  | false => rfl

/-- a cell is forgotten -/
theorem Inv.anyB {w0 own0 σ a w own} (h : Inv w0 own0 σ a w own) (d j : Nat) : Inv w0 own0 (σ.setBox d ((σ.box d).set j .any)) a w own := by
  have hn : ∀ p e sz n f, (σ.setBox d ((σ.box d).set j .any)).node p = .sl e sz n f → σ.node p = .sl e sz n f := by
    intro p e sz n f hp
    by_cases hr : p.r = .box d
    · obtain ⟨r, ps⟩ := p
      simp only at hr
      subst hr
      cases ps with
      | nil => exact hp
      | cons x ps =>
        obtain ⟨i, j'⟩ := x
        cases i with
        | succ i => exact hp
        | zero =>
          simp only [AS.node, setBox_box, if_pos, List.getElem?_set] at hp ⊢
          split at hp
          · split at hp <;> (simp only [cellTree, follow_dead] at hp; cases hp)
          · exact hp
    · rwa [setBox_node _ _ _ _ hr] at hp
  have hbx : ∀ t, (σ.setBox d ((σ.box d).set j .any)).box t ≠ [] → σ.box t ≠ [] := by
    intro t ht h0
    apply ht
    rw [setBox_box]
    split
    · rename_i e; rw [← e, h0]; rfl
    · exact h0
  have hk : ∀ p, KeepP w w own own σ (σ.setBox d ((σ.box d).set j .any)) p := fun p => ⟨fun e sz n f hp => ⟨f, hn p e sz n f hp⟩, fun t _ ht => hbx t ht, fun _ b hb => ⟨hb, fun c e hc => ⟨c, hc, rfl⟩⟩⟩
  refine h.trans ⟨rfl, rfl, rfl, Nat.le_refl _⟩ (fun _ _ _ => rfl) (fun x hx => ⟨hx, rfl⟩) h.noff h.inj (fun x p hx => ⟨(h.rng x p hx).1, .inl (by rw [hx]; simp)⟩) rfl (fun t ht => ht.keepAll hk) ?_ (fun t k e sz n f ht => h.arrs t k e sz n f ht) (Kept.of fun x k hx => ⟨hx, rfl⟩)
  intro t ht
  obtain ⟨b', c', e', h1, h2, h3, h4⟩ := h.boxes t (hbx t ht)
  rw [setBox_box]
  split
  · rename_i e; subst e
    refine ⟨b', c', e', h1, h2, by simpa using h3, fun i x hx => ?_⟩
    rw [List.getElem?_set] at hx
    split at hx
    · split at hx
      · cases hx; trivial
      · cases hx
    · exact (h4 i x hx).keepAll hk
  · exact ⟨b', c', e', h1, h2, h3, fun i x hx => (h4 i x hx).keepAll hk⟩

theorem Inv.storeP1 {P : Program} {w0 own0 σ a w own} (h : Inv w0 own0 σ a w own) {d j b : Nat} {c : C} {v : Value}
    (hb : own b = some ⟨.box d, []⟩) (hj : j < (σ.box d).length) (hc : OkC w own σ v c) (hp : plainC c = true) :
    (store ⟨b, j, none⟩ v).run P w = .ok () (w.setCell ⟨b, j, none⟩ v) ∧ Inv w0 own0 (σ.setBox d ((σ.box d).set j c)) a (w.setCell ⟨b, j, none⟩ v) own ∧ Froz w (w.setCell ⟨b, j, none⟩ v) own own := by
  have hne : σ.box d ≠ [] := fun e => by rw [e] at hj; simp at hj
  obtain ⟨b', cc, e, g1, g2, g3, g4⟩ := h.boxes d hne
  have := h.inj _ _ _ hb g1
  subst this
  have hjc : j < cc.size := by rw [g3]; exact hj
  have hcell : w.cell? ⟨b, j, none⟩ = some (cc.getD j undef) := by simp [World.cell?, g2, Array.getD, hjc]
  have hfr : w.frozen? ⟨b, j, none⟩ = false := by simp [World.frozen?, g2]
  have hheap : ∀ k, k ≠ b → (w.setCell ⟨b, j, none⟩ v).heap[k]? = w.heap[k]? := fun k hk => by rw [heap_setCell, if_neg hk]
  have hself : (w.setCell ⟨b, j, none⟩ v).heap[b]? = some (.cells (cc.setIfInBounds j v) e (0, 0)) := by rw [heap_setCell, if_pos rfl, g2]; rfl
  have hf : Froz w (w.setCell ⟨b, j, none⟩ v) own own := ⟨fun x hx _ => ⟨hx, hheap x (fun e => by subst e; rw [hb] at hx; cases hx)⟩⟩
  refine ⟨by rw [run_store P w _ v _ (hc.solid (plainC_solid hp)), hcell]; simp [hfr], ?_, hf⟩
  have h1 := h.anyB d j
  have hany : ∀ x, ((σ.setBox d ((σ.box d).set j .any)).box d)[j]? = some x → x = .any := by
    intro x hx
    rw [setBox_box, if_pos rfl, List.getElem?_set] at hx
    split at hx
    · first
        | (cases hx; rfl)
        | (split at hx <;> first | (cases hx; rfl) | cases hx)
    · exact absurd rfl (by assumption)
  have hne1 : (σ.setBox d ((σ.box d).set j .any)).box d ≠ [] := by
    rw [setBox_box, if_pos rfl]
    intro e
    have := congrArg List.length e
    simp at this; exact hne this
  have h2 := h1.rawB v hb hne1 hany
  have hlt : j < ((σ.setBox d ((σ.box d).set j .any)).box d).length := by rw [setBox_box, if_pos rfl]; simpa using hj
  have hany' : ((σ.setBox d ((σ.box d).set j .any)).box d)[j]? = some .any := by
    rw [List.getElem?_eq_getElem hlt, hany _ (List.getElem?_eq_getElem hlt)]
  have hv : (cc.setIfInBounds j v).getD j undef = v := by simp [Array.getD, hjc]
  have h3 := h2.adoptB (c := c) hb hself hany' (by rw [hv]; exact plainC_ok hf hp hc)
  have e1 : ((σ.setBox d ((σ.box d).set j .any)).setBox d (((σ.setBox d ((σ.box d).set j .any)).box d).set j c)) = σ.setBox d ((σ.box d).set j c) := by
    rw [setBox_setBox, setBox_box, if_pos rfl, List.set_set]
  rw [e1] at h3
  exact h3

theorem Inv.storesP {P : Program} {w0 own0} {a : Act} {own : Own} {d j b : Nat} (hb : own b = some ⟨.box d, []⟩) : ∀ (cs : List C) (vs : List Value) (i : Nat) (σ : AS) (w : World), Inv w0 own0 σ a w own →
    j + i + cs.length ≤ (σ.box d).length → vs.length = cs.length → (∀ (k : Nat) c, cs[k]? = some c → plainC c = true ∧ OkC w own σ (vs.getD k undef) c) →
    ∃ w', (storeCells ⟨b, j, none⟩ vs i).run P w = .ok () w' ∧ Inv w0 own0 (σ.setBox d (setN (σ.box d) (j + i) cs)) a w' own
  | [], vs, i, σ, w, h, _, hl, _ => by
    have : vs = [] := List.eq_nil_of_length_eq_zero hl
    subst this
    exact ⟨w, rfl, by simp only [setN, setBox_self]; exact h⟩
  | c :: cs, [], _, _, _, _, _, hl, _ => by simp at hl
  | c :: cs, v :: vs, i, σ, w, h, hlen, hl, hcs => by
    obtain ⟨hp, hc⟩ := hcs 0 c rfl
    simp only [List.length_cons] at hlen hl
    obtain ⟨k1, k2, k3⟩ := h.storeP1 (P := P) (j := j + i) (c := c) (v := v) hb (by omega) (by simpa using hc) hp
    have hadd : (⟨b, j, none⟩ : Addr).add i = ⟨b, j + i, none⟩ := by unfold Addr.add; split <;> simp_all
    obtain ⟨w2, hr2, hI2⟩ := Inv.storesP (P := P) (j := j) hb cs vs (i + 1) _ _ k2 (by rw [setBox_box, if_pos rfl, List.length_set]; omega) (by omega) (fun k c' hk => by
      obtain ⟨q1, q2⟩ := hcs (k + 1) c' (by simpa using hk)
      exact ⟨q1, plainC_ok k3 q1 (by simpa using q2)⟩)
    refine ⟨w2, ?_, ?_⟩
    · simp only [storeCells, Sem.run_bind, hadd, k1, Result.andThen_ok, hr2]
    · rw [setBox_setBox, setBox_box, if_pos rfl] at hI2
      simp only [setN]
      exact hI2

theorem evPlain {w0 own0 σ a w own} (hI : Inv w0 own0 σ a w own) {y : Operand} {u : V} {cs : List C} (hy : σ.ev y = ⟨true, u⟩) (hcs : u.cells = cs) (hp : cs.all plainC = true) {m : Nat} (hl : cs.length = m + 1) :
    (a.eval y).cells.toList.length = cs.length ∧ ∀ (k : Nat) c, cs[k]? = some c → plainC c = true ∧ OkC w own σ ((a.eval y).cells.toList.getD k undef) c := by
  have hpl : ∀ (k : Nat) c, cs[k]? = some c → plainC c = true := fun k c hk => List.all_eq_true.1 hp c (List.mem_of_getElem? hk)
  have hv := hI.evV hy
  refine ⟨?_, fun k c hk => ⟨hpl k c hk, ?_⟩⟩
  · rw [hl]
    refine evCells_len hI (by rw [hy]) (by rw [hy]; show u.cells.length = m + 1; rw [hcs, hl]) (by omega) (fun c hc => ?_)
    rw [hy] at hc
    have hc' : u = .one c := hc
    subst hc'
    have : cs[0]? = some c := by rw [← hcs]; rfl
    exact plainC_solid (hpl 0 c this)
  · have := hv.cell_solid (i := k) (c := c) (by rw [hcs]; exact hk) (plainC_solid (hpl k c hk))
    have e : (a.eval y).cells.toList.getD k undef = (a.eval y).cells.getD k undef := by
      simp only [List.getD_eq_getElem?_getD, Array.getElem?_toList, Array.getD_eq_getD_getElem?]
    rw [e]
    exact this

theorem step_store_p {P : Program} {o : Oper} {σ : AS} {t m : Nat} {x y : Operand} (hd : o.dst = none) (ho : o.op = .store t x y) (ht : cellsSz P t = some (m + 1)) {d j : Nat} (hx : σ.ev x = ⟨true, .one (.bptr d j)⟩)
    {bs : List C} (hbs : σ.box d = bs) (hj : Nat.ble (j + (m + 1)) bs.length = true) {u : V} {cs : List C} (hy : σ.ev y = ⟨true, u⟩) (hcs : u.cells = cs) (hp : cs.all plainC = true) (hl : cs.length = m + 1) :
    Step P o σ (σ.setBox d (setN bs j cs)) :=
  Step.world hd fun w0 own0 a w own hI => by
    subst hbs
    have hj' := Nat.le_of_ble_eq_true hj
    have hne : σ.box d ≠ [] := fun e => by rw [e] at hj'; simp at hj'
    obtain ⟨b, hv, hown⟩ := hI.evC hx hne
    obtain ⟨hxs, hcc⟩ := evPlain hI hy hcs hp hl
    obtain ⟨w', hr, hI'⟩ := Inv.storesP (P := P) (j := j) hown cs (a.eval y).cells.toList 0 σ w hI (by omega) hxs hcc
    refine ⟨w', own, ?_, by simpa using hI'⟩
    simp only [execOp, ho, hv, Instr.storeAt, Instr.sureAddr, Sem.run_bind, Sem.run_pure, Result.andThen_ok, run_storeVar ht (by rw [hxs, hl]) hr]

theorem setN_all : ∀ (cs pre l : List C), l.length = cs.length → setN (pre ++ l) pre.length cs = pre ++ cs
  | [], pre, l, h => by have : l = [] := List.eq_nil_of_length_eq_zero h; subst this; rfl
  | c :: cs, pre, [], h => by simp at h
  | c :: cs, pre, x :: l, h => by
    simp only [setN]
    have e : (pre ++ x :: l).set pre.length c = (pre ++ [c]) ++ l := by simp
    have := setN_all cs (pre ++ [c]) l (by simpa using h)
    rw [e]
    simp only [List.length_append, List.length_cons, List.length_nil, Nat.zero_add] at this
    rw [this]
    simp

/-- from cells of which nothing is told to what is told of them -/
theorem Inv.adoptN {w0 own0} {a : Act} {w : World} {own : Own} {d b : Nat} {cc : Array Value} {e : Nat} (hb : own b = some ⟨.box d, []⟩) (hh : w.heap[b]? = some (.cells cc e (0, 0))) :
    ∀ (cs : List C) (j : Nat) (σ : AS), Inv w0 own0 σ a w own → (∀ i, i < cs.length → (σ.box d)[j + i]? = some .any) → (∀ (k : Nat) c, cs[k]? = some c → plainC c = true ∧ OkC w own σ (cc.getD (j + k) undef) c) →
    Inv w0 own0 (σ.setBox d (setN (σ.box d) j cs)) a w own
  | [], j, σ, h, _, _ => by simp only [setN, setBox_self]; exact h
  | c :: cs, j, σ, h, hany, hcs => by
    obtain ⟨hp, hc⟩ := hcs 0 c rfl
    have h1 := h.adoptB (c := c) hb hh (by simpa using hany 0 (by simp)) (by simpa using hc)
    have hf : Froz w w own own := ⟨fun _ hb _ => ⟨hb, rfl⟩⟩
    have h2 := Inv.adoptN hb hh cs (j + 1) _ h1 (fun i hi => by
      rw [setBox_box, if_pos rfl, List.getElem?_set, if_neg (by omega)]
      have := hany (i + 1) (by simp; omega)
      rwa [show j + (i + 1) = j + 1 + i by omega] at this) (fun k c' hk => by
      obtain ⟨q1, q2⟩ := hcs (k + 1) c' (by simpa using hk)
      exact ⟨q1, plainC_ok hf q1 (by rwa [show j + (k + 1) = j + 1 + k by omega] at q2)⟩)
    rw [setBox_setBox, setBox_box, if_pos rfl] at h2
    exact h2

theorem kill_ev (σ : AS) (d : Nat) (x : List C) (y : Operand) : ((σ.kill d).setBox d x).ev y = σ.ev y ∨ ((σ.kill d).setBox d x).ev y = (σ.ev y).clr (onRoot d) := by
  cases y with
  | tmp t => exact .inr rfl
  | _ => exact .inl rfl

/-- a variable of its own that begins with plain values -/
theorem step_box_p {P : Program} {o : Oper} {σ : AS} {d : Nat} (hd : o.dst = some d) (hn : d < σ.n) {t : TypeId} {y : Operand} {m : Nat} (ho : o.op = .box t y) {u : V} {cs : List C} (hy : σ.ev y = ⟨true, u⟩) (hcs : u.cells = cs)
    (hp : cs.all plainC = true) (hl : cs.length = m + 1) : Step P o σ (((σ.kill d).setBox d cs).setS d ⟨true, .one (.bptr d 0)⟩) := by
  refine Step.make hd hn fun w0 own0 a w own hI => ?_
  obtain ⟨hxs, _⟩ := evPlain hI hy hcs hp hl
  obtain ⟨own', hI', hnew⟩ := hI.newBox d (by have := hI.nf; omega) (a.eval y).cells t (List.replicate (m + 1) .any) (by rw [List.length_replicate, ← hl, ← hxs]; simp)
    (fun j x hx => by rw [List.getElem?_replicate] at hx; split at hx <;> cases hx; exact .any _)
  have hcl : cs.map (C.clr (onRoot d)) = cs := by
    conv => rhs; rw [← List.map_id cs]
    exact List.map_congr_left fun c hc => plainC_clr (List.all_eq_true.1 hp c hc)
  obtain ⟨u', hy', hcs'⟩ : ∃ u', ((σ.kill d).setBox d (List.replicate (m + 1) .any)).ev y = ⟨true, u'⟩ ∧ u'.cells = cs := by
    rcases kill_ev σ d (List.replicate (m + 1) .any) y with h | h
    · exact ⟨u, h.trans hy, hcs⟩
    · refine ⟨u.clr (onRoot d), by rw [h, hy]; rfl, by rw [clr_cells, hcs, hcl]⟩
  obtain ⟨_, hcc⟩ := evPlain hI' hy' hcs' hp hl
  have h2 := Inv.adoptN hnew (heap_alloc_new w (.cells (a.eval y).cells t)) cs 0 _ hI' (fun i hi => by
      rw [setBox_box, if_pos rfl, List.getElem?_replicate, if_pos (by omega)]) (fun k c hk => by
      obtain ⟨q1, q2⟩ := hcc k c hk
      refine ⟨q1, ?_⟩
      have e : (a.eval y).cells.toList.getD k undef = (a.eval y).cells.getD (0 + k) undef := by
        simp only [List.getD_eq_getElem?_getD, Array.getElem?_toList, Array.getD_eq_getD_getElem?, Nat.zero_add]
      rwa [e] at q2)
  rw [setBox_setBox, setBox_box, if_pos rfl] at h2
  have e2 : setN (List.replicate (m + 1) C.any) 0 cs = cs := setN_all cs [] (List.replicate (m + 1) C.any) (by rw [hl]; simp)
  rw [e2] at h2
  refine ⟨.pointer (some ⟨w.heap.size, 0, none⟩), _, own', ?_, h2, fun _ => ⟨_, rfl, hnew⟩⟩
  simp [execOp, ho, Instr.box, newVar, newRow, newObj, Sem.run]

/-- a variable of which nothing is told yet -/
def zeroSz (P : Program) (t : TypeId) : Option Nat := (zeroOf P t).map (·.cells.size)
theorem step_alloc_p {P : Program} {o : Oper} {σ : AS} {d : Nat} (hd : o.dst = some d) (hn : d < σ.n) {t m : Nat} (ho : o.op = .alloc t) (hz : zeroSz P t = some m) :
    Step P o σ (((σ.kill d).setBox d (List.replicate m .any)).setS d ⟨true, .one (.bptr d 0)⟩) := by
  simp only [zeroSz, Option.map_eq_some_iff] at hz
  obtain ⟨z, hz, hs⟩ := hz
  exact step_alloc hd hn ho hz _ (by simpa using hs) (fun j x hx => by rw [List.getElem?_replicate] at hx; split at hx <;> cases hx; exact .any _)

theorem step_moveV {P : Program} {o : Oper} {σ : AS} {d : Nat} (hd : o.dst = some d) (hn : d < σ.n) {x : Operand} (ho : o.op = .move x) {u : V} (hx : σ.ev x = ⟨true, u⟩) : Step P o σ (σ.setS d ⟨true, u⟩) := hx ▸ step_move hd hn ho
theorem step_assignV {P : Program} {o : Oper} {σ : AS} {d : Nat} (hd : o.dst = some d) (hn : d < σ.n) {x : Operand} (ho : o.op = .assign x) {u : V} (hx : σ.ev x = ⟨true, u⟩) : Step P o σ (σ.setS d ⟨true, u⟩) := hx ▸ step_assign hd hn ho
/-! ### '&&' and '||' -/
theorem step_and {P : Program} {o : Oper} {σ : AS} {d : Nat} (hd : o.dst = some d) (hn : d < σ.n) {c x : Operand} (ho : o.op = .pick c x (.const (.bool false))) {b b' cx : Bool} (hc : σ.ev c = ⟨true, .one (.v (.bool b))⟩)
    (hx : σ.ev x = ⟨cx, .one (.v (.bool b'))⟩) (h1 : b = true → cx = true) : Step P o σ (σ.setS d ⟨true, .one (.v (.bool (b && b')))⟩) := by
  have := step_pick (P := P) hd hn ho hc hx (y := .const (.bool false)) (b' := false) (cy := true) rfl h1 (fun _ => rfl)
  cases b <;> exact this
theorem step_or {P : Program} {o : Oper} {σ : AS} {d : Nat} (hd : o.dst = some d) (hn : d < σ.n) {c x : Operand} (ho : o.op = .pick c (.const (.bool true)) x) {b b' cx : Bool} (hc : σ.ev c = ⟨true, .one (.v (.bool b))⟩)
    (hx : σ.ev x = ⟨cx, .one (.v (.bool b'))⟩) (h1 : b = false → cx = true) : Step P o σ (σ.setS d ⟨true, .one (.v (.bool (b || b')))⟩) := by
  have := step_pick (P := P) hd hn ho hc (x := .const (.bool true)) (bx := true) (cx := true) rfl hx (fun _ => rfl) h1
  cases b <;> exact this
theorem flag1 {b w : Bool} (h : b = w) : (true && (b == w)) = true := by subst h; cases b <;> rfl
theorem flag2 {c b w : Bool} (h0 : c = true) (h : b = w) : (c && (b == w)) = true := by subst h; subst h0; cases b <;> rfl
theorem guardS {P : Program} {ops : Array Oper} {o : Oper} {rest : List Oper} {σ : AS} {K : AS → Prop} {j t d : Nat} {want cj b : Bool} {u : V} (hg : o.guard = some (j, want)) (hj : (ops[j]?).bind (·.dst) = some t) (ht : σ.s t = ⟨cj, .one (.v (.bool b))⟩)
    (hd : o.dst = some d) (hn : d < σ.n) (h : cj = true → b = want → Step P o σ (σ.setS d ⟨true, u⟩)) (hr : ARun P ops rest (σ.setS d ⟨cj && (b == want), u⟩) K) : ARun P ops (o :: rest) σ K :=
  ARun.cons (GStep.guard hg hj ht hd hn h) hr
theorem guardD {P : Program} {ops : Array Oper} {o : Oper} {rest : List Oper} {σ : AS} {K : AS → Prop} {R : List Loc} {ds : List DOp} {j t d : Nat} {want cj b : Bool} {u : V} (hg : o.guard = some (j, want)) (hj : (ops[j]?).bind (·.dst) = some t) (hm : (Loc.s t).mem R = true) (ht : σ.s t = ⟨cj, .one (.v (.bool b))⟩)
    (hd : o.dst = some d) (hn : d < σ.n) (h : ∀ τ : AS, τ.n = σ.n → (∀ l, l ∈ R → τ.at σ l) → cj = true → b = want → Step P o τ (τ.setS d ⟨true, u⟩)) (hr : DRun P ops rest ds (σ.setS d ⟨cj && (b == want), u⟩) K) : DRun P ops (o :: rest) (⟨R, [.s d], false⟩ :: ds) σ K :=
  DRun.gstep (fun τ h1 h2 => GStep.guard hg hj (rdS h2 hm ht) hd (rdN h1 hn) (h τ h1 h2)) hr

/-- conditions, in words of propositions -/
theorem nrm : (∀ (p : Prop) [Decidable p], (decide p = true) = p) ∧ (∀ (p : Prop) [Decidable p], (decide p = false) = ¬ p) ∧ (∀ {α : Type} [BEq α] [LawfulBEq α] (a b : α), (a == b) = true ↔ a = b) ∧ (∀ {α : Type} [BEq α] [LawfulBEq α] (a b : α), (a != b) = true ↔ a ≠ b) ∧
    (∀ b : Bool, ((!b) = true) = (b = false)) ∧ (∀ b : Bool, ((!b) = false) = (b = true)) ∧ (∀ a b : Bool, ((a && b) = true) = (a = true ∧ b = true)) ∧ (∀ a b : Bool, ((a || b) = true) = (a = true ∨ b = true)) ∧ (∀ a b : Bool, (a && b) = false ↔ a = false ∨ b = false) ∧ (∀ a b : Bool, (a || b) = false ↔ a = false ∧ b = false) ∧
    (∀ a b : Int, ¬ a < b ↔ b ≤ a) ∧ (∀ a b : Int, ¬ a ≤ b ↔ b < a) ∧ (∀ {α : Type} [LT α] {a b : α}, a > b ↔ b < a) ∧ (∀ {α : Type} [LE α] {a b : α}, a ≥ b ↔ b ≤ a) ∧ (∀ {α : Type} [BEq α] [LawfulBEq α] {a b : α}, (a != b) = false ↔ a = b) ∧ (∀ {α : Type} [BEq α] [LawfulBEq α] {a b : α}, (a == b) = false ↔ a ≠ b) ∧ (∀ {α : Type} (a b : α), (a ≠ b) = ¬ a = b) ∧ ∀ n : Nat, ((n : Int).toNat) = n :=
  ⟨fun p _ => by simp, fun p _ => by simp, fun a b => by simp, fun a b => by simp, fun b => by cases b <;> simp, fun b => by cases b <;> simp, fun a b => by cases a <;> cases b <;> simp, fun a b => by cases a <;> cases b <;> simp, fun a b => by cases a <;> cases b <;> simp, fun a b => by cases a <;> cases b <;> simp, fun a b => Int.not_lt, fun a b => Int.not_le, Iff.rfl, Iff.rfl, fun {α} _ _ a b => by simp, fun {α} _ _ a b => by simp, fun a b => rfl, fun n => by simp⟩

end Go.Mh
