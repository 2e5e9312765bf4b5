/- Stores into owned arrays as steps. No condition. -/
import Derived.Test.YtkmacjdigkaabaaFh
set_option linter.unusedVariables false
set_option linter.unusedSimpArgs false
set_option linter.unnecessarySimpa false
namespace Go.Mh
open Go

theorem setCell_same (w : World) (b o : Nat) (v : Value) (h : w.cell? ⟨b, o, none⟩ = some v) : w.setCell ⟨b, o, none⟩ v = w := by
  obtain ⟨heap, tape, drawn, os, output⟩ := w
  simp only [World.cell?] at h
  simp only [World.setCell, World.mk.injEq, and_true]
  apply Array.ext_getElem?
  intro k
  rw [Array.getElem?_modify]
  split
  · rename_i e
    subst e
    cases hb : heap[b]? with
    | none => rfl
    | some x =>
      rw [hb] at h
      cases x with
      | cells c e fr =>
        simp only [Option.isSome_none, Bool.false_eq_true, if_false] at h
        simp only [Option.map_some, Option.isSome_none, Bool.false_eq_true, if_false]
        congr 2
        apply Array.ext_getElem?
        intro l
        rw [Array.getElem?_setIfInBounds]
        split
        · rename_i e; subst e
          have : o < c.size := (Array.getElem?_eq_some_iff.1 h).1
          rw [if_pos this, h]
        · rfl
      | _ => simp at h
  · rfl

def toT : C → T
  | .v (.sl e sz n f) => .fz (.sl e sz n f)
  | .v t => t
  | .nil => .nl
  | _ => .dead
theorem toT_noSl (c : C) : noSl (toT c) = true := by
  cases c with
  | v t => cases t <;> rfl
  | _ => rfl
theorem toT_ok {w own σ v c} (h : OkC w own σ v c) : Ok w own none v (toT c) := by
  cases c with
  | v t => cases t with
    | sl e sz n f => exact .fz h
    | _ => exact h
  | nil => have h' : v = .slice none 0 0 := h; rw [h']; exact .nl
  | _ => exact .dead _

def storeA1 (σ : AS) (p : Place) (i j : Nat) (c : C) : AS :=
  match σ.node p with
  | .sl e sz n f => match c with
    | .ref ⟨.arr d' k', []⟩ => σ.moveA p i j d' k'
    | c => σ.updNode p (.sl e sz n (setRow f i j (toT c)))
  | _ => σ

def storeOkA (σ : AS) (p : Place) : C → Bool
  | .ref ⟨.arr d' k', []⟩ => isSl (σ.arr d' k') && (!p.r.beq (.arr d' k') && !Nat.beq d' RR)
  | c => solidC σ c

theorem storeOkA_solid {σ : AS} {p : Place} {c : C} (h : storeOkA σ p c = true) : solidC σ c = true := by
  unfold storeOkA at h
  split at h
  · simp only [Bool.and_eq_true] at h; simpa only [solidC, AS.node, follow] using h.1
  · exact h

theorem mapC_goneArr_node (σ : AS) (bad : Place → Bool) (g : Nat → Nat → Bool) (p : Place) (h : goneP g p = false) : ((σ.mapC bad).goneArr g).node p = σ.node p := by
  rw [goneArr_node _ _ _ h, mapC_node]

/-- the abstract side of a write into an array's cell: the cell holds v in the world w' -/
theorem Inv.tellA {w0 own0 σ a w own} (h : Inv w0 own0 σ a w own) {p : Place} {b e sz n i j : Nat} {f : Nat → List T} (hn : σ.node p = .sl e sz n f) (hb : own b = some p) (hi : i < n) (hj : j < sz) {v : Value} {c : C}
    (hc : OkC w own σ v c) (hok : storeOkA σ p c = true) :
    ∃ own', Inv w0 own0 (storeA1 σ p i j c) a (w.setCell ⟨b, i * sz + j, none⟩ v) own' ∧ own' b = some p ∧ ∃ g, (storeA1 σ p i j c).node p = .sl e sz n g := by
  unfold storeA1
  rw [hn]
  simp only
  split
  · rename_i d' k'
    simp only [storeOkA, Bool.and_eq_true, Bool.not_eq_true'] at hok
    obtain ⟨e1, sz1, n1, f1, ht⟩ := isSl_spec hok.1
    have hr : p.r ≠ .arr d' k' := fun e => by rw [e, Root.beq_refl] at hok; exact absurd hok.2.1 (by simp)
    have hdr : d' ≠ RR := fun e => by subst e; have := hok.2.2; simp at this
    have h1 := h.rawA (w := w) hn hb hi hj (v := v) (t := .dead) (.dead v) rfl
    have hheap : ∀ k, k ≠ b → (w.setCell ⟨b, i * sz + j, none⟩ v).heap[k]? = w.heap[k]? := fun k hk => by rw [heap_setCell, if_neg hk]
    obtain ⟨cap, hokk⟩ := ptr_block h hn hb (by omega)
    have hcell : (w.setCell ⟨b, i * sz + j, none⟩ v).cell? ⟨b, i * sz + j, none⟩ = some v := by
      cases hokk with
      | osl ho hh hs hn' hcap hl hr' =>
        have hlt := hs.lt hn' (mul_add_lt hi hj)
        simp [World.cell?, heap_setCell, hh, hlt]
    have hnode1 : (σ.updNode p (.sl e sz n (setRow f i j .dead))).node p = .sl e sz n (setRow f i j .dead) := updNode_self σ p _ hn
    have harr : (σ.updNode p (.sl e sz n (setRow f i j .dead))).arr d' k' = σ.arr d' k' := by
      obtain ⟨r, ps⟩ := p
      cases r with
      | arr d k =>
        simp only [AS.updNode, setArr_arr]
        rw [if_neg]
        rintro ⟨rfl, rfl⟩
        exact hr rfl
      | box d => cases ps with
        | nil => rfl
        | cons x ps => obtain ⟨i, j⟩ := x; cases i <;> rfl
    have hf : Froz w (w.setCell ⟨b, i * sz + j, none⟩ v) own own := ⟨fun x hx _ => ⟨hx, hheap x (fun e => by subst e; rw [hb] at hx; cases hx)⟩⟩
    have hc1 : OkC (w.setCell ⟨b, i * sz + j, none⟩ v) own (σ.updNode p (.sl e sz n (setRow f i j .dead))) v (.ref ⟨.arr d' k', []⟩) := by
      refine OkC.change hf (fun q hq => ?_) hc
      simp only [C.places, List.mem_singleton] at hq
      subst hq
      refine ⟨fun e' sz' n' f' hnn => ⟨f', ?_⟩, (fun d hd _ => by cases hd), fun _ x hx => ⟨hx, fun c e' hc' => ⟨c, ?_, rfl⟩⟩⟩
      · simp only [AS.node, follow, harr] at hnn ⊢; exact hnn
      · rw [hheap x (fun e => by subst e; rw [hb] at hx; cases hx; exact hr rfl)]; exact hc'
    have h2 := h1.moveA (i := i) (j := j) (d' := d') (k' := k') hnode1 hb hi hj hr hcell hc1 (e1 := e1) (sz1 := sz1) (n1 := n1) (f1 := f1) (by rw [harr]; exact ht) hdr
    have heq : (σ.updNode p (.sl e sz n (setRow f i j .dead))).moveA p i j d' k' = σ.moveA p i j d' k' := by
      unfold AS.moveA
      rw [hnode1, hn]
      simp only [harr, updNode_updNode σ p _ _ hn, setRow_setRow]
    rw [heq] at h2
    refine ⟨_, h2, reOwn_keep hb hr ?_, setRow f i j (.sl e1 sz1 n1 f1), ?_⟩
    · cases hu : under (p.push i j) p with
      | false => rfl
      | true =>
        obtain ⟨s, hs⟩ := under_split hu
        have := congrArg (fun p : Place => p.p.length) hs
        simp [Place.push] at this
    · unfold AS.moveA
      rw [hn]
      simp only
      rw [mapC_goneArr_node _ _ _ _ (goneP_root hr), updNode_self σ p _ hn, ht]
  · skip
    exact ⟨own, h.rawA hn hb hi hj (toT_ok hc) (toT_noSl c), hb, setRow f i j (toT c), updNode_self σ p _ hn⟩

theorem Inv.storeA {P : Program} {w0 own0 σ a w own} (h : Inv w0 own0 σ a w own) {p : Place} {b e sz n i j : Nat} {f : Nat → List T} (hn : σ.node p = .sl e sz n f) (hb : own b = some p) (hi : i < n) (hj : j < sz) {v : Value} {c : C}
    (hc : OkC w own σ v c) (hok : storeOkA σ p c = true) :
    (store ⟨b, i * sz + j, none⟩ v).run P w = .ok () (w.setCell ⟨b, i * sz + j, none⟩ v) ∧ ∃ own', Inv w0 own0 (storeA1 σ p i j c) a (w.setCell ⟨b, i * sz + j, none⟩ v) own' ∧ own' b = some p ∧ ∃ g, (storeA1 σ p i j c).node p = .sl e sz n g := by
  obtain ⟨cap, hokk⟩ := ptr_block h hn hb (by omega)
  obtain ⟨x, hx, _⟩ := hokk.cell hi hj
  have hfr : w.frozen? ⟨b, i * sz + j, none⟩ = false := by
    cases hokk with
    | osl ho hh hs hn' hcap hl hr' => simp [World.frozen?, hh]
  exact ⟨by rw [run_store P w _ v _ (hc.solid (storeOkA_solid hok)), hx]; simp [hfr], h.tellA hn hb hi hj hc hok⟩

/-! ### several cells of a row -/
def storeNA (p : Place) (i j : Nat) (y : Operand) : Nat → Nat → AS → AS
  | 0, _, σ => σ
  | m + 1, l, σ => match (σ.ev y).v.cells[l]? with
    | some c => storeNA p i j y m (l + 1) (storeA1 σ p i (j + l) c)
    | none => σ
def storeOkNA (p : Place) (i j : Nat) (y : Operand) : Nat → Nat → AS → Bool
  | 0, _, _ => true
  | m + 1, l, σ => match (σ.ev y).v.cells[l]? with
    | some c => storeOkA σ p c && storeOkNA p i j y m (l + 1) (storeA1 σ p i (j + l) c)
    | none => false

theorem updNode_ev (σ : AS) (p : Place) (s : T) (y : Operand) : (σ.updNode p s).ev y = σ.ev y := by
  obtain ⟨r, ps⟩ := p
  cases r with
  | arr d k => cases y <;> rfl
  | box d => cases ps with
    | nil => cases y <;> rfl
    | cons x ps => obtain ⟨i, j⟩ := x; cases i <;> cases y <;> rfl
theorem storeA1_ev (σ : AS) (p : Place) (i j : Nat) (c : C) (y : Operand) : ((storeA1 σ p i j c).ev y).c = (σ.ev y).c := by
  unfold storeA1
  split
  · split
    · unfold AS.moveA
      split
      · have e1 : ∀ (τ : AS) g, (τ.goneArr g).ev y = τ.ev y := fun τ g => by cases y <;> rfl
        rw [e1]
        rcases ev_mapC (σ.updNode p _) _ y with e | e <;> rw [e]
        · rw [updNode_ev]
        · simp only [SV.clr, updNode_ev]
      · rfl
    · rw [updNode_ev]
  · rfl
theorem storeA1_n (σ : AS) (p : Place) (i j : Nat) (c : C) : (storeA1 σ p i j c).n = σ.n := by
  have hu : ∀ s, (σ.updNode p s).n = σ.n := by
    intro s
    obtain ⟨r, ps⟩ := p
    cases r with
    | arr d k => rfl
    | box d => cases ps with
      | nil => rfl
      | cons x ps => obtain ⟨i, j⟩ := x; cases i <;> rfl
  unfold storeA1
  split
  · split
    · unfold AS.moveA
      split
      · exact hu _
      · rfl
    · exact hu _
  · rfl
theorem storeNA_n (p : Place) (i j : Nat) (y : Operand) : ∀ (m l : Nat) (σ : AS), (storeNA p i j y m l σ).n = σ.n
  | 0, _, _ => rfl
  | m + 1, l, σ => by
    simp only [storeNA]
    split
    · rw [storeNA_n p i j y m, storeA1_n]
    · rfl

theorem Inv.storeNA {P : Program} {w0 own0 a} {p : Place} {b i j : Nat} {y : Operand} {e sz n : Nat} (hi : i < n) : ∀ (m l : Nat) (σ : AS) (w : World) (own : Own) (f : Nat → List T), Inv w0 own0 σ a w own →
    own b = some p → σ.node p = .sl e sz n f → j + l + m ≤ sz → (σ.ev y).c = true → ((a.eval y).cells.toList).length = l + m → storeOkNA p i j y m l σ = true →
    ∃ w' own', (storeCells ⟨b, i * sz + j, none⟩ (((a.eval y).cells.toList).drop l) l).run P w = .ok () w' ∧ Inv w0 own0 (storeNA p i j y m l σ) a w' own' := by
  intro m
  induction m with
  | zero =>
    intro l σ w own f h hb hn hlen hc hl hok
    refine ⟨w, own, ?_, h⟩
    rw [List.drop_of_length_le (by omega)]
    rfl
  | succ m ih =>
    intro l σ w own f h hb hn hlen hc hl hok
    simp only [storeOkNA] at hok
    simp only [Mh.storeNA]
    cases hcc : (σ.ev y).v.cells[l]? with
    | none => rw [hcc] at hok; cases hok
    | some c =>
      rw [hcc] at hok
      simp only [Bool.and_eq_true] at hok
      have hv : OkV w own σ (a.eval y) (σ.ev y).v := by
        have := h.ev y
        unfold OkS at this
        rwa [if_pos hc] at this
      have hcell := hv.cell_solid hcc (storeOkA_solid hok.1)
      have hlt : l < (a.eval y).cells.toList.length := by omega
      have hdrop : (a.eval y).cells.toList.drop l = (a.eval y).cells.getD l undef :: (a.eval y).cells.toList.drop (l + 1) := by
        rw [List.drop_eq_getElem_cons hlt]
        congr 1
        have hlt' : l < (a.eval y).cells.size := by simpa using hlt
        simp [Array.getD, hlt']
      obtain ⟨hrun, own', hI', hb', g, hn'⟩ := h.storeA (P := P) (i := i) (j := j + l) hn hb hi (by omega) hcell hok.1
      have hadd : (⟨b, i * sz + j, none⟩ : Addr).add l = ⟨b, i * sz + (j + l), none⟩ := by unfold Addr.add; split <;> simp_all [Nat.add_assoc]
      obtain ⟨w2, own2, hrun2, hI2⟩ := ih (l + 1) _ _ own' g hI' hb' hn' (by omega) (by rw [storeA1_ev]; exact hc) (by omega) hok.2
      refine ⟨w2, own2, ?_, hI2⟩
      rw [hdrop]
      simp only [storeCells, Sem.run_bind, hadd, hrun, Result.andThen_ok, hrun2]

theorem storeOkNA_solid {p : Place} {i j m : Nat} {y : Operand} {σ : AS} (h : storeOkNA p i j y (m + 1) 0 σ = true) : ∀ c, (σ.ev y).v = .one c → solidC σ c = true := by
  intro c hu
  simp only [storeOkNA, hu, V.cells, List.getElem?_cons_zero, Bool.and_eq_true] at h
  exact storeOkA_solid h.1

theorem step_store_e {P : Program} {o : Oper} {σ : AS} {t m : Nat} {x y : Operand} (hd : o.dst = none) (ho : o.op = .store t x y) (ht : cellsSz P t = some (m + 1)) {p : Place} {i j e sz n : Nat} {f : Nat → List T}
    (hx : σ.ev x = ⟨true, .one (.eptr p i j)⟩) (hp : σ.node p = .sl e sz n f) (hi : i < n) (hj : j + (m + 1) ≤ sz) (hc : (σ.ev y).c = true) (hl : (σ.ev y).v.cells.length = m + 1) (hok : storeOkNA p i j y (m + 1) 0 σ = true) :
    Step P o σ (storeNA p i j y (m + 1) 0 σ) :=
  Step.world hd fun w0 own0 a w own hI => by
    obtain ⟨b, hv, hown⟩ := hI.evC hx e sz n f hp
    have hxs := evCells_len hI hc hl (by omega) (storeOkNA_solid hok)
    obtain ⟨w', own', hr, hI'⟩ := Inv.storeNA (P := P) hi (m + 1) 0 σ w own f hI hown hp (by omega) hc (by omega) hok
    rw [List.drop_zero] at hr
    refine ⟨w', own', ?_, hI'⟩
    simp only [execOp, ho, hv, Instr.storeAt, Instr.sureAddr, Sem.run_bind, Sem.run_pure, Result.andThen_ok, run_storeVar ht hxs hr]

end Go.Mh
