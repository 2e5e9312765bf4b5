/- Results let go, references in boxes, appends of rows that own memory. No condition. -/
import Derived.Test.YtkmacjdigkaabaaGreatGc
set_option linter.unusedVariables false
set_option linter.unusedSimpArgs false
set_option linter.unnecessarySimpa false
namespace Go.Mh
open Go

/-! ### a contract with results that are let go -/
inductive FzT : T → T → Prop where
  | sc (t : T) (h : t.sc = true) : FzT t t
  | fz {t t' : T} (hz : Fz t t') : FzT t (.fz t')
inductive FzL : List T → List T → Prop where
  | nil : FzL [] []
  | cons {t t' : T} {l l' : List T} (h : FzT t t') (hs : FzL l l') : FzL (t :: l) (t' :: l')
inductive FzP : PV → PV → Prop where
  | one {t t' : T} (h : FzT t t') : FzP (.one t) (.one t')
  | agg {l l' : List T} (h : FzL l l') : FzP (.agg l) (.agg l')
inductive FzPs : List PV → List PV → Prop where
  | nil : FzPs [] []
  | cons {u u' : PV} {l l' : List PV} (h : FzP u u') (hs : FzPs l l') : FzPs (u :: l) (u' :: l')
inductive FzR : PV → PV → Prop where
  | p {u u' : PV} (h : FzP u u') : FzR u u'
  | tup {l l' : List PV} (h : FzPs l l') : FzR (.tup l) (.tup l')
theorem FzL.get {l l' : List T} (h : FzL l l') : l.length = l'.length ∧ ∀ (j : Nat) t', l'[j]? = some t' → ∃ t, l[j]? = some t ∧ FzT t t' := by
  induction h with
  | nil => exact ⟨rfl, fun j t' h => by simp at h⟩
  | cons h hs ih =>
    refine ⟨by simp [ih.1], fun j t' hj => ?_⟩
    cases j with
    | zero => simp only [List.getElem?_cons_zero, Option.some.injEq] at hj; subst hj; exact ⟨_, by simp, h⟩
    | succ j => obtain ⟨t, h1, h2⟩ := ih.2 j t' (by simpa using hj); exact ⟨t, by simpa using h1, h2⟩
theorem FzPs.get {l l' : List PV} (h : FzPs l l') : l.length = l'.length ∧ ∀ (j : Nat) t', l'[j]? = some t' → ∃ t, l[j]? = some t ∧ FzP t t' := by
  induction h with
  | nil => exact ⟨rfl, fun j t' h => by simp at h⟩
  | cons h hs ih =>
    refine ⟨by simp [ih.1], fun j t' hj => ?_⟩
    cases j with
    | zero => simp only [List.getElem?_cons_zero, Option.some.injEq] at hj; subst hj; exact ⟨_, by simp, h⟩
    | succ j => obtain ⟨t, h1, h2⟩ := ih.2 j t' (by simpa using hj); exact ⟨t, by simpa using h1, h2⟩
theorem ASpec.letGo {P : Program} {f : FuncId} {args : List PV} {res res' : PV} (h : ASpec P f args res) (hz : FzR res res') : ASpec P f args res' := by
  intro w F vals hs hv
  refine (h w F vals hs hv).mono ?_
  rintro e w' ⟨v, own', rfl, hret, hres⟩
  have hRF : RR ≠ FF := by decide
  refine ⟨v, noOwn, rfl, ⟨hret.same, hret.old, fun b p hb => (by cases hb), fun b b' p hb => (by cases hb)⟩, ?_⟩
  have hf : Froz w' w' (mergeF w F own') (mergeF w F noOwn) := ⟨fun b hb _ => ⟨by unfold mergeF at *; split <;> rename_i hl; (rw [if_pos hl] at hb; exact hb); rfl, rfl⟩⟩
  have hg : ∀ k, Gone w' w' (mergeF w F own') (mergeF w F noOwn) ⟨.arr RR k, []⟩ := fun k b s hb => ⟨by
    unfold mergeF at *
    split <;> rename_i hl
    · rw [if_pos hl] at hb
      have := (ownF_some hb).2.2
      simp only [FP, Place.mk.injEq, Root.arr.injEq] at this
      exact absurd this.1.1 hRF
    · rfl, rfl⟩
  have one : ∀ {k : Nat} {v : Value} {t t' : T} {pl : Option Place}, FzT t t' → Ok w' (mergeF w F own') (some ⟨.arr RR k, []⟩) v t → Ok w' (mergeF w F noOwn) pl v t' := by
    intro k v t t' pl hz hv
    cases hz with
    | sc h0 => exact Ok.anyw hv h0
    | fz hz => exact .fz ((hv.freeze hf (hg k)).asFz hz)
  have oneP : ∀ {i : Nat} {v : Value} {u u' : PV}, FzP u u' → OkP w' (mergeF w F own') (resPl i) v u → OkP w' (mergeF w F noOwn) (resPl i) v u' := by
    intro i v u u' hz hv
    cases hz with
    | one h => exact one h hv
    | agg h =>
      obtain ⟨xs, h1, h2, h3⟩ := hv
      refine ⟨xs, h1, by rw [h2, h.get.1], fun j t' hj => ?_⟩
      obtain ⟨t, k1, k2⟩ := h.get.2 j t' hj
      exact one k2 (h3 j t k1)
  cases hz with
  | p hp =>
    cases hp with
    | one h0 => exact oneP (i := 0) (.one h0) hres
    | agg h0 => exact oneP (i := 0) (.agg h0) hres
  | tup h0 =>
    obtain ⟨xs, h1, h2, h3⟩ := hres
    refine ⟨xs, h1, by rw [h2, h0.get.1], fun i u' hu => ?_⟩
    obtain ⟨u, k1, k2⟩ := h0.get.2 i u' hu
    exact oneP k2 (h3 i u k1)

theorem call_stepC {P : Program} {o : Oper} {σ : AS} {d : Nat} (hd : o.dst = some d) (hn : d < σ.n) {f : FuncId} {xs : List Operand} {ats : Array TypeId} (ho : o.op = .call { callee := .value (.func f), args := xs.toArray, argTypes := ats }) (hc : callOk P f = true)
    {args : List PV} {res : PV} (ha : ArgVs σ xs args) (hs : ASpec P f args res) (hsm : smallR res = true) (hcl : ∀ t ∈ res.parts, Clean t) :
    Step P o σ (((σ.kill d).setRoots d res).setS d ⟨true, resVV d res⟩) := call_step hd hn ho hc ha hs hsm (.inl hcl)

/-! ### references to owned arrays, put into boxes -/
def boxC (σ : AS) : C → Bool
  | .ref ⟨.arr d k, ps⟩ => isSl (follow (σ.arr d k) ps)
  | c => plainC c
theorem boxC_solid {σ : AS} {c : C} (h : boxC σ c = true) : solidC σ c = true := by
  unfold boxC at h
  split at h
  · simpa only [solidC, AS.node] using h
  · exact plainC_solid h
theorem boxC_ok {w w' : World} {own own' : Own} {σ σ' : AS} {v : Value} {c : C} (hf : Froz w w' own own') (ha : ∀ d k, σ'.arr d k = σ.arr d k) (hk : ∀ b d k ps, own b = some ⟨.arr d k, ps⟩ → own' b = own b ∧ w'.heap[b]? = w.heap[b]?) (h : boxC σ c = true) (hc : OkC w own σ v c) : OkC w' own' σ' v c := by
  unfold boxC at h
  split at h
  · rename_i d k ps
    intro e sz n f hn
    have hn' : σ.node ⟨.arr d k, ps⟩ = .sl e sz n f := by simp only [AS.node, ha] at hn ⊢; exact hn
    rcases hc e sz n f hn' with h1 | ⟨b, cap, c, h1, h2, h3, h4, h5, h6⟩
    · exact .inl h1
    · obtain ⟨k1, k2⟩ := hk b d k ps h2
      exact .inr ⟨b, cap, c, h1, by rw [k1]; exact h2, k2.trans h3, h4, h5, h6⟩
  · exact plainC_ok hf h hc

theorem Inv.storeR1 {P : Program} {w0 own0 σ a w own} (h : Inv w0 own0 σ a w own) {d j b : Nat} {c : C} {v : Value}
    (hb : own b = some ⟨.box d, []⟩) (hj : j < (σ.box d).length) (hc : OkC w own σ v c) (hp : boxC σ c = true) :
    (store ⟨b, j, none⟩ v).run P w = .ok () (w.setCell ⟨b, j, none⟩ v) ∧ Inv w0 own0 (σ.setBox d ((σ.box d).set j c)) a (w.setCell ⟨b, j, none⟩ v) own ∧ Froz w (w.setCell ⟨b, j, none⟩ v) own own ∧ ∀ x d k ps, own x = some ⟨.arr d k, ps⟩ → own x = own x ∧ (w.setCell ⟨b, j, none⟩ v).heap[x]? = w.heap[x]? := by
  have hne : σ.box d ≠ [] := fun e => by rw [e] at hj; simp at hj
  obtain ⟨b', cc, e, g1, g2, g3, g4⟩ := h.boxes d hne
  have := h.inj _ _ _ hb g1
  subst this
  have hjc : j < cc.size := by rw [g3]; exact hj
  have hcell : w.cell? ⟨b, j, none⟩ = some (cc.getD j undef) := by simp [World.cell?, g2, Array.getD, hjc]
  have hfr : w.frozen? ⟨b, j, none⟩ = false := by simp [World.frozen?, g2]
  have hheap : ∀ k, k ≠ b → (w.setCell ⟨b, j, none⟩ v).heap[k]? = w.heap[k]? := fun k hk => by rw [heap_setCell, if_neg hk]
  have hself : (w.setCell ⟨b, j, none⟩ v).heap[b]? = some (.cells (cc.setIfInBounds j v) e (0, 0)) := by rw [heap_setCell, if_pos rfl, g2]; rfl
  have hf : Froz w (w.setCell ⟨b, j, none⟩ v) own own := ⟨fun x hx _ => ⟨hx, hheap x (fun e => by subst e; rw [hb] at hx; cases hx)⟩⟩
  have hka : ∀ x d k ps, own x = some ⟨.arr d k, ps⟩ → own x = own x ∧ (w.setCell ⟨b, j, none⟩ v).heap[x]? = w.heap[x]? := fun x d' k ps hx => ⟨rfl, hheap x (fun e => by subst e; rw [hb] at hx; simp at hx)⟩
  refine ⟨by rw [run_store P w _ v _ (hc.solid (boxC_solid hp)), hcell]; simp [hfr], ?_, hf, hka⟩
  have h1 := h.anyB d j
  have hany : ∀ x, ((σ.setBox d ((σ.box d).set j .any)).box d)[j]? = some x → x = .any := by
    intro x hx
    rw [setBox_box, if_pos rfl, List.getElem?_set] at hx
    split at hx
    · first
        | (cases hx; rfl)
        | (split at hx <;> first | (cases hx; rfl) | cases hx)
    · exact absurd rfl (by assumption)
  have hne1 : (σ.setBox d ((σ.box d).set j .any)).box d ≠ [] := by
    rw [setBox_box, if_pos rfl]
    intro e
    have := congrArg List.length e
    simp at this; exact hne this
  have h2 := h1.rawB v hb hne1 hany
  have hlt : j < ((σ.setBox d ((σ.box d).set j .any)).box d).length := by rw [setBox_box, if_pos rfl]; simpa using hj
  have hany' : ((σ.setBox d ((σ.box d).set j .any)).box d)[j]? = some .any := by
    rw [List.getElem?_eq_getElem hlt, hany _ (List.getElem?_eq_getElem hlt)]
  have hv : (cc.setIfInBounds j v).getD j undef = v := by simp [Array.getD, hjc]
  have h3 := h2.adoptB (c := c) hb hself hany' (by rw [hv]; exact boxC_ok (σ := σ) hf (fun _ _ => rfl) hka hp hc)
  have e1 : ((σ.setBox d ((σ.box d).set j .any)).setBox d (((σ.setBox d ((σ.box d).set j .any)).box d).set j c)) = σ.setBox d ((σ.box d).set j c) := by
    rw [setBox_setBox, setBox_box, if_pos rfl, List.set_set]
  rw [e1] at h3
  exact h3

theorem Inv.storesR {P : Program} {w0 own0} {a : Act} {own : Own} {d j b : Nat} (hb : own b = some ⟨.box d, []⟩) : ∀ (cs : List C) (vs : List Value) (i : Nat) (σ : AS) (w : World), Inv w0 own0 σ a w own →
    j + i + cs.length ≤ (σ.box d).length → vs.length = cs.length → (∀ (k : Nat) c, cs[k]? = some c → boxC σ c = true ∧ OkC w own σ (vs.getD k undef) c) →
    ∃ w', (storeCells ⟨b, j, none⟩ vs i).run P w = .ok () w' ∧ Inv w0 own0 (σ.setBox d (setN (σ.box d) (j + i) cs)) a w' own
  | [], vs, i, σ, w, h, _, hl, _ => by
    have : vs = [] := List.eq_nil_of_length_eq_zero hl
    subst this
    exact ⟨w, rfl, by simp only [setN, setBox_self]; exact h⟩
  | c :: cs, [], _, _, _, _, _, hl, _ => by simp at hl
  | c :: cs, v :: vs, i, σ, w, h, hlen, hl, hcs => by
    obtain ⟨hp, hc⟩ := hcs 0 c rfl
    simp only [List.length_cons] at hlen hl
    obtain ⟨k1, k2, k3, k4⟩ := h.storeR1 (P := P) (j := j + i) (c := c) (v := v) hb (by omega) (by simpa using hc) hp
    have hadd : (⟨b, j, none⟩ : Addr).add i = ⟨b, j + i, none⟩ := by unfold Addr.add; split <;> simp_all
    obtain ⟨w2, hr2, hI2⟩ := Inv.storesR (P := P) (j := j) hb cs vs (i + 1) _ _ k2 (by rw [setBox_box, if_pos rfl, List.length_set]; omega) (by omega) (fun k c' hk => by
      obtain ⟨q1, q2⟩ := hcs (k + 1) c' (by simpa using hk)
      refine ⟨?_, boxC_ok (σ := σ) k3 (fun _ _ => rfl) k4 q1 (by simpa using q2)⟩
      unfold boxC at q1 ⊢
      split <;> rename_i hx
      · exact q1
      · split at q1
        · exact absurd rfl (hx _ _ _)
        · exact q1)
    refine ⟨w2, ?_, ?_⟩
    · simp only [storeCells, Sem.run_bind, hadd, k1, Result.andThen_ok, hr2]
    · rw [setBox_setBox, setBox_box, if_pos rfl] at hI2
      simp only [setN]
      exact hI2

theorem step_store_r {P : Program} {o : Oper} {σ : AS} {t m : Nat} {x y : Operand} (hd : o.dst = none) (ho : o.op = .store t x y) (ht : cellsSz P t = some (m + 1)) {d j : Nat} (hx : σ.ev x = ⟨true, .one (.bptr d j)⟩)
    {bs : List C} (hbs : σ.box d = bs) (hj : Nat.ble (j + (m + 1)) bs.length = true) {u : V} {cs : List C} (hy : σ.ev y = ⟨true, u⟩) (hcs : u.cells = cs) (hp : cs.all (boxC σ) = true) (hl : cs.length = m + 1) :
    Step P o σ (σ.setBox d (setN bs j cs)) :=
  Step.world hd fun w0 own0 a w own hI => by
    subst hbs
    have hj' := Nat.le_of_ble_eq_true hj
    have hne : σ.box d ≠ [] := fun e => by rw [e] at hj'; simp at hj'
    obtain ⟨b, hv, hown⟩ := hI.evC hx hne
    have hb : ∀ (k : Nat) c, cs[k]? = some c → boxC σ c = true := fun k c hk => List.all_eq_true.1 hp c (List.mem_of_getElem? hk)
    obtain ⟨q1, q2⟩ := evSolid hI hy hcs (List.all_eq_true.2 fun c hc => by
      obtain ⟨k, hk⟩ := List.getElem?_of_mem hc
      exact boxC_solid (hb k c hk)) (by rw [hl]; rfl)
    have e0 : ∀ k, (a.eval y).cells.toList.getD k undef = (a.eval y).cells.getD k undef := fun k => by simp only [List.getD_eq_getElem?_getD, Array.getElem?_toList, Array.getD_eq_getD_getElem?]
    obtain ⟨w', hr, hI'⟩ := Inv.storesR (P := P) (j := j) hown cs (a.eval y).cells.toList 0 σ w hI (by omega) (by simpa using q1) (fun k c hk => ⟨hb k c hk, by rw [e0]; exact q2 k c hk⟩)
    refine ⟨w', own, ?_, by simpa using hI'⟩
    simp only [execOp, ho, hv, Instr.storeAt, Instr.sureAddr, Sem.run_bind, Sem.run_pure, Result.andThen_ok]
    rw [run_storeVar ht (by simp [q1, hl]) hr]
    rfl

/-! ### append of rows that own memory -/
end Go.Mh
