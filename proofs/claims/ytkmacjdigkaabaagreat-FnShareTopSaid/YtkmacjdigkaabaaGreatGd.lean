/- Results let go, references in boxes, appends of rows that own memory. No condition. -/
import Derived.Test.YtkmacjdigkaabaaGreatGc
set_option linter.unusedVariables false
set_option linter.unusedSimpArgs false
set_option linter.unnecessarySimpa false
namespace Go.Mh
open Go

/-! ### a contract with results that are let go -/
inductive FzT : T → T → Prop where
  | sc (t : T) (h : t.sc = true) : FzT t t
  | fz {t t' : T} (hz : Fz t t') : FzT t (.fz t')
inductive FzL : List T → List T → Prop where
  | nil : FzL [] []
  | cons {t t' : T} {l l' : List T} (h : FzT t t') (hs : FzL l l') : FzL (t :: l) (t' :: l')
inductive FzP : PV → PV → Prop where
  | one {t t' : T} (h : FzT t t') : FzP (.one t) (.one t')
  | agg {l l' : List T} (h : FzL l l') : FzP (.agg l) (.agg l')
inductive FzPs : List PV → List PV → Prop where
  | nil : FzPs [] []
  | cons {u u' : PV} {l l' : List PV} (h : FzP u u') (hs : FzPs l l') : FzPs (u :: l) (u' :: l')
inductive FzR : PV → PV → Prop where
  | p {u u' : PV} (h : FzP u u') : FzR u u'
  | tup {l l' : List PV} (h : FzPs l l') : FzR (.tup l) (.tup l')
theorem FzL.get {l l' : List T} (h : FzL l l') : l.length = l'.length ∧ ∀ (j : Nat) t', l'[j]? = some t' → ∃ t, l[j]? = some t ∧ FzT t t' := by
  induction h with
  | nil => exact ⟨rfl, fun j t' h => by simp at h⟩
  | cons h hs ih =>
    refine ⟨by simp [ih.1], fun j t' hj => ?_⟩
    cases j with
    | zero => simp only [List.getElem?_cons_zero, Option.some.injEq] at hj; subst hj; exact ⟨_, by simp, h⟩
    | succ j => obtain ⟨t, h1, h2⟩ := ih.2 j t' (by simpa using hj); exact ⟨t, by simpa using h1, h2⟩
theorem FzPs.get {l l' : List PV} (h : FzPs l l') : l.length = l'.length ∧ ∀ (j : Nat) t', l'[j]? = some t' → ∃ t, l[j]? = some t ∧ FzP t t' := by
  induction h with
  | nil => exact ⟨rfl, fun j t' h => by simp at h⟩
  | cons h hs ih =>
    refine ⟨by simp [ih.1], fun j t' hj => ?_⟩
    cases j with
    | zero => simp only [List.getElem?_cons_zero, Option.some.injEq] at hj; subst hj; exact ⟨_, by simp, h⟩
    | succ j => obtain ⟨t, h1, h2⟩ := ih.2 j t' (by simpa using hj); exact ⟨t, by simpa using h1, h2⟩
theorem ASpec.letGo {P : Program} {f : FuncId} {args : List PV} {res res' : PV} (h : ASpec P f args res) (hz : FzR res res') : ASpec P f args res' := by
  intro w F vals hs hv
  refine (h w F vals hs hv).mono ?_
  rintro e w' ⟨v, own', rfl, hret, hres⟩
  have hRF : RR ≠ FF := by decide
  refine ⟨v, noOwn, rfl, ⟨hret.same, hret.old, fun b p hb => (by cases hb), fun b b' p hb => (by cases hb)⟩, ?_⟩
  have hf : Froz w' w' (mergeF w F own') (mergeF w F noOwn) := ⟨fun b hb _ => ⟨by unfold mergeF at *; split <;> rename_i hl; (rw [if_pos hl] at hb; exact hb); rfl, rfl⟩⟩
  have hg : ∀ k, Gone w' w' (mergeF w F own') (mergeF w F noOwn) ⟨.arr RR k, []⟩ := fun k b s hb => ⟨by
    unfold mergeF at *
    split <;> rename_i hl
    · rw [if_pos hl] at hb
      have := (ownF_some hb).2.2
      simp only [FP, Place.mk.injEq, Root.arr.injEq] at this
      exact absurd this.1.1 hRF
    · rfl, rfl⟩
  have one : ∀ {k : Nat} {v : Value} {t t' : T} {pl : Option Place}, FzT t t' → Ok w' (mergeF w F own') (some ⟨.arr RR k, []⟩) v t → Ok w' (mergeF w F noOwn) pl v t' := by
    intro k v t t' pl hz hv
    cases hz with
    | sc h0 => exact Ok.anyw hv h0
    | fz hz => exact .fz ((hv.freeze hf (hg k)).asFz hz)
  have oneP : ∀ {i : Nat} {v : Value} {u u' : PV}, FzP u u' → OkP w' (mergeF w F own') (resPl i) v u → OkP w' (mergeF w F noOwn) (resPl i) v u' := by
    intro i v u u' hz hv
    cases hz with
    | one h => exact one h hv
    | agg h =>
      obtain ⟨xs, h1, h2, h3⟩ := hv
      refine ⟨xs, h1, by rw [h2, h.get.1], fun j t' hj => ?_⟩
      obtain ⟨t, k1, k2⟩ := h.get.2 j t' hj
      exact one k2 (h3 j t k1)
  cases hz with
  | p hp =>
    cases hp with
    | one h0 => exact oneP (i := 0) (.one h0) hres
    | agg h0 => exact oneP (i := 0) (.agg h0) hres
  | tup h0 =>
    obtain ⟨xs, h1, h2, h3⟩ := hres
    refine ⟨xs, h1, by rw [h2, h0.get.1], fun i u' hu => ?_⟩
    obtain ⟨u, k1, k2⟩ := h0.get.2 i u' hu
    exact oneP k2 (h3 i u k1)

theorem call_stepC {P : Program} {o : Oper} {σ : AS} {d : Nat} (hd : o.dst = some d) (hn : d < σ.n) {f : FuncId} {xs : List Operand} {ats : Array TypeId} (ho : o.op = .call { callee := .value (.func f), args := xs.toArray, argTypes := ats }) (hc : callOk P f = true)
    {args : List PV} {res : PV} (ha : ArgVs σ xs args) (hs : ASpec P f args res) (hsm : smallR res = true) (hcl : ∀ t ∈ res.parts, Clean t) :
    Step P o σ (((σ.kill d).setRoots d res).setS d ⟨true, resVV d res⟩) := call_step hd hn ho hc ha hs hsm (.inl hcl)

/-! ### references to owned arrays, put into boxes -/
def boxC (σ : AS) : C → Bool
  | .ref ⟨.arr d k, ps⟩ => isSl (follow (σ.arr d k) ps)
  | c => plainC c
theorem boxC_solid {σ : AS} {c : C} (h : boxC σ c = true) : solidC σ c = true := by
  unfold boxC at h
  split at h
  · simpa only [solidC, AS.node] using h
  · exact plainC_solid h
theorem boxC_ok {w w' : World} {own own' : Own} {σ σ' : AS} {v : Value} {c : C} (hf : Froz w w' own own') (ha : ∀ d k, σ'.arr d k = σ.arr d k) (hk : ∀ b d k ps, own b = some ⟨.arr d k, ps⟩ → own' b = own b ∧ w'.heap[b]? = w.heap[b]?) (h : boxC σ c = true) (hc : OkC w own σ v c) : OkC w' own' σ' v c := by
  unfold boxC at h
  split at h
  · rename_i d k ps
    intro e sz n f hn
    have hn' : σ.node ⟨.arr d k, ps⟩ = .sl e sz n f := by simp only [AS.node, ha] at hn ⊢; exact hn
    rcases hc e sz n f hn' with h1 | ⟨b, cap, c, h1, h2, h3, h4, h5, h6⟩
    · exact .inl h1
    · obtain ⟨k1, k2⟩ := hk b d k ps h2
      exact .inr ⟨b, cap, c, h1, by rw [k1]; exact h2, k2.trans h3, h4, h5, h6⟩
  · exact plainC_ok hf h hc

theorem Inv.storeR1 {P : Program} {w0 own0 σ a w own} (h : Inv w0 own0 σ a w own) {d j b : Nat} {c : C} {v : Value}
    (hb : own b = some ⟨.box d, []⟩) (hj : j < (σ.box d).length) (hc : OkC w own σ v c) (hp : boxC σ c = true) :
    (store ⟨b, j, none⟩ v).run P w = .ok () (w.setCell ⟨b, j, none⟩ v) ∧ Inv w0 own0 (σ.setBox d ((σ.box d).set j c)) a (w.setCell ⟨b, j, none⟩ v) own ∧ Froz w (w.setCell ⟨b, j, none⟩ v) own own ∧ ∀ x d k ps, own x = some ⟨.arr d k, ps⟩ → own x = own x ∧ (w.setCell ⟨b, j, none⟩ v).heap[x]? = w.heap[x]? := by
  have hne : σ.box d ≠ [] := fun e => by rw [e] at hj; simp at hj
  obtain ⟨b', cc, e, g1, g2, g3, g4⟩ := h.boxes d hne
  have := h.inj _ _ _ hb g1
  subst this
  have hjc : j < cc.size := by rw [g3]; exact hj
  have hcell : w.cell? ⟨b, j, none⟩ = some (cc.getD j undef) := by simp [World.cell?, g2, Array.getD, hjc]
  have hfr : w.frozen? ⟨b, j, none⟩ = false := by simp [World.frozen?, g2]
  have hheap : ∀ k, k ≠ b → (w.setCell ⟨b, j, none⟩ v).heap[k]? = w.heap[k]? := fun k hk => by rw [heap_setCell, if_neg hk]
  have hself : (w.setCell ⟨b, j, none⟩ v).heap[b]? = some (.cells (cc.setIfInBounds j v) e (0, 0)) := by rw [heap_setCell, if_pos rfl, g2]; rfl
  have hf : Froz w (w.setCell ⟨b, j, none⟩ v) own own := ⟨fun x hx _ => ⟨hx, hheap x (fun e => by subst e; rw [hb] at hx; cases hx)⟩⟩
  have hka : ∀ x d k ps, own x = some ⟨.arr d k, ps⟩ → own x = own x ∧ (w.setCell ⟨b, j, none⟩ v).heap[x]? = w.heap[x]? := fun x d' k ps hx => ⟨rfl, hheap x (fun e => by subst e; rw [hb] at hx; simp at hx)⟩
  refine ⟨by rw [run_store P w _ v _ (hc.solid (boxC_solid hp)), hcell]; simp [hfr], ?_, hf, hka⟩
  have h1 := h.anyB d j
  have hany : ∀ x, ((σ.setBox d ((σ.box d).set j .any)).box d)[j]? = some x → x = .any := by
    intro x hx
    rw [setBox_box, if_pos rfl, List.getElem?_set] at hx
    split at hx
    · first
        | (cases hx; rfl)
        | (split at hx <;> first | (cases hx; rfl) | cases hx)
    · exact absurd rfl (by assumption)
  have hne1 : (σ.setBox d ((σ.box d).set j .any)).box d ≠ [] := by
    rw [setBox_box, if_pos rfl]
    intro e
    have := congrArg List.length e
    simp at this; exact hne this
  have h2 := h1.rawB v hb hne1 hany
  have hlt : j < ((σ.setBox d ((σ.box d).set j .any)).box d).length := by rw [setBox_box, if_pos rfl]; simpa using hj
  have hany' : ((σ.setBox d ((σ.box d).set j .any)).box d)[j]? = some .any := by
    rw [List.getElem?_eq_getElem hlt, hany _ (List.getElem?_eq_getElem hlt)]
  have hv : (cc.setIfInBounds j v).getD j undef = v := by simp [Array.getD, hjc]
  have h3 := h2.adoptB (c := c) hb hself hany' (by rw [hv]; exact boxC_ok (σ := σ) hf (fun _ _ => rfl) hka hp hc)
  have e1 : ((σ.setBox d ((σ.box d).set j .any)).setBox d (((σ.setBox d ((σ.box d).set j .any)).box d).set j c)) = σ.setBox d ((σ.box d).set j c) := by
    rw [setBox_setBox, setBox_box, if_pos rfl, List.set_set]
  rw [e1] at h3
  exact h3

theorem Inv.storesR {P : Program} {w0 own0} {a : Act} {own : Own} {d j b : Nat} (hb : own b = some ⟨.box d, []⟩) : ∀ (cs : List C) (vs : List Value) (i : Nat) (σ : AS) (w : World), Inv w0 own0 σ a w own →
    j + i + cs.length ≤ (σ.box d).length → vs.length = cs.length → (∀ (k : Nat) c, cs[k]? = some c → boxC σ c = true ∧ OkC w own σ (vs.getD k undef) c) →
    ∃ w', (storeCells ⟨b, j, none⟩ vs i).run P w = .ok () w' ∧ Inv w0 own0 (σ.setBox d (setN (σ.box d) (j + i) cs)) a w' own
  | [], vs, i, σ, w, h, _, hl, _ => by
    have : vs = [] := List.eq_nil_of_length_eq_zero hl
    subst this
    exact ⟨w, rfl, by simp only [setN, setBox_self]; exact h⟩
  | c :: cs, [], _, _, _, _, _, hl, _ => by simp at hl
  | c :: cs, v :: vs, i, σ, w, h, hlen, hl, hcs => by
    obtain ⟨hp, hc⟩ := hcs 0 c rfl
    simp only [List.length_cons] at hlen hl
    obtain ⟨k1, k2, k3, k4⟩ := h.storeR1 (P := P) (j := j + i) (c := c) (v := v) hb (by omega) (by simpa using hc) hp
    have hadd : (⟨b, j, none⟩ : Addr).add i = ⟨b, j + i, none⟩ := by unfold Addr.add; split <;> simp_all
    obtain ⟨w2, hr2, hI2⟩ := Inv.storesR (P := P) (j := j) hb cs vs (i + 1) _ _ k2 (by rw [setBox_box, if_pos rfl, List.length_set]; omega) (by omega) (fun k c' hk => by
      obtain ⟨q1, q2⟩ := hcs (k + 1) c' (by simpa using hk)
      refine ⟨?_, boxC_ok (σ := σ) k3 (fun _ _ => rfl) k4 q1 (by simpa using q2)⟩
      unfold boxC at q1 ⊢
      split <;> rename_i hx
      · exact q1
      · split at q1
        · exact absurd rfl (hx _ _ _)
        · exact q1)
    refine ⟨w2, ?_, ?_⟩
    · simp only [storeCells, Sem.run_bind, hadd, k1, Result.andThen_ok, hr2]
    · rw [setBox_setBox, setBox_box, if_pos rfl] at hI2
      simp only [setN]
      exact hI2

theorem step_store_r {P : Program} {o : Oper} {σ : AS} {t m : Nat} {x y : Operand} (hd : o.dst = none) (ho : o.op = .store t x y) (ht : cellsSz P t = some (m + 1)) {d j : Nat} (hx : σ.ev x = ⟨true, .one (.bptr d j)⟩)
    {bs : List C} (hbs : σ.box d = bs) (hj : Nat.ble (j + (m + 1)) bs.length = true) {u : V} {cs : List C} (hy : σ.ev y = ⟨true, u⟩) (hcs : u.cells = cs) (hp : cs.all (boxC σ) = true) (hl : cs.length = m + 1) :
    Step P o σ (σ.setBox d (setN bs j cs)) :=
  Step.world hd fun w0 own0 a w own hI => by
    subst hbs
    have hj' := Nat.le_of_ble_eq_true hj
    have hne : σ.box d ≠ [] := fun e => by rw [e] at hj'; simp at hj'
    obtain ⟨b, hv, hown⟩ := hI.evC hx hne
    have hb : ∀ (k : Nat) c, cs[k]? = some c → boxC σ c = true := fun k c hk => List.all_eq_true.1 hp c (List.mem_of_getElem? hk)
    obtain ⟨q1, q2⟩ := evSolid hI hy hcs (List.all_eq_true.2 fun c hc => by
      obtain ⟨k, hk⟩ := List.getElem?_of_mem hc
      exact boxC_solid (hb k c hk)) (by rw [hl]; rfl)
    have e0 : ∀ k, (a.eval y).cells.toList.getD k undef = (a.eval y).cells.getD k undef := fun k => by simp only [List.getD_eq_getElem?_getD, Array.getElem?_toList, Array.getD_eq_getD_getElem?]
    obtain ⟨w', hr, hI'⟩ := Inv.storesR (P := P) (j := j) hown cs (a.eval y).cells.toList 0 σ w hI (by omega) (by simpa using q1) (fun k c hk => ⟨hb k c hk, by rw [e0]; exact q2 k c hk⟩)
    refine ⟨w', own, ?_, by simpa using hI'⟩
    simp only [execOp, ho, hv, Instr.storeAt, Instr.sureAddr, Sem.run_bind, Sem.run_pure, Result.andThen_ok]
    rw [run_storeVar ht (by simp [q1, hl]) hr]
    rfl

/-! ### append of rows that own memory -/
theorem Inv.turnArr2 {w0 own0 σ a w own} (h : Inv w0 own0 σ a w own) (d k d2 k2 : Nat) (hdf : d ≠ FF) (hdr : d ≠ RR) (hdf2 : d2 ≠ FF) (hdr2 : d2 ≠ RR) (t : T) {w' : World} {own' : Own} (hw : SameW w w') (hf : Froz w w' own own')
    (hout : ∀ b q, own b = some q → q.r ≠ .arr d k → q.r ≠ .arr d2 k2 → own' b = some q ∧ w'.heap[b]? = w.heap[b]?)
    (inj : ∀ b b' q, own' b = some q → own' b' = some q → b = b') (rng : ∀ b q, own' b = some q → b < w'.heap.size ∧ (own b ≠ none ∨ w.heap.size ≤ b))
    (hok : ∃ v, Ok w' own' (some ⟨.arr d k, []⟩) v t) :
    Inv w0 own0 (((σ.mapC (fun p => onArr d k p || onArr d2 k2 p)).setArr d2 k2 .dead).setArr d k t) a w' own' := by
  have hb2 : ∀ p, (onArr d k p || onArr d2 k2 p) = false → p.r ≠ .arr d k ∧ p.r ≠ .arr d2 k2 := fun p hp => by
    simp only [Bool.or_eq_false_iff] at hp
    exact ⟨onArr_false hp.1, onArr_false hp.2⟩
  have hnode : ∀ q : Place, q.r ≠ .arr d k → q.r ≠ .arr d2 k2 → (((σ.mapC (fun p => onArr d k p || onArr d2 k2 p)).setArr d2 k2 .dead).setArr d k t).node q = σ.node q := fun q hq hq2 => by rw [setArr_node _ _ _ _ _ hq, setArr_node _ _ _ _ _ hq2, mapC_node]
  have hk : ∀ q, (onArr d k q || onArr d2 k2 q) = false → KeepP w w' own own' σ (((σ.mapC (fun p => onArr d k p || onArr d2 k2 p)).setArr d2 k2 .dead).setArr d k t) q := by
    intro q hq
    obtain ⟨hr, hr2⟩ := hb2 q hq
    refine ⟨fun e sz n f hn => ⟨f, by rw [← hnode q hr hr2]; exact hn⟩, fun t _ hb h0 => hb (by simp [AS.setArr, AS.mapC, h0]), fun _ b hb => ?_⟩
    obtain ⟨h1, h2⟩ := hout b q hb hr hr2
    exact ⟨h1, fun c e hc => ⟨c, h2.trans hc, rfl⟩⟩
  have hmv : ∀ q : Place, q.r ≠ .arr d k → q.r ≠ .arr d2 k2 → Moved w w' own own' q q := fun q hq hq2 b s hb => hout b _ hb hq hq2
  refine h.trans hw (fun b hb hlt => (hf.h b hb hlt).2) (fun b hb => hout b _ hb (fun e => hdf (by simp only [FP, Root.arr.injEq] at e; exact e.1.symm)) (fun e => hdf2 (by simp only [FP, Root.arr.injEq] at e; exact e.1.symm)))
    (fun l => by rw [setArr_arr, if_neg (fun e => hdf e.1.symm), setArr_arr, if_neg (fun e => hdf2 e.1.symm)]; exact h.noff l) inj rng rfl (fun t ht => ht.clr hf _ hk) ?_ ?_
    (Kept.of fun b k' hb => hout b _ hb (fun e => hdr (by simp only [Root.arr.injEq] at e; exact e.1.symm)) (fun e => hdr2 (by simp only [Root.arr.injEq] at e; exact e.1.symm)))
  · intro t' ht
    have hne : σ.box t' ≠ [] := fun h0 => ht (by simp [AS.setArr, AS.mapC, h0])
    obtain ⟨b, c, e', h1, h2, h3, h4⟩ := h.boxes t' hne
    obtain ⟨g1, g2⟩ := hout b _ h1 (by simp) (by simp)
    refine ⟨b, c, e', g1, g2.trans h2, by simpa [AS.setArr, AS.mapC] using h3, fun i x hx => ?_⟩
    simp only [AS.setArr, AS.mapC, List.getElem?_map, Option.map_eq_some_iff] at hx
    obtain ⟨x0, hx0, rfl⟩ := hx
    exact (h4 i x0 hx0).clr hf _ hk (hmv _ (by simp) (by simp))
  · intro t' k' e sz n f ht
    rw [setArr_arr] at ht
    split at ht
    · rename_i e1
      obtain ⟨rfl, rfl⟩ := e1
      subst ht
      exact hok
    · rename_i e1
      rw [setArr_arr] at ht
      split at ht
      · cases ht
      · rename_i e2
        obtain ⟨v, hv⟩ := h.arrs t' k' e sz n f ht
        exact ⟨v, hv.moved hf (hmv _ (fun e => e1 (by simpa using e)) (fun e => e2 (by simpa using e)))⟩

theorem append_core2 {P : Program} {w : World} {own : Own} {p : Place} {v u : Value} {t ty e sz by' n m : Nat} {f g : Nat → List T} (ht : sliceT P t = some ⟨e, sz, by'⟩)
    (hinj : ∀ b b' q, own b = some q → own b' = some q → b = b') (hrng : ∀ b q, own b = some q → b < w.heap.size)
    (hx : Ok w own (some p) v (.sl e sz n f)) {ad : Addr} {c0 : Nat} {X : Nat → Value} (hu0 : u = .slice (some ad) m c0) (hX : ∀ q, q < m * sz → w.cell? (ad.add q) = some (X q)) (hgl : ∀ i, i < m → (g i).length = sz) (hXok : ∀ i j, i < m → j < sz → Ok w own (some (p.push (n + i) j)) (X (i * sz + j)) ((g i).getD j .dead) ∧ ((g i).getD j .dead).solid = true) (hb : (n + m) * by' ≤ 140737488355328) (hm : n + m ≤ 140737488355328) :
    ∃ v' w' own', (Builtin.append_ #[t, t] ty #[v, u]).run P w = .ok v' w' ∧ SameW w w' ∧ Froz w w' own own' ∧ (∀ b q, own b = some q → (∀ s, q ≠ ⟨p.r, p.p ++ s⟩) → own' b = some q ∧ w'.heap[b]? = w.heap[b]?) ∧
      (∀ b b' q, own' b = some q → own' b' = some q → b = b') ∧ (∀ b q, own' b = some q → b < w'.heap.size ∧ (own b ≠ none ∨ w.heap.size ≤ b)) ∧ Ok w' own' (some p) v' (.sl e sz (n + m) (catF n f g)) := by
  obtain ⟨hu, I, z, hi, hz, hs, hby, hzs, hsz⟩ := sliceT_spec ht
  have hself : ∀ b, own b = some p → ∀ q, own b = some q → ¬ (∀ s, q ≠ ⟨p.r, p.p ++ s⟩) := fun b hb q hq h => by
    rw [hb] at hq; cases hq
    exact h [] (by simp)
  have hcat1 : ∀ i, i < n → catF n f g i = f i := fun i hi => by simp [catF, hi]
  have hcat2 : ∀ i, ¬ i < n → catF n f g i = g (i - n) := fun i hi => by simp [catF, hi]
  subst hu0
  let news := (List.range (m * sz)).map X
  have hnl : news.length = m * sz := by simp [news]
  have hng : ∀ q, q < m * sz → news[q]? = some (X q) := fun q hq => by simp [news, hq]
  have hnews : ∀ j u, news[j]? = some u → w.cell? (ad.add j) = some u := fun j u hj => by
    have hlt : j < m * sz := by rw [← hnl]; exact (List.getElem?_eq_some_iff.1 hj).1
    rw [hng j hlt] at hj; cases hj
    exact hX j hlt
  have h1 : ∀ u ∈ news, u.oneCell' = true := fun u hu' => by
    obtain ⟨q, hq, rfl⟩ := List.mem_map.1 hu'
    have hq := List.mem_range.1 hq
    have h0 : q / sz < m := Nat.div_lt_of_lt_mul (by rw [Nat.mul_comm]; exact hq)
    obtain ⟨hok, hso⟩ := hXok (q / sz) (q % sz) h0 (Nat.mod_lt _ hsz)
    rw [show q / sz * sz + q % sz = q by rw [Nat.mul_comm]; exact Nat.div_add_mod q sz] at hok
    exact hok.solid hso
  have h63 : n + m ≤ maxLen := by simp only [maxLen]; omega
  -- the rows of a new value, from its cells
  have tell : ∀ (w' : World) (own' : Own) (b cap : Nat) (cur : Array Value) (xs : List Value), Froz w w' own own' → (∀ i j, Moved w w' own own' (p.push i j) (p.push i j)) → own' b = some p → w'.heap[b]? = some (.cells cur e (0, 0)) → cur.size = cap * sz → n + m ≤ cap → cap ≤ maxLen → xs.length = n * sz → cur.toList.take ((n + m) * sz) = xs ++ news →
      (∀ i, i < n → (f i).length = sz) → (∀ i j, i < n → j < sz → ∃ y, xs[i * sz + j]? = some y ∧ Ok w' own' (some (p.push i j)) y ((f i).getD j .dead)) → Ok w' own' (some p) (.slice (some ⟨b, 0, none⟩) (n + m) cap) (.sl e sz (n + m) (catF n f g)) := by
    intro w' own' b cap cur xs hf hmv0 hb' hh' hcs hcap hcm hxl htake hfl' hold
    have hcell : ∀ q, q < (n + m) * sz → cur.getD q undef = ((xs ++ news)[q]?).getD undef := fun q hq => by
      have hlt : q < cur.size := by rw [hcs]; exact Nat.lt_of_lt_of_le hq (Nat.mul_le_mul_right sz hcap)
      rw [← htake, List.getElem?_take, if_pos hq, Array.getD_eq_getD_getElem?, Array.getElem?_toList]
    refine .osl hb' hh' (.inl hcs) hcap hcm (fun i hi => ?_) (fun i j hi hj => ?_)
    · by_cases h : i < n
      · rw [hcat1 i h]; exact hfl' i h
      · rw [hcat2 i h]; exact hgl _ (by omega)
    · rw [hcell _ (mul_add_lt hi hj)]
      by_cases h : i < n
      · obtain ⟨y, hy1, hy2⟩ := hold i j h hj
        have hlt : i * sz + j < xs.length := by rw [hxl]; exact mul_add_lt h hj
        rw [hcat1 i h, List.getElem?_append_left hlt, hy1]
        exact hy2
      · obtain ⟨l, rfl⟩ : ∃ l, i = n + l := ⟨i - n, by omega⟩
        have hlm : l < m := by omega
        have hge : xs.length ≤ (n + l) * sz + j := by rw [hxl, Nat.add_mul]; omega
        rw [hcat2 _ h, List.getElem?_append_right hge, hxl, show (n + l) * sz + j - n * sz = l * sz + j by rw [Nat.add_mul]; omega, hng _ (mul_add_lt hlm hj), show n + l - n = l by omega]
        exact (hXok l j hlm hj).1.moved hf (hmv0 (n + l) j)
  generalize hv0 : v = v0 at hx
  cases hx with
  | nil =>
    subst hv0
    by_cases hm0 : m = 0
    · subst hm0
      refine ⟨.slice none 0 0, w, own, ?_, ⟨rfl, rfl, rfl, Nat.le_refl _⟩, ⟨fun b hb _ => ⟨hb, rfl⟩⟩, fun b q hb _ => ⟨hb, rfl⟩, hinj, fun b q hb => ⟨hrng b q hb, .inl (by rw [hb]; simp)⟩, .nil _ _ _⟩
      simp [Builtin.append_, run_underlying hu, sizeOf, typeInfo, hi, Builtin.lenOf, Builtin.firstCells, loadCells, loadCellsFrom]
    · have hr := run_append_nil (P := P) w t ty e I z hu hi hz ad m c0 news (by rw [hs]; exact hnl) hnews (by omega) (by omega) (by rw [hby]; rw [Nat.zero_add] at hb; omega)
      classical
      let own' : Own := fun x => if x = w.heap.size then some p else if own x = some p then none else own x
      have hnew : own' w.heap.size = some p := by simp [own']
      have hsame : ∀ b q, own b = some q → q ≠ p → own' b = some q := fun b q hb hq => by
        have hlt := hrng b q hb
        simp only [own', if_neg (show ¬ b = w.heap.size by omega), hb]
        rw [if_neg (by intro e; cases e; exact hq rfl)]
      have hback : ∀ b q, own' b = some q → (b = w.heap.size ∧ q = p) ∨ (b < w.heap.size ∧ own b = some q ∧ q ≠ p) := fun b q hb => by
        simp only [own'] at hb
        split at hb
        · cases hb; exact .inl ⟨by assumption, rfl⟩
        · split at hb
          · cases hb
          · rename_i h1 h2
            exact .inr ⟨hrng b q hb, hb, fun e => by subst e; exact h2 hb⟩
      have hf : Froz w (w.drew.alloc (.cells (news.toArray ++ Builtin.zeroCells z.cells (grownCap w m 0 e - m)) e)) own own' := ⟨fun b hb hlt => ⟨by simp only [own', if_neg (show ¬ b = w.heap.size by omega), hb]; simp, heap_alloc_old w.drew _ b hlt⟩⟩
      refine ⟨_, _, own', hr, ⟨rfl, rfl, rfl, by simp⟩, hf, fun b q hb hq => ⟨hsame b q hb (fun e => hq [] (by rw [e]; simp)), heap_alloc_old w.drew _ b (hrng b q hb)⟩, fun b b' q hb hb' => ?_, fun b q hb => ?_, ?_⟩
      · rcases hback b q hb with ⟨h1, h2⟩ | ⟨h1, h2, h3⟩ <;> rcases hback b' q hb' with ⟨k1, k2⟩ | ⟨k1, k2, k3⟩
        · rw [h1, k1]
        · exact absurd h2 k3
        · exact absurd k2 h3
        · exact hinj b b' q h2 k2
      · rcases hback b q hb with ⟨h1, h2⟩ | ⟨h1, h2, h3⟩
        · subst h1; exact ⟨by simp, .inr (Nat.le_refl _)⟩
        · exact ⟨by simp; omega, .inl (by rw [h2]; simp)⟩
      · have := tell (w.drew.alloc (.cells (news.toArray ++ Builtin.zeroCells z.cells (grownCap w m 0 e - m)) e)) own' w.heap.size (grownCap w m 0 e) _ [] hf (fun i j x s hx => ⟨hsame x _ hx (fun e => by
            have := congrArg (fun p => p.p.length) e
            simp [Place.push] at this), heap_alloc_old w.drew _ x (hrng x _ hx)⟩) hnew (heap_alloc_new w.drew _)
          (by
            simp only [Array.size_append, List.size_toArray, size_zeroCells, hzs, hnl]
            rw [← Nat.add_mul]
            have := grownCap_ge w m 0 e
            congr 1; omega) (by rw [Nat.zero_add]; exact grownCap_ge w m 0 e) (grownCap_le_maxLen w m 0 e (by omega)) (by simp) (by simp only [Array.toList_append, List.nil_append, Nat.zero_add]; rw [← hnl]; exact List.take_left) (fun i hi => by omega) (fun i j hi => by omega)
        rwa [Nat.zero_add] at this ⊢
  | @osl p b n cap e sz f c ho hh hcs hn hcap hl hr =>
    subst hv0
    by_cases hm0 : m = 0
    · subst hm0
      refine ⟨.slice (some ⟨b, 0, none⟩) n cap, w, own, ?_, ⟨rfl, rfl, rfl, Nat.le_refl _⟩, ⟨fun b hb _ => ⟨hb, rfl⟩⟩, fun b q hb _ => ⟨hb, rfl⟩, hinj, fun b q hb => ⟨hrng b q hb, .inl (by rw [hb]; simp)⟩, Eqv.ok (.rows (fun i hi => (hcat1 i hi).symm)) (.osl ho hh hcs hn hcap hl hr)⟩
      simp [Builtin.append_, run_underlying hu, sizeOf, typeInfo, hi, Builtin.lenOf, Builtin.firstCells, loadCells, loadCellsFrom, hn, storeCells]
    have hx1 : (c.toList.take (n * sz)).length = n * sz := by rw [List.length_take, Array.length_toList]; exact Nat.min_eq_left (Nat.le_trans (Nat.mul_le_mul_right sz hn) hcs.le)
    have hx2 : ∀ j u, (c.toList.take (n * sz))[j]? = some u → w.cell? ((⟨b, 0, none⟩ : Addr).add j) = some u := fun j u hu2 => by
      have hadd : (⟨b, 0, none⟩ : Addr).add j = ⟨b, j, none⟩ := by unfold Addr.add; split <;> simp_all
      rw [hadd, cell_of_row w b j c e (0, 0) hh]
      rw [List.getElem?_take] at hu2
      split at hu2
      · simpa using hu2
      · cases hu2
    have hxg : ∀ i j, i < n → j < sz → (c.toList.take (n * sz))[i * sz + j]? = some (c.getD (i * sz + j) undef) := fun i j hi hj => by
      have hlt : i * sz + j < n * sz := mul_add_lt hi hj
      have hlt2 : i * sz + j < c.size := hcs.lt hn hlt
      rw [List.getElem?_take, if_pos hlt, Array.getElem?_toList, Array.getD_eq_getD_getElem?, Array.getElem?_eq_getElem hlt2, Option.getD_some]
    by_cases hroom : n + m ≤ cap
    · have hcs := hcs.resolve_right (fun h => by omega)
      have hown : w.ownsRow 0 e sz (.slice (some ⟨b, 0, none⟩) n cap) n (c.toList.take (n * sz)) := ⟨hx1, .inr ⟨b, cap, c, rfl, Nat.zero_le _, hh, hn, hcap, hcs, rfl⟩⟩
      obtain ⟨w', hr', hown', hgr⟩ := run_append_fits (P := P) w 0 t ty e I sz hu hi hs b n cap _ hown ad m c0 news hnl hnews h1 hroom
      have hf : Froz w w' own own := ⟨fun x hx hlt => ⟨hx, hgr.block x hlt (fun e => by cases e; rw [ho] at hx; cases hx)⟩⟩
      have hother : ∀ x q, own x = some q → q ≠ p → w'.heap[x]? = w.heap[x]? := fun x q hx hq => hgr.block x (hrng x q hx) (fun e => by cases e; rw [ho] at hx; cases hx; exact hq rfl)
      refine ⟨_, w', own, hr', ⟨hgr.os, hgr.tape, hgr.output, hgr.size⟩, hf, fun x q hx hq => ⟨hx, hother x q hx (fun e => hq [] (by rw [e]; simp))⟩, hinj, fun x q hx => ⟨Nat.lt_of_lt_of_le (hrng x q hx) hgr.size, .inl (by rw [hx]; simp)⟩, ?_⟩
      rcases hown'.2 with ⟨h', _⟩ | ⟨g', cap', cur, h', _, hg, _, _, hcs', htake⟩
      · simp at h'
      · simp only [Value.slice.injEq, Option.some.injEq, Addr.mk.injEq, and_true, true_and] at h'
        obtain ⟨rfl, rfl⟩ := h'
        refine tell w' own b cap cur (c.toList.take (n * sz)) hf (fun i j x s hx => ⟨hx, hother x _ hx (fun e => by
            have := congrArg (fun p => p.p.length) e
            simp [Place.push] at this)⟩) ho hg hcs' hroom hcap hown.1 htake hl (fun i j hi hj => ⟨_, hxg i j hi hj, ?_⟩)
        exact (hr i j hi hj).moved hf (fun x s hx => ⟨hx, hother x _ hx (fun e => by
          have := congrArg (fun p => p.p.length) e
          simp [Place.push] at this)⟩)
    · have hr' := run_append_grow (P := P) w t ty e I z hu hi hz ⟨b, 0, none⟩ n cap (c.toList.take (n * sz)) (by rw [hs]; exact hx1) hx2 ad m c0 news (by rw [hs]; exact hnl) hnews (by omega) (by omega) (growslice_fits (by omega) (by rw [hby]; exact hb))
      classical
      let own' : Own := fun x => if x = w.heap.size then some p else if own x = some p then none else own x
      have hnew : own' w.heap.size = some p := by simp [own']
      have hsame : ∀ b q, own b = some q → q ≠ p → own' b = some q := fun b q hb hq => by
        have hlt := hrng b q hb
        simp only [own', if_neg (show ¬ b = w.heap.size by omega), hb]
        rw [if_neg (by intro e; cases e; exact hq rfl)]
      have hback : ∀ b q, own' b = some q → (b = w.heap.size ∧ q = p) ∨ (b < w.heap.size ∧ own b = some q ∧ q ≠ p) := fun b q hb => by
        simp only [own'] at hb
        split at hb
        · cases hb; exact .inl ⟨by assumption, rfl⟩
        · split at hb
          · cases hb
          · rename_i h1 h2
            exact .inr ⟨hrng b q hb, hb, fun e => by subst e; exact h2 hb⟩
      have hf : Froz w (w.drew.alloc (.cells ((c.toList.take (n * sz)).toArray ++ news.toArray ++ Builtin.zeroCells z.cells (grownCap w (n + m) cap e - (n + m))) e)) own own' := ⟨fun b hb hlt => ⟨by simp only [own', if_neg (show ¬ b = w.heap.size by omega), hb]; simp, heap_alloc_old w.drew _ b hlt⟩⟩
      refine ⟨_, _, own', hr', ⟨rfl, rfl, rfl, by simp⟩, hf, fun b q hb hq => ⟨hsame b q hb (fun e => hq [] (by rw [e]; simp)), heap_alloc_old w.drew _ b (hrng b q hb)⟩, fun b b' q hb hb' => ?_, fun b q hb => ?_, ?_⟩
      · rcases hback b q hb with ⟨h1, h2⟩ | ⟨h1, h2, h3⟩ <;> rcases hback b' q hb' with ⟨k1, k2⟩ | ⟨k1, k2, k3⟩
        · rw [h1, k1]
        · exact absurd h2 k3
        · exact absurd k2 h3
        · exact hinj b b' q h2 k2
      · rcases hback b q hb with ⟨h1, h2⟩ | ⟨h1, h2, h3⟩
        · subst h1; exact ⟨by simp, .inr (Nat.le_refl _)⟩
        · exact ⟨by simp; omega, .inl (by rw [h2]; simp)⟩
      · refine tell _ own' w.heap.size (grownCap w (n + m) cap e) _ (c.toList.take (n * sz)) hf (fun i j x s hx => ⟨hsame x _ hx (fun e => by
            have := congrArg (fun p => p.p.length) e
            simp [Place.push] at this), heap_alloc_old w.drew _ x (hrng x _ hx)⟩) hnew (heap_alloc_new w.drew _) (by
            simp only [Array.size_append, List.size_toArray, size_zeroCells, hzs, hnl, hx1]
            rw [← Nat.add_mul, ← Nat.add_mul]
            have := grownCap_ge w (n + m) cap e
            congr 1; omega) (grownCap_ge w (n + m) cap e) (grownCap_le_maxLen w (n + m) cap e h63) hx1 (by
              have hl2 : ((c.toList.take (n * sz)) ++ news).length = (n + m) * sz := by rw [List.length_append, hx1, hnl, Nat.add_mul]
              simp only [Array.toList_append]
              rw [← hl2]; exact List.take_left) hl (fun i j hi hj => ⟨_, hxg i j hi hj, ?_⟩)
        exact (hr i j hi hj).moved hf (fun x s hx => ⟨hsame x _ hx (fun e => by
          have := congrArg (fun p => p.p.length) e
          simp [Place.push] at this), heap_alloc_old w.drew _ x (hrng x _ hx)⟩)

/-- rows of one root array go behind the rows of another one -/
def mvOwn (p q : Root) (n : Nat) (own : Own) : Own := fun b => match own b with
  | some x => match x.r.beq q with
    | true => match x.p with
      | (i, j) :: s => some ⟨p, (n + i, j) :: s⟩
      | [] => none
    | false => match x.r.beq p with
      | true => match x.p with
        | (i, j) :: s => if i < n then some ⟨p, (i, j) :: s⟩ else none
        | [] => some ⟨p, []⟩
      | false => some x
  | none => none
theorem mvOwn_some {p q : Root} (hpq : p ≠ q) {n : Nat} {own : Own} {b : Nat} {y : Place} (h : mvOwn p q n own b = some y) :
    (∃ i j s, own b = some ⟨q, (i, j) :: s⟩ ∧ y = ⟨p, (n + i, j) :: s⟩) ∨ (own b = some y ∧ y.r ≠ q ∧ (y.r = p → ∀ i j s, y.p = (i, j) :: s → i < n)) := by
  unfold mvOwn at h
  cases ho : own b with
  | none => rw [ho] at h; cases h
  | some x =>
    obtain ⟨r, ps⟩ := x
    rw [ho] at h
    simp only at h
    cases h1 : r.beq q with
    | true =>
      rw [h1] at h
      have := Root.beq_eq h1
      subst this
      cases ps with
      | nil => cases h
      | cons z s => obtain ⟨i, j⟩ := z; simp only [Option.some.injEq] at h; exact .inl ⟨i, j, s, rfl, h.symm⟩
    | false =>
      rw [h1] at h
      have hrq : r ≠ q := fun e => by rw [e, Root.beq_refl] at h1; cases h1
      cases h2 : r.beq p with
      | true =>
        rw [h2] at h
        have := Root.beq_eq h2
        subst this
        cases ps with
        | nil => simp only [Option.some.injEq] at h; subst h; exact .inr ⟨rfl, hrq, fun _ i j s e => by cases e⟩
        | cons z s =>
          obtain ⟨i, j⟩ := z
          simp only at h
          split at h
          · rename_i hi; cases h; exact .inr ⟨rfl, hrq, fun _ i' j' s' e => by cases e; exact hi⟩
          · cases h
      | false =>
        rw [h2] at h
        cases h
        exact .inr ⟨rfl, hrq, fun e => by simp only at e; rw [e, Root.beq_refl] at h2; cases h2⟩
theorem mvOwn_keep {p q : Root} {n : Nat} {own : Own} {b : Nat} {x : Place} (h : own b = some x) (h1 : x.r ≠ q) (h2 : x.r ≠ p) : mvOwn p q n own b = some x := by
  simp only [mvOwn, h, beq_root_false h1, beq_root_false h2]
theorem mvOwn_low {p q : Root} (hpq : p ≠ q) {n : Nat} {own : Own} {b i j : Nat} {s : List (Nat × Nat)} (h : own b = some ⟨p, (i, j) :: s⟩) (hi : i < n) : mvOwn p q n own b = some ⟨p, (i, j) :: s⟩ := by
  simp only [mvOwn, h, beq_root_false hpq, Root.beq_refl, if_pos hi]
theorem mvOwn_root {p q : Root} (hpq : p ≠ q) {n : Nat} {own : Own} {b : Nat} (h : own b = some ⟨p, []⟩) : mvOwn p q n own b = some ⟨p, []⟩ := by
  simp only [mvOwn, h, beq_root_false hpq, Root.beq_refl]
theorem mvOwn_src {p q : Root} {n : Nat} {own : Own} {b i j : Nat} {s : List (Nat × Nat)} (h : own b = some ⟨q, (i, j) :: s⟩) : mvOwn p q n own b = some ⟨p, (n + i, j) :: s⟩ := by
  simp only [mvOwn, h, Root.beq_refl]
def solidRows (m : Nat) (g : Nat → List T) : Prop := ∀ i, i < m → (g i).all T.solid = true

theorem step_appendM {P : Program} {o : Oper} {σ : AS} {dst : Nat} (hd : o.dst = some dst) (hn : dst < σ.n) {t e sz by' n m : Nat} {x y : Operand} (ho : o.op = .call { callee := .builtin .append, args := #[x, y], argTypes := #[t, t] }) (ht : sliceT P t = some ⟨e, sz, by'⟩) {d k d2 k2 : Nat} {f g : Nat → List T} {e1 : Nat}
    (hx : σ.ev x = ⟨true, .one (.ref ⟨.arr d k, []⟩)⟩) (hp : σ.arr d k = .sl e sz n f) (hy : σ.ev y = ⟨true, .one (.ref ⟨.arr d2 k2, []⟩)⟩) (hq : σ.arr d2 k2 = .sl e1 sz m g) (hap : (Nat.beq d d2 && Nat.beq k k2) = false) (hfl : solidRows m g) (hb : (n + m) * by' ≤ 140737488355328) (hm : n + m ≤ 140737488355328) (hdr : Nat.beq d RR = false := by rfl) (hdr2 : Nat.beq d2 RR = false := by rfl) :
    Step P o σ ((((σ.mapC (fun p => onArr d k p || onArr d2 k2 p)).setArr d2 k2 .dead).setArr d k (.sl e sz (n + m) (catF n f g))).setS dst ⟨true, .one (.ref ⟨.arr d k, []⟩)⟩) :=
  Step.make hd hn fun w0 own0 a w own hI => by
    have hdf : d ≠ FF := fun e => by subst e; rw [hI.noff] at hp; cases hp
    have hdf2 : d2 ≠ FF := fun e => by subst e; rw [hI.noff] at hq; cases hq
    have hpq : Root.arr d k ≠ Root.arr d2 k2 := fun e => by
      simp only [Root.arr.injEq] at e
      rw [e.1, e.2] at hap; simp at hap
    have hv := hI.ref (p := ⟨.arr d k, []⟩) (hI.evC hx) hp
    have hu := hI.ref (p := ⟨.arr d2 k2, []⟩) (hI.evC hy) hq
    obtain ⟨hu', I, z, hi, hz, hs, hby, hzs, hsz⟩ := sliceT_spec ht
    let own1 := mvOwn (.arr d k) (.arr d2 k2) n own
    have hinj1 : ∀ b b' x, own1 b = some x → own1 b' = some x → b = b' := fun b b' y hb hb' => by
      rcases mvOwn_some hpq hb with ⟨i, j, s, h1, h2⟩ | ⟨h1, h2, h3⟩ <;> rcases mvOwn_some hpq hb' with ⟨i', j', s', g1, g2⟩ | ⟨g1, g2, g3⟩
      · rw [h2] at g2
        simp only [Place.mk.injEq, List.cons.injEq, Prod.mk.injEq, true_and] at g2
        obtain ⟨⟨hii, rfl⟩, rfl⟩ := g2
        have : i = i' := by omega
        subst this
        exact hI.inj _ _ _ h1 g1
      · subst h2
        have := g3 rfl _ _ _ rfl
        omega
      · subst g2
        have := h3 rfl _ _ _ rfl
        omega
      · exact hI.inj _ _ _ h1 g1
    have hrng1 : ∀ b x, own1 b = some x → b < w.heap.size := fun b y hb => by
      rcases mvOwn_some hpq hb with ⟨i, j, s, h1, h2⟩ | ⟨h1, h2, h3⟩ <;> exact (hI.rng b _ h1).1
    have hne1 : ∀ b x, own1 b = some x → own b ≠ none := fun b y hb => by
      rcases mvOwn_some hpq hb with ⟨i, j, s, h1, h2⟩ | ⟨h1, h2, h3⟩ <;> rw [h1] <;> simp
    have hf1 : Froz w w own own1 := ⟨fun b hb _ => ⟨by simp [own1, mvOwn, hb], rfl⟩⟩
    have hv1 : Ok w own1 (some ⟨.arr d k, []⟩) (a.eval x) (.sl e sz n f) := by
      generalize a.eval x = vx at hv
      cases hv with
      | nil => exact .nil _ _ _
      | osl ho hh hcs hn hcap hl hr => exact .osl (mvOwn_root hpq ho) hh hcs hn hcap hl (fun i j hi hj => (hr i j hi hj).moved hf1 (fun b s hb => ⟨mvOwn_low hpq (by simpa [Place.push] using hb) hi, rfl⟩))
    have hfin : ∀ v' w' own', SameW w w' → Froz w w' own1 own' → (∀ b q, own1 b = some q → (∀ s, q ≠ ⟨.arr d k, s⟩) → own' b = some q ∧ w'.heap[b]? = w.heap[b]?) →
        (∀ b b' q, own' b = some q → own' b' = some q → b = b') → (∀ b q, own' b = some q → b < w'.heap.size ∧ (own1 b ≠ none ∨ w.heap.size ≤ b)) → Ok w' own' (some ⟨.arr d k, []⟩) v' (.sl e sz (n + m) (catF n f g)) →
        (Builtin.append_ #[t, t] o.type #[a.eval x, a.eval y]).run P w = .ok v' w' →
        ∃ v w' own', (execOp a.eval o).run P w = .ok (.value v) w' ∧ Inv w0 own0 (((σ.mapC (fun p => onArr d k p || onArr d2 k2 p)).setArr d2 k2 .dead).setArr d k (.sl e sz (n + m) (catF n f g))) a w' own' ∧
          OkS w' own' (((σ.mapC (fun p => onArr d k p || onArr d2 k2 p)).setArr d2 k2 .dead).setArr d k (.sl e sz (n + m) (catF n f g))) v ⟨true, .one (.ref ⟨.arr d k, []⟩)⟩ := by
      intro v' w' own' h1 h2 h3 h4 h5 h6 hr
      have hf : Froz w w' own own' := ⟨fun b hb hlt => h2.h b ((hf1.h b hb hlt).1) hlt⟩
      have hI' := hI.turnArr2 d k d2 k2 hdf (fun e => by subst e; simp at hdr) hdf2 (fun e => by subst e; simp at hdr2) (.sl e sz (n + m) (catF n f g)) h1 hf
        (fun b q hb hq1 hq2 => h3 b q (mvOwn_keep hb hq2 hq1) (fun s e => hq1 (by rw [e]))) h4 (fun b q hb => ⟨(h5 b q hb).1, (h5 b q hb).2.imp_left fun h => by
          cases ho : own1 b with
          | none => exact absurd ho h
          | some y => exact hne1 b y ho⟩) ⟨v', h6⟩
      refine ⟨v', w', own', ?_, hI', ?_⟩
      · simp only [execOp, ho, resolve, invoke, builtin, Sem.run_bind, Sem.run_pure, Result.andThen_ok, List.map_toArray, List.map_cons, List.map_nil, hr]
      · intro e' sz' n' f' hq'
        simp only [AS.node, setArr_arr, and_self, if_true, follow, T.sl.injEq] at hq'
        obtain ⟨rfl, rfl, rfl, rfl⟩ := hq'
        exact h6.hdr
    generalize hgy : a.eval y = vy at hu
    rw [hgy] at hfin
    cases hu with
    | nil =>
      -- nothing is appended
      obtain ⟨v', w', own', hr, k1, k2, k3, k4, k5, k6⟩ := append_core (P := P) (ty := o.type) (p := ⟨.arr d k, []⟩) ht hinj1 hrng1 hv1 (Ok.nil (pl := none) e1 sz g) (fun i hi => absurd hi (by omega)) hb hm
      exact hfin v' w' own' k1 k2 (fun b q hb hq => k3 b q hb (fun s => by simpa using hq s)) k4 k5 k6 hr
    | @osl p b m cap _ sz g c ho' hh hcs hn' hcap hl hr0 =>
      have hadd : ∀ (b off q : Nat), (⟨b, off, none⟩ : Addr).add q = ⟨b, off + q, none⟩ := fun b off q => by unfold Addr.add; split <;> simp_all
      obtain ⟨v', w', own', hr, k1, k2, k3, k4, k5, k6⟩ := append_core2 (P := P) (ty := o.type) (p := ⟨.arr d k, []⟩) (g := g) ht hinj1 hrng1 hv1 (u := .slice (some ⟨b, 0, none⟩) m cap) (ad := ⟨b, 0, none⟩) (c0 := cap) (X := fun q => c.getD q undef) rfl (fun q hq => by
          have hlt : q < c.size := hcs.lt hn' hq
          rw [hadd, Nat.zero_add]
          simp [World.cell?, hh, Array.getD, hlt]) hl (fun i j hi hj => ⟨(hr0 i j hi hj).moved hf1 (fun b s hb => ⟨mvOwn_src (by simpa [Place.push] using hb), rfl⟩), by
          have h1 := List.all_eq_true.1 (hfl i hi)
          have hlt : j < (g i).length := by rw [hl i hi]; exact hj
          rw [List.getD_eq_getElem?_getD, List.getElem?_eq_getElem hlt]
          exact h1 _ (List.getElem_mem hlt)⟩) hb hm
      exact hfin v' w' own' k1 k2 (fun b q hb hq => k3 b q hb (fun s => by simpa using hq s)) k4 k5 k6 hr

end Go.Mh
