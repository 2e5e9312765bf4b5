/- A call as a step, by the contract of what is called. No condition. -/
import Derived.Test.YtkmacjdigkaabaaFm
set_option linter.unusedVariables false
set_option linter.unusedSimpArgs false
set_option linter.unnecessarySimpa false
namespace Go.Mh
open Go

/-! ### trees that nobody owns: a part may be told as frozen -/
inductive Fz : T → T → Prop where
  | refl (t : T) : Fz t t
  | fz {t t' : T} (h : Fz t t') : Fz t (.fz t')
  | nl (e sz : Nat) (f : Nat → List T) : Fz .nl (.sl e sz 0 f)
  | rows {e sz n : Nat} {f g : Nat → List T} (hl : ∀ i, i < n → (g i).length = (f i).length) (h : ∀ i j, i < n → Fz ((f i).getD j .dead) ((g i).getD j .dead)) : Fz (.sl e sz n f) (.sl e sz n g)
theorem Ok.asFz {w own t t'} (hz : Fz t t') : ∀ {v}, Ok w own none v t → Ok w own none v t' := by
  induction hz with
  | refl t => exact fun h => h
  | fz h ih => exact fun h => .fz (ih h)
  | nl e sz f => intro v hv; cases hv; exact .nil _ _ _
  | rows hl h ih =>
    intro v hv
    cases hv with
    | nil => exact .nil _ _ _
    | emp a e sz f hcap => exact .emp a _ _ _ hcap
    | fsl x h1 h2 h3 h4 h5 h6 => exact .fsl x h1 h2 (fun i hi => by rw [hl i hi]; exact h3 i hi) h4 h5 (fun i j hi hj => ih i j hi (h6 i j hi hj))

/-! ### a call -/
inductive ArgC (σ : AS) : C → T → Prop where
  | v (t : T) : ArgC σ (.v t) t
  | ref (p : Place) {e sz n : Nat} {f : Nat → List T} (h : σ.node p = .sl e sz n f) : ArgC σ (.ref p) (.sl e sz n f)
  | nil (e sz : Nat) (f : Nat → List T) : ArgC σ .nil (.sl e sz 0 f)
inductive ArgZ (σ : AS) : C → T → Prop where
  | v (t : T) : ArgZ σ (.v t) t
  | ref (p : Place) {e sz n : Nat} {f : Nat → List T} (h : σ.node p = .sl e sz n f) : ArgZ σ (.ref p) (.sl e sz n f)
  | nil (e sz : Nat) (f : Nat → List T) : ArgZ σ .nil (.sl e sz 0 f)
  | vz {t t' : T} (hz : Fz t t') : ArgZ σ (.v t) t'
  | refz (p : Place) {e sz n : Nat} {f : Nat → List T} {t' : T} (h : σ.node p = .sl e sz n f) (hz : Fz (.sl e sz n f) t') : ArgZ σ (.ref p) t'
theorem ArgZ.toC {σ : AS} {c : C} {t : T} (h : ArgZ σ c t) : ∃ t0, ArgC σ c t0 ∧ Fz t0 t := by
  cases h with
  | v t => exact ⟨_, .v t, .refl _⟩
  | ref p h => exact ⟨_, .ref p h, .refl _⟩
  | nil e sz f => exact ⟨_, .nil e sz f, .refl _⟩
  | vz hz => exact ⟨_, .v _, hz⟩
  | refz p h hz => exact ⟨_, .ref p h, hz⟩
inductive ArgL (σ : AS) : List C → List T → Prop where
  | nil : ArgL σ [] []
  | cons {c : C} {t : T} {cs : List C} {ts : List T} (h : ArgZ σ c t) (hs : ArgL σ cs ts) : ArgL σ (c :: cs) (t :: ts)
inductive ArgV (σ : AS) : V → PV → Prop where
  | one {c : C} {t : T} (h : ArgZ σ c t) : ArgV σ (.one c) (.one t)
  | agg {cs : List C} {ts : List T} (h : ArgL σ cs ts) : ArgV σ (.agg cs) (.agg ts)
inductive ArgVs (σ : AS) : List Operand → List PV → Prop where
  | nil : ArgVs σ [] []
  | cons {x : Operand} {u : V} {r : PV} {xs : List Operand} {rs : List PV} (hx : σ.ev x = ⟨true, u⟩) (h : ArgV σ u r) (hs : ArgVs σ xs rs) : ArgVs σ (x :: xs) (r :: rs)

theorem ArgC.ok {w0 own0 σ a w own} (hI : Inv w0 own0 σ a w own) {c : C} {t : T} (h : ArgC σ c t) {v : Value} (hv : OkC w own σ v c) {F : Nat → Bool} (hF : (∀ b, F b = false) ∨ ((∀ b, own b = none → F b = false) ∧ ∀ p, c ≠ .ref p)) : Ok w (ownF w F) none v t := by
  have hf : Froz w w own (ownF w F) := ⟨fun b hb _ => ⟨by
    unfold ownF
    rcases hF with h | h
    · simp [h]
    · simp [h.1 b hb], rfl⟩⟩
  cases h with
  | v t => exact Ok.frozen hv hf
  | ref p hn =>
    refine (hI.ref hv hn).freeze hf (fun b s hb => ⟨?_, rfl⟩)
    rcases hF with h | h
    · simp [ownF, h]
    · exact absurd rfl (h.2 p)
  | nil e sz f => have : v = .slice none 0 0 := hv; rw [this]; exact .nil e sz f

theorem ArgZ.ok {w0 own0 σ a w own} (hI : Inv w0 own0 σ a w own) {c : C} {t : T} (h : ArgZ σ c t) {v : Value} (hv : OkC w own σ v c) {F : Nat → Bool} (hF : (∀ b, F b = false) ∨ ((∀ b, own b = none → F b = false) ∧ ∀ p, c ≠ .ref p)) : Ok w (ownF w F) none v t := by
  obtain ⟨t0, h0, hz⟩ := h.toC
  exact (h0.ok hI hv hF).asFz hz
def noRefL (cs : List C) : Prop := ∀ c ∈ cs, ∀ p, c ≠ .ref p
theorem ArgL.ok {w0 own0 σ a w own} (hI : Inv w0 own0 σ a w own) {F : Nat → Bool} {cs : List C} {ts : List T} (h : ArgL σ cs ts) : ((∀ b, F b = false) ∨ ((∀ b, own b = none → F b = false) ∧ noRefL cs)) → ∀ (vs : Nat → Value), (∀ j c, cs[j]? = some c → OkC w own σ (vs j) c) →
    cs.length = ts.length ∧ ∀ j t, ts[j]? = some t → Ok w (ownF w F) none (vs j) t := by
  induction h with
  | nil => intro _ vs _; exact ⟨rfl, fun j t h => by simp at h⟩
  | @cons c t cs ts hc hs ih =>
    intro hF vs hv
    obtain ⟨h1, h2⟩ := ih (hF.imp_right fun h => ⟨h.1, fun c hc => h.2 c (by simp [hc])⟩) (fun j => vs (j + 1)) (fun j c hj => hv (j + 1) c (by simpa using hj))
    refine ⟨by simp [h1], fun j t' hj => ?_⟩
    cases j with
    | zero => simp only [List.getElem?_cons_zero, Option.some.injEq] at hj; subst hj; exact hc.ok hI (hv 0 c (by simp)) (hF.imp_right fun h => ⟨h.1, h.2 c (by simp)⟩)
    | succ j => exact h2 j t' (by simpa using hj)

theorem ArgV.ok {w0 own0 σ a w own} (hI : Inv w0 own0 σ a w own) {F : Nat → Bool} {u : V} {r : PV} (h : ArgV σ u r) (hF : (∀ b, F b = false) ∨ ((∀ b, own b = none → F b = false) ∧ noRefL u.cells)) {v : Value} (hv : OkV w own σ v u) : OkP w (ownF w F) (fun _ => none) v r := by
  cases h with
  | one h => exact h.ok hI hv (hF.imp_right fun k => ⟨k.1, k.2 _ (by simp [V.cells])⟩)
  | agg h =>
    obtain ⟨xs, h1, h2, h3⟩ := hv
    obtain ⟨k1, k2⟩ := h.ok hI hF (fun j => xs.getD j undef) h3
    exact ⟨xs, h1, by rw [h2, k1], k2⟩

theorem ArgVs.ok {w0 own0 σ a w own} (hI : Inv w0 own0 σ a w own) {F : Nat → Bool} {xs : List Operand} {rs : List PV} (h : ArgVs σ xs rs) : ((∀ b, F b = false) ∨ ((∀ b, own b = none → F b = false) ∧ ∀ x ∈ xs, noRefL (σ.ev x).v.cells)) →
    xs.length = rs.length ∧ ∀ (i : Nat) r x, rs[i]? = some r → xs[i]? = some x → OkP w (ownF w F) (fun _ => none) (a.eval x) r := by
  induction h with
  | nil => intro _; exact ⟨rfl, fun j r x h => by simp at h⟩
  | @cons x u r xs rs hx h hs ih =>
    intro hF
    obtain ⟨h1, h2⟩ := ih (hF.imp_right fun k => ⟨k.1, fun x hx => k.2 x (by simp [hx])⟩)
    refine ⟨by simp [h1], fun j r' x' hj hx' => ?_⟩
    cases j with
    | zero => simp only [List.getElem?_cons_zero, Option.some.injEq] at hj hx'; subst hj; subst hx'; exact h.ok hI (hF.imp_right fun k => ⟨k.1, by have := k.2 x (by simp); rw [hx] at this; exact this⟩) (hI.evV hx)
    | succ j => exact h2 j r' x' (by simpa using hj) (by simpa using hx')

/-! the state behind a call -/
def resC (d k : Nat) : T → C
  | .sl .. => .ref ⟨.arr d k, []⟩
  | .fz t => .v t
  | .dead => .any
  | t => .v t
def rootT : T → T
  | .sl e sz n f => .sl e sz n f
  | _ => .dead
def resL (d : Nat) : Nat → List T → List C
  | _, [] => []
  | k, t :: ts => resC d k t :: resL d (k + 1) ts
def resV (d k : Nat) : PV → V
  | .one t => .one (resC d k t)
  | .agg ts => .agg (resL d k ts)
  | .tup _ => .any
def resVs (d : Nat) : Nat → List PV → List V
  | _, [] => []
  | i, u :: us => resV d (100 * i) u :: resVs d (i + 1) us
def resVV (d : Nat) : PV → V
  | .tup vs => .tup (resVs d 0 vs)
  | u => resV d 0 u
def rootIn : Option PV → Nat → T
  | some (.one t), j => match j with | 0 => rootT t | _ + 1 => .dead
  | some (.agg ts), j => rootT (ts.getD j .dead)
  | _, _ => .dead
def rootAt : PV → Nat → T
  | .tup vs, k => rootIn vs[k / 100]? (k % 100)
  | u, k => rootIn (some u) k
def smallP : PV → Bool
  | .agg ts => Nat.blt ts.length 100
  | _ => true
def smallR : PV → Bool
  | .tup vs => vs.all smallP
  | u => smallP u
def AS.setRoots (σ : AS) (d : Nat) (res : PV) : AS := { σ with arr := fun t k => match Nat.beq t d with | true => rootAt res k | false => σ.arr t k }

theorem resL_get (d : Nat) : ∀ (ts : List T) (k i : Nat), (resL d k ts)[i]? = (ts[i]?).map (resC d (k + i))
  | [], _, _ => by simp [resL]
  | t :: ts, k, 0 => by simp [resL]
  | t :: ts, k, i + 1 => by simp only [resL, List.getElem?_cons_succ, resL_get d ts (k + 1) i]; congr 2; omega
theorem resL_len (d : Nat) : ∀ (ts : List T) (k : Nat), (resL d k ts).length = ts.length
  | [], _ => rfl
  | c :: cs, j => by simp [resL, resL_len d cs]
theorem resVs_get (d : Nat) : ∀ (us : List PV) (k i : Nat), (resVs d k us)[i]? = (us[i]?).map (resV d (100 * (k + i)))
  | [], _, _ => by simp [resVs]
  | t :: ts, k, 0 => by simp [resVs]
  | t :: ts, k, i + 1 => by simp only [resVs, List.getElem?_cons_succ, resVs_get d ts (k + 1) i]; congr 3; omega
theorem resVs_len (d : Nat) : ∀ (us : List PV) (k : Nat), (resVs d k us).length = us.length
  | [], _ => rfl
  | c :: cs, j => by simp [resVs, resVs_len d cs]

theorem rootT_sl {t : T} {e sz n f} (h : rootT t = .sl e sz n f) : t = .sl e sz n f := by
  cases t <;> first | exact h | cases h

theorem resC_ok {w' own' σ' d k v t} (h : Ok w' own' (some ⟨.arr d k, []⟩) v t) (hn : ∀ e sz n f, t = .sl e sz n f → σ'.node ⟨.arr d k, []⟩ = .sl e sz n f) : OkC w' own' σ' v (resC d k t) := by
  cases t with
  | sl e sz n f =>
    intro e' sz' n' f' hq
    rw [hn e sz n f rfl] at hq
    cases hq
    exact h.hdr
  | fz t => cases h with | fz h => exact h
  | dead => trivial
  | int k n => cases h; exact .int _ _
  | bool b => cases h; exact .bool _
  | str s => cases h; exact .str _ (by assumption)
  | nl => cases h; exact .nl

/-- no frozen part anywhere -/
inductive Clean : T → Prop where
  | int (k : IntKind) (n : Int) : Clean (.int k n)
  | bool (b : Bool) : Clean (.bool b)
  | str (s : ByteArray) : Clean (.str s)
  | dead : Clean .dead
  | nl : Clean .nl
  | sl {e sz n : Nat} {f : Nat → List T} (h : ∀ i j, i < n → j < sz → Clean ((f i).getD j .dead)) : Clean (.sl e sz n f)

def callOk (P : Program) (f : FuncId) : Bool :=
  match P.funcs[f]? with
  | some fn => fn.name != "runtime.NumGoroutine" && fn.body.isSome
  | none => false

theorem run_callFunc {P : Program} {w : World} {f : FuncId} (h : callOk P f = true) (vals : Array Value) : (callFunc f vals).run P w = .ok (.enter f vals) w := by
  unfold callOk at h
  split at h
  · rename_i fn hf
    simp only [Bool.and_eq_true, bne_iff_ne, ne_eq] at h
    have h1 : (fn.name == "runtime.NumGoroutine") = false := by simpa using h.1
    have h2 : fn.body.isNone = false := by cases hb : fn.body <;> simp_all
    have hprog : (program).run P w = .ok P w := rfl
    simp only [callFunc, Sem.run_bind, hprog, Result.andThen_ok, hf, h1, h2, Bool.false_eq_true, if_false, Sem.run_pure]
  · cases h

def PV.parts1 : PV → List T
  | .one t => [t]
  | .agg ts => ts
  | .tup _ => []
def PV.parts : PV → List T
  | .tup vs => vs.flatMap PV.parts1
  | u => u.parts1

/-- the caller's owners behind a call with result at d -/
def backOwn (w : World) (own own' : Own) (d : Nat) : Own := fun b => if b < w.heap.size then killOwn own d b else match own' b with | some ⟨.arr _ k, s⟩ => some ⟨.arr d k, s⟩ | _ => none

theorem Inv.back {w0 own0 σ a w own} (hI : Inv w0 own0 σ a w own) {d : Nat} (hdlt : d < RR) {w' : World} {own' : Own} (hret : Ret w w' own') {v : Value} {res : PV}
    (hroots : ∀ k e sz n f, rootAt res k = .sl e sz n f → ∃ v, Ok w' (backOwn w own own' d) (some ⟨.arr d k, []⟩) v (.sl e sz n f)) :
    Inv w0 own0 ((σ.kill d).setRoots d res) a w' (backOwn w own own' d) := by
  have hdf : d ≠ FF := by have := RR_lt_FF; omega
  have h1 := hI.kill d hdlt
  let o1 := killOwn own d
  have hold : ∀ b, b < w.heap.size → backOwn w own own' d b = o1 b := fun b hb => by simp only [backOwn, if_pos hb, o1]
  have hkeep : ∀ b p, o1 b = some p → backOwn w own own' d b = some p := fun b p hb => by rw [hold b (h1.rng b p hb).1]; exact hb
  have hf1 : Froz w w' o1 (backOwn w own own' d) := ⟨fun b hb hlt => ⟨by rw [hold b hlt]; exact hb, hret.old b hlt⟩⟩
  have hback : ∀ b p, backOwn w own own' d b = some p → (b < w.heap.size ∧ o1 b = some p) ∨ (w.heap.size ≤ b ∧ b < w'.heap.size ∧ ∃ k s, own' b = some ⟨.arr RR k, s⟩ ∧ p = ⟨.arr d k, s⟩) := by
    intro b p hb
    by_cases hlt : b < w.heap.size
    · left; rw [hold b hlt] at hb; exact ⟨hlt, hb⟩
    · right
      simp only [backOwn, if_neg hlt] at hb
      cases ho' : own' b with
      | none => rw [ho'] at hb; cases hb
      | some q =>
        obtain ⟨g1, g2, k, s, rfl⟩ := hret.new b q ho'
        rw [ho'] at hb
        simp only [Option.some.injEq] at hb
        exact ⟨g1, g2, k, s, rfl, hb.symm⟩
  have hroot : ∀ b p, o1 b = some p → p.r.num ≠ d := fun b p hb => (killOwn_some hb).2
  have hnode : ∀ p : Place, p.r.num ≠ d → ((σ.kill d).setRoots d res).node p = (σ.kill d).node p := by
    intro p hp
    obtain ⟨r, ps⟩ := p
    cases r with
    | arr t k => simp only [Root.num] at hp; simp only [AS.node, AS.setRoots, beq_false hp]
    | box t => cases ps with
      | nil => rfl
      | cons x ps => obtain ⟨i, j⟩ := x; cases i <;> rfl
  have hk : ∀ p : Place, onRoot d p = false → KeepP w w' o1 (backOwn w own own' d) (σ.kill d) ((σ.kill d).setRoots d res) p := by
    intro p hp
    have hpd : p.r.num ≠ d := fun e => by simp [onRoot, e] at hp
    exact ⟨fun e sz n f hn => ⟨f, by rw [← hnode p hpd]; exact hn⟩, fun t ht hb => hb, fun _ b hb => ⟨hkeep b p hb, fun cc e' hc => ⟨cc, by rw [hret.old b (h1.rng b p hb).1]; exact hc, rfl⟩⟩⟩
  refine h1.trans hret.same (fun b _ hlt => hret.old b hlt) (fun b hb => ⟨hkeep b _ hb, hret.old b (h1.rng b _ hb).1⟩) (fun k => ?_) ?_ ?_ rfl (fun t ht => ?_) ?_ ?_ (Kept.of fun b k hb => ⟨hkeep b _ hb, hret.old b (h1.rng b _ hb).1⟩)
  · simp only [AS.setRoots, beq_false (fun e : FF = d => hdf e.symm)]; exact h1.noff k
  · intro b b' p hb hb'
    rcases hback b p hb with ⟨g1, g2⟩ | ⟨g1, _, k, s, g2, g3⟩ <;> rcases hback b' p hb' with ⟨g1', g2'⟩ | ⟨g1', _, k', s', g2', g3'⟩
    · exact h1.inj b b' p g2 g2'
    · subst g3'; exact absurd rfl (hroot b _ g2)
    · subst g3; exact absurd rfl (hroot b' _ g2')
    · rw [g3] at g3'
      simp only [Place.mk.injEq, Root.arr.injEq, true_and] at g3'
      obtain ⟨rfl, rfl⟩ := g3'
      exact hret.inj b b' _ g2 g2'
  · intro b p hb
    rcases hback b p hb with ⟨g1, g2⟩ | ⟨g1, g2, _⟩
    · exact ⟨Nat.lt_of_lt_of_le g1 hret.same.size, .inl (by show o1 b ≠ none; rw [g2]; simp)⟩
    · exact ⟨g2, .inr g1⟩
  · have := OkS.clr hf1 _ hk ht
    have e1 : ((σ.kill d).s t).clr (onRoot d) = (σ.s t).clr (onRoot d) := SV.clr_clr _ _
    rw [e1] at this
    exact this
  · intro t' ht
    obtain ⟨b, cc, e', k1, k2, k3, k4⟩ := h1.boxes t' ht
    have htd : t' ≠ d := fun e => by subst e; simp [AS.setRoots, AS.kill] at ht
    refine ⟨b, cc, e', hkeep b _ k1, by rw [hret.old b (heap_lt k2)]; exact k2, k3, fun j x hx => ?_⟩
    have := (k4 j x hx).clr hf1 _ hk (fun b s hb => ⟨hkeep b _ hb, hret.old b (h1.rng b _ hb).1⟩)
    have e0 : (σ.kill d).box t' = (σ.box t').map (C.clr (onRoot d)) := by simp only [AS.kill, beq_false htd]
    have hx' : ((σ.kill d).box t')[j]? = some x := hx
    rw [e0, List.getElem?_map, Option.map_eq_some_iff] at hx'
    obtain ⟨x0, _, rfl⟩ := hx'
    rwa [C.clr_clr] at this
  · intro t' k' e' sz n f ht
    by_cases htd : t' = d
    · subst htd
      have e0 : ((σ.kill t').setRoots t' res).arr t' k' = rootAt res k' := by simp [AS.setRoots]
      rw [e0] at ht
      exact hroots k' e' sz n f ht
    · have e0 : ((σ.kill d).setRoots d res).arr t' k' = (σ.kill d).arr t' k' := by simp only [AS.setRoots, beq_false htd]
      rw [e0] at ht
      obtain ⟨v, hv⟩ := h1.arrs t' k' e' sz n f ht
      exact ⟨v, hv.moved hf1 (fun b s hb => ⟨hkeep b _ hb, hret.old b (h1.rng b _ hb).1⟩)⟩

/-- a result's parts, one by one -/
theorem parts_ok {w w' : World} {own own' : Own} {v : Value} {res : PV} {d : Nat} {σ : AS} (h : OkR w own v res) (hsm : smallR res = true)
    (tr : ∀ k v t, t ∈ res.parts → Ok w own (some ⟨.arr RR k, []⟩) v t → Ok w' own' (some ⟨.arr d k, []⟩) v t) :
    (∀ k e sz n f, rootAt res k = .sl e sz n f → ∃ v, Ok w' own' (some ⟨.arr d k, []⟩) v (.sl e sz n f)) ∧ OkV w' own' (σ.setRoots d res) v (resVV d res) := by
  have hnode : ∀ k, (σ.setRoots d res).node ⟨.arr d k, []⟩ = rootAt res k := fun k => by simp [AS.node, AS.setRoots, follow]
  have one : ∀ (i : Nat) (u : PV) (v : Value), u.parts1 ⊆ res.parts → (∀ j, j < 100 → rootAt res (100 * i + j) = rootIn (some u) j) → smallP u = true → OkP w own (resPl i) v u →
      (∀ j e sz n f, rootIn (some u) j = .sl e sz n f → ∃ v, Ok w' own' (some ⟨.arr d (100 * i + j), []⟩) v (.sl e sz n f)) ∧ OkFlat w' own' (σ.setRoots d res) v (resV d (100 * i) u) := by
    intro i u v hsub hroot hsmall hok
    cases u with
    | one t =>
      have ht := tr _ v t (hsub (by simp [PV.parts1])) hok
      refine ⟨fun j e sz n f hj => ?_, ?_⟩
      · cases j with
        | zero => have := rootT_sl hj; subst this; exact ⟨v, ht⟩
        | succ j => cases hj
      · refine resC_ok ht (fun e sz n f hq => ?_)
        subst hq
        rw [hnode]
        have := hroot 0 (by omega)
        simpa [rootIn, rootT] using this
    | agg ts =>
      obtain ⟨xs, h1, h2, h3⟩ := hok
      have hpart : ∀ j t, ts[j]? = some t → Ok w' own' (some ⟨.arr d (100 * i + j), []⟩) (xs.getD j undef) t := fun j t ht => tr _ _ t (hsub (by simp only [PV.parts1]; exact List.mem_of_getElem? ht)) (h3 j t ht)
      refine ⟨fun j e sz n f hj => ?_, xs, h1, by rw [h2, resL_len], fun j c hc => ?_⟩
      · simp only [rootIn] at hj
        have ht := rootT_sl hj
        cases hg : ts[j]? with
        | none => rw [List.getD_eq_getElem?_getD, hg] at ht; cases ht
        | some t =>
          rw [List.getD_eq_getElem?_getD, hg, Option.getD_some] at ht
          subst ht
          exact ⟨_, hpart j _ hg⟩
      · rw [resL_get, Option.map_eq_some_iff] at hc
        obtain ⟨t, ht, rfl⟩ := hc
        refine resC_ok (hpart j t ht) (fun e sz n f hq => ?_)
        subst hq
        have hj : j < 100 := by
          have := (List.getElem?_eq_some_iff.1 ht).1
          simp only [smallP, Nat.blt_eq] at hsmall
          omega
        rw [hnode, hroot j hj]
        simp [rootIn, List.getD_eq_getElem?_getD, ht, rootT]
    | tup vs => exact hok.elim
  cases res with
  | one t =>
    obtain ⟨h1, h2⟩ := one 0 (.one t) v (fun _ h => h) (fun j _ => by simp [rootAt]) rfl h
    exact ⟨fun k e sz n f hk => by have := h1 k e sz n f hk; simpa using this, h2⟩
  | agg ts =>
    obtain ⟨h1, h2⟩ := one 0 (.agg ts) v (fun _ h => h) (fun j _ => by simp [rootAt]) (by simpa [smallR] using hsm) h
    exact ⟨fun k e sz n f hk => by have := h1 k e sz n f hk; simpa using this, h2⟩
  | tup vs =>
    obtain ⟨xs, h1, h2, h3⟩ := h
    have hroot : ∀ (i : Nat) u, vs[i]? = some u → ∀ j, j < 100 → rootAt (.tup vs) (100 * i + j) = rootIn (some u) j := by
      intro i u hu j hj
      simp only [rootAt]
      rw [Nat.mul_add_div (by omega), Nat.div_eq_of_lt hj, Nat.add_zero, hu, Nat.mul_add_mod, Nat.mod_eq_of_lt hj]
    have hsub : ∀ (i : Nat) u, vs[i]? = some u → u.parts1 ⊆ (PV.tup vs).parts := fun i u hu t ht => by
      simp only [PV.parts, List.mem_flatMap]; exact ⟨u, List.mem_of_getElem? hu, ht⟩
    have hsm' : ∀ (i : Nat) u, vs[i]? = some u → smallP u = true := fun i u hu => List.all_eq_true.1 hsm u (List.mem_of_getElem? hu)
    refine ⟨fun k e sz n f hk => ?_, xs, h1, by rw [h2, resVs_len], fun i c hc => ?_⟩
    · simp only [rootAt] at hk
      cases hg : vs[k / 100]? with
      | none => rw [hg] at hk; cases hk
      | some u =>
        rw [hg] at hk
        obtain ⟨v', hv'⟩ := (one (k / 100) u _ (hsub _ u hg) (hroot _ u hg) (hsm' _ u hg) (h3 _ u hg)).1 _ _ _ _ _ hk
        exact ⟨v', by rwa [show 100 * (k / 100) + k % 100 = k from Nat.div_add_mod k 100] at hv'⟩
    · rw [resVs_get, Option.map_eq_some_iff] at hc
      obtain ⟨u, hu, rfl⟩ := hc
      rw [Nat.zero_add]
      exact (one i u _ (hsub _ u hu) (hroot _ u hu) (hsm' _ u hu) (h3 i u hu)).2

end Go.Mh
