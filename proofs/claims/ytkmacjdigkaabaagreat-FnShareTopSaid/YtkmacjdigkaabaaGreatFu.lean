/- Whole rows written at once. No condition. -/
import Derived.Test.YtkmacjdigkaabaaGreatFq
set_option linter.unusedVariables false
set_option linter.unusedSimpArgs false
set_option linter.unnecessarySimpa false
namespace Go.Mh
open Go

/-! ### an owned array told in other words -/
inductive Eqv : T → T → Prop where
  | refl (t : T) : Eqv t t
  | rows {e sz n : Nat} {f g : Nat → List T} (h : ∀ i, i < n → f i = g i) : Eqv (.sl e sz n f) (.sl e sz n g)
theorem Eqv.of_sl {t : T} {e sz n : Nat} {g : Nat → List T} (h : Eqv t (.sl e sz n g)) : ∃ f, t = .sl e sz n f ∧ ∀ i, i < n → f i = g i := by
  cases h with
  | refl => exact ⟨g, rfl, fun _ _ => rfl⟩
  | rows h => exact ⟨_, rfl, h⟩
theorem Eqv.follow {t t' : T} (h : Eqv t t') : ∀ (ps : List (Nat × Nat)) {e sz n g}, follow t' ps = .sl e sz n g → ∃ f, follow t ps = .sl e sz n f
  | ps, e, sz, n, g, hf => by
    cases h with
    | refl => exact ⟨g, hf⟩
    | @rows e' sz' n' f1 g1 h =>
      cases ps with
      | nil => simp only [Mh.follow, T.sl.injEq] at hf ⊢; obtain ⟨rfl, rfl, rfl, rfl⟩ := hf; exact ⟨f1, ⟨rfl, rfl, rfl, rfl⟩⟩
      | cons x ps =>
        obtain ⟨i, j⟩ := x
        simp only [Mh.follow] at hf ⊢
        split at hf
        · rename_i hi; rw [if_pos hi, h i hi]; exact ⟨g, hf⟩
        · cases hf
theorem Eqv.ok {w own p v t t'} (h : Eqv t t') (hok : Ok w own (some p) v t) : Ok w own (some p) v t' := by
  cases h with
  | refl => exact hok
  | rows h =>
    cases hok with
    | nil => exact .nil _ _ _
    | osl ho hh hs hn hcap hl hr => exact .osl ho hh hs hn hcap (fun i hi => by rw [← h i hi]; exact hl i hi) (fun i j hi hj => by rw [← h i hi]; exact hr i j hi hj)

def isAR (σ : AS) : List (Nat × Nat × T) → Prop
  | [] => True
  | (k, i, v) :: l => Eqv (σ.arr k i) v ∧ isAR σ l
theorem isAR_look {σ : AS} : ∀ {sl : List (Nat × Nat × T)}, isAR σ sl → ∀ t j, Eqv (σ.arr t j) (lookA sl t j) ∨ lookA sl t j = .dead
  | [], _, t, j => .inr rfl
  | (k, i, v) :: l, h, t, j => by
    simp only [lookA]
    cases hb : Nat.beq t k with
    | true =>
      cases hb2 : Nat.beq j i with
      | true => left; rw [Nat.eq_of_beq_eq_true hb, Nat.eq_of_beq_eq_true hb2]; exact h.1
      | false => exact isAR_look h.2 t j
    | false => exact isAR_look h.2 t j

theorem Le.forgetR {σ : AS} {n : Nat} {sl : List (Nat × SV)} {bl : List (Nat × List C)} {al : List (Nat × Nat × T)} (hn : σ.n = n) (hs : isS σ sl) (hb : isB σ bl) (ha : isAR σ al) : Le σ (mkAS n sl bl al) := by
  intro w0 own0 a w own h
  have hnode : ∀ p e sz n' f, (mkAS n sl bl al).node p = .sl e sz n' f → ∃ g, σ.node p = .sl e sz n' g := by
    intro p e sz n' f hp
    obtain ⟨r, ps⟩ := p
    cases r with
    | arr d k =>
      simp only [AS.node, mkAS] at hp ⊢
      rcases isAR_look ha d k with h1 | h1
      · exact h1.follow ps hp
      · rw [h1, follow_dead] at hp; cases hp
    | box d =>
      cases ps with
      | nil => simp [AS.node] at hp
      | cons x ps =>
        obtain ⟨i, j⟩ := x
        cases i with
        | succ i => simp [AS.node] at hp
        | zero =>
          simp only [AS.node, mkAS] at hp ⊢
          rcases isB_look hb d with h1 | h1
          · rw [← h1]; exact ⟨f, hp⟩
          · rw [h1] at hp; simp [cellTree, follow_dead] at hp
  have hbx : ∀ d, (mkAS n sl bl al).box d ≠ [] → (mkAS n sl bl al).box d = σ.box d := fun d hd => (isB_look hb d).resolve_right hd
  have hk : ∀ p, KeepP w w own own σ (mkAS n sl bl al) p := fun p => ⟨fun e sz n' f hp => hnode p e sz n' f hp, fun d _ hd => by rw [← hbx d hd]; exact hd, fun _ b hb' => ⟨hb', fun c e hc => ⟨c, hc, rfl⟩⟩⟩
  refine ⟨own, h.trans ⟨rfl, rfl, rfl, Nat.le_refl _⟩ (fun _ _ _ => rfl) (fun b hb => ⟨hb, rfl⟩) (fun k => ?_) h.inj (fun b p hp => ⟨(h.rng b p hp).1, .inl (by rw [hp]; simp)⟩) hn.symm (fun t ht => ?_) (fun d hd => ?_) (fun d k e sz n' f hd => ?_) (Kept.of fun b k hb => ⟨hb, rfl⟩)⟩
  · rcases isAR_look ha FF k with h1 | h1
    · have h2 := h.noff k
      rw [h2] at h1
      show lookA al FF k = .dead
      generalize lookA al FF k = x at h1
      cases h1; rfl
    · exact h1
  · rcases isS_look hs t with h1 | h1
    · show OkS w own _ _ (lookS sl t)
      rw [h1]
      exact ht.keepAll hk
    · show OkS w own _ _ (lookS sl t)
      rw [h1]
      trivial
  · rw [hbx d hd]
    obtain ⟨b, c, e, h1, h2, h3, h4⟩ := h.boxes d (by rw [← hbx d hd]; exact hd)
    exact ⟨b, c, e, h1, h2, h3, fun j x hx => (h4 j x hx).keepAll hk⟩
  · rcases isAR_look ha d k with h1 | h1
    · have hd' : lookA al d k = .sl e sz n' f := hd
      rw [hd'] at h1
      obtain ⟨g, hg, hfg⟩ := h1.of_sl
      obtain ⟨v, hv⟩ := h.arrs d k e sz n' g hg
      exact ⟨v, Eqv.ok (.rows hfg) hv⟩
    · have : lookA al d k = .sl e sz n' f := hd
      rw [h1] at this; cases this

/-! ### calls, once more: what is asked of the arguments, as a look by program -/
def noRefB : List C → Bool
  | [] => true
  | .ref _ :: _ => false
  | _ :: l => noRefB l
theorem noRefB_spec : ∀ {l : List C}, noRefB l = true → noRefL l
  | [], _ => by intro c hc; cases hc
  | c :: l, h => by
    intro x hx p
    rcases List.mem_cons.1 hx with rfl | hx
    · rintro rfl; cases h
    · refine noRefB_spec (l := l) ?_ x hx p
      cases c <;> first | exact h | cases h
def noRefsB (σ : AS) : List Operand → Bool
  | [] => true
  | x :: xs => match noRefB (σ.ev x).v.cells with | true => noRefsB σ xs | false => false
theorem noRefsB_spec {σ : AS} : ∀ {xs : List Operand}, noRefsB σ xs = true → ∀ x ∈ xs, noRefL (σ.ev x).v.cells
  | [], _ => by intro x hx; cases hx
  | y :: xs, h => by
    simp only [noRefsB] at h
    cases hy : noRefB (σ.ev y).v.cells with
    | false => rw [hy] at h; cases h
    | true =>
      rw [hy] at h
      intro x hx
      rcases List.mem_cons.1 hx with rfl | hx
      · exact noRefB_spec hy
      · exact noRefsB_spec h x hx
/-- a call that hands new memory back; no argument is memory of the frame's own -/
theorem call_stepN {P : Program} {o : Oper} {σ : AS} {d : Nat} (hd : o.dst = some d) (hn : d < σ.n) {f : FuncId} {xs : List Operand} {ats : Array TypeId} (ho : o.op = .call { callee := .value (.func f), args := xs.toArray, argTypes := ats }) (hc : callOk P f = true)
    {args : List PV} {res : PV} (ha : ArgVs σ xs args) (hs : ASpec P f args res) (hsm : smallR res = true) (hh : noRefsB σ xs = true) :
    Step P o σ (((σ.kill d).setRoots d res).setS d ⟨true, resVV d res⟩) := call_step hd hn ho hc ha hs hsm (.inr (noRefsB_spec hh))

/-! ### handing back -/
theorem RetIs.ref {t : Nat} {p : Place} {e' sz n : Nat} {f : Nat → List T} {y : T} {e : Exit} {σ : AS} (he : e = .normal ∨ e = .ret) (hs : σ.s t = ⟨true, .one (.ref p)⟩) (hp : σ.node p = .sl e' sz n f) (h : T.sl e' sz n f = y) : RetIs [t] (.one y) e σ :=
  ⟨he, [.one (.sl e' sz n f)], [(p, 0)], by have := RetVs.cons (i := 0) hs (.one (.ref p _ hp)) (.nil _); simpa using this, rfl, by rw [h]⟩
theorem RetIs.agg {t : Nat} {cs : List C} {ts ts' : List T} {l : List (Place × Nat)} {e : Exit} {σ : AS} (he : e = .normal ∨ e = .ret) (hs : σ.s t = ⟨true, .agg cs⟩) (hp : RetL σ cs ts l 0) (hd : disjL l = true) (h : ts = ts') : RetIs [t] (.agg ts') e σ :=
  ⟨he, [.agg ts], l, by simpa using RetVs.cons hs (.agg hp) (.nil _), hd, by rw [h]⟩

end Go.Mh

set_option linter.unusedVariables false
namespace Go.Mh
open Go

def oneOrTup : List PV → PV
  | [r] => r
  | rs => .tup rs
def retVal (l : List Value) : Value := if h : l.toArray.size = 1 then l.toArray[0] else .tuple l.toArray
/-- what a frame hands back, by the slots ts -/
theorem post_of {w : World} {F : Nat → Bool} {σ' : AS} {a' : Act} {w' : World} {own' : Own} (hI : Inv w (ownF w F) σ' a' w' own') {ts : List Nat} {rs : List PV} {l : List (Place × Nat)} {res : PV} (h1 : RetVs σ' ts rs l 0) (h2 : disjL l = true) (h3 : oneOrTup rs = res) :
    ∃ own', Ret w w' own' ∧ OkR w' (mergeF w F own') (retVal (ts.map fun t => a'.tmps.getD t undef)) res := by
  unfold retVal
  obtain ⟨k1, k2⟩ := h1.ok hI h2 (fun x hx => hx)
  have hexp : ∀ q k, (q, k) ∈ l → ∀ b, q.r ≠ .arr FF b := fun q k hq b => h1.exported hI q k hq b
  have hret : Ret w w' (collect l own') := by
    refine ⟨⟨hI.os, hI.tape, hI.output, hI.size⟩, (fun b hb => ?_), fun b p hp => ?_, fun b b' p hp hp' => ?_⟩
    · cases ho : ownF w F b with
      | none => exact hI.frm b hb ho
      | some p => have h1 := (ownF_some ho).2.2; rw [h1] at ho; exact (hI.fore b ho).2
    · obtain ⟨q, k, s, g1, g2, g3⟩ := collect_some l hp
      obtain ⟨r1, r2⟩ := hI.rng b _ g2
      refine ⟨?_, r1, k, s, g3⟩
      rcases r2 with r2 | r2
      · exact r2
      · cases ho : ownF w F b with
        | none => exact absurd ho r2
        | some p =>
          have h1 := (ownF_some ho).2.2
          rw [h1] at ho
          have h3 := (hI.fore b ho).1
          rw [g2] at h3
          simp only [FP, Option.some.injEq, Place.mk.injEq] at h3
          exact absurd h3.1 (hexp q k g1 b)
    · obtain ⟨q, k, s, g1, g2, rfl⟩ := collect_some l hp
      obtain ⟨q', k', s', g1', g2', g3'⟩ := collect_some l hp'
      simp only [Place.mk.injEq, Root.arr.injEq, true_and] at g3'
      obtain ⟨rfl, rfl⟩ := g3'
      have := collect_k l h2 _ _ _ g1 g1'
      subst this
      exact hI.inj _ _ _ g2 g2'
  refine ⟨collect l own', hret, ?_⟩
  subst h3
  match rs, ts, h1, k1, k2 with
  | [r], [t], h1, k1, k2 =>
    simp only [List.map_cons, List.map_nil, List.size_toArray, List.length_cons, List.length_nil, Nat.zero_add, dif_pos]
    have := k2 0 r t rfl rfl
    cases h1 with
    | cons hs hv hr =>
      cases hv with
      | one h => exact this
      | agg h => exact this
  | [], [], h1, k1, k2 => exact ⟨#[], rfl, rfl, fun i u hu => by simp at hu⟩
  | r :: r2 :: rs, t :: t2 :: ts, h1, k1, k2 =>
    rw [dif_neg (by simp)]
    refine ⟨_, rfl, by simpa using k1, fun i u hu => ?_⟩
    have hlt : i < (t :: t2 :: ts).length := by rw [k1]; exact (List.getElem?_eq_some_iff.1 hu).1
    have := k2 i u _ hu (List.getElem?_eq_getElem hlt)
    rw [Nat.zero_add] at this
    have e : ((t :: t2 :: ts).map fun t => a'.tmps.getD t undef).toArray.getD i undef = a'.tmps.getD ((t :: t2 :: ts)[i]) undef := by
      simp only [Array.getD_eq_getD_getElem?, List.getElem?_toArray, List.getElem?_map, List.getElem?_eq_getElem hlt, Option.map_some, Option.getD_some]
    rw [e]
    exact this

/-- a struct read out of a box -/
theorem load_box {P : Program} {w0 own0 σ a w own} (hI : Inv w0 own0 σ a w own) {t ty m d : Nat} {cs : List C} (ht : structSz P ty = some m) (hx : σ.s t = ⟨true, .one (.bptr d 0)⟩) (hc : (σ.box d).take m = cs) (hm : cs.length = m) (h0 : 0 < m) :
    ∃ ad v, a.tmps.getD t undef = .pointer (some ad) ∧ (loadVar ty ad).run P w = .ok v w ∧ OkV w own σ v (.agg (lookL d 0 cs)) := by
  have hget : ∀ (i : Nat) (c : C), cs[i]? = some c → (σ.box d)[i]? = some c := by
    intro i c hi
    rw [← hc, List.getElem?_take] at hi
    split at hi
    · exact hi
    · cases hi
  have hne : σ.box d ≠ [] := fun e => by rw [e] at hc; simp at hc; subst hc; simp at hm; omega
  obtain ⟨bb, hv, hown⟩ := hI.evC (x := .tmp t) hx hne
  obtain ⟨b', cc, e', h1, h2, h3, h4⟩ := hI.boxes d hne
  have := hI.inj _ _ _ hown h1
  subst this
  have hlen : ∀ i, i < m → i < cc.size := fun i hi => by
    rw [h3]
    have : i < cs.length := by omega
    exact (List.getElem?_eq_some_iff.1 (hget i _ (List.getElem?_eq_getElem this))).1
  refine ⟨_, .agg ((List.range m).map fun i => cc.getD i undef).toArray, hv, ?_, ?_⟩
  · refine run_load_struct ((List.range m).map fun i => cc.getD i undef) ht (by simp) (fun i hi => ?_)
    have := hlen i hi
    simp [World.cell?, h2, List.getD_eq_getElem?_getD, hi, this]
  · refine ⟨_, rfl, by simp [lookL_len, hm], fun i c hi => ?_⟩
    rw [lookL_get, Option.map_eq_some_iff] at hi
    obtain ⟨c0, hc0, rfl⟩ := hi
    have him : i < m := by rw [← hm]; exact (List.getElem?_eq_some_iff.1 hc0).1
    have e1 : (((List.range m).map fun i => cc.getD i undef).toArray).getD i undef = cc.getD i undef := by simp [him]
    rw [e1]
    have := look_ok (hget i c0 hc0) (h4 _ _ (hget i c0 hc0))
    simpa using this

/-- the end of a function whose first result is a variable of its own -/
def RetIsC (P : Program) (t0 ty : Nat) (ts : List Nat) (res : PV) : Exit → AS → Prop := fun e σ' => (e = .normal ∨ e = .ret) ∧ ∃ d m cs rs l, structSz P ty = some m ∧ 0 < m ∧ Nat.ble (t0 + 1) σ'.n = true ∧ σ'.s t0 = ⟨true, .one (.bptr d 0)⟩ ∧ (σ'.box d).take m = cs ∧ cs.length = m ∧
  RetVs (σ'.setS t0 ⟨true, .agg (lookL d 0 cs)⟩) (t0 :: ts) rs l 0 ∧ disjL l = true ∧ oneOrTup rs = res

theorem ASpec.bodyC {P : Program} {f : FuncId} {fn : Func} {c : Code} {args : List PV} {res : PV} (hf : P.funcs[f]? = some fn) (hb : fn.body = some c) (t0 ty : Nat) (ts : List Nat) (hres : fn.results = (ResultVar.cell t0 ty :: ts.map ResultVar.tmp).toArray) (ht0 : ts.all (fun t => !Nat.beq t t0) = true)
    (n : Nat) (hnn : fn.ntmps = n) (hn : Nat.ble args.length n = true) (hnf : Nat.ble n RR = true) (h : AWp P c (RetIsC P t0 ty ts res) (initAS n args)) : ASpec P f args res := by
  subst hnn
  intro w F vals hs hv
  refine calls_of_wp hf hb (wp_mono (h w _ _ w _ (init_ok (P := P) hs (Nat.le_of_ble_eq_true hn) (Nat.le_of_ble_eq_true hnf) hv)) ?_)
  rintro e a' w' ⟨σ', own', ⟨he, d, m, cs, rs, l, k1, k0, kn, k2, k3, k4, k5, k6, k7⟩, hI⟩
  have hpost : a'.defers = [] ∧ ∃ v, (results fn a'.tmps).run P w' = .ok v w' ∧ ∃ v' own', Ending.returned v = .returned v' ∧ Ret w w' own' ∧ OkR w' (mergeF w F own') v' res := by
    refine ⟨hI.dfr, ?_⟩
    obtain ⟨ad, v, q1, q2, q3⟩ := load_box (P := P) hI k1 k2 k3 k4 k0
    have hne : ∀ t ∈ ts, t ≠ t0 := fun t ht e => by
      have := List.all_eq_true.1 ht0 t ht
      subst e
      rw [Nat.beq_refl] at this; cases this
    have hlt := Nat.le_of_ble_eq_true kn
    have hI2 := hI.put (d := t0) (v := v) (x := ⟨true, .agg (lookL d 0 cs)⟩) hlt q3
    obtain ⟨own2, r1, r2⟩ := post_of hI2 k5 k6 k7
    have hget : ∀ t, (a'.put (some t0) v).tmps.getD t undef = if t = t0 then v else a'.tmps.getD t undef := fun t => put_getD a' t0 t v (by rw [hI.tsz]; exact hlt)
    have hl : ((t0 :: ts).map fun t => (a'.put (some t0) v).tmps.getD t undef) = v :: ts.map fun t => a'.tmps.getD t undef := by
      rw [List.map_cons, hget, if_pos rfl]
      congr 1
      exact List.map_congr_left fun t ht => by rw [hget, if_neg (hne t ht)]
    rw [hl] at r2
    refine ⟨_, ?_, _, own2, rfl, r1, r2⟩
    simp only [results, hres, List.mapM_toArray, Sem.run_bind, Sem.run_map, List.mapM_cons, q1, asAddr, Sem.run_pure, Result.andThen_ok, q2]
    rw [run_mapM a'.tmps _ (fun t => rfl) ts]
    rfl
  rcases he with rfl | rfl
  · exact hpost
  · exact hpost

end Go.Mh

set_option linter.unusedVariables false
namespace Go.Mh
open Go

def fitsC : C → Prop
  | .v (.str s) => s.size ≤ 9223372036854775807
  | .v (.sl _ _ n _) => n ≤ 9223372036854775807
  | _ => True
theorem OkC.fitsC {w own σ v c} (h : OkC w own σ v c) : fitsC c := by
  cases c with
  | v t =>
    cases t with
    | str s => have := Ok.fits (pl := none) (t := .str s) h; show s.size ≤ 9223372036854775807; simpa only [T.fits, maxLen] using this
    | sl e sz n f =>
      have h' : Ok w own none v (.sl e sz n f) := h
      cases h' with
      | nil => exact Nat.zero_le 9223372036854775807
      | emp => exact Nat.zero_le 9223372036854775807
      | fsl x hn hcap => simp only [maxLen] at hcap; exact Nat.le_trans hn hcap
    | _ => trivial
  | _ => trivial
theorem AWp.aggLe {P : Program} {Q : Exit → AS → Prop} {σ : AS} {c : Code} (t : Nat) {cs : List C} (hs : σ.s t = ⟨true, .agg cs⟩) (h : (∀ c, c ∈ cs → fitsC c) → AWp P c Q σ) : AWp P c Q σ := by
  intro w0 own0 a w own hI
  refine h (fun c hc => ?_) w0 own0 a w own hI
  obtain ⟨xs, h1, h2, h3⟩ := hI.evV (x := .tmp t) hs
  obtain ⟨j, hj⟩ := List.getElem?_of_mem hc
  exact (h3 j c hj).fitsC
theorem Step.le {P : Program} {o : Oper} {σ τ τ' : AS} (h : Step P o σ τ) (hl : Le τ τ') : Step P o σ τ' := by
  intro w0 own0 a w own hI K Q hK
  refine h w0 own0 a w own hI K Q fun a' w' own' hI' => ?_
  obtain ⟨own2, h2⟩ := hl w0 own0 a' w' own' hI'
  exact hK _ _ _ h2

/-! ### a whole row written at once -/
def putRow (f : Nat → List T) (i : Nat) (ts : List T) : Nat → List T := fun j => match Nat.beq j i with | true => ts | false => f j
end Go.Mh
