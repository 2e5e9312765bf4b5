/- The contract of a function, and how a body meets it. No condition. -/
import Derived.Test.YtkmacjdigkaabaaFk
set_option linter.unusedVariables false
set_option linter.unusedSimpArgs false
set_option linter.unnecessarySimpa false
namespace Go.Mh
open Go

/-! ### contracts -/
inductive PV where
  | one (t : T)
  | agg (ts : List T)
  | tup (vs : List PV)

def OkP (w : World) (own : Own) (pl : Nat → Option Place) (v : Value) : PV → Prop
  | .one t => Ok w own (pl 0) v t
  | .agg ts => ∃ xs : Array Value, v = .agg xs ∧ xs.size = ts.length ∧ ∀ j t, ts[j]? = some t → Ok w own (pl j) (xs.getD j undef) t
  | .tup _ => False

def resPl (i : Nat) : Nat → Option Place := fun j => some ⟨.arr RR (100 * i + j), []⟩

def OkR (w : World) (own : Own) (v : Value) : PV → Prop
  | .tup vs => ∃ xs : Array Value, v = .tuple xs ∧ xs.size = vs.length ∧ ∀ i u, vs[i]? = some u → OkP w own (resPl i) (xs.getD i undef) u
  | u => OkP w own (resPl 0) v u

structure Ret (w w' : World) (own' : Own) : Prop where
  same : SameW w w'
  old : ∀ b, b < w.heap.size → w'.heap[b]? = w.heap[b]?
  new : ∀ b p, own' b = some p → w.heap.size ≤ b ∧ b < w'.heap.size ∧ ∃ k s, p = ⟨.arr RR k, s⟩
  inj : ∀ b b' p, own' b = some p → own' b' = some p → b = b'

/-- blocks of somebody else, by the world in which the call begins -/
def ownF (w : World) (F : Nat → Bool) : Own := fun b => if b < w.heap.size ∧ F b = true then some (FP b) else none
def mergeF (w : World) (F : Nat → Bool) (own : Own) : Own := fun b => if b < w.heap.size then ownF w F b else own b
theorem ownF_some {w : World} {F : Nat → Bool} {b : Nat} {p : Place} (h : ownF w F b = some p) : b < w.heap.size ∧ F b = true ∧ p = FP b := by
  unfold ownF at h
  split at h
  · rename_i hc; cases h; exact ⟨hc.1, hc.2, rfl⟩
  · cases h

def ASpec (P : Program) (f : FuncId) (args : List PV) (res : PV) : Prop :=
  ∀ (w : World) (F : Nat → Bool) (vals : Array Value), vals.size = args.length → (∀ i u, args[i]? = some u → OkP w (ownF w F) (fun _ => none) (vals.getD i undef) u) →
    Calls P f vals w fun e w' => ∃ v own', e = .returned v ∧ Ret w w' own' ∧ OkR w' (mergeF w F own') v res

/-! ### entering a function -/
def argV : PV → V
  | .one t => .one (.v t)
  | .agg ts => .agg (ts.map C.v)
  | .tup _ => .any

def initAS (n : Nat) (args : List PV) : AS where
  n := n
  s := fun t => match args[t]? with | some u => ⟨true, argV u⟩ | none => ⟨true, .any⟩
  box := fun _ => []
  arr := fun _ _ => .dead

theorem init_ok {P : Program} {w : World} {F : Nat → Bool} {vals : Array Value} {args : List PV} {n : Nat} (hs : vals.size = args.length) (hn : args.length ≤ n) (hnf : n ≤ RR) (h : ∀ i u, args[i]? = some u → OkP w (ownF w F) (fun _ => none) (vals.getD i undef) u) :
    Inv w (ownF w F) (initAS n args) { tmps := vals ++ Array.replicate (n - vals.size) undef, defers := [] } w (ownF w F) where
  inj := fun b b' p h h' => by
    have h1 := (ownF_some h).2.2
    have h2 := (ownF_some h').2.2
    rw [h1] at h2
    simp [FP] at h2
    exact h2
  rng := fun b p h => ⟨(ownF_some h).1, .inr (by rw [h]; simp)⟩
  fore := fun b h => ⟨h, rfl⟩
  keep := fun b k h => ⟨h, fun c e hc => ⟨c, hc, rfl⟩⟩
  noff := fun _ => rfl
  nf := hnf
  os := rfl
  tape := rfl
  output := rfl
  size := Nat.le_refl _
  frm := fun _ _ _ => rfl
  tsz := by simp [initAS]; omega
  dfr := rfl
  slots := fun t => by
    simp only [initAS]
    cases ht : args[t]? with
    | none => trivial
    | some u =>
      have hlt : t < args.length := (List.getElem?_eq_some_iff.1 ht).1
      have e : (vals ++ Array.replicate (n - vals.size) undef).getD t undef = vals.getD t undef := by
        simp [Array.getD_eq_getD_getElem?, Array.getElem?_append, show t < vals.size by omega]
      simp only [OkS, if_true, e]
      have := h t u ht
      cases u with
      | one t => exact this
      | agg ts =>
        obtain ⟨xs, h1, h2, h3⟩ := this
        refine ⟨xs, h1, by simpa using h2, fun j c hc => ?_⟩
        simp only [List.getElem?_map, Option.map_eq_some_iff] at hc
        obtain ⟨t0, ht0, rfl⟩ := hc
        exact h3 j t0 ht0
      | tup vs => exact this.elim
  boxes := fun d hd => absurd rfl hd
  arrs := fun d k e sz n f h => by cases h

/-! ### leaving it -/
/-- a slot's value as a part of a result (all owned parts exported) -/
inductive RetC (σ : AS) : C → T → List (Place × Nat) → Nat → Prop where
  | sc (t : T) (k : Nat) (h : t.sc = true) : RetC σ (.v t) t [] k
  | frz (e sz n : Nat) (f : Nat → List T) (k : Nat) : RetC σ (.v (.sl e sz n f)) (.fz (.sl e sz n f)) [] k
  | ref (p : Place) {e sz n : Nat} {f : Nat → List T} (k : Nat) (h : σ.node p = .sl e sz n f) : RetC σ (.ref p) (.sl e sz n f) [(p, k)] k
  | nil (e sz : Nat) (f : Nat → List T) (k : Nat) : RetC σ .nil (.sl e sz 0 f) [] k
  | dead (c : C) (k : Nat) (h : ∀ t, c ≠ .own t) : RetC σ c .dead [] k
  | nl (k : Nat) : RetC σ .nil .nl [] k

/-- cells of one component -/
inductive RetL (σ : AS) : List C → List T → List (Place × Nat) → Nat → Prop where
  | nil (k : Nat) : RetL σ [] [] [] k
  | cons {c : C} {t : T} {l : List (Place × Nat)} {cs : List C} {ts : List T} {ls : List (Place × Nat)} {k : Nat} (h : RetC σ c t l k) (hs : RetL σ cs ts ls (k + 1)) : RetL σ (c :: cs) (t :: ts) (l ++ ls) k

inductive RetV (σ : AS) : V → PV → List (Place × Nat) → Nat → Prop where
  | one {c : C} {t : T} {l : List (Place × Nat)} {k : Nat} (h : RetC σ c t l k) : RetV σ (.one c) (.one t) l k
  | agg {cs : List C} {ts : List T} {l : List (Place × Nat)} {k : Nat} (h : RetL σ cs ts l k) : RetV σ (.agg cs) (.agg ts) l k

inductive RetVs (σ : AS) : List Nat → List PV → List (Place × Nat) → Nat → Prop where
  | nil (i : Nat) : RetVs σ [] [] [] i
  | cons {t : Nat} {u : V} {r : PV} {l ls : List (Place × Nat)} {ts : List Nat} {rs : List PV} {i : Nat} (hs : σ.s t = ⟨true, u⟩) (h : RetV σ u r l (100 * i)) (hr : RetVs σ ts rs ls (i + 1)) : RetVs σ (t :: ts) (r :: rs) (l ++ ls) i

def collect : List (Place × Nat) → Own → Own
  | [], _ => fun _ => none
  | (p, k) :: l, own => fun b => match own b with
    | some q => match under p q with
      | true => some ⟨.arr RR k, q.p.drop p.p.length⟩
      | false => collect l own b
    | none => none

def disj (p q : Place) : Bool := !mayUnder p q && !mayUnder q p
def disjL : List (Place × Nat) → Bool
  | [] => true
  | (p, k) :: l => l.all (fun q => disj p q.1 && !Nat.beq k q.2) && disjL l

theorem isPre_both : ∀ {p q s : List (Nat × Nat)}, isPre p (q ++ s) = true → mayPre p q = true ∨ mayPre q p = true
  | [], _, _, _ => .inl rfl
  | _ :: _, [], _, _ => .inr rfl
  | (i, j) :: p, (i', j') :: q, s, h => by
    simp only [List.cons_append, isPre, Bool.and_eq_true] at h
    obtain ⟨h1, h2, h3⟩ := h
    rcases isPre_both h3 with h | h
    · left; simp only [mayPre, Bool.and_eq_true]; exact ⟨h2, h⟩
    · right; simp only [mayPre, Bool.and_eq_true]; exact ⟨by rw [Nat.eq_of_beq_eq_true h2]; simp, h⟩

theorem disj_under {p q : Place} (h : disj p q = true) (s : List (Nat × Nat)) : under p ⟨q.r, q.p ++ s⟩ = false := by
  simp only [disj, Bool.and_eq_true, Bool.not_eq_true'] at h
  cases hu : under p ⟨q.r, q.p ++ s⟩ with
  | false => rfl
  | true =>
    exfalso
    simp only [under, Bool.and_eq_true] at hu
    have hr := Root.beq_eq hu.1
    rcases isPre_both hu.2 with h1 | h1
    · have : mayUnder p q = true := by simp only [mayUnder, Bool.and_eq_true]; exact ⟨by rw [hr]; exact Root.beq_refl _, h1⟩
      rw [this] at h; exact absurd h.1 (by simp)
    · have : mayUnder q p = true := by simp only [mayUnder, Bool.and_eq_true]; exact ⟨by rw [hr]; exact Root.beq_refl _, h1⟩
      rw [this] at h; exact absurd h.2 (by simp)

theorem collect_none {own : Own} : ∀ (l : List (Place × Nat)) {b : Nat}, own b = none → collect l own b = none
  | [], _, _ => rfl
  | (p, k) :: l, b, h => by simp [collect, h]

theorem collect_some {own : Own} : ∀ (l : List (Place × Nat)) {b : Nat} {q : Place}, collect l own b = some q → ∃ p k s, (p, k) ∈ l ∧ own b = some ⟨p.r, p.p ++ s⟩ ∧ q = ⟨.arr RR k, s⟩
  | [], b, q, h => by cases h
  | (p, k) :: l, b, q, h => by
    simp only [collect] at h
    cases ho : own b with
    | none => rw [ho] at h; cases h
    | some x =>
      rw [ho] at h
      simp only at h
      cases hu : under p x with
      | true =>
        rw [hu] at h
        simp only [Option.some.injEq] at h
        obtain ⟨s, rfl⟩ := under_split hu
        exact ⟨p, k, s, by simp, rfl, by rw [← h]; simp⟩
      | false =>
        rw [hu] at h
        obtain ⟨p', k', s, h1, h2, h3⟩ := collect_some l h
        exact ⟨p', k', s, by simp [h1], by rw [← ho]; exact h2, h3⟩

theorem collect_moved {w : World} {own : Own} : ∀ (l : List (Place × Nat)), disjL l = true → ∀ p k, (p, k) ∈ l → Moved w w own (collect l own) p ⟨.arr RR k, []⟩
  | [], _, p, k, h => by cases h
  | (p0, k0) :: l, hd, p, k, h => by
    simp only [disjL, Bool.and_eq_true, List.all_eq_true, Bool.not_eq_true'] at hd
    intro b s hb
    refine ⟨?_, rfl⟩
    simp only [collect, hb]
    rw [List.mem_cons] at h
    rcases h with h | h
    · cases h
      rw [under_self]
      simp
    · rw [disj_under (hd.1 _ h).1 s]
      exact (collect_moved (w := w) l hd.2 p k h b s hb).1

theorem collect_k : ∀ (l : List (Place × Nat)), disjL l = true → ∀ p p' k, (p, k) ∈ l → (p', k) ∈ l → p = p'
  | [], _, p, p', k, h, _ => by cases h
  | (p0, k0) :: l, hd, p, p', k, h, h' => by
    simp only [disjL, Bool.and_eq_true, List.all_eq_true, Bool.not_eq_true'] at hd
    rw [List.mem_cons] at h h'
    rcases h with h | h <;> rcases h' with h' | h'
    · cases h; cases h'; rfl
    · cases h
      have := (hd.1 _ h').2
      simp at this
    · cases h'
      have := (hd.1 _ h).2
      simp at this
    · exact collect_k l hd.2 p p' k h h'

/-- the owners behind a return -/
theorem merge_froz {w0 : World} {F : Nat → Bool} {σ a w own} (hI : Inv w0 (ownF w0 F) σ a w own) (L : List (Place × Nat)) : Froz w w own (mergeF w0 F (collect L own)) := ⟨fun b hb _ => ⟨by
  unfold mergeF
  split
  · cases ho : ownF w0 F b with
    | none => rfl
    | some p =>
      have h1 := (ownF_some ho).2.2
      rw [h1] at ho
      have := (hI.fore b ho).1
      rw [this] at hb; cases hb
  · exact collect_none L hb, rfl⟩⟩

theorem node_noff {w0 own0 σ a w own} (hI : Inv w0 own0 σ a w own) {p : Place} {e sz n f} (h : σ.node p = .sl e sz n f) (k : Nat) : p.r ≠ .arr FF k := by
  intro he
  obtain ⟨r, ps⟩ := p
  simp only at he
  subst he
  simp only [AS.node, hI.noff, follow_dead] at h
  cases h

theorem merge_moved {w0 : World} {F : Nat → Bool} {σ a w own} (hI : Inv w0 (ownF w0 F) σ a w own) {L : List (Place × Nat)} (hL : disjL L = true) {p : Place} {k : Nat} (hm : (p, k) ∈ L) {e sz n f} (hn : σ.node p = .sl e sz n f) :
    Moved w w own (mergeF w0 F (collect L own)) p ⟨.arr RR k, []⟩ := by
  intro b s hb
  obtain ⟨h1, _⟩ := collect_moved (w := w) L hL p k hm b s hb
  refine ⟨?_, rfl⟩
  unfold mergeF
  split
  · rename_i hlt
    exfalso
    rcases (hI.rng b _ hb).2 with h | h
    · omega
    · cases ho : ownF w0 F b with
      | none => exact h ho
      | some q =>
        have h2 := (ownF_some ho).2.2
        rw [h2] at ho
        have h3 := (hI.fore b ho).1
        rw [hb] at h3
        simp only [FP, Option.some.injEq, Place.mk.injEq] at h3
        exact node_noff hI hn b h3.1
  · exact h1

theorem RetC.ok {w0 : World} {F : Nat → Bool} {σ a w own} (hI : Inv w0 (ownF w0 F) σ a w own) {c : C} {t : T} {l : List (Place × Nat)} {k : Nat} (h : RetC σ c t l k) {v : Value} (hv : OkC w own σ v c) {L : List (Place × Nat)} (hL : disjL L = true) (hl : ∀ x ∈ l, x ∈ L) :
    Ok w (mergeF w0 F (collect L own)) (some ⟨.arr RR k, []⟩) v t := by
  have hf := merge_froz hI L
  cases h with
  | sc t k ht => exact (Ok.sc hv ht) ▸ Ok.of_sc ht (Ok.fits hv)
  | frz e sz n f k => exact .fz (Ok.frozen hv hf)
  | ref p k hn => exact (hI.ref hv hn).moved hf (merge_moved hI hL (hl _ (by simp)) hn)
  | nil e sz f k => have : v = .slice none 0 0 := hv; rw [this]; exact .nil e sz f
  | dead c k h => exact .dead v
  | nl k => have : v = .slice none 0 0 := hv; rw [this]; exact .nl

theorem RetL.ok {w0 : World} {F : Nat → Bool} {σ a w own} (hI : Inv w0 (ownF w0 F) σ a w own) {L : List (Place × Nat)} (hL : disjL L = true) {cs : List C} {ts : List T} {l : List (Place × Nat)} {k : Nat} (h : RetL σ cs ts l k) : (∀ x ∈ l, x ∈ L) → ∀ (vs : Nat → Value), (∀ j c, cs[j]? = some c → OkC w own σ (vs j) c) →
    cs.length = ts.length ∧ ∀ j t, ts[j]? = some t → Ok w (mergeF w0 F (collect L own)) (some ⟨.arr RR (k + j), []⟩) (vs j) t := by
  induction h with
  | nil k => intro _ vs _; exact ⟨rfl, fun j t h => by simp at h⟩
  | @cons c t l cs ts ls k hc hs ih =>
    intro hl vs hv
    obtain ⟨h1, h2⟩ := ih (fun x hx => hl x (by simp [hx])) (fun j => vs (j + 1)) (fun j c hj => hv (j + 1) c (by simpa using hj))
    refine ⟨by simp [h1], fun j t' hj => ?_⟩
    cases j with
    | zero => simp only [List.getElem?_cons_zero, Option.some.injEq] at hj; subst hj; exact hc.ok hI (hv 0 c (by simp)) hL (fun x hx => hl x (by simp [hx]))
    | succ j =>
      have := h2 j t' (by simpa using hj)
      rwa [show k + 1 + j = k + (j + 1) by omega] at this

theorem RetV.ok {w0 : World} {F : Nat → Bool} {σ a w own} (hI : Inv w0 (ownF w0 F) σ a w own) {L : List (Place × Nat)} (hL : disjL L = true) {u : V} {r : PV} {l : List (Place × Nat)} {i : Nat} (h : RetV σ u r l (100 * i)) (hl : ∀ x ∈ l, x ∈ L) {v : Value} (hv : OkV w own σ v u) :
    OkP w (mergeF w0 F (collect L own)) (resPl i) v r := by
  cases h with
  | one h => exact h.ok hI hv hL hl
  | agg h =>
    obtain ⟨xs, h1, h2, h3⟩ := hv
    obtain ⟨k1, k2⟩ := h.ok hI hL hl (fun j => xs.getD j undef) h3
    exact ⟨xs, h1, by rw [h2, k1], fun j t ht => k2 j t ht⟩

theorem RetVs.ok {w0 : World} {F : Nat → Bool} {σ a w own} (hI : Inv w0 (ownF w0 F) σ a w own) {L : List (Place × Nat)} (hL : disjL L = true) {ts : List Nat} {rs : List PV} {l : List (Place × Nat)} {i : Nat} (h : RetVs σ ts rs l i) : (∀ x ∈ l, x ∈ L) →
    ts.length = rs.length ∧ ∀ j r t, rs[j]? = some r → ts[j]? = some t → OkP w (mergeF w0 F (collect L own)) (resPl (i + j)) (a.tmps.getD t undef) r := by
  induction h with
  | nil i => intro _; exact ⟨rfl, fun j r t h => by simp at h⟩
  | @cons t u r l ls ts rs i hs hv hr ih =>
    intro hl
    obtain ⟨h1, h2⟩ := ih (fun x hx => hl x (by simp [hx]))
    refine ⟨by simp [h1], fun j r' t' hj ht => ?_⟩
    cases j with
    | zero =>
      simp only [List.getElem?_cons_zero, Option.some.injEq] at hj ht
      subst hj; subst ht
      exact hv.ok hI hL (fun x hx => hl x (by simp [hx])) (hI.evV (x := .tmp t) hs)
    | succ j =>
      have := h2 j r' t' (by simpa using hj) (by simpa using ht)
      rwa [show i + 1 + j = i + (j + 1) by omega] at this

theorem run_mapM {P : Program} {w : World} (tmps : Array Value) (g : ResultVar → Sem Value) (hg : ∀ t, g (.tmp t) = pure (tmps.getD t undef)) : ∀ ts : List Nat,
    ((ts.map ResultVar.tmp).mapM g).run P w = .ok (ts.map fun t => tmps.getD t undef) w
  | [] => rfl
  | t :: ts => by simp only [List.map_cons, List.mapM_cons, hg, Sem.run_bind, Sem.run_pure, Result.andThen_ok, run_mapM tmps g hg ts]

theorem run_results {P : Program} {w : World} {fn : Func} (tmps : Array Value) (ts : List Nat) (h : fn.results = (ts.map ResultVar.tmp).toArray) :
    (results fn tmps).run P w = .ok (if h : (ts.map fun t => tmps.getD t undef).toArray.size = 1 then (ts.map fun t => tmps.getD t undef).toArray[0] else .tuple (ts.map fun t => tmps.getD t undef).toArray) w := by
  simp only [results, h, List.mapM_toArray, Sem.run_bind, Sem.run_map]
  rw [run_mapM tmps _ (fun t => rfl) ts]
  rfl

theorem RetC.exported {w0 own0 σ a w own} (hI : Inv w0 own0 σ a w own) {c : C} {t : T} {l : List (Place × Nat)} {k : Nat} (h : RetC σ c t l k) : ∀ q k, (q, k) ∈ l → ∀ b, q.r ≠ .arr FF b := by
  intro q k' hq b
  cases h with
  | ref p k hn => simp only [List.mem_singleton, Prod.mk.injEq] at hq; rw [hq.1]; exact node_noff hI hn b
  | _ => cases hq
theorem RetL.exported {w0 own0 σ a w own} (hI : Inv w0 own0 σ a w own) {cs : List C} {ts : List T} {l : List (Place × Nat)} {k : Nat} (h : RetL σ cs ts l k) : ∀ q k, (q, k) ∈ l → ∀ b, q.r ≠ .arr FF b := by
  induction h with
  | nil => intro q k hq; cases hq
  | cons h hs ih =>
    intro q k hq
    rw [List.mem_append] at hq
    rcases hq with hq | hq
    · exact h.exported hI q k hq
    · exact ih q k hq
theorem RetV.exported {w0 own0 σ a w own} (hI : Inv w0 own0 σ a w own) {u : V} {r : PV} {l : List (Place × Nat)} {k : Nat} (h : RetV σ u r l k) : ∀ q k, (q, k) ∈ l → ∀ b, q.r ≠ .arr FF b := by
  cases h with
  | one h => exact h.exported hI
  | agg h => exact h.exported hI
theorem RetVs.exported {w0 own0 σ a w own} (hI : Inv w0 own0 σ a w own) {ts : List Nat} {rs : List PV} {l : List (Place × Nat)} {i : Nat} (h : RetVs σ ts rs l i) : ∀ q k, (q, k) ∈ l → ∀ b, q.r ≠ .arr FF b := by
  induction h with
  | nil => intro q k hq; cases hq
  | cons hs h hr ih =>
    intro q k hq
    rw [List.mem_append] at hq
    rcases hq with hq | hq
    · exact h.exported hI q k hq
    · exact ih q k hq

/-- a function by its body -/
theorem ASpec.of_body {P : Program} {f : FuncId} {fn : Func} {c : Code} {args : List PV} {res : PV} (hf : P.funcs[f]? = some fn) (hb : fn.body = some c) (ts : List Nat) (hres : fn.results = (ts.map ResultVar.tmp).toArray) (hn : args.length ≤ fn.ntmps) (hnf : fn.ntmps ≤ RR)
    (h : AWp P c (fun e σ' => (e = .normal ∨ e = .ret) ∧ ∃ rs l, RetVs σ' ts rs l 0 ∧ disjL l = true ∧ (match rs with | [r] => r | _ => .tup rs) = res) (initAS fn.ntmps args)) : ASpec P f args res := by
  intro w F vals hs hv
  refine calls_of_wp hf hb (wp_mono (h w _ _ w _ (init_ok (P := P) hs hn hnf hv)) ?_)
  rintro e a' w' ⟨σ', own', ⟨he, rs, l, h1, h2, h3⟩, hI⟩
  have hpost : a'.defers = [] ∧ ∃ v, (results fn a'.tmps).run P w' = .ok v w' ∧ ∃ v' own', Ending.returned v = .returned v' ∧ Ret w w' own' ∧ OkR w' (mergeF w F own') v' res := by
    refine ⟨hI.dfr, ?_⟩
    obtain ⟨k1, k2⟩ := h1.ok hI h2 (fun x hx => hx)
    have hexp : ∀ q k, (q, k) ∈ l → ∀ b, q.r ≠ .arr FF b := fun q k hq b => h1.exported hI q k hq b
    have hret : Ret w w' (collect l own') := by
      refine ⟨⟨hI.os, hI.tape, hI.output, hI.size⟩, (fun b hb => ?_), fun b p hp => ?_, fun b b' p hp hp' => ?_⟩
      · cases ho : ownF w F b with
        | none => exact hI.frm b hb ho
        | some p => have h1 := (ownF_some ho).2.2; rw [h1] at ho; exact (hI.fore b ho).2
      · obtain ⟨q, k, s, g1, g2, g3⟩ := collect_some l hp
        obtain ⟨r1, r2⟩ := hI.rng b _ g2
        refine ⟨?_, r1, k, s, g3⟩
        rcases r2 with r2 | r2
        · exact r2
        · cases ho : ownF w F b with
          | none => exact absurd ho r2
          | some p =>
            have h1 := (ownF_some ho).2.2
            rw [h1] at ho
            have h3 := (hI.fore b ho).1
            rw [g2] at h3
            simp only [FP, Option.some.injEq, Place.mk.injEq] at h3
            exact absurd h3.1 (hexp q k g1 b)
      · obtain ⟨q, k, s, g1, g2, rfl⟩ := collect_some l hp
        obtain ⟨q', k', s', g1', g2', g3'⟩ := collect_some l hp'
        simp only [Place.mk.injEq, Root.arr.injEq, true_and] at g3'
        obtain ⟨rfl, rfl⟩ := g3'
        have := collect_k l h2 _ _ _ g1 g1'
        subst this
        exact hI.inj _ _ _ g2 g2'
    have hrun : (results fn a'.tmps).run P w' = .ok (if h : (ts.map fun t => a'.tmps.getD t undef).toArray.size = 1 then (ts.map fun t => a'.tmps.getD t undef).toArray[0] else .tuple (ts.map fun t => a'.tmps.getD t undef).toArray) w' := by
      exact run_results a'.tmps ts hres
    rw [hrun]
    refine ⟨_, rfl, _, collect l own', rfl, hret, ?_⟩
    subst h3
    match rs, ts, h1, k1, k2 with
    | [r], [t], h1, k1, k2 =>
      simp only [List.map_cons, List.map_nil, List.size_toArray, List.length_cons, List.length_nil, Nat.zero_add, dif_pos]
      have := k2 0 r t rfl rfl
      cases h1 with
      | cons hs hv hr =>
        cases hv with
        | one h => exact this
        | agg h => exact this
    | [], [], h1, k1, k2 => exact ⟨#[], rfl, rfl, fun i u hu => by simp at hu⟩
    | r :: r2 :: rs, t :: t2 :: ts, h1, k1, k2 =>
      rw [dif_neg (by simp)]
      refine ⟨_, rfl, by simpa using k1, fun i u hu => ?_⟩
      have hlt : i < (t :: t2 :: ts).length := by rw [k1]; exact (List.getElem?_eq_some_iff.1 hu).1
      have := k2 i u _ hu (List.getElem?_eq_getElem hlt)
      rw [Nat.zero_add] at this
      have e : ((t :: t2 :: ts).map fun t => a'.tmps.getD t undef).toArray.getD i undef = a'.tmps.getD ((t :: t2 :: ts)[i]) undef := by
        simp only [Array.getD_eq_getD_getElem?, List.getElem?_toArray, List.getElem?_map, List.getElem?_eq_getElem hlt, Option.map_some, Option.getD_some]
      rw [e]
      exact this
  rcases he with rfl | rfl
  · exact hpost
  · exact hpost

end Go.Mh
