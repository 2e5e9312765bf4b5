/- Lending: what the callee is told, and what the caller is told afterwards. No condition. -/
import Derived.Test.YtkmacjdigkaabaaGa
set_option linter.unusedVariables false
set_option linter.unusedSimpArgs false
set_option linter.unnecessarySimpa false
namespace Go.Mh
open Go

/-! ### lending: what the callee is told of owners, and what the caller is told afterwards -/
def lendOwn : List (Place × Nat) → Own → Own
  | [], own => fun b => match own b with | some _ => some (FP b) | none => none
  | (p, k) :: l, own => fun b => match own b with
    | some q => match under p q with
      | true => some ⟨.arr RR k, q.p.drop p.p.length⟩
      | false => lendOwn l own b
    | none => none
theorem lend_none {own : Own} : ∀ (l : List (Place × Nat)) {b : Nat}, own b = none → lendOwn l own b = none
  | [], _, h => by simp [lendOwn, h]
  | (p, k) :: l, b, h => by simp [lendOwn, h]
theorem lend_out {own : Own} : ∀ (l : List (Place × Nat)) {b : Nat} {q : Place}, own b = some q → (∀ x ∈ l, under x.1 q = false) → lendOwn l own b = some (FP b)
  | [], _, _, h, _ => by simp [lendOwn, h]
  | (p, k) :: l, b, q, h, hu => by
    simp only [lendOwn, h]
    rw [hu (p, k) (by simp)]
    exact lend_out l h (fun x hx => hu x (by simp [hx]))
theorem lend_in {own : Own} : ∀ (l : List (Place × Nat)), disjL l = true → ∀ p k, (p, k) ∈ l → ∀ b s, own b = some ⟨p.r, p.p ++ s⟩ → lendOwn l own b = some ⟨.arr RR k, s⟩
  | [], _, p, k, h => by cases h
  | (p0, k0) :: l, hd, p, k, h => by
    simp only [disjL, Bool.and_eq_true, List.all_eq_true, Bool.not_eq_true'] at hd
    intro b s hb
    simp only [lendOwn, hb]
    rw [List.mem_cons] at h
    rcases h with h | h
    · cases h
      rw [under_self]
      simp
    · rw [disj_under (hd.1 _ h).1 s]
      exact lend_in l hd.2 p k h b s hb
theorem lend_some {own : Own} : ∀ (l : List (Place × Nat)) {b : Nat} {q : Place}, lendOwn l own b = some q → (∃ p k s, (p, k) ∈ l ∧ own b = some ⟨p.r, p.p ++ s⟩ ∧ q = ⟨.arr RR k, s⟩) ∨ (q = FP b ∧ ∃ x, own b = some x ∧ ∀ y ∈ l, under y.1 x = false)
  | [], b, q, h => by
    simp only [lendOwn] at h
    cases ho : own b with
    | none => rw [ho] at h; cases h
    | some x => rw [ho] at h; cases h; exact .inr ⟨rfl, x, rfl, fun y hy => by cases hy⟩
  | (p, k) :: l, b, q, h => by
    simp only [lendOwn] at h
    cases ho : own b with
    | none => rw [ho] at h; cases h
    | some x =>
      rw [ho] at h
      simp only at h
      cases hu : under p x with
      | true =>
        rw [hu] at h
        simp only [Option.some.injEq] at h
        obtain ⟨s, rfl⟩ := under_split hu
        exact .inl ⟨p, k, s, by simp, rfl, by rw [← h]; simp⟩
      | false =>
        rw [hu] at h
        rcases lend_some l h with ⟨p', k', s, h1, h2, h3⟩ | ⟨h1, x', h2, h3⟩
        · exact .inl ⟨p', k', s, by simp [h1], by rw [← ho]; exact h2, h3⟩
        · rw [ho] at h2; cases h2
          refine .inr ⟨h1, x, rfl, fun y hy => ?_⟩
          rw [List.mem_cons] at hy
          rcases hy with rfl | hy
          · exact hu
          · exact h3 y hy

def placeOf : List (Place × Nat) → Nat → Option Place
  | [], _ => none
  | (p, k) :: l, n => match Nat.beq k n with | true => some p | false => placeOf l n
theorem placeOf_mem : ∀ {l : List (Place × Nat)}, disjL l = true → ∀ {p k}, (p, k) ∈ l → placeOf l k = some p
  | [], _, p, k, h => by cases h
  | (p0, k0) :: l, hd, p, k, h => by
    have hd0 := hd
    simp only [disjL, Bool.and_eq_true, List.all_eq_true, Bool.not_eq_true'] at hd
    simp only [placeOf]
    rw [List.mem_cons] at h
    rcases h with h | h
    · cases h; simp
    · rw [(hd.1 _ h).2]; exact placeOf_mem hd.2 h
theorem placeOf_some : ∀ {l : List (Place × Nat)} {p k}, placeOf l k = some p → (p, k) ∈ l
  | [], p, k, h => by cases h
  | (p0, k0) :: l, p, k, h => by
    simp only [placeOf] at h
    cases hb : Nat.beq k0 k with
    | true => rw [hb] at h; cases h; rw [Nat.eq_of_beq_eq_true hb]; simp
    | false => rw [hb] at h; exact List.mem_cons_of_mem _ (placeOf_some h)
def reloc (l : List (Place × Nat)) : Option Place → Option Place
  | some ⟨.arr d k, s⟩ => match Nat.beq d RR with | true => (placeOf l k).map (fun p => ⟨p.r, p.p ++ s⟩) | false => none
  | _ => none
def anyUnder (l : List (Place × Nat)) (q : Place) : Bool := l.any (fun x => under x.1 q)
theorem anyUnder_false {l : List (Place × Nat)} {q : Place} (h : anyUnder l q = false) : ∀ x ∈ l, under x.1 q = false := fun x hx => by
  have := List.any_eq_false.1 h x hx
  simpa using this
theorem anyUnder_true {l : List (Place × Nat)} {q : Place} (h : anyUnder l q = true) : ∃ x ∈ l, under x.1 q = true := List.any_eq_true.1 h
def lentBack (l : List (Place × Nat)) (own own' : Own) : Own := fun b => match own b with
  | some q => match anyUnder l q with | true => reloc l (own' b) | false => some q
  | none => reloc l (own' b)
theorem reloc_some {l : List (Place × Nat)} {o : Option Place} {q : Place} (h : reloc l o = some q) : ∃ p k s, (p, k) ∈ l ∧ o = some ⟨.arr RR k, s⟩ ∧ q = ⟨p.r, p.p ++ s⟩ := by
  unfold reloc at h
  split at h
  · rename_i d k s
    cases hb : Nat.beq d RR with
    | false => rw [hb] at h; cases h
    | true =>
      rw [hb] at h
      have hd := Nat.eq_of_beq_eq_true hb
      subst hd
      simp only [Option.map_eq_some_iff] at h
      obtain ⟨p, hp, rfl⟩ := h
      exact ⟨p, k, s, placeOf_some hp, rfl, rfl⟩
  · cases h
theorem reloc_in {l : List (Place × Nat)} (hd : disjL l = true) {p : Place} {k : Nat} (h : (p, k) ∈ l) (s : List (Nat × Nat)) : reloc l (some ⟨.arr RR k, s⟩) = some ⟨p.r, p.p ++ s⟩ := by
  simp only [reloc, Nat.beq_refl, placeOf_mem hd h, Option.map_some]

structure Lent (L : List (Place × Nat)) (args : List MV) (w w' : World) (own own'' : Own) : Prop where
  same : SameW w w'
  froz : Froz w w' own own''
  out : ∀ b q, own b = some q → (∀ x ∈ L, under x.1 q = false) → own'' b = some q ∧ w'.heap[b]? = w.heap[b]?
  kp : ∀ p k, (p, k) ∈ L → ∀ b, own b = some p → own'' b = some p ∧ ∀ c e, w.heap[b]? = some (.cells c e (0, 0)) → ∃ c' : Array Value, w'.heap[b]? = some (.cells c' e (0, 0)) ∧ c'.size = c.size
  inj : ∀ b b' p, own'' b = some p → own'' b' = some p → b = b'
  rng : ∀ b p, own'' b = some p → b < w'.heap.size ∧ (own b ≠ none ∨ w.heap.size ≤ b)
  kept : Kept w w' own own''
  tree : ∀ (i : Nat) u (j : Nat) t t' q, args[i]? = some u → (mcs u)[j]? = some (.rw t t') → (q, 100 * i + j) ∈ L → ∀ e sz n f g, t = .sl e sz n f → t' = .sl e sz n g → ∀ v, Ok w own (some q) v t → Ok w' own'' (some q) v t'

/-! arguments -/
inductive MArgC (σ : AS) (L : List (Place × Nat)) (k : Nat) : C → MC → Prop where
  | v {t t' : T} (hz : Fz t t') : MArgC σ L k (.v t) (.ro t')
  | nil (e sz : Nat) (f : Nat → List T) : MArgC σ L k .nil (.ro (.sl e sz 0 f))
  | rw (q : Place) {t t' : T} (hm : placeOf L k = some q) {e sz n : Nat} {f : Nat → List T} (h : σ.node q = .sl e sz n f) (ht : t = .sl e sz n f) : MArgC σ L k (.ref q) (.rw t t')
inductive MArgL (σ : AS) (L : List (Place × Nat)) : Nat → List C → List MC → Prop where
  | nil (k : Nat) : MArgL σ L k [] []
  | cons {k : Nat} {c : C} {m : MC} {cs : List C} {ms : List MC} (h : MArgC σ L k c m) (hs : MArgL σ L (k + 1) cs ms) : MArgL σ L k (c :: cs) (m :: ms)
inductive MArgV (σ : AS) (L : List (Place × Nat)) (k : Nat) : V → MV → Prop where
  | one {c : C} {m : MC} (h : MArgC σ L k c m) : MArgV σ L k (.one c) (.one m)
  | agg {cs : List C} {ms : List MC} (h : MArgL σ L k cs ms) : MArgV σ L k (.agg cs) (.agg ms)
inductive MArgVs (σ : AS) (L : List (Place × Nat)) : Nat → List Operand → List MV → Prop where
  | nil (i : Nat) : MArgVs σ L i [] []
  | cons {i : Nat} {x : Operand} {u : V} {m : MV} {xs : List Operand} {ms : List MV} (hx : σ.ev x = ⟨true, u⟩) (h : MArgV σ L (100 * i) u m) (hs : MArgVs σ L (i + 1) xs ms) : MArgVs σ L i (x :: xs) (m :: ms)

section
variable {w0 : World} {own0 : Own} {σ : AS} {a : Act} {w : World} {own : Own} (hI : Inv w0 own0 σ a w own) {L : List (Place × Nat)} (hL : disjL L = true)
include hI hL
theorem MArgC.ok {k : Nat} {c : C} {m : MC} (h : MArgC σ L k c m) {v : Value} (hv : OkC w own σ v c) : Ok w (lendOwn L own) (m.pl k) v m.pre := by
  have hf : Froz w w own (lendOwn L own) := ⟨fun b hb _ => ⟨lend_none L hb, rfl⟩⟩
  cases h with
  | v hz => exact (Ok.frozen hv hf).asFz hz
  | nil e sz f => have : v = .slice none 0 0 := hv; rw [this]; exact .nil e sz f
  | rw q hm h ht =>
    subst ht
    exact (hI.ref hv h).moved hf (fun b s hb => ⟨lend_in L hL q k (placeOf_some hm) b s hb, rfl⟩)
theorem MArgL.ok {k : Nat} {cs : List C} {ms : List MC} (h : MArgL σ L k cs ms) : ∀ (vs : Nat → Value), (∀ (j : Nat) c, cs[j]? = some c → OkC w own σ (vs j) c) → cs.length = ms.length ∧ ∀ (j : Nat) m, ms[j]? = some m → Ok w (lendOwn L own) (m.pl (k + j)) (vs j) m.pre := by
  induction h with
  | nil k => intro vs _; exact ⟨rfl, fun j m h => by simp at h⟩
  | @cons k c m cs ms hc hs ih =>
    intro vs hv
    obtain ⟨h1, h2⟩ := ih (fun j => vs (j + 1)) (fun j c hj => hv (j + 1) c (by simpa using hj))
    refine ⟨by simp [h1], fun j m' hj => ?_⟩
    cases j with
    | zero => simp only [List.getElem?_cons_zero, Option.some.injEq] at hj; subst hj; exact hc.ok hI hL (hv 0 c (by simp))
    | succ j =>
      have := h2 j m' (by simpa using hj)
      rwa [show k + 1 + j = k + (j + 1) by omega] at this
theorem MArgV.ok {k : Nat} {u : V} {m : MV} (h : MArgV σ L k u m) {v : Value} (hv : OkV w own σ v u) : OkM MC.pre w (lendOwn L own) k v m := by
  cases h with
  | one h => exact h.ok hI hL hv
  | agg h =>
    obtain ⟨xs, h1, h2, h3⟩ := hv
    obtain ⟨k1, k2⟩ := h.ok hI hL (fun j => xs.getD j undef) h3
    exact ⟨xs, h1, by rw [h2, k1], k2⟩
theorem MArgVs.ok {i : Nat} {xs : List Operand} {ms : List MV} (h : MArgVs σ L i xs ms) : xs.length = ms.length ∧ ∀ (j : Nat) m x, ms[j]? = some m → xs[j]? = some x → OkM MC.pre w (lendOwn L own) (100 * (i + j)) (a.eval x) m := by
  induction h with
  | nil i => exact ⟨rfl, fun j m x h => by simp at h⟩
  | @cons i x u m xs ms hx h hs ih =>
    obtain ⟨h1, h2⟩ := ih
    refine ⟨by simp [h1], fun j m' x' hj hx' => ?_⟩
    cases j with
    | zero => simp only [List.getElem?_cons_zero, Option.some.injEq] at hj hx'; subst hj; subst hx'; exact h.ok hI hL (hI.evV hx)
    | succ j =>
      have := h2 j m' x' (by simpa using hj) (by simpa using hx')
      rwa [show i + 1 + j = i + (j + 1) by omega] at this
end

/-- a call that is lent arrays, up to what the caller makes of it -/
theorem lend_call {P : Program} {o : Oper} {σ : AS} {d : Nat} (hd : o.dst = some d) {f : FuncId} {xs : List Operand} {ats : Array TypeId} (ho : o.op = .call { callee := .value (.func f), args := xs.toArray, argTypes := ats }) (hc : callOk P f = true)
    {L : List (Place × Nat)} (hL : disjL L = true) {args : List MV} {res : T} (ha : MArgVs σ L 0 xs args) (hs : MSpec P f args res)
    {w0 own0 a w own} (hI : Inv w0 own0 σ a w own) {K : Act → World → Prop} {Q : Exit → Act → World → Prop} (hK : ∀ v w' own'', (res.sc = true → v = res.val ∧ res.fits) → Lent L args w w' own own'' → K (a.put (some d) v) w') : o.wp P a w K Q := by
  obtain ⟨ha1, ha2⟩ := ha.ok hI hL
  have hrun : (execOp a.eval o).run P w = .ok (.enter f (xs.map a.eval).toArray) w := by
    simp only [execOp, ho, resolve, Act.eval, Deferred.ofValue, Sem.run_bind, Sem.run_pure, Result.andThen_ok, invoke, List.map_toArray, Array.empty_append]
    simp only [Array.append_empty, run_callFunc hc]
  have hRF : RR ≠ FF := by decide
  have hlinj : ∀ b b' p, lendOwn L own b = some p → lendOwn L own b' = some p → b = b' := fun b b' p hb hb' => by
    rcases lend_some L hb with ⟨q, k, s, h1, h2, h3⟩ | ⟨h1, x, h2, h3⟩ <;> rcases lend_some L hb' with ⟨q', k', s', g1, g2, g3⟩ | ⟨g1, x', g2, g3⟩
    · rw [h3] at g3
      simp only [Place.mk.injEq, Root.arr.injEq, true_and] at g3
      obtain ⟨rfl, rfl⟩ := g3
      have := collect_k L hL _ _ _ h1 g1
      subst this
      exact hI.inj _ _ _ h2 g2
    · rw [h3] at g1
      simp only [FP, Place.mk.injEq, Root.arr.injEq] at g1
      exact absurd g1.1.1 hRF
    · rw [g3] at h1
      simp only [FP, Place.mk.injEq, Root.arr.injEq] at h1
      exact absurd h1.1.1 hRF
    · rw [h1] at g1
      simp only [FP, Place.mk.injEq, Root.arr.injEq, true_and, and_true] at g1
      exact g1
  unfold Oper.wp
  rw [hrun]
  simp only [Oper.upon]
  refine (hs w (lendOwn L own) (xs.map a.eval).toArray (by simpa using ha1) hlinj (fun b p hb => ?_) (fun i u hu => ?_)).mono ?_
  · rcases lend_some L hb with ⟨q, k, s, h1, h2, h3⟩ | ⟨h1, x, h2, h3⟩
    · exact ⟨(hI.rng b _ h2).1, .inr ⟨k, s, h3⟩⟩
    · exact ⟨(hI.rng b _ h2).1, .inl h1⟩
  · have hlt : i < xs.length := by rw [ha1]; exact (List.getElem?_eq_some_iff.1 hu).1
    have := ha2 i u _ hu (List.getElem?_eq_getElem hlt)
    rw [Nat.zero_add] at this
    have e : ((xs.map a.eval).toArray).getD i undef = a.eval xs[i] := by
      simp only [Array.getD_eq_getD_getElem?, List.getElem?_toArray, List.getElem?_map, List.getElem?_eq_getElem hlt, Option.map_some, Option.getD_some]
    rw [e]
    exact this
  · rintro e w' ⟨v, own', rfl, hret, hres, hpost⟩
    simp only [hd]
    have hv : res.sc = true → v = res.val ∧ res.fits := fun hsc => ⟨Ok.sc hres hsc, hres.fits⟩
    have hfp : ∀ b q, own b = some q → anyUnder L q = false → own' b = some (FP b) ∧ w'.heap[b]? = w.heap[b]? := fun b q hb hu => hret.fp b (lend_out L hb (anyUnder_false hu))
    have hback0 : ∀ b k s, own' b = some ⟨.arr RR k, s⟩ → lentBack L own own' b = reloc L (own' b) := fun b k s hb => by
      unfold lentBack
      cases ho : own b with
      | none => rfl
      | some q =>
        simp only
        cases hu : anyUnder L q with
        | true => rfl
        | false =>
          have := (hfp b q ho hu).1
          rw [hb] at this
          simp only [FP, Option.some.injEq, Place.mk.injEq, Root.arr.injEq] at this
          exact absurd this.1.1 hRF
    have hin : ∀ p k, (p, k) ∈ L → ∀ b s, own' b = some ⟨.arr RR k, s⟩ → lentBack L own own' b = some ⟨p.r, p.p ++ s⟩ := fun p k hm b s hb => by
      rw [hback0 b k s hb, hb, reloc_in hL hm]
    have hnone : ∀ b, own' b = none → lentBack L own own' b = none := fun b hb => by
      unfold lentBack
      cases ho : own b with
      | none => rw [hb]; rfl
      | some q =>
        simp only
        cases hu : anyUnder L q with
        | true => rw [hb]; rfl
        | false => have := (hfp b q ho hu).1; rw [hb] at this; cases this
    have hout : ∀ b q, own b = some q → (∀ x ∈ L, under x.1 q = false) → lentBack L own own' b = some q ∧ w'.heap[b]? = w.heap[b]? := fun b q hb hu => by
      have hu' : anyUnder L q = false := by
        cases h : anyUnder L q with
        | false => rfl
        | true => obtain ⟨x, hx, h2⟩ := anyUnder_true h; rw [hu x hx] at h2; cases h2
      exact ⟨by simp only [lentBack, hb, hu'], (hfp b q hb hu').2⟩
    have hcase : ∀ b p, lentBack L own own' b = some p → (own b = some p ∧ anyUnder L p = false) ∨ ∃ q k s, (q, k) ∈ L ∧ own' b = some ⟨.arr RR k, s⟩ ∧ p = ⟨q.r, q.p ++ s⟩ := fun b p hb => by
      unfold lentBack at hb
      cases ho : own b with
      | none => rw [ho] at hb; obtain ⟨q, k, s, h1, h2, h3⟩ := reloc_some hb; exact .inr ⟨q, k, s, h1, h2, h3⟩
      | some q =>
        rw [ho] at hb
        simp only at hb
        cases hu : anyUnder L q with
        | true => rw [hu] at hb; obtain ⟨q', k, s, h1, h2, h3⟩ := reloc_some hb; exact .inr ⟨q', k, s, h1, h2, h3⟩
        | false => rw [hu] at hb; cases hb; exact .inl ⟨rfl, hu⟩
    have hkp : ∀ p k, (p, k) ∈ L → ∀ b, own b = some p → lentBack L own own' b = some p ∧ ∀ c e, w.heap[b]? = some (.cells c e (0, 0)) → ∃ c' : Array Value, w'.heap[b]? = some (.cells c' e (0, 0)) ∧ c'.size = c.size := fun p k hm b hb => by
      have h1 := lend_in L hL p k hm b [] (by simpa using hb)
      obtain ⟨h2, h3⟩ := hret.kept b k h1
      exact ⟨by have := hin p k hm b [] h2; simpa using this, h3⟩
    have hinj'' : ∀ b b' p, lentBack L own own' b = some p → lentBack L own own' b' = some p → b = b' := fun b b' p hb hb' => by
      rcases hcase b p hb with ⟨h1, h2⟩ | ⟨q, k, s, h1, h2, h3⟩ <;> rcases hcase b' p hb' with ⟨g1, g2⟩ | ⟨q', k', s', g1, g2, g3⟩
      · exact hI.inj b b' p h1 g1
      · have := anyUnder_false h2 _ g1
        rw [g3, under_self] at this; cases this
      · have := anyUnder_false g2 _ h1
        rw [h3, under_self] at this; cases this
      · -- places apart
        have hqq : (q, k) = (q', k') := by
          have key : ∀ (l : List (Place × Nat)), disjL l = true → ∀ x y, x ∈ l → y ∈ l → (∃ s s', (⟨x.1.r, x.1.p ++ s⟩ : Place) = ⟨y.1.r, y.1.p ++ s'⟩) → x = y := by
            intro l
            induction l with
            | nil => intro _ x y hx; cases hx
            | cons z l ih =>
              intro hd x y hx hy hxy
              simp only [disjL, Bool.and_eq_true, List.all_eq_true, Bool.not_eq_true'] at hd
              rw [List.mem_cons] at hx hy
              obtain ⟨s, s', e⟩ := hxy
              rcases hx with rfl | hx <;> rcases hy with rfl | hy
              · rfl
              · have := disj_under (hd.1 _ hy).1 s'
                rw [← e, under_self] at this; cases this
              · have := disj_under (hd.1 _ hx).1 s
                rw [e, under_self] at this; cases this
              · exact ih hd.2 x y hx hy ⟨s, s', e⟩
          exact key L hL _ _ h1 g1 ⟨s, s', by rw [← h3, ← g3]⟩
        cases hqq
        rw [h3] at g3
        simp only [Place.mk.injEq, true_and, List.append_cancel_left_eq] at g3
        subst g3
        exact hret.inj b b' _ h2 g2
    refine hK v w' (lentBack L own own') hv ⟨hret.same, ⟨fun b hb hlt => ?_⟩, hout, hkp, hinj'', fun b p hb => ?_, fun b x hb => ?_, fun i u j t t' q hu hc hm e sz n f g ht ht' v0 hv0 => ?_⟩
    · obtain ⟨h1, h2⟩ := hret.old b (lend_none L hb) hlt
      exact ⟨hnone b h1, h2⟩
    · rcases hcase b p hb with ⟨h1, h2⟩ | ⟨q, k, s, h1, h2, h3⟩
      · exact ⟨Nat.lt_of_lt_of_le (hI.rng b p h1).1 hret.same.size, .inl (by rw [h1]; simp)⟩
      · obtain ⟨g1, g2, _⟩ := hret.rng b _ h2
        refine ⟨g1, g2.imp_left fun hne h0 => hne (lend_none L h0)⟩
    · cases hu : anyUnder L ⟨.arr RR x, []⟩ with
      | false => obtain ⟨h1, h2⟩ := hout b _ hb (anyUnder_false hu); exact ⟨h1, fun c e hc => ⟨c, h2.trans hc, rfl⟩⟩
      | true =>
        obtain ⟨y, hy, h2⟩ := anyUnder_true hu
        obtain ⟨s, hs'⟩ := under_split h2
        have hp : y.1 = ⟨.arr RR x, []⟩ := by
          have e1 := congrArg Place.p hs'
          simp only at e1
          have e2 := congrArg Place.r hs'
          simp only at e2
          have : y.1.p = [] := by
            have := congrArg List.length e1
            simp at this
            exact List.eq_nil_of_length_eq_zero (by omega)
          obtain ⟨q, k⟩ := y
          obtain ⟨r, ps⟩ := q
          simp only at e2 this ⊢
          rw [← e2, this]
        obtain ⟨q, k⟩ := y
        simp only at hp
        subst hp
        exact hkp _ k hy b hb
    · have h0 := hpost i u hu
      have hv1 : ∃ v1, Ok w' own' (some ⟨.arr RR (100 * i + j), []⟩) v1 t' := by
        cases u with
        | one c =>
          have hj : j = 0 := by
            have := (List.getElem?_eq_some_iff.1 hc).1
            simpa [mcs] using this
          subst hj
          cases hc
          exact ⟨_, h0⟩
        | agg cs =>
          obtain ⟨ys, q1, q2, q3⟩ := h0
          exact ⟨_, q3 j _ hc⟩
      obtain ⟨v1, hv1⟩ := hv1
      subst ht ht'
      have hv2 := hv1.moved (own' := lentBack L own own') (w' := w') (q := q) ⟨fun b hb _ => ⟨hnone b hb, rfl⟩⟩ (fun b s hb => ⟨hin q _ hm b s (by simpa using hb), rfl⟩)
      exact lent_ok (w := w) (own := own) (fun b hb => hkp q _ hm b hb) hinj'' hv0 hv2

end Go.Mh
