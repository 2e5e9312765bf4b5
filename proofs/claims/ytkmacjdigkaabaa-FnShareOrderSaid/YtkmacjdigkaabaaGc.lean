/- Calls that are lent arrays, as steps. No condition. -/
import Derived.Test.YtkmacjdigkaabaaGa
set_option linter.unusedVariables false
set_option linter.unusedSimpArgs false
set_option linter.unnecessarySimpa false
namespace Go.Mh
open Go

/-! ### lending: what the callee is told of owners, and what the caller is told afterwards -/
def lendOwn : List (Place × Nat) → Own → Own
  | [], own => fun b => match own b with | some _ => some (FP b) | none => none
  | (p, k) :: l, own => fun b => match own b with
    | some q => match under p q with
      | true => some ⟨.arr RR k, q.p.drop p.p.length⟩
      | false => lendOwn l own b
    | none => none
theorem lend_none {own : Own} : ∀ (l : List (Place × Nat)) {b : Nat}, own b = none → lendOwn l own b = none
  | [], _, h => by simp [lendOwn, h]
  | (p, k) :: l, b, h => by simp [lendOwn, h]
theorem lend_in {own : Own} : ∀ (l : List (Place × Nat)), disjL l = true → ∀ p k, (p, k) ∈ l → ∀ b s, own b = some ⟨p.r, p.p ++ s⟩ → lendOwn l own b = some ⟨.arr RR k, s⟩
  | [], _, p, k, h => by cases h
  | (p0, k0) :: l, hd, p, k, h => by
    simp only [disjL, Bool.and_eq_true, List.all_eq_true, Bool.not_eq_true'] at hd
    intro b s hb
    simp only [lendOwn, hb]
    rw [List.mem_cons] at h
    rcases h with h | h
    · cases h
      rw [under_self]
      simp
    · rw [disj_under (hd.1 _ h).1 s]
      exact lend_in l hd.2 p k h b s hb
def placeOf : List (Place × Nat) → Nat → Option Place
  | [], _ => none
  | (p, k) :: l, n => match Nat.beq k n with | true => some p | false => placeOf l n
theorem placeOf_some : ∀ {l : List (Place × Nat)} {p k}, placeOf l k = some p → (p, k) ∈ l
  | [], p, k, h => by cases h
  | (p0, k0) :: l, p, k, h => by
    simp only [placeOf] at h
    cases hb : Nat.beq k0 k with
    | true => rw [hb] at h; cases h; rw [Nat.eq_of_beq_eq_true hb]; simp
    | false => rw [hb] at h; exact List.mem_cons_of_mem _ (placeOf_some h)
structure Lent (L : List (Place × Nat)) (args : List MV) (w w' : World) (own own'' : Own) : Prop where
  same : SameW w w'
  froz : Froz w w' own own''
  out : ∀ b q, own b = some q → (∀ x ∈ L, under x.1 q = false) → own'' b = some q ∧ w'.heap[b]? = w.heap[b]?
  kp : ∀ p k, (p, k) ∈ L → ∀ b, own b = some p → own'' b = some p ∧ ∀ c e, w.heap[b]? = some (.cells c e (0, 0)) → ∃ c' : Array Value, w'.heap[b]? = some (.cells c' e (0, 0)) ∧ c'.size = c.size
  inj : ∀ b b' p, own'' b = some p → own'' b' = some p → b = b'
  rng : ∀ b p, own'' b = some p → b < w'.heap.size ∧ (own b ≠ none ∨ w.heap.size ≤ b)
  kept : Kept w w' own own''
  tree : ∀ (i : Nat) u (j : Nat) t t' q, args[i]? = some u → (mcs u)[j]? = some (.rw t t') → (q, 100 * i + j) ∈ L → ∀ e sz n f g, t = .sl e sz n f → t' = .sl e sz n g → ∀ v, Ok w own (some q) v t → Ok w' own'' (some q) v t'

/-! arguments -/
inductive MArgC (σ : AS) (L : List (Place × Nat)) (k : Nat) : C → MC → Prop where
  | v {t t' : T} (hz : Fz t t') : MArgC σ L k (.v t) (.ro t')
  | nil (e sz : Nat) (f : Nat → List T) : MArgC σ L k .nil (.ro (.sl e sz 0 f))
  | rw (q : Place) {t t' : T} (hm : placeOf L k = some q) {e sz n : Nat} {f : Nat → List T} (h : σ.node q = .sl e sz n f) (ht : t = .sl e sz n f) : MArgC σ L k (.ref q) (.rw t t')
inductive MArgL (σ : AS) (L : List (Place × Nat)) : Nat → List C → List MC → Prop where
  | nil (k : Nat) : MArgL σ L k [] []
  | cons {k : Nat} {c : C} {m : MC} {cs : List C} {ms : List MC} (h : MArgC σ L k c m) (hs : MArgL σ L (k + 1) cs ms) : MArgL σ L k (c :: cs) (m :: ms)
inductive MArgV (σ : AS) (L : List (Place × Nat)) (k : Nat) : V → MV → Prop where
  | one {c : C} {m : MC} (h : MArgC σ L k c m) : MArgV σ L k (.one c) (.one m)
  | agg {cs : List C} {ms : List MC} (h : MArgL σ L k cs ms) : MArgV σ L k (.agg cs) (.agg ms)
inductive MArgVs (σ : AS) (L : List (Place × Nat)) : Nat → List Operand → List MV → Prop where
  | nil (i : Nat) : MArgVs σ L i [] []
  | cons {i : Nat} {x : Operand} {u : V} {m : MV} {xs : List Operand} {ms : List MV} (hx : σ.ev x = ⟨true, u⟩) (h : MArgV σ L (100 * i) u m) (hs : MArgVs σ L (i + 1) xs ms) : MArgVs σ L i (x :: xs) (m :: ms)

section
variable {w0 : World} {own0 : Own} {σ : AS} {a : Act} {w : World} {own : Own} (hI : Inv w0 own0 σ a w own) {L : List (Place × Nat)} (hL : disjL L = true)
include hI hL
theorem MArgC.ok {k : Nat} {c : C} {m : MC} (h : MArgC σ L k c m) {v : Value} (hv : OkC w own σ v c) : Ok w (lendOwn L own) (m.pl k) v m.pre := by
  have hf : Froz w w own (lendOwn L own) := ⟨fun b hb _ => ⟨lend_none L hb, rfl⟩⟩
  cases h with
  | v hz => exact (Ok.frozen hv hf).asFz hz
  | nil e sz f => have : v = .slice none 0 0 := hv; rw [this]; exact .nil e sz f
  | rw q hm h ht =>
    subst ht
    exact (hI.ref hv h).moved hf (fun b s hb => ⟨lend_in L hL q k (placeOf_some hm) b s hb, rfl⟩)
theorem MArgL.ok {k : Nat} {cs : List C} {ms : List MC} (h : MArgL σ L k cs ms) : ∀ (vs : Nat → Value), (∀ (j : Nat) c, cs[j]? = some c → OkC w own σ (vs j) c) → cs.length = ms.length ∧ ∀ (j : Nat) m, ms[j]? = some m → Ok w (lendOwn L own) (m.pl (k + j)) (vs j) m.pre := by
  induction h with
  | nil k => intro vs _; exact ⟨rfl, fun j m h => by simp at h⟩
  | @cons k c m cs ms hc hs ih =>
    intro vs hv
    obtain ⟨h1, h2⟩ := ih (fun j => vs (j + 1)) (fun j c hj => hv (j + 1) c (by simpa using hj))
    refine ⟨by simp [h1], fun j m' hj => ?_⟩
    cases j with
    | zero => simp only [List.getElem?_cons_zero, Option.some.injEq] at hj; subst hj; exact hc.ok hI hL (hv 0 c (by simp))
    | succ j =>
      have := h2 j m' (by simpa using hj)
      rwa [show k + 1 + j = k + (j + 1) by omega] at this
theorem MArgV.ok {k : Nat} {u : V} {m : MV} (h : MArgV σ L k u m) {v : Value} (hv : OkV w own σ v u) : OkM MC.pre w (lendOwn L own) k v m := by
  cases h with
  | one h => exact h.ok hI hL hv
  | agg h =>
    obtain ⟨xs, h1, h2, h3⟩ := hv
    obtain ⟨k1, k2⟩ := h.ok hI hL (fun j => xs.getD j undef) h3
    exact ⟨xs, h1, by rw [h2, k1], k2⟩
theorem MArgVs.ok {i : Nat} {xs : List Operand} {ms : List MV} (h : MArgVs σ L i xs ms) : xs.length = ms.length ∧ ∀ (j : Nat) m x, ms[j]? = some m → xs[j]? = some x → OkM MC.pre w (lendOwn L own) (100 * (i + j)) (a.eval x) m := by
  induction h with
  | nil i => exact ⟨rfl, fun j m x h => by simp at h⟩
  | @cons i x u m xs ms hx h hs ih =>
    obtain ⟨h1, h2⟩ := ih
    refine ⟨by simp [h1], fun j m' x' hj hx' => ?_⟩
    cases j with
    | zero => simp only [List.getElem?_cons_zero, Option.some.injEq] at hj hx'; subst hj; subst hx'; exact h.ok hI hL (hI.evV hx)
    | succ j =>
      have := h2 j m' x' (by simpa using hj) (by simpa using hx')
      rwa [show i + 1 + j = i + (j + 1) by omega] at this
end

end Go.Mh

set_option linter.unusedVariables false
namespace Go.Mh
open Go

def pathEq : List (Nat × Nat) → List (Nat × Nat) → Bool
  | [], [] => true
  | (i, j) :: p, (i', j') :: q => Nat.beq i i' && (Nat.beq j j' && pathEq p q)
  | _, _ => false
theorem pathEq_eq : ∀ {p q : List (Nat × Nat)}, pathEq p q = true → p = q
  | [], [], _ => rfl
  | (i, j) :: p, (i', j') :: q, h => by
    simp only [pathEq, Bool.and_eq_true] at h
    rw [Nat.eq_of_beq_eq_true h.1, Nat.eq_of_beq_eq_true h.2.1, pathEq_eq h.2.2]
  | [], _ :: _, h => by cases h
  | _ :: _, [], h => by cases h
/-- below q, not q itself -/
def belowB (q p : Place) : Bool := match mayUnder q p with
  | true => !(q.r.beq p.r && pathEq q.p p.p)
  | false => false
theorem belowB_false {q p : Place} (h : belowB q p = false) : p = q ∨ mayUnder q p = false := by
  unfold belowB at h
  cases hu : mayUnder q p with
  | false => exact .inr rfl
  | true =>
    rw [hu] at h
    simp only [Bool.not_eq_false', Bool.and_eq_true] at h
    left
    obtain ⟨r, ps⟩ := p
    obtain ⟨r', ps'⟩ := q
    have h1 := Root.beq_eq h.1
    have h2 := pathEq_eq h.2
    simp only at h1 h2
    rw [h1, h2]

/-! ### roots that are lent, all at once -/
def lookR : List (Nat × Nat × T) → Nat → Nat → Option T
  | [], _, _ => none
  | (d, k, t) :: l, d', k' => match Nat.beq d' d, Nat.beq k' k with | true, true => some t | _, _ => lookR l d' k'
inductive BRoots (σ : AS) (args : List MV) : List (Place × Nat) → List (Nat × Nat × T) → Prop where
  | nil : BRoots σ args [] []
  | cons {d k K i j : Nat} {u : MV} {t t' : T} {L : List (Place × Nat)} {TL : List (Nat × Nat × T)} (hu : args[i]? = some u) (hc : (mcs u)[j]? = some (.rw t t')) (hK : 100 * i + j = K) {e sz n : Nat} {f g : Nat → List T} (hq : σ.arr d k = .sl e sz n f) (ht : t = .sl e sz n f) (ht' : t' = .sl e sz n g) (hs : BRoots σ args L TL) :
      BRoots σ args ((⟨.arr d k, []⟩, K) :: L) ((d, k, t') :: TL)
theorem BRoots.look {σ : AS} {args : List MV} : ∀ {L : List (Place × Nat)} {TL : List (Nat × Nat × T)}, BRoots σ args L TL → ∀ {d k t'}, lookR TL d k = some t' → ∃ K i j u t e sz n f g, (⟨.arr d k, []⟩, K) ∈ L ∧ args[i]? = some u ∧ (mcs u)[j]? = some (.rw t t') ∧ 100 * i + j = K ∧ σ.arr d k = .sl e sz n f ∧ t = .sl e sz n f ∧ t' = .sl e sz n g
  | _, _, .nil, _, _, _, h => by cases h
  | _, _, .cons (d := d0) (k := k0) hu hc hK hq ht ht' hs, d, k, t', h => by
    simp only [lookR] at h
    cases h1 : Nat.beq d d0 with
    | false => rw [h1] at h; obtain ⟨K, i, j, u, t, e, sz, n, f, g, g1, gr⟩ := hs.look h; exact ⟨K, i, j, u, t, e, sz, n, f, g, by simp [g1], gr⟩
    | true =>
      cases h2 : Nat.beq k k0 with
      | false => rw [h1, h2] at h; obtain ⟨K, i, j, u, t, e, sz, n, f, g, g1, gr⟩ := hs.look h; exact ⟨K, i, j, u, t, e, sz, n, f, g, by simp [g1], gr⟩
      | true =>
        rw [h1, h2] at h
        cases h
        rw [Nat.eq_of_beq_eq_true h1, Nat.eq_of_beq_eq_true h2]
        exact ⟨_, _, _, _, _, _, _, _, _, _, by simp, hu, hc, hK, hq, ht, ht'⟩
theorem BRoots.mem {σ : AS} {args : List MV} : ∀ {L : List (Place × Nat)} {TL : List (Nat × Nat × T)}, BRoots σ args L TL → ∀ {x}, x ∈ L → ∃ d k e sz n f g, x.1 = ⟨.arr d k, []⟩ ∧ σ.arr d k = .sl e sz n f ∧ lookR TL d k = some (.sl e sz n g)
  | _, _, .nil, _, h => by cases h
  | _, _, .cons (d := d0) (k := k0) hu hc hK hq ht ht' hs, x, h => by
    rw [List.mem_cons] at h
    rcases h with rfl | h
    · exact ⟨d0, k0, _, _, _, _, _, rfl, hq, by simp only [lookR, Nat.beq_refl]; exact congrArg some ht'⟩
    · obtain ⟨d, k, e, sz, n, f, g, h1, h2, h3⟩ := hs.mem h
      by_cases hdk : d = d0 ∧ k = k0
      · obtain ⟨rfl, rfl⟩ := hdk
        rw [hq] at h2
        cases h2
        exact ⟨d, k, _, _, _, _, _, h1, hq, by simp only [lookR, Nat.beq_refl]; exact congrArg some ht'⟩
      · refine ⟨d, k, e, sz, n, f, g, h1, h2, ?_⟩
        simp only [lookR]
        by_cases hd : d = d0
        · have hk : k ≠ k0 := fun e => hdk ⟨hd, e⟩
          rw [beq_false hk]
          cases Nat.beq d d0 <;> exact h3
        · rw [beq_false hd]; exact h3

end Go.Mh
