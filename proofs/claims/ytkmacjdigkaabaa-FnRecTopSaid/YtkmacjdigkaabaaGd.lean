/- Results let go, references in boxes, appends of rows that own memory. No condition. -/
import Derived.Test.YtkmacjdigkaabaaGc
set_option linter.unusedVariables false
set_option linter.unusedSimpArgs false
set_option linter.unnecessarySimpa false
namespace Go.Mh
open Go

/-! ### a contract with results that are let go -/
inductive FzT : T → T → Prop where
  | sc (t : T) (h : t.sc = true) : FzT t t
  | fz {t t' : T} (hz : Fz t t') : FzT t (.fz t')
inductive FzL : List T → List T → Prop where
  | nil : FzL [] []
  | cons {t t' : T} {l l' : List T} (h : FzT t t') (hs : FzL l l') : FzL (t :: l) (t' :: l')
inductive FzP : PV → PV → Prop where
  | one {t t' : T} (h : FzT t t') : FzP (.one t) (.one t')
  | agg {l l' : List T} (h : FzL l l') : FzP (.agg l) (.agg l')
inductive FzPs : List PV → List PV → Prop where
  | nil : FzPs [] []
  | cons {u u' : PV} {l l' : List PV} (h : FzP u u') (hs : FzPs l l') : FzPs (u :: l) (u' :: l')
inductive FzR : PV → PV → Prop where
  | p {u u' : PV} (h : FzP u u') : FzR u u'
  | tup {l l' : List PV} (h : FzPs l l') : FzR (.tup l) (.tup l')
theorem FzL.get {l l' : List T} (h : FzL l l') : l.length = l'.length ∧ ∀ (j : Nat) t', l'[j]? = some t' → ∃ t, l[j]? = some t ∧ FzT t t' := by
  induction h with
  | nil => exact ⟨rfl, fun j t' h => by simp at h⟩
  | cons h hs ih =>
    refine ⟨by simp [ih.1], fun j t' hj => ?_⟩
    cases j with
    | zero => simp only [List.getElem?_cons_zero, Option.some.injEq] at hj; subst hj; exact ⟨_, by simp, h⟩
    | succ j => obtain ⟨t, h1, h2⟩ := ih.2 j t' (by simpa using hj); exact ⟨t, by simpa using h1, h2⟩
theorem FzPs.get {l l' : List PV} (h : FzPs l l') : l.length = l'.length ∧ ∀ (j : Nat) t', l'[j]? = some t' → ∃ t, l[j]? = some t ∧ FzP t t' := by
  induction h with
  | nil => exact ⟨rfl, fun j t' h => by simp at h⟩
  | cons h hs ih =>
    refine ⟨by simp [ih.1], fun j t' hj => ?_⟩
    cases j with
    | zero => simp only [List.getElem?_cons_zero, Option.some.injEq] at hj; subst hj; exact ⟨_, by simp, h⟩
    | succ j => obtain ⟨t, h1, h2⟩ := ih.2 j t' (by simpa using hj); exact ⟨t, by simpa using h1, h2⟩
theorem ASpec.letGo {P : Program} {f : FuncId} {args : List PV} {res res' : PV} (h : ASpec P f args res) (hz : FzR res res') : ASpec P f args res' := by
  intro w F vals hs hv
  refine (h w F vals hs hv).mono ?_
  rintro e w' ⟨v, own', rfl, hret, hres⟩
  have hRF : RR ≠ FF := by decide
  refine ⟨v, noOwn, rfl, ⟨hret.same, hret.old, fun b p hb => (by cases hb), fun b b' p hb => (by cases hb)⟩, ?_⟩
  have hf : Froz w' w' (mergeF w F own') (mergeF w F noOwn) := ⟨fun b hb _ => ⟨by unfold mergeF at *; split <;> rename_i hl; (rw [if_pos hl] at hb; exact hb); rfl, rfl⟩⟩
  have hg : ∀ k, Gone w' w' (mergeF w F own') (mergeF w F noOwn) ⟨.arr RR k, []⟩ := fun k b s hb => ⟨by
    unfold mergeF at *
    split <;> rename_i hl
    · rw [if_pos hl] at hb
      have := (ownF_some hb).2.2
      simp only [FP, Place.mk.injEq, Root.arr.injEq] at this
      exact absurd this.1.1 hRF
    · rfl, rfl⟩
  have one : ∀ {k : Nat} {v : Value} {t t' : T} {pl : Option Place}, FzT t t' → Ok w' (mergeF w F own') (some ⟨.arr RR k, []⟩) v t → Ok w' (mergeF w F noOwn) pl v t' := by
    intro k v t t' pl hz hv
    cases hz with
    | sc h0 => exact Ok.anyw hv h0
    | fz hz => exact .fz ((hv.freeze hf (hg k)).asFz hz)
  have oneP : ∀ {i : Nat} {v : Value} {u u' : PV}, FzP u u' → OkP w' (mergeF w F own') (resPl i) v u → OkP w' (mergeF w F noOwn) (resPl i) v u' := by
    intro i v u u' hz hv
    cases hz with
    | one h => exact one h hv
    | agg h =>
      obtain ⟨xs, h1, h2, h3⟩ := hv
      refine ⟨xs, h1, by rw [h2, h.get.1], fun j t' hj => ?_⟩
      obtain ⟨t, k1, k2⟩ := h.get.2 j t' hj
      exact one k2 (h3 j t k1)
  cases hz with
  | p hp =>
    cases hp with
    | one h0 => exact oneP (i := 0) (.one h0) hres
    | agg h0 => exact oneP (i := 0) (.agg h0) hres
  | tup h0 =>
    obtain ⟨xs, h1, h2, h3⟩ := hres
    refine ⟨xs, h1, by rw [h2, h0.get.1], fun i u' hu => ?_⟩
    obtain ⟨u, k1, k2⟩ := h0.get.2 i u' hu
    exact oneP k2 (h3 i u k1)

/-! ### references to owned arrays, put into boxes -/
/-! ### append of rows that own memory -/
end Go.Mh
