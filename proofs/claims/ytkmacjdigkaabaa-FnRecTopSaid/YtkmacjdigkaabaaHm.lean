/- Contracts of functions of the program, each met by its body; conditions stand in each statement. No condition. -/
import Derived.Test.YtkmacjdigkaabaaHj
import Derived.Test.YtkmacjdigkaabaaHa
import Derived.Shelf.SlSortFuncK.WholeK
import Derived.Shelf.GgSortFunc.Tiny
set_option linter.unusedVariables false
set_option linter.unusedSimpArgs false
set_option linter.unnecessarySimpa false
namespace Go.Mh
open Go Go.Sort Go.Shelf Go.Lib Go.Proofs

/-! ### the library's sort.Slice, for rows that bear a text -/
def RowV (k jn : Nat) : Type := {l : List Value // l.length = k ∧ (∀ v ∈ l, v.oneCell' = true) ∧ (jn < k → ∃ s, l[jn]? = some (.string s))}
instance (k jn : Nat) : Inhabited (RowV k jn) := ⟨⟨List.replicate k (.string ⟨#[]⟩), by simp, by intro v hv; rw [List.eq_of_mem_replicate hv]; rfl, fun h => ⟨⟨#[]⟩, by simp [h]⟩⟩⟩
end Go.Mh

set_option linter.unusedVariables false
namespace Go.Mh
open Go

/-! ### an append to a slice in a row; the result goes on at a root of its own -/
end Go.Mh

set_option linter.unusedVariables false
namespace Go.Mh
open Go

theorem LSpec.letGo {P : Program} {f : FuncId} {e : Nat} {r r' : List T} {args : List PV} {res res' : PV} (h : LSpec P f e r r' args res) (hz : FzR res res') : LSpec P f e r r' args res' := by
  intro w F b0 cap c vals hs hv0 hF hh hc h1 h2 hr hv
  refine (h w F b0 cap c vals hs hv0 hF hh hc h1 h2 hr hv).mono ?_
  rintro ex w' ⟨v, c', own', rfl, q1, q2, hret, q3, q4, hres⟩
  have hRF : RR ≠ FF := by decide
  have hf : Froz w' w' (mergeF w F own') (mergeF w F noOwn) := ⟨fun b hb _ => ⟨by unfold mergeF at *; split <;> rename_i hl; (rw [if_pos hl] at hb; exact hb); rfl, rfl⟩⟩
  refine ⟨v, c', noOwn, rfl, q1, q2, ⟨hret.same, hret.old, fun b p hb => (by cases hb), fun b b' p hb => (by cases hb)⟩, q3, fun j hj => (q4 j hj).frozen hf, ?_⟩
  have hg : ∀ k, Gone w' w' (mergeF w F own') (mergeF w F noOwn) ⟨.arr RR k, []⟩ := fun k b s hb => ⟨by
    unfold mergeF at *
    split <;> rename_i hl
    · rw [if_pos hl] at hb
      have := (ownF_some hb).2.2
      simp only [FP, Place.mk.injEq, Root.arr.injEq] at this
      exact absurd this.1.1 hRF
    · rfl, rfl⟩
  have one : ∀ {k : Nat} {v : Value} {t t' : T} {pl : Option Place}, FzT t t' → Ok w' (mergeF w F own') (some ⟨.arr RR k, []⟩) v t → Ok w' (mergeF w F noOwn) pl v t' := by
    intro k v t t' pl hz hv
    cases hz with
    | sc h0 => exact Ok.anyw hv h0
    | fz hz => exact .fz ((hv.freeze hf (hg k)).asFz hz)
  have oneP : ∀ {i : Nat} {v : Value} {u u' : PV}, FzP u u' → OkP w' (mergeF w F own') (resPl i) v u → OkP w' (mergeF w F noOwn) (resPl i) v u' := by
    intro i v u u' hz hv
    cases hz with
    | one h => exact one h hv
    | agg h =>
      obtain ⟨xs, h1, h2, h3⟩ := hv
      refine ⟨xs, h1, by rw [h2, h.get.1], fun j t' hj => ?_⟩
      obtain ⟨t, k1, k2⟩ := h.get.2 j t' hj
      exact one k2 (h3 j t k1)
  cases hz with
  | p hp =>
    cases hp with
    | one h0 => exact oneP (i := 0) (.one h0) hres
    | agg h0 => exact oneP (i := 0) (.agg h0) hres
  | tup h0 =>
    obtain ⟨xs, h1, h2, h3⟩ := hres
    refine ⟨xs, h1, by rw [h2, h0.get.1], fun i u' hu => ?_⟩
    obtain ⟨u, k1, k2⟩ := h0.get.2 i u' hu
    exact oneP k2 (h3 i u k1)

/-! ### a new variable, in a region that draws -/
end Go.Mh
