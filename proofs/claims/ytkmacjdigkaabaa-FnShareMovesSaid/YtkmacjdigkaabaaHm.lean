/- Contracts of functions of the program, each met by its body; conditions stand in each statement. No condition. -/
import Derived.Test.YtkmacjdigkaabaaHl
set_option linter.unusedVariables false
set_option linter.unusedSimpArgs false
set_option linter.unnecessarySimpa false
namespace Go.Mh
open Go

theorem LSpec.letGo {P : Program} {f : FuncId} {e : Nat} {r r' : List T} {args : List PV} {res res' : PV} (h : LSpec P f e r r' args res) (hz : FzR res res') : LSpec P f e r r' args res' := by
  intro w F b0 cap c vals hs hv0 hF hh hc h1 h2 hr hv
  refine (h w F b0 cap c vals hs hv0 hF hh hc h1 h2 hr hv).mono ?_
  rintro ex w' ⟨v, c', own', rfl, q1, q2, hret, q3, q4, hres⟩
  have hRF : RR ≠ FF := by decide
  have hf : Froz w' w' (mergeF w F own') (mergeF w F noOwn) := ⟨fun b hb _ => ⟨by unfold mergeF at *; split <;> rename_i hl; (rw [if_pos hl] at hb; exact hb); rfl, rfl⟩⟩
  refine ⟨v, c', noOwn, rfl, q1, q2, ⟨hret.same, hret.old, fun b p hb => (by cases hb), fun b b' p hb => (by cases hb)⟩, q3, fun j hj => (q4 j hj).frozen hf, ?_⟩
  have hg : ∀ k, Gone w' w' (mergeF w F own') (mergeF w F noOwn) ⟨.arr RR k, []⟩ := fun k b s hb => ⟨by
    unfold mergeF at *
    split <;> rename_i hl
    · rw [if_pos hl] at hb
      have := (ownF_some hb).2.2
      simp only [FP, Place.mk.injEq, Root.arr.injEq] at this
      exact absurd this.1.1 hRF
    · rfl, rfl⟩
  have one : ∀ {k : Nat} {v : Value} {t t' : T} {pl : Option Place}, FzT t t' → Ok w' (mergeF w F own') (some ⟨.arr RR k, []⟩) v t → Ok w' (mergeF w F noOwn) pl v t' := by
    intro k v t t' pl hz hv
    cases hz with
    | sc h0 => exact Ok.anyw hv h0
    | fz hz => exact .fz ((hv.freeze hf (hg k)).asFz hz)
  have oneP : ∀ {i : Nat} {v : Value} {u u' : PV}, FzP u u' → OkP w' (mergeF w F own') (resPl i) v u → OkP w' (mergeF w F noOwn) (resPl i) v u' := by
    intro i v u u' hz hv
    cases hz with
    | one h => exact one h hv
    | agg h =>
      obtain ⟨xs, h1, h2, h3⟩ := hv
      refine ⟨xs, h1, by rw [h2, h.get.1], fun j t' hj => ?_⟩
      obtain ⟨t, k1, k2⟩ := h.get.2 j t' hj
      exact one k2 (h3 j t k1)
  cases hz with
  | p hp =>
    cases hp with
    | one h0 => exact oneP (i := 0) (.one h0) hres
    | agg h0 => exact oneP (i := 0) (.agg h0) hres
  | tup h0 =>
    obtain ⟨xs, h1, h2, h3⟩ := hres
    refine ⟨xs, h1, by rw [h2, h0.get.1], fun i u' hu => ?_⟩
    obtain ⟨u, k1, k2⟩ := h0.get.2 i u' hu
    exact oneP k2 (h3 i u k1)

/-! ### a new variable, in a region that draws -/
theorem FRun.boxN {P : Program} {ops : Array Oper} {o : Oper} {rest : List Oper} {R : List Loc} {d : Nat} {A : List Nat} {ds : List DRow} {σ : AS} {x : List C} {K : AS → Prop} (hg : o.guard = none)
    (h : ∀ τ, τ.n = σ.n → (∀ l, l ∈ R → τ.at σ l) → Free d τ → Step P o τ ((τ.setBox d x).setS d ⟨true, .one (.bptr d 0)⟩)) (hA : A.all (fun r => x.all (C.free r) && !Nat.beq d r) = true) (hr : FRun P ops rest ds ((σ.setBox d x).setS d ⟨true, .one (.bptr d 0)⟩) K) : FRun P ops (o :: rest) (⟨⟨R, [.s d, .b d], false⟩, some d, A⟩ :: ds) σ K := by
  refine FRun.cons (σ' := (σ.setBox d x).setS d ⟨true, .one (.bptr d 0)⟩) ⟨rfl, fun l hl => ?_, fun τ k1 k2 k3 => ?_, fun r hx l hl => ?_⟩ hr
  · have hm := DOp.mem_of_false hl
    simp only [List.mem_cons, List.not_mem_nil, or_false, not_or] at hm
    cases l with
    | s u =>
      simp only [AS.at, setS_s]
      rw [if_neg (fun e => hm.1 (by rw [e]))]
      rfl
    | b u =>
      show (σ.setBox d x).box u = σ.box u
      rw [setBox_box, if_neg (fun e => hm.2 (by rw [e]))]
    | a u k => rfl
  · have h1 := h τ k1 (fun l hl => k2 l (Loc.mem_iff.2 hl)) (k3 d rfl)
    have e : AS.patch τ ((σ.setBox d x).setS d ⟨true, .one (.bptr d 0)⟩) (DOp.wr ⟨R, [.s d, .b d], false⟩) = (τ.setBox d x).setS d ⟨true, .one (.bptr d 0)⟩ := by
      refine AS.ext_at rfl fun l => ?_
      cases hl : DOp.wr ⟨R, [.s d, .b d], false⟩ l with
      | true =>
        refine AS.at_trans (AS.patch_in hl) ?_
        have hm := Loc.mem_iff.1 hl
        simp only [List.mem_cons, List.not_mem_nil, or_false] at hm
        rcases hm with rfl | rfl
        · simp only [AS.at, setS_s, if_true]
        · show (σ.setBox d x).box d = (τ.setBox d x).box d
          rw [setBox_box, setBox_box, if_pos rfl, if_pos rfl]
      | false =>
        refine AS.at_trans (AS.patch_out hl) ?_
        have hm := DOp.mem_of_false hl
        simp only [List.mem_cons, List.not_mem_nil, or_false, not_or] at hm
        cases l with
        | s u =>
          simp only [AS.at, setS_s]
          rw [if_neg (fun e => hm.1 (by rw [e]))]
          rfl
        | b u =>
          show τ.box u = (τ.setBox d x).box u
          rw [setBox_box, if_neg (fun e => hm.2 (by rw [e]))]
        | a u k => rfl
    rw [e]
    exact .plain hg h1
  · have hAx := List.all_eq_true.1 hA r hx
    simp only [Bool.and_eq_true, Bool.not_eq_true'] at hAx
    have hdx : d ≠ r := fun e => by rw [e] at hAx; simp at hAx
    have hm := Loc.mem_iff.1 hl
    simp only [List.mem_cons, List.not_mem_nil, or_false] at hm
    rcases hm with rfl | rfl
    · simp only [freeAt, setS_s, if_true]
      simp only [V.free, V.free1, C.free, C.places, List.all_cons, List.all_nil, Bool.and_true, Root.num, beq_false hdx, Bool.not_false]
    · refine ⟨?_, fun e => absurd e hdx⟩
      show ((σ.setBox d x).box d).all (C.free r) = true
      rw [setBox_box, if_pos rfl]; exact hAx.1
theorem step_allocN {P : Program} {o : Oper} {σ : AS} {d : Nat} (hd : o.dst = some d) (hn : d < σ.n) {t : TypeId} (ho : o.op = .alloc t) {m : Nat} (hz : zeroSz P t = some m) (hfr : Free d σ) : Step P o σ ((σ.setBox d (List.replicate m .any)).setS d ⟨true, .one (.bptr d 0)⟩) := by
  have h := step_alloc_p hd hn ho hz
  rw [hfr.kill] at h
  exact h

end Go.Mh
