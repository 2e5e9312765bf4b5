/- Contracts of functions of the program, each met by its body; conditions stand in each statement. No condition. -/
import Derived.Test.YtkmacjdigkaabaaHl
set_option linter.unusedVariables false
set_option linter.unusedSimpArgs false
set_option linter.unnecessarySimpa false
namespace Go.Mh
open Go

theorem LSpec.letGo {P : Program} {f : FuncId} {e : Nat} {r r' : List T} {args : List PV} {res res' : PV} (h : LSpec P f e r r' args res) (hz : FzR res res') : LSpec P f e r r' args res' := by
  intro w F b0 cap c vals hs hv0 hF hh hc h1 h2 hr hv
  refine (h w F b0 cap c vals hs hv0 hF hh hc h1 h2 hr hv).mono ?_
  rintro ex w' ⟨v, c', own', rfl, q1, q2, hret, q3, q4, hres⟩
  have hRF : RR ≠ FF := by decide
  have hf : Froz w' w' (mergeF w F own') (mergeF w F noOwn) := ⟨fun b hb _ => ⟨by unfold mergeF at *; split <;> rename_i hl; (rw [if_pos hl] at hb; exact hb); rfl, rfl⟩⟩
  refine ⟨v, c', noOwn, rfl, q1, q2, ⟨hret.same, hret.old, fun b p hb => (by cases hb), fun b b' p hb => (by cases hb)⟩, q3, fun j hj => (q4 j hj).frozen hf, ?_⟩
  have hg : ∀ k, Gone w' w' (mergeF w F own') (mergeF w F noOwn) ⟨.arr RR k, []⟩ := fun k b s hb => ⟨by
    unfold mergeF at *
    split <;> rename_i hl
    · rw [if_pos hl] at hb
      have := (ownF_some hb).2.2
      simp only [FP, Place.mk.injEq, Root.arr.injEq] at this
      exact absurd this.1.1 hRF
    · rfl, rfl⟩
  have one : ∀ {k : Nat} {v : Value} {t t' : T} {pl : Option Place}, FzT t t' → Ok w' (mergeF w F own') (some ⟨.arr RR k, []⟩) v t → Ok w' (mergeF w F noOwn) pl v t' := by
    intro k v t t' pl hz hv
    cases hz with
    | sc h0 => exact Ok.anyw hv h0
    | fz hz => exact .fz ((hv.freeze hf (hg k)).asFz hz)
  have oneP : ∀ {i : Nat} {v : Value} {u u' : PV}, FzP u u' → OkP w' (mergeF w F own') (resPl i) v u → OkP w' (mergeF w F noOwn) (resPl i) v u' := by
    intro i v u u' hz hv
    cases hz with
    | one h => exact one h hv
    | agg h =>
      obtain ⟨xs, h1, h2, h3⟩ := hv
      refine ⟨xs, h1, by rw [h2, h.get.1], fun j t' hj => ?_⟩
      obtain ⟨t, k1, k2⟩ := h.get.2 j t' hj
      exact one k2 (h3 j t k1)
  cases hz with
  | p hp =>
    cases hp with
    | one h0 => exact oneP (i := 0) (.one h0) hres
    | agg h0 => exact oneP (i := 0) (.agg h0) hres
  | tup h0 =>
    obtain ⟨xs, h1, h2, h3⟩ := hres
    refine ⟨xs, h1, by rw [h2, h0.get.1], fun i u' hu => ?_⟩
    obtain ⟨u, k1, k2⟩ := h0.get.2 i u' hu
    exact oneP k2 (h3 i u k1)

/-! ### a new variable, in a region that draws -/
theorem FRun.boxN {P : Program} {ops : Array Oper} {o : Oper} {rest : List Oper} {R : List Loc} {d : Nat} {A : List Nat} {ds : List DRow} {σ : AS} {x : List C} {K : AS → Prop} (hg : o.guard = none)
    (h : ∀ τ, τ.n = σ.n → (∀ l, l ∈ R → τ.at σ l) → Free d τ → Step P o τ ((τ.setBox d x).setS d ⟨true, .one (.bptr d 0)⟩)) (hA : A.all (fun r => x.all (C.free r) && !Nat.beq d r) = true) (hr : FRun P ops rest ds ((σ.setBox d x).setS d ⟨true, .one (.bptr d 0)⟩) K) : FRun P ops (o :: rest) (⟨⟨R, [.s d, .b d], false⟩, some d, A⟩ :: ds) σ K := by
  refine FRun.cons (σ' := (σ.setBox d x).setS d ⟨true, .one (.bptr d 0)⟩) ⟨rfl, fun l hl => ?_, fun τ k1 k2 k3 => ?_, fun r hx l hl => ?_⟩ hr
  · have hm := DOp.mem_of_false hl
    simp only [List.mem_cons, List.not_mem_nil, or_false, not_or] at hm
    cases l with
    | s u =>
      simp only [AS.at, setS_s]
      rw [if_neg (fun e => hm.1 (by rw [e]))]
      rfl
    | b u =>
      show (σ.setBox d x).box u = σ.box u
      rw [setBox_box, if_neg (fun e => hm.2 (by rw [e]))]
    | a u k => rfl
  · have h1 := h τ k1 (fun l hl => k2 l (Loc.mem_iff.2 hl)) (k3 d rfl)
    have e : AS.patch τ ((σ.setBox d x).setS d ⟨true, .one (.bptr d 0)⟩) (DOp.wr ⟨R, [.s d, .b d], false⟩) = (τ.setBox d x).setS d ⟨true, .one (.bptr d 0)⟩ := by
      refine AS.ext_at rfl fun l => ?_
      cases hl : DOp.wr ⟨R, [.s d, .b d], false⟩ l with
      | true =>
        refine AS.at_trans (AS.patch_in hl) ?_
        have hm := Loc.mem_iff.1 hl
        simp only [List.mem_cons, List.not_mem_nil, or_false] at hm
        rcases hm with rfl | rfl
        · simp only [AS.at, setS_s, if_true]
        · show (σ.setBox d x).box d = (τ.setBox d x).box d
          rw [setBox_box, setBox_box, if_pos rfl, if_pos rfl]
      | false =>
        refine AS.at_trans (AS.patch_out hl) ?_
        have hm := DOp.mem_of_false hl
        simp only [List.mem_cons, List.not_mem_nil, or_false, not_or] at hm
        cases l with
        | s u =>
          simp only [AS.at, setS_s]
          rw [if_neg (fun e => hm.1 (by rw [e]))]
          rfl
        | b u =>
          show τ.box u = (τ.setBox d x).box u
          rw [setBox_box, if_neg (fun e => hm.2 (by rw [e]))]
        | a u k => rfl
    rw [e]
    exact .plain hg h1
  · have hAx := List.all_eq_true.1 hA r hx
    simp only [Bool.and_eq_true, Bool.not_eq_true'] at hAx
    have hdx : d ≠ r := fun e => by rw [e] at hAx; simp at hAx
    have hm := Loc.mem_iff.1 hl
    simp only [List.mem_cons, List.not_mem_nil, or_false] at hm
    rcases hm with rfl | rfl
    · simp only [freeAt, setS_s, if_true]
      simp only [V.free, V.free1, C.free, C.places, List.all_cons, List.all_nil, Bool.and_true, Root.num, beq_false hdx, Bool.not_false]
    · refine ⟨?_, fun e => absurd e hdx⟩
      show ((σ.setBox d x).box d).all (C.free r) = true
      rw [setBox_box, if_pos rfl]; exact hAx.1
theorem step_allocN {P : Program} {o : Oper} {σ : AS} {d : Nat} (hd : o.dst = some d) (hn : d < σ.n) {t : TypeId} (ho : o.op = .alloc t) {m : Nat} (hz : zeroSz P t = some m) (hfr : Free d σ) : Step P o σ ((σ.setBox d (List.replicate m .any)).setS d ⟨true, .one (.bptr d 0)⟩) := by
  have h := step_alloc_p hd hn ho hz
  rw [hfr.kill] at h
  exact h

end Go.Mh

set_option linter.unusedVariables false
namespace Go.Mh
open Go

/-- an operation under a guard that is known to be met -/
theorem FRun.on {P : Program} {ops : Array Oper} {o : Oper} {rest : List Oper} {r : DRow} {rs : List DRow} {σ : AS} {K : AS → Prop} {j t : Nat} {want b : Bool} (hg : o.guard = some (j, want)) (hj : (ops[j]?).bind (·.dst) = some t)
    (hR : r.d.rd (.s t) = true) (ht : σ.s t = ⟨true, .one (.v (.bool b))⟩) (hb : b = want) (hr : FRun P ops ({ o with guard := none } :: rest) (r :: rs) σ K) : FRun P ops (o :: rest) (r :: rs) σ K := by
  obtain ⟨σ', h1, h2⟩ := hr
  subst hb
  refine ⟨σ', ⟨h1.n, h1.out, fun τ k1 k2 k3 => ?_, h1.av⟩, h2⟩
  intro w0 own0 a w own hI K Q hK
  have h := h1.go τ k1 k2 k3 w0 own0 a w own hI K Q hK
  simp only [Region.wanted, if_true] at h
  have hτ : τ.s t = ⟨true, .one (.v (.bool b))⟩ := (k2 (.s t) hR).trans ht
  have hs := hI.slots t
  rw [hτ] at hs
  have hv : a.tmps.getD t undef = .bool b := by
    have : Ok w own none (a.tmps.getD t undef) (.bool b) := hs
    exact Ok.sc this rfl
  have hlt : a.tmps[t]? = some (.bool b) := by
    rw [Array.getD_eq_getD_getElem?] at hv
    cases hx : a.tmps[t]? with
    | none => rw [hx] at hv; simp [undef] at hv
    | some x => rw [hx] at hv; simp at hv; rw [hv]
  have hy : yielded ops a.tmps j = some b := by simp only [yielded, hj, Option.bind_some, hlt]
  have hw : Region.wanted o (yielded ops a.tmps) = true := by simp [Region.wanted, hg, hy]
  rw [if_pos hw]
  exact h
/-- an operation under a guard that is known not to be met -/
theorem FRun.off {P : Program} {ops : Array Oper} {o : Oper} {rest : List Oper} {R : List Loc} {A : List Nat} {ds : List DRow} {σ : AS} {K : AS → Prop} {j t d : Nat} {want b : Bool} (u : V) (hg : o.guard = some (j, want)) (hj : (ops[j]?).bind (·.dst) = some t)
    (hm : (Loc.s t).mem R = true) (ht : σ.s t = ⟨true, .one (.v (.bool b))⟩) (hb : b ≠ want) (hd : o.dst = some d) (hn : d < σ.n) (hA : A.all (fun d => u.free d) = true)
    (hr : FRun P ops rest ds (σ.setS d ⟨false, u⟩) K) : FRun P ops (o :: rest) (⟨⟨R, [.s d], false⟩, none, A⟩ :: ds) σ K := by
  have h1 : DStep P ops o σ ⟨R, [.s d], false⟩ (σ.setS d ⟨false, u⟩) := DStep.slot fun τ k1 k2 => by
    have h := GStep.guard (P := P) (u := u) hg hj (rdS k2 hm ht) hd (rdN k1 hn) (fun _ e => absurd e hb)
    rwa [show (true && (b == want)) = false by simp [hb]] at h
  refine FRun.cons ⟨h1.n, h1.out, fun τ k1 k2 _ => h1.go τ k1 k2, fun x hx l hl => ?_⟩ hr
  have : l ∈ [Loc.s d] := Loc.mem_iff.1 hl
  simp only [List.mem_cons, List.not_mem_nil, or_false] at this
  subst this
  simp only [freeAt, setS_s, if_true]
  exact List.all_eq_true.1 hA x hx
theorem C.clr_no (c : C) : c.clr (fun _ => false) = c := by
  cases c with
  | fn f ds =>
    have h : (ds.any fun _ => false) = false := by induction ds with | nil => rfl | cons _ _ ih => exact ih
    simp only [C.clr, h]
  | _ => rfl
theorem V.clr1_no (v : V) : v.clr1 (fun _ => false) = v := by
  cases v with
  | agg cs =>
    simp only [V.clr1]
    congr 1
    conv => rhs; rw [← List.map_id cs]
    exact List.map_congr_left fun c _ => C.clr_no c
  | one c => simp only [V.clr1, C.clr_no]
  | tup vs => rfl
  | any => rfl
theorem V.clr_no (v : V) : v.clr (fun _ => false) = v := by
  cases v with
  | tup vs =>
    simp only [V.clr]
    congr 1
    conv => rhs; rw [← List.map_id vs]
    exact List.map_congr_left fun c _ => V.clr1_no c
  | one c => exact V.clr1_no (.one c)
  | agg cs => exact V.clr1_no (.agg cs)
  | any => rfl
/-- an array's root is named after a slot that holds it -/
theorem Le.toSlot {σ : AS} {d s k e sz n : Nat} {f : Nat → List T} (hs : σ.s d = ⟨true, .one (.ref ⟨.arr s k, []⟩)⟩) (ht : σ.arr s k = .sl e sz n f) (hfree : NoRef d σ) (hdn : d < σ.n) (hds : (Nat.beq d s) = false) (hsr : Nat.beq s RR = false) :
    Le σ (((σ.goneArr (isRoot s k)).setArr d 0 (.sl e sz n f)).setS d ⟨true, .one (.ref ⟨.arr d 0, []⟩)⟩) := by
  refine Le.freshen (g := fun _ => false) (s := s) (k := k) rfl hs (fun t _ => ?_) (fun t => ?_) ht (fun d' k' hq => ?_) (by simp [isRoot]) (by simp [isRoot, hds]) (fun p hp => by cases hp) hfree hdn hsr
  · unfold SV.clr; rw [V.clr_no]
  · conv => lhs; rw [← List.map_id (σ.box t)]
    exact List.map_congr_left fun c _ => (C.clr_no c).symm
  · simp only [AS.goneArr]
    have : isRoot s k d' k' = false := by
      cases hh : isRoot s k d' k' with
      | false => rfl
      | true =>
        simp only [isRoot, Bool.and_eq_true] at hh
        exact absurd ⟨Nat.eq_of_beq_eq_true hh.1, Nat.eq_of_beq_eq_true hh.2⟩ hq
    rw [this]
theorem noRef_mk {n : Nat} {sl : List (Nat × SV)} {bl : List (Nat × List C)} {al : List (Nat × Nat × T)} {d : Nat} (h1 : sl.all (fun x => x.2.v.free d) = true) (h2 : bl.all (fun x => x.2.all (C.free d)) = true) : NoRef d (mkAS n sl bl al) := by
  constructor
  · intro t
    show (lookS sl t).v.free d = true
    induction sl with
    | nil => rfl
    | cons x l ih =>
      obtain ⟨k, v⟩ := x
      simp only [List.all_cons, Bool.and_eq_true] at h1
      simp only [lookS]
      split
      · exact h1.1
      · exact ih h1.2
  · intro t
    show (lookB bl t).all (C.free d) = true
    induction bl with
    | nil => rfl
    | cons x l ih =>
      obtain ⟨k, v⟩ := x
      simp only [List.all_cons, Bool.and_eq_true] at h2
      simp only [lookB]
      split
      · exact h2.1
      · exact ih h2.2
end Go.Mh
