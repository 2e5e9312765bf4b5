/- Arrays let go, and calls that hand such arrays back. No condition. -/
import Derived.Test.YtkmacjdigkaabaaGreatFv
set_option linter.unusedVariables false
set_option linter.unusedSimpArgs false
set_option linter.unnecessarySimpa false
namespace Go.Mh
open Go

/-! ### an owned array is let go, just ahead of the end: from now on nobody writes to it -/
def letGo (own : Own) : Own := fun b => match own b with
  | some p => match p.r with
    | .arr d _ => match Nat.beq d FF, Nat.beq d RR with | false, false => none | _, _ => some p
    | .box _ => none
  | none => none
theorem letGo_some {own : Own} {b : Nat} {p : Place} (h : letGo own b = some p) : own b = some p := by
  unfold letGo at h
  cases ho : own b with
  | none => rw [ho] at h; cases h
  | some q =>
    rw [ho] at h
    obtain ⟨r, ps⟩ := q
    cases r with
    | box d => cases h
    | arr d k =>
      simp only at h
      split at h
      · cases h
      · exact h
theorem letGo_none {own : Own} {b : Nat} (h : own b = none) : letGo own b = none := by simp [letGo, h]
theorem letGo_FP {own : Own} {b : Nat} (h : own b = some (FP b)) : letGo own b = some (FP b) := by simp [letGo, h, FP]
theorem letGo_RR {own : Own} {b k : Nat} (h : own b = some ⟨.arr RR k, []⟩) : letGo own b = some ⟨.arr RR k, []⟩ := by
  have e1 : Nat.beq RR FF = false := by decide
  have e2 : Nat.beq RR RR = true := by decide
  simp only [letGo, h, e1, e2]
theorem letGo_gone {own : Own} {b : Nat} {p : Place} {s : List (Nat × Nat)} (hp : ∀ k, p.r ≠ .arr FF k) (hpr : onRoot RR p = false) (h : own b = some ⟨p.r, s⟩) : letGo own b = none := by
  unfold letGo
  rw [h]
  obtain ⟨r, ps⟩ := p
  cases r with
  | box d => rfl
  | arr d k =>
    have : d ≠ FF := fun e => hp k (by rw [e])
    simp only [onRoot, Root.num] at hpr
    simp only [beq_false this, hpr]

theorem Le.freeze1 {σ : AS} (n t : Nat) {p : Place} {e sz m : Nat} {f g : Nat → List T} (hn : σ.n = n) (hs : σ.s t = ⟨true, .one (.ref p)⟩) (hp : σ.node p = .sl e sz m f) (hfg : ∀ i, i < m → f i = g i) (hpr : onRoot RR p = false := by rfl) :
    Le σ (mkAS n [(t, ⟨true, .one (.v (.sl e sz m g))⟩)] [] []) := by
  intro w0 own0 a w own h
  have hpf : ∀ k, p.r ≠ .arr FF k := fun k he => by
    obtain ⟨r, ps⟩ := p
    simp only at he
    subst he
    simp only [AS.node, h.noff, follow_dead] at hp
    cases hp
  have hf : Froz w w own (letGo own) := ⟨fun b hb _ => ⟨letGo_none hb, rfl⟩⟩
  refine ⟨letGo own, h.trans ⟨rfl, rfl, rfl, Nat.le_refl _⟩ (fun _ _ _ => rfl) (fun b hb => ⟨letGo_FP hb, rfl⟩) (fun k => rfl) (fun b b' q hb hb' => h.inj b b' q (letGo_some hb) (letGo_some hb')) (fun b q hq => ⟨(h.rng b q (letGo_some hq)).1, .inl (by rw [letGo_some hq]; simp)⟩) hn.symm (fun u hu => ?_) (fun d hd => absurd rfl hd) (fun d k e sz n' f hd => (by cases hd)) (Kept.of fun b k hb => ⟨letGo_RR hb, rfl⟩)⟩
  show OkS w (letGo own) _ _ (lookS _ u)
  simp only [lookS]
  cases hb : Nat.beq u t with
  | false => trivial
  | true =>
    rw [Nat.eq_of_beq_eq_true hb] at hu ⊢
    have hv : OkC w own σ (a.tmps.getD t undef) (.ref p) := h.evC (x := .tmp t) hs
    have h1 := (h.ref hv hp).freeze hf (fun b s hb => ⟨letGo_gone hpf hpr hb, rfl⟩)
    show Ok w (letGo own) none _ (.sl e sz m g)
    generalize a.tmps.getD t undef = v at h1
    cases h1 with
    | nil => exact .nil _ _ _
    | emp a e sz f hcap => exact .emp a _ _ _ hcap
    | fsl x h1 h2 h3 h4 h5 h6 => exact .fsl x h1 h2 (fun i hi => by rw [← hfg i hi]; exact h3 i hi) h4 h5 (fun i j hi hj => by rw [← hfg i hi]; exact h6 i j hi hj)

/-! ### calls whose results are plain or let go -/
def zT : T → Bool
  | .fz _ => true
  | t => t.sc
def zP : PV → Bool
  | .one t => zT t
  | .agg ts => ts.all zT
  | .tup _ => false
def zR : PV → Bool
  | .tup vs => vs.all zP
  | u => zP u
def zC : T → C
  | .fz t => .v t
  | t => .v t
def zV : PV → V
  | .one t => .one (zC t)
  | .agg ts => .agg (ts.map zC)
  | .tup _ => .any
def zVV : PV → V
  | .tup vs => .tup (vs.map zV)
  | u => zV u

theorem zC_ok {w own w' own' pl v t σ} (hf : Froz w w' own own') (h : Ok w own pl v t) (hs : zT t = true) : OkC w' own' σ v (zC t) := by
  cases t with
  | fz t => cases h with | fz h => exact Ok.frozen h hf
  | int k n => exact Ok.anyw (t := .int k n) (pl' := none) h rfl
  | bool b => exact Ok.anyw (t := .bool b) (pl' := none) h rfl
  | str s => exact Ok.anyw (t := .str s) (pl' := none) h rfl
  | nl => exact Ok.anyw (t := .nl) (pl' := none) h rfl
  | sl e sz n f => cases hs
  | dead => cases hs
theorem zP_ok {w own w' own' pl v u σ} (hf : Froz w w' own own') (h : OkP w own pl v u) (hs : zP u = true) : OkFlat w' own' σ v (zV u) := by
  cases u with
  | one t => exact zC_ok hf h hs
  | agg ts =>
    obtain ⟨xs, h1, h2, h3⟩ := h
    refine ⟨xs, h1, by simpa using h2, fun j c hc => ?_⟩
    simp only [List.getElem?_map, Option.map_eq_some_iff] at hc
    obtain ⟨t0, ht0, rfl⟩ := hc
    exact zC_ok hf (h3 j t0 ht0) (List.all_eq_true.1 hs t0 (List.mem_of_getElem? ht0))
  | tup vs => exact h.elim

theorem call_stepZ {P : Program} {o : Oper} {σ : AS} {d : Nat} (hd : o.dst = some d) (hn : d < σ.n) {f : FuncId} {xs : List Operand} {ats : Array TypeId} (ho : o.op = .call { callee := .value (.func f), args := xs.toArray, argTypes := ats }) (hc : callOk P f = true)
    {args : List PV} {res : PV} (ha : ArgVs σ xs args) (hs : ASpec P f args res) (hfl : zR res = true) (hh : noRefsB σ xs = true) :
    Step P o σ (σ.setS d ⟨true, zVV res⟩) := by
  intro w0 own0 a w own hI K Q hK
  obtain ⟨ha1, ha2⟩ := ha.ok hI (F := fun b => (own b).isSome) (.inr ⟨fun b hb => by simp [hb], noRefsB_spec hh⟩)
  have hrun : (execOp a.eval o).run P w = .ok (.enter f (xs.map a.eval).toArray) w := by
    simp only [execOp, ho, resolve, Act.eval, Deferred.ofValue, Sem.run_bind, Sem.run_pure, Result.andThen_ok, invoke, List.map_toArray, Array.empty_append]
    simp only [Array.append_empty, run_callFunc hc]
  unfold Oper.wp
  rw [hrun]
  simp only [Oper.upon]
  refine (hs w (fun b => (own b).isSome) (xs.map a.eval).toArray (by simpa using ha1) (fun i u hu => ?_)).mono ?_
  · have hlt : i < xs.length := by rw [ha1]; exact (List.getElem?_eq_some_iff.1 hu).1
    have := ha2 i u _ hu (List.getElem?_eq_getElem hlt)
    have e : ((xs.map a.eval).toArray).getD i undef = a.eval xs[i] := by
      simp only [Array.getD_eq_getD_getElem?, List.getElem?_toArray, List.getElem?_map, List.getElem?_eq_getElem hlt, Option.map_some, Option.getD_some]
    rw [e]
    exact this
  · rintro e w' ⟨v, own', rfl, hret, hres⟩
    simp only [hd]
    have hf : Froz w' w' (mergeF w (fun b => (own b).isSome) own') own := ⟨fun b hb hlt => ⟨by
      cases ho : own b with
      | none => rfl
      | some p =>
        have hl := (hI.rng b p ho).1
        simp [mergeF, ownF, hl, ho] at hb, rfl⟩⟩
    refine hK _ _ _ ((hI.grow hret.same hret.old).put (v := v) hn ?_)
    show OkV w' own σ v (zVV res)
    cases res with
    | one t => exact zP_ok (u := .one t) (σ := σ) hf hres hfl
    | agg ts => exact zP_ok (u := .agg ts) (σ := σ) hf hres hfl
    | tup vs =>
      obtain ⟨xs, h1, h2, h3⟩ := hres
      refine ⟨xs, h1, by simpa using h2, fun j c hc => ?_⟩
      simp only [List.getElem?_map, Option.map_eq_some_iff] at hc
      obtain ⟨u, hu, rfl⟩ := hc
      exact zP_ok hf (h3 j u hu) (List.all_eq_true.1 hfl u (List.mem_of_getElem? hu))

/-- a slice that is let go, handed back -/
theorem RetIs.frz {t : Nat} {e' sz n : Nat} {f : Nat → List T} {y : T} {e : Exit} {σ : AS} (he : e = .normal ∨ e = .ret) (hs : σ.s t = ⟨true, .one (.v (.sl e' sz n f))⟩) (h : T.fz (.sl e' sz n f) = y) : RetIs [t] (.one y) e σ :=
  ⟨he, [.one (.fz (.sl e' sz n f))], [], .cons hs (.one (.frz e' sz n f _)) (.nil _), rfl, by rw [h]⟩

/-- the cells of a slice that nobody writes have bounds -/
def fitsT : T → Prop
  | .str s => s.size ≤ 9223372036854775807
  | .sl _ _ n _ => n ≤ 9223372036854775807
  | .fz t => fitsT t
  | _ => True
theorem Ok.fitsT {w own pl v t} (h : Ok w own pl v t) : fitsT t := by
  induction h with
  | str s hs => show s.size ≤ 9223372036854775807; simpa only [maxLen] using hs
  | fz h ih => exact ih
  | nil => exact Nat.zero_le 9223372036854775807
  | emp => exact Nat.zero_le 9223372036854775807
  | fsl x hn hcap => simp only [maxLen] at hcap; exact Nat.le_trans hn hcap
  | osl ho hh hs hn hcap => simp only [maxLen] at hcap; exact Nat.le_trans hn hcap
  | _ => trivial
theorem AWp.rowsLe {P : Program} {Q : Exit → AS → Prop} {σ : AS} {c : Code} (t : Nat) {e sz n : Nat} {f : Nat → List T} (hs : σ.s t = ⟨true, .one (.v (.sl e sz n f))⟩) (h : (∀ i j, i < n → j < sz → fitsT ((f i).getD j .dead)) → AWp P c Q σ) : AWp P c Q σ := by
  intro w0 own0 a w own hI
  refine h (fun i j hi hj => ?_) w0 own0 a w own hI
  have hv : Ok w own none (a.eval (.tmp t)) (.sl e sz n f) := hI.evC (x := .tmp t) hs
  generalize a.eval (.tmp t) = v at hv
  cases hv with
  | nil => omega
  | emp => omega
  | fsl x h1 h2 h3 h4 h5 h6 => exact (h6 i j hi hj).fitsT

/-! ### indexes that are counters -/
section
variable {P : Program} {o : Oper} {σ : AS} {d : Nat} (hd : o.dst = some d) (hn : d < σ.n)
include hd hn
theorem step_index_rN {t e' sz by' : Nat} {x y : Operand} (ho : o.op = .indexAddr t x y) (ht : sliceT P t = some ⟨e', sz, by'⟩) {p : Place} {e n : Nat} {g : Nat → List T} {k : IntKind} {i : Nat}
    (hx : σ.ev x = ⟨true, .one (.ref p)⟩) (hp : σ.node p = .sl e sz n g) (hy : σ.ev y = ⟨true, .one (.v (.int k (i : Int)))⟩) (h1 : i < n) :
    Step P o σ (σ.setS d ⟨true, .one (.eptr p i 0)⟩) := by
  have := step_index_r (P := P) hd hn ho ht hx hp hy (by omega) (by omega)
  rwa [Int.toNat_natCast] at this
theorem step_index_fN {t e' sz by' : Nat} {x y : Operand} (ho : o.op = .indexAddr t x y) (ht : sliceT P t = some ⟨e', sz, by'⟩) {e n : Nat} {g : Nat → List T} {k : IntKind} {i : Nat}
    (hx : σ.ev x = ⟨true, .one (.v (.sl e sz n g))⟩) (hy : σ.ev y = ⟨true, .one (.v (.int k (i : Int)))⟩) (h1 : i < n) :
    Step P o σ (σ.setS d ⟨true, .one (.fptr e sz n g i 0)⟩) := by
  have := step_index_f (P := P) hd hn ho ht hx hy (by omega) (by omega)
  rwa [Int.toNat_natCast] at this
end

end Go.Mh
