/- Slices of slices that nobody writes. No condition. -/
import Derived.Test.YtkmacjdigkaabaaGreatFv
set_option linter.unusedVariables false
set_option linter.unusedSimpArgs false
set_option linter.unnecessarySimpa false
namespace Go.Mh
open Go

/-! ### an owned array is let go, just ahead of the end: from now on nobody writes to it -/
def letGo (own : Own) : Own := fun b => match own b with
  | some p => match p.r with
    | .arr d _ => match Nat.beq d FF, Nat.beq d RR with | false, false => none | _, _ => some p
    | .box _ => none
  | none => none
theorem letGo_some {own : Own} {b : Nat} {p : Place} (h : letGo own b = some p) : own b = some p := by
  unfold letGo at h
  cases ho : own b with
  | none => rw [ho] at h; cases h
  | some q =>
    rw [ho] at h
    obtain ⟨r, ps⟩ := q
    cases r with
    | box d => cases h
    | arr d k =>
      simp only at h
      split at h
      · cases h
      · exact h
theorem letGo_none {own : Own} {b : Nat} (h : own b = none) : letGo own b = none := by simp [letGo, h]
theorem letGo_FP {own : Own} {b : Nat} (h : own b = some (FP b)) : letGo own b = some (FP b) := by simp [letGo, h, FP]
theorem letGo_RR {own : Own} {b k : Nat} (h : own b = some ⟨.arr RR k, []⟩) : letGo own b = some ⟨.arr RR k, []⟩ := by
  have e1 : Nat.beq RR FF = false := by decide
  have e2 : Nat.beq RR RR = true := by decide
  simp only [letGo, h, e1, e2]
theorem letGo_gone {own : Own} {b : Nat} {p : Place} {s : List (Nat × Nat)} (hp : ∀ k, p.r ≠ .arr FF k) (hpr : onRoot RR p = false) (h : own b = some ⟨p.r, s⟩) : letGo own b = none := by
  unfold letGo
  rw [h]
  obtain ⟨r, ps⟩ := p
  cases r with
  | box d => rfl
  | arr d k =>
    have : d ≠ FF := fun e => hp k (by rw [e])
    simp only [onRoot, Root.num] at hpr
    simp only [beq_false this, hpr]

theorem Le.freeze1 {σ : AS} (n t : Nat) {p : Place} {e sz m : Nat} {f g : Nat → List T} (hn : σ.n = n) (hs : σ.s t = ⟨true, .one (.ref p)⟩) (hp : σ.node p = .sl e sz m f) (hfg : ∀ i, i < m → f i = g i) (hpr : onRoot RR p = false := by rfl) :
    Le σ (mkAS n [(t, ⟨true, .one (.v (.sl e sz m g))⟩)] [] []) := by
  intro w0 own0 a w own h
  have hpf : ∀ k, p.r ≠ .arr FF k := fun k he => by
    obtain ⟨r, ps⟩ := p
    simp only at he
    subst he
    simp only [AS.node, h.noff, follow_dead] at hp
    cases hp
  have hf : Froz w w own (letGo own) := ⟨fun b hb _ => ⟨letGo_none hb, rfl⟩⟩
  refine ⟨letGo own, h.trans ⟨rfl, rfl, rfl, Nat.le_refl _⟩ (fun _ _ _ => rfl) (fun b hb => ⟨letGo_FP hb, rfl⟩) (fun k => rfl) (fun b b' q hb hb' => h.inj b b' q (letGo_some hb) (letGo_some hb')) (fun b q hq => ⟨(h.rng b q (letGo_some hq)).1, .inl (by rw [letGo_some hq]; simp)⟩) hn.symm (fun u hu => ?_) (fun d hd => absurd rfl hd) (fun d k e sz n' f hd => (by cases hd)) (Kept.of fun b k hb => ⟨letGo_RR hb, rfl⟩)⟩
  show OkS w (letGo own) _ _ (lookS _ u)
  simp only [lookS]
  cases hb : Nat.beq u t with
  | false => trivial
  | true =>
    rw [Nat.eq_of_beq_eq_true hb] at hu ⊢
    have hv : OkC w own σ (a.tmps.getD t undef) (.ref p) := h.evC (x := .tmp t) hs
    have h1 := (h.ref hv hp).freeze hf (fun b s hb => ⟨letGo_gone hpf hpr hb, rfl⟩)
    show Ok w (letGo own) none _ (.sl e sz m g)
    generalize a.tmps.getD t undef = v at h1
    cases h1 with
    | nil => exact .nil _ _ _
    | emp a e sz f hcap => exact .emp a _ _ _ hcap
    | fsl x h1 h2 h3 h4 h5 h6 => exact .fsl x h1 h2 (fun i hi => by rw [← hfg i hi]; exact h3 i hi) h4 h5 (fun i j hi hj => by rw [← hfg i hi]; exact h6 i j hi hj)

/-! ### calls whose results are plain or let go -/
def zT : T → Bool
  | .fz _ => true
  | t => t.sc
def zP : PV → Bool
  | .one t => zT t
  | .agg ts => ts.all zT
  | .tup _ => false
def zR : PV → Bool
  | .tup vs => vs.all zP
  | u => zP u
def zC : T → C
  | .fz t => .v t
  | t => .v t
def zV : PV → V
  | .one t => .one (zC t)
  | .agg ts => .agg (ts.map zC)
  | .tup _ => .any
def zVV : PV → V
  | .tup vs => .tup (vs.map zV)
  | u => zV u

theorem zC_ok {w own w' own' pl v t σ} (hf : Froz w w' own own') (h : Ok w own pl v t) (hs : zT t = true) : OkC w' own' σ v (zC t) := by
  cases t with
  | fz t => cases h with | fz h => exact Ok.frozen h hf
  | int k n => exact Ok.anyw (t := .int k n) (pl' := none) h rfl
  | bool b => exact Ok.anyw (t := .bool b) (pl' := none) h rfl
  | str s => exact Ok.anyw (t := .str s) (pl' := none) h rfl
  | nl => exact Ok.anyw (t := .nl) (pl' := none) h rfl
  | sl e sz n f => cases hs
  | dead => cases hs
theorem zP_ok {w own w' own' pl v u σ} (hf : Froz w w' own own') (h : OkP w own pl v u) (hs : zP u = true) : OkFlat w' own' σ v (zV u) := by
  cases u with
  | one t => exact zC_ok hf h hs
  | agg ts =>
    obtain ⟨xs, h1, h2, h3⟩ := h
    refine ⟨xs, h1, by simpa using h2, fun j c hc => ?_⟩
    simp only [List.getElem?_map, Option.map_eq_some_iff] at hc
    obtain ⟨t0, ht0, rfl⟩ := hc
    exact zC_ok hf (h3 j t0 ht0) (List.all_eq_true.1 hs t0 (List.mem_of_getElem? ht0))
  | tup vs => exact h.elim

theorem call_stepZ {P : Program} {o : Oper} {σ : AS} {d : Nat} (hd : o.dst = some d) (hn : d < σ.n) {f : FuncId} {xs : List Operand} {ats : Array TypeId} (ho : o.op = .call { callee := .value (.func f), args := xs.toArray, argTypes := ats }) (hc : callOk P f = true)
    {args : List PV} {res : PV} (ha : ArgVs σ xs args) (hs : ASpec P f args res) (hfl : zR res = true) (hh : noRefsB σ xs = true) :
    Step P o σ (σ.setS d ⟨true, zVV res⟩) := by
  intro w0 own0 a w own hI K Q hK
  obtain ⟨ha1, ha2⟩ := ha.ok hI (F := fun b => (own b).isSome) (.inr ⟨fun b hb => by simp [hb], noRefsB_spec hh⟩)
  have hrun : (execOp a.eval o).run P w = .ok (.enter f (xs.map a.eval).toArray) w := by
    simp only [execOp, ho, resolve, Act.eval, Deferred.ofValue, Sem.run_bind, Sem.run_pure, Result.andThen_ok, invoke, List.map_toArray, Array.empty_append]
    simp only [Array.append_empty, run_callFunc hc]
  unfold Oper.wp
  rw [hrun]
  simp only [Oper.upon]
  refine (hs w (fun b => (own b).isSome) (xs.map a.eval).toArray (by simpa using ha1) (fun i u hu => ?_)).mono ?_
  · have hlt : i < xs.length := by rw [ha1]; exact (List.getElem?_eq_some_iff.1 hu).1
    have := ha2 i u _ hu (List.getElem?_eq_getElem hlt)
    have e : ((xs.map a.eval).toArray).getD i undef = a.eval xs[i] := by
      simp only [Array.getD_eq_getD_getElem?, List.getElem?_toArray, List.getElem?_map, List.getElem?_eq_getElem hlt, Option.map_some, Option.getD_some]
    rw [e]
    exact this
  · rintro e w' ⟨v, own', rfl, hret, hres⟩
    simp only [hd]
    have hf : Froz w' w' (mergeF w (fun b => (own b).isSome) own') own := ⟨fun b hb hlt => ⟨by
      cases ho : own b with
      | none => rfl
      | some p =>
        have hl := (hI.rng b p ho).1
        simp [mergeF, ownF, hl, ho] at hb, rfl⟩⟩
    refine hK _ _ _ ((hI.grow hret.same hret.old).put (v := v) hn ?_)
    show OkV w' own σ v (zVV res)
    cases res with
    | one t => exact zP_ok (u := .one t) (σ := σ) hf hres hfl
    | agg ts => exact zP_ok (u := .agg ts) (σ := σ) hf hres hfl
    | tup vs =>
      obtain ⟨xs, h1, h2, h3⟩ := hres
      refine ⟨xs, h1, by simpa using h2, fun j c hc => ?_⟩
      simp only [List.getElem?_map, Option.map_eq_some_iff] at hc
      obtain ⟨u, hu, rfl⟩ := hc
      exact zP_ok hf (h3 j u hu) (List.all_eq_true.1 hfl u (List.mem_of_getElem? hu))

/-- a slice that is let go, handed back -/
theorem RetIs.frz {t : Nat} {e' sz n : Nat} {f : Nat → List T} {y : T} {e : Exit} {σ : AS} (he : e = .normal ∨ e = .ret) (hs : σ.s t = ⟨true, .one (.v (.sl e' sz n f))⟩) (h : T.fz (.sl e' sz n f) = y) : RetIs [t] (.one y) e σ :=
  ⟨he, [.one (.fz (.sl e' sz n f))], [], .cons hs (.one (.frz e' sz n f _)) (.nil _), rfl, by rw [h]⟩

/-! ### indexes that are counters -/
section
variable {P : Program} {o : Oper} {σ : AS} {d : Nat} (hd : o.dst = some d) (hn : d < σ.n)
include hd hn
theorem step_index_rN {t e' sz by' : Nat} {x y : Operand} (ho : o.op = .indexAddr t x y) (ht : sliceT P t = some ⟨e', sz, by'⟩) {p : Place} {e n : Nat} {g : Nat → List T} {k : IntKind} {i : Nat}
    (hx : σ.ev x = ⟨true, .one (.ref p)⟩) (hp : σ.node p = .sl e sz n g) (hy : σ.ev y = ⟨true, .one (.v (.int k (i : Int)))⟩) (h1 : i < n) :
    Step P o σ (σ.setS d ⟨true, .one (.eptr p i 0)⟩) := by
  have := step_index_r (P := P) hd hn ho ht hx hp hy (by omega) (by omega)
  rwa [Int.toNat_natCast] at this
theorem step_index_fN {t e' sz by' : Nat} {x y : Operand} (ho : o.op = .indexAddr t x y) (ht : sliceT P t = some ⟨e', sz, by'⟩) {e n : Nat} {g : Nat → List T} {k : IntKind} {i : Nat}
    (hx : σ.ev x = ⟨true, .one (.v (.sl e sz n g))⟩) (hy : σ.ev y = ⟨true, .one (.v (.int k (i : Int)))⟩) (h1 : i < n) :
    Step P o σ (σ.setS d ⟨true, .one (.fptr e sz n g i 0)⟩) := by
  have := step_index_f (P := P) hd hn ho ht hx hy (by omega) (by omega)
  rwa [Int.toNat_natCast] at this
end

end Go.Mh

set_option linter.unusedVariables false
namespace Go.Mh
open Go

section
variable {P : Program} {o : Oper} {σ : AS} {d : Nat} (hd : o.dst = some d) (hn : d < σ.n)
include hd hn
/-- i - 1 of a counter that is not 0 -/
theorem step_decN {t ty : TypeId} {x y : Operand} (ho : o.op = .binOp .sub t x y ty) {i : Nat}
    (hx : σ.ev x = ⟨true, .one (.v (.int .i64 (i : Int)))⟩) (hy : σ.ev y = ⟨true, .one (.v (.int .i64 1))⟩) (h0 : 0 < i) (h1 : i ≤ 9223372036854775807) : Step P o σ (σ.setS d ⟨true, .one (.v (.int .i64 ((i - 1 : Nat) : Int)))⟩) := by
  have := step_sub (P := P) hd hn ho hx hy
  rw [wrap_in (by omega) (by omega)] at this
  rw [show ((i - 1 : Nat) : Int) = (i : Int) - 1 by omega]
  exact this

/-- the first j rows of a slice that nobody writes -/
theorem step_slice_hf {t e' sz by' : Nat} {x y : Operand} (ho : o.op = .slice t x none (some y) none) (ht : sliceT P t = some ⟨e', sz, by'⟩) {e n : Nat} {g : Nat → List T} {k : IntKind} {j : Nat}
    (hx : σ.ev x = ⟨true, .one (.v (.sl e sz n g))⟩) (hy : σ.ev y = ⟨true, .one (.v (.int k (j : Int)))⟩) (h1 : j ≤ n) :
    Step P o σ (σ.setS d ⟨true, .one (.v (.sl e sz j g))⟩) :=
  Step.value hd hn fun w0 own0 a w own hI => by
    have hv := hI.evC hx
    have hy' := hI.evS hy rfl
    obtain ⟨hu, I, z, hi, hz, hs, hb, hzs, hsz⟩ := sliceT_spec ht
    have run : ∀ (a : Option Addr) (len cap : Nat), len ≤ cap → j ≤ len → (Instr.sliceAt t (.slice a len cap) none (some (.int k (j : Int))) none).run P w = .ok (.slice (if cap = 0 then a else a.map (·.add (0 * sz))) (j - 0) (cap - 0)) w := by
      intro a len cap hlc hjl
      have hb1 := run_sliceBound (P := P) w k (j : Int) cap .sliceAcap (by omega) (by omega)
      simp [Instr.sliceAt, run_underlying hu, Instr.slice, Instr.sliceBounds, run_sliceBound, sizeOf, run_info hi, show j ≤ cap by omega]
    generalize hg : a.eval x = vx at hv
    cases hv with
    | nil =>
      have hj : j = 0 := by omega
      subst hj
      have r := run none 0 0 (by omega) (by omega)
      simp at r
      exact ⟨.slice none 0 0, by simp [execOp, ho, hg, hy', T.val, r], .nil _ _ _⟩
    | @emp a cap _ _ _ hcap =>
      have hj : j = 0 := by omega
      subst hj
      have r := run (some a) 0 cap (by omega) (by omega)
      have ha : a.add (0 * sz) = a := by simp [Addr.add]
      have e : (if cap = 0 then some a else (some a).map (·.add (0 * sz))) = some a := by
        split
        · rfl
        · simp only [Option.map_some, ha]
      rw [e] at r
      simp at r
      exact ⟨.slice (some a) 0 cap, by simp [execOp, ho, hg, hy', T.val, r], .emp a _ _ _ hcap⟩
    | @fsl b off n cap e sz f xx h1' hcap h3 h4 h5 h6 =>
      have r := run (some ⟨b, off, none⟩) n cap h1' h1
      have ha : (⟨b, off, none⟩ : Addr).add (0 * sz) = ⟨b, off, none⟩ := by simp [Addr.add]
      have e : (if cap = 0 then some (⟨b, off, none⟩ : Addr) else (some (⟨b, off, none⟩ : Addr)).map (·.add (0 * sz))) = some ⟨b, off, none⟩ := by
        split
        · rfl
        · simp only [Option.map_some, ha]
      rw [e] at r
      simp at r
      refine ⟨.slice (some ⟨b, off, none⟩) j cap, by simp [execOp, ho, hg, hy', T.val, r], .fsl xx (by omega) hcap (fun i hi => h3 i (by omega)) (fun q q' => h4 (by omega) q') (fun i l hi hl => h5 i l (by omega) hl) (fun i l hi hl => h6 i l (by omega) hl)⟩
end

theorem rdBne {τ σ : AS} {R : List Loc} (hr : ∀ l, l ∈ R → τ.at σ l) {t : Nat} (hm : (Loc.b t).mem R = true) (h : σ.box t ≠ []) : τ.box t ≠ [] := by
  have : τ.box t = σ.box t := hr (.b t) (Loc.mem_iff.1 hm)
  rw [this]; exact h
theorem rdBget {τ σ : AS} {R : List Loc} (hr : ∀ l, l ∈ R → τ.at σ l) {t j : Nat} {c : C} (hm : (Loc.b t).mem R = true) (h : (σ.box t)[j]? = some c) : (τ.box t)[j]? = some c := by
  have : τ.box t = σ.box t := hr (.b t) (Loc.mem_iff.1 hm)
  rw [this]; exact h
theorem rdBtake {τ σ : AS} {R : List Loc} (hr : ∀ l, l ∈ R → τ.at σ l) {t j m : Nat} {cs : List C} (hm : (Loc.b t).mem R = true) (h : ((σ.box t).drop j).take m = cs) : ((τ.box t).drop j).take m = cs := by
  have : τ.box t = σ.box t := hr (.b t) (Loc.mem_iff.1 hm)
  rw [this]; exact h

def slotsIn (R : List Loc) : List Operand → Bool
  | [] => true
  | .tmp t :: l => match (Loc.s t).mem R with | true => slotsIn R l | false => false
  | _ :: l => slotsIn R l
theorem rdNoRefs {τ σ : AS} {R : List Loc} (hr : ∀ l, l ∈ R → τ.at σ l) : ∀ {xs : List Operand}, slotsIn R xs = true → noRefsB σ xs = true → noRefsB τ xs = true
  | [], _, _ => rfl
  | x :: l, hm, h => by
    have he : τ.ev x = σ.ev x ∧ slotsIn R l = true := by
      cases x with
      | tmp t =>
        simp only [slotsIn] at hm
        cases ht : (Loc.s t).mem R with
        | false => rw [ht] at hm; cases hm
        | true => rw [ht] at hm; exact ⟨hr (.s t) (Loc.mem_iff.1 ht), hm⟩
      | _ => exact ⟨rfl, hm⟩
    simp only [noRefsB] at h ⊢
    rw [he.1]
    cases hx : noRefB (σ.ev x).v.cells with
    | false => rw [hx] at h; cases h
    | true => rw [hx] at h; exact rdNoRefs hr he.2 h

end Go.Mh
