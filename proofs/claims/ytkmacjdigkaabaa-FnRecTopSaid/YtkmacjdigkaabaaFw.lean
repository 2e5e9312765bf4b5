/- Arrays let go, and calls that hand such arrays back. No condition. -/
import Derived.Test.YtkmacjdigkaabaaFv
set_option linter.unusedVariables false
set_option linter.unusedSimpArgs false
set_option linter.unnecessarySimpa false
namespace Go.Mh
open Go

/-! ### an owned array is let go, just ahead of the end: from now on nobody writes to it -/
def letGo (own : Own) : Own := fun b => match own b with
  | some p => match p.r with
    | .arr d _ => match Nat.beq d FF, Nat.beq d RR with | false, false => none | _, _ => some p
    | .box _ => none
  | none => none
/-! ### calls whose results are plain or let go -/
def zT : T → Bool
  | .fz _ => true
  | t => t.sc
def zP : PV → Bool
  | .one t => zT t
  | .agg ts => ts.all zT
  | .tup _ => false
def zR : PV → Bool
  | .tup vs => vs.all zP
  | u => zP u
def zC : T → C
  | .fz t => .v t
  | t => .v t
def zV : PV → V
  | .one t => .one (zC t)
  | .agg ts => .agg (ts.map zC)
  | .tup _ => .any
def zVV : PV → V
  | .tup vs => .tup (vs.map zV)
  | u => zV u

theorem zC_ok {w own w' own' pl v t σ} (hf : Froz w w' own own') (h : Ok w own pl v t) (hs : zT t = true) : OkC w' own' σ v (zC t) := by
  cases t with
  | fz t => cases h with | fz h => exact Ok.frozen h hf
  | int k n => exact Ok.anyw (t := .int k n) (pl' := none) h rfl
  | bool b => exact Ok.anyw (t := .bool b) (pl' := none) h rfl
  | str s => exact Ok.anyw (t := .str s) (pl' := none) h rfl
  | nl => exact Ok.anyw (t := .nl) (pl' := none) h rfl
  | sl e sz n f => cases hs
  | dead => cases hs
theorem zP_ok {w own w' own' pl v u σ} (hf : Froz w w' own own') (h : OkP w own pl v u) (hs : zP u = true) : OkFlat w' own' σ v (zV u) := by
  cases u with
  | one t => exact zC_ok hf h hs
  | agg ts =>
    obtain ⟨xs, h1, h2, h3⟩ := h
    refine ⟨xs, h1, by simpa using h2, fun j c hc => ?_⟩
    simp only [List.getElem?_map, Option.map_eq_some_iff] at hc
    obtain ⟨t0, ht0, rfl⟩ := hc
    exact zC_ok hf (h3 j t0 ht0) (List.all_eq_true.1 hs t0 (List.mem_of_getElem? ht0))
  | tup vs => exact h.elim

theorem call_stepZ {P : Program} {o : Oper} {σ : AS} {d : Nat} (hd : o.dst = some d) (hn : d < σ.n) {f : FuncId} {xs : List Operand} {ats : Array TypeId} (ho : o.op = .call { callee := .value (.func f), args := xs.toArray, argTypes := ats }) (hc : callOk P f = true)
    {args : List PV} {res : PV} (ha : ArgVs σ xs args) (hs : ASpec P f args res) (hfl : zR res = true) (hh : noRefsB σ xs = true) :
    Step P o σ (σ.setS d ⟨true, zVV res⟩) := by
  intro w0 own0 a w own hI K Q hK
  obtain ⟨ha1, ha2⟩ := ha.ok hI (F := fun b => (own b).isSome) (.inr ⟨fun b hb => by simp [hb], noRefsB_spec hh⟩)
  have hrun : (execOp a.eval o).run P w = .ok (.enter f (xs.map a.eval).toArray) w := by
    simp only [execOp, ho, resolve, Act.eval, Deferred.ofValue, Sem.run_bind, Sem.run_pure, Result.andThen_ok, invoke, List.map_toArray, Array.empty_append]
    simp only [Array.append_empty, run_callFunc hc]
  unfold Oper.wp
  rw [hrun]
  simp only [Oper.upon]
  refine (hs w (fun b => (own b).isSome) (xs.map a.eval).toArray (by simpa using ha1) (fun i u hu => ?_)).mono ?_
  · have hlt : i < xs.length := by rw [ha1]; exact (List.getElem?_eq_some_iff.1 hu).1
    have := ha2 i u _ hu (List.getElem?_eq_getElem hlt)
    have e : ((xs.map a.eval).toArray).getD i undef = a.eval xs[i] := by
      simp only [Array.getD_eq_getD_getElem?, List.getElem?_toArray, List.getElem?_map, List.getElem?_eq_getElem hlt, Option.map_some, Option.getD_some]
    rw [e]
    exact this
  · rintro e w' ⟨v, own', rfl, hret, hres⟩
    simp only [hd]
    have hf : Froz w' w' (mergeF w (fun b => (own b).isSome) own') own := ⟨fun b hb hlt => ⟨by
      cases ho : own b with
      | none => rfl
      | some p =>
        have hl := (hI.rng b p ho).1
        simp [mergeF, ownF, hl, ho] at hb, rfl⟩⟩
    refine hK _ _ _ ((hI.grow hret.same hret.old).put (v := v) hn ?_)
    show OkV w' own σ v (zVV res)
    cases res with
    | one t => exact zP_ok (u := .one t) (σ := σ) hf hres hfl
    | agg ts => exact zP_ok (u := .agg ts) (σ := σ) hf hres hfl
    | tup vs =>
      obtain ⟨xs, h1, h2, h3⟩ := hres
      refine ⟨xs, h1, by simpa using h2, fun j c hc => ?_⟩
      simp only [List.getElem?_map, Option.map_eq_some_iff] at hc
      obtain ⟨u, hu, rfl⟩ := hc
      exact zP_ok hf (h3 j u hu) (List.all_eq_true.1 hfl u (List.mem_of_getElem? hu))

/-- a slice that is let go, handed back -/
theorem RetIs.frz {t : Nat} {e' sz n : Nat} {f : Nat → List T} {y : T} {e : Exit} {σ : AS} (he : e = .normal ∨ e = .ret) (hs : σ.s t = ⟨true, .one (.v (.sl e' sz n f))⟩) (h : T.fz (.sl e' sz n f) = y) : RetIs [t] (.one y) e σ :=
  ⟨he, [.one (.fz (.sl e' sz n f))], [], .cons hs (.one (.frz e' sz n f _)) (.nil _), rfl, by rw [h]⟩

/-! ### indexes that are counters -/
section
variable {P : Program} {o : Oper} {σ : AS} {d : Nat} (hd : o.dst = some d) (hn : d < σ.n)
include hd hn
theorem step_index_rN {t e' sz by' : Nat} {x y : Operand} (ho : o.op = .indexAddr t x y) (ht : sliceT P t = some ⟨e', sz, by'⟩) {p : Place} {e n : Nat} {g : Nat → List T} {k : IntKind} {i : Nat}
    (hx : σ.ev x = ⟨true, .one (.ref p)⟩) (hp : σ.node p = .sl e sz n g) (hy : σ.ev y = ⟨true, .one (.v (.int k (i : Int)))⟩) (h1 : i < n) :
    Step P o σ (σ.setS d ⟨true, .one (.eptr p i 0)⟩) := by
  have := step_index_r (P := P) hd hn ho ht hx hp hy (by omega) (by omega)
  rwa [Int.toNat_natCast] at this
theorem step_index_fN {t e' sz by' : Nat} {x y : Operand} (ho : o.op = .indexAddr t x y) (ht : sliceT P t = some ⟨e', sz, by'⟩) {e n : Nat} {g : Nat → List T} {k : IntKind} {i : Nat}
    (hx : σ.ev x = ⟨true, .one (.v (.sl e sz n g))⟩) (hy : σ.ev y = ⟨true, .one (.v (.int k (i : Int)))⟩) (h1 : i < n) :
    Step P o σ (σ.setS d ⟨true, .one (.fptr e sz n g i 0)⟩) := by
  have := step_index_f (P := P) hd hn ho ht hx hy (by omega) (by omega)
  rwa [Int.toNat_natCast] at this
end

end Go.Mh
