/- Calls with plain results. No condition. -/
import Derived.Test.YtkmacjdigkaabaaFl
set_option linter.unusedVariables false
set_option linter.unusedSimpArgs false
set_option linter.unnecessarySimpa false
namespace Go.Mh
open Go

/-- the world grows; nothing that was there turns -/
theorem Inv.grow {w0 own0 σ a w own} (h : Inv w0 own0 σ a w own) {w' : World} (hs : SameW w w') (hold : ∀ b, b < w.heap.size → w'.heap[b]? = w.heap[b]?) : Inv w0 own0 σ a w' own := by
  have hk : ∀ p, KeepP w w' own own σ σ p := fun p => ⟨fun e sz n' f hp => ⟨f, hp⟩, fun d _ hd => hd, fun _ b hb' => ⟨hb', fun c e hc => ⟨c, by rw [hold b (heap_lt hc)]; exact hc, rfl⟩⟩⟩
  have hf : Froz w w' own own := ⟨fun b hb hlt => ⟨hb, hold b hlt⟩⟩
  have hm : ∀ p, Moved w w' own own p p := fun p b s hb => ⟨hb, hold b (h.rng b _ hb).1⟩
  refine h.trans hs (fun b _ hlt => hold b hlt) (fun b hb => ⟨hb, hold b (h.rng b _ hb).1⟩) h.noff h.inj (fun b p hp => ⟨Nat.lt_of_lt_of_le (h.rng b p hp).1 hs.size, .inl (by rw [hp]; simp)⟩) rfl (fun t ht => ?_) (fun d hd => ?_) (fun d k' e sz n' f hd => ?_) (Kept.of fun b k hb => ⟨hb, hold b (h.rng b _ hb).1⟩)
  · exact ht.turn hf hk
  · obtain ⟨b, c, e, h1, h2, h3, h4⟩ := h.boxes d hd
    exact ⟨b, c, e, h1, by rw [hold b (heap_lt h2)]; exact h2, h3, fun j x hx => OkCell.turn hf hk hm (h4 j x hx)⟩
  · obtain ⟨v, hv⟩ := h.arrs d k' e sz n' f hd
    exact ⟨v, hv.moved hf (hm _)⟩

def flatP : PV → Bool
  | .one t => t.sc
  | .agg ts => ts.all T.sc
  | .tup _ => false
def flatR : PV → Bool
  | .tup vs => vs.all flatP
  | u => flatP u
def flatV : PV → V
  | .one t => .one (.v t)
  | .agg ts => .agg (ts.map C.v)
  | .tup _ => .any
def flatVV : PV → V
  | .tup vs => .tup (vs.map flatV)
  | u => flatV u

theorem Ok.anyw {w w' own own' pl pl' v t} (h : Ok w own pl v t) (hs : t.sc = true) : Ok w' own' pl' v t := by
  cases h with
  | int k n => exact .int k n
  | bool b => exact .bool b
  | str s hs' => exact .str s hs'
  | nl => exact .nl
  | _ => simp [T.sc] at hs

theorem flatP_ok {w own w' own' pl v u σ} (h : OkP w own pl v u) (hs : flatP u = true) : OkFlat w' own' σ v (flatV u) := by
  cases u with
  | one t => exact Ok.anyw (w' := w') (own' := own') (pl' := none) h hs
  | agg ts =>
    obtain ⟨xs, h1, h2, h3⟩ := h
    refine ⟨xs, h1, by simpa using h2, fun j c hc => ?_⟩
    simp only [List.getElem?_map, Option.map_eq_some_iff] at hc
    obtain ⟨t0, ht0, rfl⟩ := hc
    exact Ok.anyw (w' := w') (own' := own') (pl' := none) (h3 j t0 ht0) (List.all_eq_true.1 hs t0 (List.mem_of_getElem? ht0))
  | tup vs => exact h.elim

/-- a call whose results are plain: nothing is let go -/
theorem call_step1 {P : Program} {o : Oper} {σ : AS} {d : Nat} (hd : o.dst = some d) (hn : d < σ.n) {f : FuncId} {xs : List Operand} {ats : Array TypeId} (ho : o.op = .call { callee := .value (.func f), args := xs.toArray, argTypes := ats }) (hc : callOk P f = true)
    {args : List PV} {res : PV} (ha : ArgVs σ xs args) (hs : ASpec P f args res) (hfl : flatR res = true) :
    Step P o σ (σ.setS d ⟨true, flatVV res⟩) := by
  intro w0 own0 a w own hI K Q hK
  obtain ⟨ha1, ha2⟩ := ha.ok hI (F := fun _ => false) (.inl fun _ => rfl)
  have hrun : (execOp a.eval o).run P w = .ok (.enter f (xs.map a.eval).toArray) w := by
    simp only [execOp, ho, resolve, Act.eval, Deferred.ofValue, Sem.run_bind, Sem.run_pure, Result.andThen_ok, invoke, List.map_toArray, Array.empty_append]
    simp only [Array.append_empty, run_callFunc hc]
  unfold Oper.wp
  rw [hrun]
  simp only [Oper.upon]
  refine (hs w (fun _ => false) (xs.map a.eval).toArray (by simpa using ha1) (fun i u hu => ?_)).mono ?_
  · have hlt : i < xs.length := by rw [ha1]; exact (List.getElem?_eq_some_iff.1 hu).1
    have := ha2 i u _ hu (List.getElem?_eq_getElem hlt)
    have e : ((xs.map a.eval).toArray).getD i undef = a.eval xs[i] := by
      simp only [Array.getD_eq_getD_getElem?, List.getElem?_toArray, List.getElem?_map, List.getElem?_eq_getElem hlt, Option.map_some, Option.getD_some]
    rw [e]
    exact this
  · rintro e w' ⟨v, own', rfl, hret, hres⟩
    simp only [hd]
    refine hK _ _ _ ((hI.grow hret.same hret.old).put (v := v) hn ?_)
    show OkV w' own σ v (flatVV res)
    cases res with
    | one t => exact flatP_ok (u := .one t) (σ := σ) hres hfl
    | agg ts => exact flatP_ok (u := .agg ts) (σ := σ) hres hfl
    | tup vs =>
      obtain ⟨xs, h1, h2, h3⟩ := hres
      refine ⟨xs, h1, by simpa using h2, fun j c hc => ?_⟩
      simp only [List.getElem?_map, Option.map_eq_some_iff] at hc
      obtain ⟨u, hu, rfl⟩ := hc
      exact flatP_ok (h3 j u hu) (List.all_eq_true.1 hfl u (List.mem_of_getElem? hu))

/-! ### in a region that draws -/
theorem rdS {τ σ : AS} {R : List Loc} (hr : ∀ l, l ∈ R → τ.at σ l) {t : Nat} {x : SV} (hm : (Loc.s t).mem R = true) (h : σ.s t = x) : τ.s t = x := (hr (.s t) (Loc.mem_iff.1 hm) : τ.s t = σ.s t).trans h
theorem rdB {τ σ : AS} {R : List Loc} (hr : ∀ l, l ∈ R → τ.at σ l) {t : Nat} {x : List C} (hm : (Loc.b t).mem R = true) (h : σ.box t = x) : τ.box t = x := (hr (.b t) (Loc.mem_iff.1 hm) : τ.box t = σ.box t).trans h
theorem rdA {τ σ : AS} {R : List Loc} (hr : ∀ l, l ∈ R → τ.at σ l) {t k : Nat} {x : T} (hm : (Loc.a t k).mem R = true) (h : σ.arr t k = x) : τ.arr t k = x := (hr (.a t k) (Loc.mem_iff.1 hm) : τ.arr t k = σ.arr t k).trans h
theorem rdN {τ σ : AS} (h : τ.n = σ.n) {d : Nat} (hd : d < σ.n) : d < τ.n := h ▸ hd
/-- one plain operation of a region that draws -/
theorem DRun.step {P : Program} {ops : Array Oper} {o : Oper} {rest : List Oper} {R : List Loc} {t : Nat} {ds : List DOp} {σ : AS} {x : SV} {K : AS → Prop} (hg : o.guard = none)
    (h : ∀ τ, τ.n = σ.n → (∀ l, l ∈ R → τ.at σ l) → Step P o τ (τ.setS t x)) (hr : DRun P ops rest ds (σ.setS t x) K) : DRun P ops (o :: rest) (⟨R, [.s t], false⟩ :: ds) σ K :=
  DRun.cons (DStep.slot fun τ h1 h2 => .plain hg (h τ h1 h2)) hr
theorem DRun.gstep {P : Program} {ops : Array Oper} {o : Oper} {rest : List Oper} {R : List Loc} {t : Nat} {ds : List DOp} {σ : AS} {x : SV} {K : AS → Prop}
    (h : ∀ τ, τ.n = σ.n → (∀ l, l ∈ R → τ.at σ l) → GStep P ops o τ (τ.setS t x)) (hr : DRun P ops rest ds (σ.setS t x) K) : DRun P ops (o :: rest) (⟨R, [.s t], false⟩ :: ds) σ K :=
  DRun.cons (DStep.slot h) hr
/-- the last one, behind all others -/
theorem DRun.last {P : Program} {ops : Array Oper} {o : Oper} {σ σ' : AS} {K : AS → Prop} (hg : o.guard = none) (hn : σ'.n = σ.n) (h : Step P o σ σ') (hk : K σ') : DRun P ops [o] [⟨[], [], true⟩] σ K :=
  DRun.cons (DStep.whole hn (.plain hg h)) (DRun.nil hk)

end Go.Mh
