/- Contracts of functions of the program, each met by its body; conditions stand in each statement. No condition. -/
import Derived.Test.YtkmacjdigkaabaaHm
import Derived.Laws.StructEq
set_option linter.unusedVariables false
set_option linter.unusedSimpArgs false
set_option linter.unnecessarySimpa false
namespace Go.Mh
open Go

/-- an operation under a guard that is known to be met -/
theorem FRun.on {P : Program} {ops : Array Oper} {o : Oper} {rest : List Oper} {r : DRow} {rs : List DRow} {σ : AS} {K : AS → Prop} {j t : Nat} {want b : Bool} (hg : o.guard = some (j, want)) (hj : (ops[j]?).bind (·.dst) = some t)
    (hR : r.d.rd (.s t) = true) (ht : σ.s t = ⟨true, .one (.v (.bool b))⟩) (hb : b = want) (hr : FRun P ops ({ o with guard := none } :: rest) (r :: rs) σ K) : FRun P ops (o :: rest) (r :: rs) σ K := by
  obtain ⟨σ', h1, h2⟩ := hr
  subst hb
  refine ⟨σ', ⟨h1.n, h1.out, fun τ k1 k2 k3 => ?_, h1.av⟩, h2⟩
  intro w0 own0 a w own hI K Q hK
  have h := h1.go τ k1 k2 k3 w0 own0 a w own hI K Q hK
  simp only [Region.wanted, if_true] at h
  have hτ : τ.s t = ⟨true, .one (.v (.bool b))⟩ := (k2 (.s t) hR).trans ht
  have hs := hI.slots t
  rw [hτ] at hs
  have hv : a.tmps.getD t undef = .bool b := by
    have : Ok w own none (a.tmps.getD t undef) (.bool b) := hs
    exact Ok.sc this rfl
  have hlt : a.tmps[t]? = some (.bool b) := by
    rw [Array.getD_eq_getD_getElem?] at hv
    cases hx : a.tmps[t]? with
    | none => rw [hx] at hv; simp [undef] at hv
    | some x => rw [hx] at hv; simp at hv; rw [hv]
  have hy : yielded ops a.tmps j = some b := by simp only [yielded, hj, Option.bind_some, hlt]
  have hw : Region.wanted o (yielded ops a.tmps) = true := by simp [Region.wanted, hg, hy]
  rw [if_pos hw]
  exact h
/-- an operation under a guard that is known not to be met -/
theorem FRun.off {P : Program} {ops : Array Oper} {o : Oper} {rest : List Oper} {R : List Loc} {A : List Nat} {ds : List DRow} {σ : AS} {K : AS → Prop} {j t d : Nat} {want b : Bool} (u : V) (hg : o.guard = some (j, want)) (hj : (ops[j]?).bind (·.dst) = some t)
    (hm : (Loc.s t).mem R = true) (ht : σ.s t = ⟨true, .one (.v (.bool b))⟩) (hb : b ≠ want) (hd : o.dst = some d) (hn : d < σ.n) (hA : A.all (fun d => u.free d) = true)
    (hr : FRun P ops rest ds (σ.setS d ⟨false, u⟩) K) : FRun P ops (o :: rest) (⟨⟨R, [.s d], false⟩, none, A⟩ :: ds) σ K := by
  have h1 : DStep P ops o σ ⟨R, [.s d], false⟩ (σ.setS d ⟨false, u⟩) := DStep.slot fun τ k1 k2 => by
    have h := GStep.guard (P := P) (u := u) hg hj (rdS k2 hm ht) hd (rdN k1 hn) (fun _ e => absurd e hb)
    rwa [show (true && (b == want)) = false by simp [hb]] at h
  refine FRun.cons ⟨h1.n, h1.out, fun τ k1 k2 _ => h1.go τ k1 k2, fun x hx l hl => ?_⟩ hr
  have : l ∈ [Loc.s d] := Loc.mem_iff.1 hl
  simp only [List.mem_cons, List.not_mem_nil, or_false] at this
  subst this
  simp only [freeAt, setS_s, if_true]
  exact List.all_eq_true.1 hA x hx
end Go.Mh

set_option linter.unusedVariables false
namespace Go.Mh
open Go

/-! ### structs of plain cells are compared -/
theorem Inv.evAgg {w0 own0 σ a w own} (h : Inv w0 own0 σ a w own) {x : Operand} {cs : List C} (hx : σ.ev x = ⟨true, .agg cs⟩) {ts : List T} (hc : cs = ts.map C.v) (hs : ts.all T.sc = true) : a.eval x = .agg (ts.map T.val).toArray := by
  obtain ⟨xs, h1, h2, h3⟩ := h.evV hx
  subst hc
  rw [h1]
  congr 1
  apply Array.ext
  · simpa using h2
  · intro i hi1 hi2
    have hlt : i < ts.length := by simpa using hi2
    have h4 := h3 i (.v ts[i]) (by rw [List.getElem?_map, List.getElem?_eq_getElem hlt]; rfl)
    have h5 : xs.getD i undef = (ts[i]).val := Ok.sc h4 (List.all_eq_true.1 hs _ (List.getElem_mem hlt))
    have h6 : xs.getD i undef = xs[i] := by simp [Array.getD, hi1]
    rw [h6] at h5
    simpa using h5
theorem step_binA {P : Program} {o : Oper} {σ : AS} {d : Nat} (hd : o.dst = some d) (hn : d < σ.n) {op : BinOp} {t ty : TypeId} {x y : Operand} (ho : o.op = .binOp op t x y ty) {cs ds : List C} {ts us : List T} {tr : T}
    (hx : σ.ev x = ⟨true, .agg cs⟩) (hy : σ.ev y = ⟨true, .agg ds⟩) (hcs : cs = ts.map C.v) (hds : ds = us.map C.v) (s1 : ts.all T.sc = true) (s2 : us.all T.sc = true) (sr : tr.sc = true) (fr : tr.fits)
    (hr : ∀ w, (do eqGuard op t x y (.agg (ts.map T.val).toArray) (.agg (us.map T.val).toArray); binOp op t (.agg (ts.map T.val).toArray) (.agg (us.map T.val).toArray) : Sem Value).run P w = .ok tr.val w) :
    Step P o σ (σ.setS d ⟨true, .one (.v tr)⟩) :=
  Step.value hd hn fun w0 own0 a w own hI => by
    have e1 := hI.evAgg hx hcs s1
    have e2 := hI.evAgg hy hds s2
    have := hr w
    simp only [Sem.run_bind] at this
    exact ⟨tr.val, by simp only [execOp, ho, e1, e2, Sem.run_bind, this, Result.andThen_ok, Sem.run_pure], Ok.of_sc sr fr⟩
end Go.Mh
