/- Contracts of functions of the program, each met by its body; conditions stand in each statement. No condition. -/
import Derived.Test.YtkmacjdigkaabaaGg
set_option linter.unusedVariables false
set_option linter.unusedSimpArgs false
set_option linter.unnecessarySimpa false
namespace Go.Mh
open Go

/-! ### looking whether a pointer is nil -/
theorem step_nilE {P : Program} {o : Oper} {σ : AS} {d : Nat} (hd : o.dst = some d) (hn : d < σ.n) {x : Operand} (ho : o.op = .nilCheck x) {p : Place} {i j e sz n : Nat} {g : Nat → List T} (hx : σ.ev x = ⟨true, .one (.eptr p i j)⟩) (hp : σ.node p = .sl e sz n g) :
    Step P o σ (σ.setS d ⟨true, .one (.eptr p i j)⟩) :=
  Step.value hd hn fun w0 own0 a w own hI => by
    have h := hI.evC hx
    obtain ⟨b, hv, hown⟩ := h e sz n g hp
    exact ⟨_, by simp only [execOp, ho, hv]; rfl, by rw [hv] at h; exact h⟩
theorem step_max {P : Program} {o : Oper} {σ : AS} {d : Nat} (hd : o.dst = some d) (hn : d < σ.n) {t t' : TypeId} {x y : Operand} (ho : o.op = .call { callee := .builtin .max, args := #[x, y], argTypes := #[t, t'] }) {k k' : IntKind} {i j : Int} (hx : σ.ev x = ⟨true, .one (.v (.int k i))⟩) (hy : σ.ev y = ⟨true, .one (.v (.int k' j))⟩) :
    Step P o σ (σ.setS d ⟨true, .one (.v (.int k (max i j)))⟩) :=
  Step.value hd hn fun w0 own0 a w own hI => ⟨.int k (max i j), by
    have e : (if j > i then j else i) = max i j := by split <;> omega
    simp [execOp, ho, resolve, invoke, builtin, hI.evS hx rfl, hI.evS hy rfl, T.val, Builtin.max_, Builtin.max2, e], .int _ _⟩

/-- a store into a box, in a region that draws -/
theorem FRun.boxW {P : Program} {ops : Array Oper} {o : Oper} {rest : List Oper} {R : List Loc} {d : Nat} {A : List Nat} {ds : List DRow} {σ : AS} {x : List C} {K : AS → Prop} (hg : o.guard = none)
    (h : ∀ τ, τ.n = σ.n → (∀ l, l ∈ R → τ.at σ l) → Step P o τ (τ.setBox d x)) (hA : A.all (fun r => x.all (C.free r) && !Nat.beq d r) = true) (hr : FRun P ops rest ds (σ.setBox d x) K) : FRun P ops (o :: rest) (⟨⟨R, [.b d], false⟩, none, A⟩ :: ds) σ K := by
  refine FRun.cons (σ' := σ.setBox d x) ⟨rfl, fun l hl => ?_, fun τ k1 k2 _ => ?_, fun r hx l hl => ?_⟩ hr
  · have hm : l ∉ [Loc.b d] := DOp.mem_of_false hl
    cases l with
    | s u => rfl
    | b u =>
      show (σ.setBox d x).box u = σ.box u
      rw [setBox_box, if_neg (fun e => hm (by rw [e]; simp))]
    | a u k => rfl
  · have h1 := h τ k1 (fun l hl => k2 l (Loc.mem_iff.2 hl))
    have e : AS.patch τ (σ.setBox d x) (DOp.wr ⟨R, [.b d], false⟩) = τ.setBox d x := by
      refine AS.ext_at rfl fun l => ?_
      cases hl : DOp.wr ⟨R, [.b d], false⟩ l with
      | true =>
        refine AS.at_trans (AS.patch_in hl) ?_
        have hm : l ∈ [Loc.b d] := Loc.mem_iff.1 hl
        simp only [List.mem_cons, List.not_mem_nil, or_false] at hm
        subst hm
        show (σ.setBox d x).box d = (τ.setBox d x).box d
        rw [setBox_box, setBox_box, if_pos rfl, if_pos rfl]
      | false =>
        refine AS.at_trans (AS.patch_out hl) ?_
        have hm : l ∉ [Loc.b d] := DOp.mem_of_false hl
        cases l with
        | s u => rfl
        | b u =>
          show τ.box u = (τ.setBox d x).box u
          rw [setBox_box, if_neg (fun e => hm (by rw [e]; simp))]
        | a u k => rfl
    rw [e]
    exact .plain hg h1
  · have hm : l ∈ [Loc.b d] := Loc.mem_iff.1 hl
    simp only [List.mem_cons, List.not_mem_nil, or_false] at hm
    subst hm
    have h2 := List.all_eq_true.1 hA r hx
    simp only [Bool.and_eq_true, Bool.not_eq_true'] at h2
    refine ⟨?_, fun e => ?_⟩
    · show ((σ.setBox d x).box d).all _ = true
      rw [setBox_box, if_pos rfl]; exact h2.1
    · rw [e] at h2; simp at h2

end Go.Mh
