/- Contracts of functions of the program, each met by its body; conditions stand in each statement. No condition. -/
import Derived.Test.YtegaemhpkaahbaaGg
set_option linter.unusedVariables false
set_option linter.unusedSimpArgs false
set_option linter.unnecessarySimpa false
namespace Go.Mh
open Go

/-! ### looking whether a pointer is nil -/
theorem step_nilE {P : Program} {o : Oper} {σ : AS} {d : Nat} (hd : o.dst = some d) (hn : d < σ.n) {x : Operand} (ho : o.op = .nilCheck x) {p : Place} {i j e sz n : Nat} {g : Nat → List T} (hx : σ.ev x = ⟨true, .one (.eptr p i j)⟩) (hp : σ.node p = .sl e sz n g) :
    Step P o σ (σ.setS d ⟨true, .one (.eptr p i j)⟩) :=
  Step.value hd hn fun w0 own0 a w own hI => by
    have h := hI.evC hx
    obtain ⟨b, hv, hown⟩ := h e sz n g hp
    exact ⟨_, by simp only [execOp, ho, hv]; rfl, by rw [hv] at h; exact h⟩
theorem step_nilF {P : Program} {o : Oper} {σ : AS} {d : Nat} (hd : o.dst = some d) (hn : d < σ.n) {x : Operand} (ho : o.op = .nilCheck x) {i j e sz n : Nat} {g : Nat → List T} (hx : σ.ev x = ⟨true, .one (.fptr e sz n g i j)⟩) :
    Step P o σ (σ.setS d ⟨true, .one (.fptr e sz n g i j)⟩) :=
  Step.value hd hn fun w0 own0 a w own hI => by
    have h := hI.evC hx
    obtain ⟨b, off, cap, h1, h2, hv⟩ := h
    exact ⟨_, by simp only [execOp, ho, hv]; rfl, ⟨b, off, cap, h1, h2, rfl⟩⟩
theorem step_nilB {P : Program} {o : Oper} {σ : AS} {d : Nat} (hd : o.dst = some d) (hn : d < σ.n) {x : Operand} (ho : o.op = .nilCheck x) {b j : Nat} (hx : σ.ev x = ⟨true, .one (.bptr b j)⟩) (hb : σ.box b ≠ []) :
    Step P o σ (σ.setS d ⟨true, .one (.bptr b j)⟩) :=
  Step.value hd hn fun w0 own0 a w own hI => by
    have h := hI.evC hx
    obtain ⟨bb, hv, hown⟩ := h hb
    exact ⟨_, by simp only [execOp, ho, hv]; rfl, by rw [hv] at h; exact h⟩

/-- an array's tree is told anew -/
theorem Le.retree {σ : AS} (d k : Nat) {t : T} (h : Eqv (σ.arr d k) t) : Le σ (σ.setArr d k t) :=
  Le.eqv rfl rfl rfl (fun d' k' => by
    rw [setArr_arr]
    split
    · rename_i e; rw [e.1, e.2]; exact h
    · exact .refl _)

end Go.Mh
