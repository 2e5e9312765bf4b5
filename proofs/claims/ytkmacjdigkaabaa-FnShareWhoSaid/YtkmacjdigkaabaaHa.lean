/- Contracts of functions of the program, each met by its body; conditions stand in each statement. No condition. -/
import Derived.Test.YtkmacjdigkaabaaGg
import Derived.Sort.Grow
import Derived.Sort.EncStr
set_option linter.unusedVariables false
set_option linter.unusedSimpArgs false
set_option linter.unnecessarySimpa false
namespace Go.Mh
open Go

/-! ### looking whether a pointer is nil -/
theorem step_nilE {P : Program} {o : Oper} {σ : AS} {d : Nat} (hd : o.dst = some d) (hn : d < σ.n) {x : Operand} (ho : o.op = .nilCheck x) {p : Place} {i j e sz n : Nat} {g : Nat → List T} (hx : σ.ev x = ⟨true, .one (.eptr p i j)⟩) (hp : σ.node p = .sl e sz n g) :
    Step P o σ (σ.setS d ⟨true, .one (.eptr p i j)⟩) :=
  Step.value hd hn fun w0 own0 a w own hI => by
    have h := hI.evC hx
    obtain ⟨b, hv, hown⟩ := h e sz n g hp
    exact ⟨_, by simp only [execOp, ho, hv]; rfl, by rw [hv] at h; exact h⟩
/-- an array's tree is told anew -/
theorem Le.retree {σ : AS} (d k : Nat) {t : T} (h : Eqv (σ.arr d k) t) : Le σ (σ.setArr d k t) :=
  Le.eqv rfl rfl rfl (fun d' k' => by
    rw [setArr_arr]
    split
    · rename_i e; rw [e.1, e.2]; exact h
    · exact .refl _)

end Go.Mh

set_option linter.unusedVariables false
namespace Go.Mh
open Go Go.Sort Go.Proofs

/-! ### a list of texts is sorted in its array -/
def bl (s : ByteArray) : List UInt8 := s.data.toList
def unbl (l : List UInt8) : ByteArray := ⟨l.toArray⟩
theorem unbl_bl (s : ByteArray) : unbl (bl s) = s := by cases s; rfl
theorem bl_unbl (l : List UInt8) : bl (unbl l) = l := rfl
def sortB (l : List ByteArray) : List ByteArray := ((l.map bl).mergeSort fun x y => decide (x ≤ y)).map unbl
theorem sortB_perm (l : List ByteArray) : (sortB l).Perm l := by
  have h := (List.mergeSort_perm (l.map bl) (fun x y => decide (x ≤ y))).map unbl
  have e : (l.map bl).map unbl = l := by
    rw [List.map_map]; conv => rhs; rw [← List.map_id l]
    exact List.map_congr_left fun s _ => unbl_bl s
  rw [e] at h
  exact h

end Go.Mh
