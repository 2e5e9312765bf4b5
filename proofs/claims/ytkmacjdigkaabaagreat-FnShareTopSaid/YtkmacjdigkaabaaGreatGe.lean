/- Bytes as a text, and variables that begin with references. No condition. -/
import Derived.Test.YtkmacjdigkaabaaGreatGd
import Derived.Laws.BytesString
import Derived.Laws.Cells
set_option linter.unusedVariables false
set_option linter.unusedSimpArgs false
set_option linter.unnecessarySimpa false
namespace Go.Mh
open Go

/-! ### bytes as a text -/
/-! ### trees that bear no frozen part -/
theorem Clean.sc {t : T} (h : t.sc = true) : Clean t := by
  cases t <;> first | exact .int _ _ | exact .bool _ | exact .str _ | exact .nl | cases h
inductive CleanL : List T → Prop where
  | nil : CleanL []
  | cons {t : T} {l : List T} (h : Clean t) (hs : CleanL l) : CleanL (t :: l)
theorem CleanL.all {l : List T} (h : CleanL l) : ∀ t ∈ l, Clean t := by
  induction h with
  | nil => intro t ht; cases ht
  | cons h hs ih =>
    intro t ht
    rw [List.mem_cons] at ht
    rcases ht with rfl | ht
    · exact h
    · exact ih t ht

theorem RetIs.mk {t : Nat} {x res : T} {e : Exit} {σ : AS} {us : List MV} (he : e = .normal ∨ e = .ret) (hs : σ.s t = ⟨true, .one (.v x)⟩) (hx : x.sc = true) (hr : x = res) (hp : MPost σ 0 us) : (e = .normal ∨ e = .ret) ∧ (∃ x, σ.s t = ⟨true, .one (.v x)⟩ ∧ x.sc = true ∧ x = res) ∧ MPost σ 0 us := ⟨he, ⟨x, hs, hx, hr⟩, hp⟩

/-! ### a variable that begins with references to owned arrays -/
/-- a number told in other words -/
theorem Le.slotInt {σ : AS} (t : Nat) {k : IntKind} {a b : Int} (hs : σ.s t = ⟨true, .one (.v (.int k a))⟩) (h : a = b) : Le σ (σ.setS t ⟨true, .one (.v (.int k b))⟩) := by
  intro w0 own0 x w own hI
  refine ⟨own, hI.retell ?_⟩
  have hv := hI.evC (x := .tmp t) hs
  rw [h] at hv
  exact hv

end Go.Mh
