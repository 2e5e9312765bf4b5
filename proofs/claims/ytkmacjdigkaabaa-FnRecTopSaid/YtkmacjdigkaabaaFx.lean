/- Slices of slices that nobody writes. No condition. -/
import Derived.Test.YtkmacjdigkaabaaFw
set_option linter.unusedVariables false
set_option linter.unusedSimpArgs false
set_option linter.unnecessarySimpa false
namespace Go.Mh
open Go

section
variable {P : Program} {o : Oper} {σ : AS} {d : Nat} (hd : o.dst = some d) (hn : d < σ.n)
include hd hn
/-- i - 1 of a counter that is not 0 -/
theorem step_decN {t ty : TypeId} {x y : Operand} (ho : o.op = .binOp .sub t x y ty) {i : Nat}
    (hx : σ.ev x = ⟨true, .one (.v (.int .i64 (i : Int)))⟩) (hy : σ.ev y = ⟨true, .one (.v (.int .i64 1))⟩) (h0 : 0 < i) (h1 : i ≤ 9223372036854775807) : Step P o σ (σ.setS d ⟨true, .one (.v (.int .i64 ((i - 1 : Nat) : Int)))⟩) := by
  have := step_sub (P := P) hd hn ho hx hy
  rw [wrap_in (by omega) (by omega)] at this
  rw [show ((i - 1 : Nat) : Int) = (i : Int) - 1 by omega]
  exact this

end

theorem rdBne {τ σ : AS} {R : List Loc} (hr : ∀ l, l ∈ R → τ.at σ l) {t : Nat} (hm : (Loc.b t).mem R = true) (h : σ.box t ≠ []) : τ.box t ≠ [] := by
  have : τ.box t = σ.box t := hr (.b t) (Loc.mem_iff.1 hm)
  rw [this]; exact h
theorem rdBget {τ σ : AS} {R : List Loc} (hr : ∀ l, l ∈ R → τ.at σ l) {t j : Nat} {c : C} (hm : (Loc.b t).mem R = true) (h : (σ.box t)[j]? = some c) : (τ.box t)[j]? = some c := by
  have : τ.box t = σ.box t := hr (.b t) (Loc.mem_iff.1 hm)
  rw [this]; exact h
def slotsIn (R : List Loc) : List Operand → Bool
  | [] => true
  | .tmp t :: l => match (Loc.s t).mem R with | true => slotsIn R l | false => false
  | _ :: l => slotsIn R l
theorem rdNoRefs {τ σ : AS} {R : List Loc} (hr : ∀ l, l ∈ R → τ.at σ l) : ∀ {xs : List Operand}, slotsIn R xs = true → noRefsB σ xs = true → noRefsB τ xs = true
  | [], _, _ => rfl
  | x :: l, hm, h => by
    have he : τ.ev x = σ.ev x ∧ slotsIn R l = true := by
      cases x with
      | tmp t =>
        simp only [slotsIn] at hm
        cases ht : (Loc.s t).mem R with
        | false => rw [ht] at hm; cases hm
        | true => rw [ht] at hm; exact ⟨hr (.s t) (Loc.mem_iff.1 ht), hm⟩
      | _ => exact ⟨rfl, hm⟩
    simp only [noRefsB] at h ⊢
    rw [he.1]
    cases hx : noRefB (σ.ev x).v.cells with
    | false => rw [hx] at h; cases h
    | true => rw [hx] at h; exact rdNoRefs hr he.2 h

end Go.Mh
