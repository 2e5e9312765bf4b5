/- Contracts of functions of the program, each met by its body; conditions stand in each statement. No condition. -/
import Derived.Test.YtkmacjdigkaabaaHh
set_option linter.unusedVariables false
set_option linter.unusedSimpArgs false
set_option linter.unnecessarySimpa false
namespace Go.Mh
open Go

/-! ### parts of owned arrays -/
section
variable {P : Program} {o : Oper} {σ : AS} {d : Nat} (hd : o.dst = some d) (hn : d < σ.n)
include hd hn
end

/-! ### a row is cut out -/
/-! ### nil slices told in other words -/
inductive ReC : C → C → Prop where
  | refl (c : C) : ReC c c
  | nl : ReC (.v .nl) .nil
  | nlsl (e sz : Nat) (f : Nat → List T) : ReC (.v .nl) (.v (.sl e sz 0 f))
  | sl (e sz : Nat) (f : Nat → List T) : ReC .nil (.v (.sl e sz 0 f))
theorem ReC.ok {w own σ v c c'} (h : ReC c c') (k : OkC w own σ v c) : OkC w own σ v c' := by
  cases h with
  | refl => exact k
  | nl => have k' : Ok w own none v .nl := k; cases k'; exact rfl
  | nlsl e sz f => have k' : Ok w own none v .nl := k; cases k'; exact .nil e sz f
  | sl e sz f => have k' : v = .slice none 0 0 := k; rw [k']; exact .nil e sz f
theorem ReC.cell {w own σ d j v c c'} (h : ReC c c') (k : OkCell w own σ d j v c) : OkCell w own σ d j v c' := by
  cases h with
  | refl => exact k
  | nl => exact OkCell.of_C (ReC.ok (c := .v .nl) .nl k)
  | nlsl e sz f => exact OkCell.of_C (ReC.ok (c := .v .nl) (.nlsl e sz f) k)
  | sl e sz f => exact OkCell.of_C (ReC.ok (c := .nil) (.sl e sz f) k)
theorem ReC.tree {c c'} (h : ReC c c') : cellTree (some c) = cellTree (some c') := by cases h <;> rfl
inductive ReL : List C → List C → Prop where
  | nil : ReL [] []
  | cons {c c' : C} {l l' : List C} (h : ReC c c') (hs : ReL l l') : ReL (c :: l) (c' :: l')
theorem ReL.get {l l' : List C} (h : ReL l l') : l.length = l'.length ∧ ∀ (j : Nat) c', l'[j]? = some c' → ∃ c, l[j]? = some c ∧ ReC c c' := by
  induction h with
  | nil => exact ⟨rfl, fun j t' h => by simp at h⟩
  | cons h hs ih =>
    refine ⟨by simp [ih.1], fun j t' hj => ?_⟩
    cases j with
    | zero => simp only [List.getElem?_cons_zero, Option.some.injEq] at hj; subst hj; exact ⟨_, by simp, h⟩
    | succ j => obtain ⟨t, h1, h2⟩ := ih.2 j t' (by simpa using hj); exact ⟨t, by simpa using h1, h2⟩
theorem ReL.tree {l l' : List C} (h : ReL l l') (i : Nat) : cellTree (l[i]?) = cellTree (l'[i]?) := by
  induction h generalizing i with
  | nil => rfl
  | cons h hs ih =>
    cases i with
    | zero => exact h.tree
    | succ i => simpa using ih i
/-! ### roads that meet -/
theorem AWp.join {P : Program} {Q : Exit → AS → Prop} {σ : AS} {x y : Code} {α : Type} (mk : α → AS) (Pre : α → Prop) (J : ∀ z, Pre z → AWp P y Q (mk z)) (h : AWp P x (AThen (fun σ' => ∃ z, Pre z ∧ Le σ' (mk z)) Q) σ) : AWp P (.seq x y) Q σ := by
  refine AWp.seq (AWp.mono h fun e σ' hq => ?_)
  cases e with
  | normal => obtain ⟨z, h1, h2⟩ := hq; exact AWp.le h2 (J z h1)
  | _ => exact hq
theorem E.join {Φ : (Exit → AS → Prop) → Prop} {P : Program} {σ : AS} {K : (Exit → AS → Prop) → Exit → AS → Prop} {x y : Code} {α : Type} (mk : α → AS) (Pre : α → Prop) (J : ∀ z, Pre z → E Φ (fun Q => AWp P y (K Q) (mk z)))
    (h : (∀ z σ', Pre z → Le σ' (mk z) → E Φ (fun Q => AWp P y (K Q) σ')) → E Φ (fun Q => AWp P x (AThen (AWp P y (K Q)) (K Q)) σ)) : E Φ (fun Q => AWp P (.seq x y) (K Q) σ) :=
  E.mono (fun Q h => AWp.seq h) (h fun z σ' hz hl => E.mono (fun Q h => AWp.le hl h) (J z hz))

end Go.Mh
