/- Contracts of functions of the program, each met by its body; conditions stand in each statement. No condition. -/
import Derived.Test.YtkmacjdigkaabaaHi
import Derived.Sort.Grow
set_option linter.unusedVariables false
set_option linter.unusedSimpArgs false
set_option linter.unnecessarySimpa false
namespace Go.Mh
open Go

/-! ### permutations of places -/
/-! ### nil slices in rows told as slices that nobody writes -/
inductive TelC : T → T → Prop where
  | refl (t : T) : TelC t t
  | nlz (e sz : Nat) (f : Nat → List T) : TelC .nl (.fz (.sl e sz 0 f))
inductive Tel : T → T → Prop where
  | refl (t : T) : Tel t t
  | rows {e sz n : Nat} {f g : Nat → List T} (hl : ∀ i, i < n → (g i).length = (f i).length) (h : ∀ i j, i < n → TelC ((f i).getD j .dead) ((g i).getD j .dead)) : Tel (.sl e sz n f) (.sl e sz n g)
theorem TelC.ok {w own pl v t t'} (h : TelC t t') (k : Ok w own pl v t) : Ok w own pl v t' := by
  cases h with
  | refl => exact k
  | nlz e sz f => cases k; exact .fz (.nil e sz f)
theorem TelC.follow {t t' : T} (h : TelC t t') (ps : List (Nat × Nat)) {e sz n g} (hf : follow t' ps = .sl e sz n g) : ∃ f, follow t ps = .sl e sz n f := by
  cases h with
  | refl => exact ⟨g, hf⟩
  | nlz e sz f => cases ps <;> simp [Mh.follow] at hf
theorem Tel.of_sl {t : T} {e sz n : Nat} {g : Nat → List T} (h : Tel t (.sl e sz n g)) : ∃ f, t = .sl e sz n f ∧ (∀ i, i < n → (g i).length = (f i).length) ∧ ∀ i j, i < n → TelC ((f i).getD j .dead) ((g i).getD j .dead) := by
  cases h with
  | refl => exact ⟨g, rfl, fun _ _ => rfl, fun _ _ _ => .refl _⟩
  | rows hl h => exact ⟨_, rfl, hl, h⟩
theorem Tel.follow {t t' : T} (h : Tel t t') (ps : List (Nat × Nat)) {e sz n g} (hf : follow t' ps = .sl e sz n g) : ∃ f, follow t ps = .sl e sz n f := by
  cases h with
  | refl => exact ⟨g, hf⟩
  | @rows e' sz' n' f1 g1 hl h =>
    cases ps with
    | nil => simp only [Mh.follow, T.sl.injEq] at hf ⊢; obtain ⟨rfl, rfl, rfl, _⟩ := hf; exact ⟨f1, rfl, rfl, rfl, rfl⟩
    | cons x ps =>
      obtain ⟨i, j⟩ := x
      simp only [Mh.follow] at hf ⊢
      split at hf
      · rename_i hi
        rw [if_pos hi]
        exact (h i j hi).follow ps hf
      · cases hf
theorem Tel.ok {w own p v t t'} (h : Tel t t') (k : Ok w own (some p) v t) : Ok w own (some p) v t' := by
  cases h with
  | refl => exact k
  | rows hl h =>
    cases k with
    | nil => exact .nil _ _ _
    | osl ho hh hs hn hcap hl' hr => exact .osl ho hh hs hn hcap (fun i hi => (hl i hi).trans (hl' i hi)) (fun i j hi hj => (h i j hi).ok (hr i j hi hj))
inductive TelS : T → T → Prop where
  | refl (t : T) : TelS t t
  | nlz (e sz : Nat) (f : Nat → List T) : TelS .nl (.fz (.sl e sz 0 f))
  | nls (e sz : Nat) (f : Nat → List T) : TelS .nl (.sl e sz 0 f)
theorem TelS.ok {w own pl v t t'} (h : TelS t t') (k : Ok w own pl v t) : Ok w own pl v t' := by
  cases h with
  | refl => exact k
  | nlz e sz f => cases k; exact .fz (.nil e sz f)
  | nls e sz f => cases k; exact .nil e sz f
end Go.Mh
