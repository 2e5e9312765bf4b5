/- Contracts of functions of the program, each met by its body; conditions stand in each statement. No condition. -/
import Derived.Test.YtkmacjdigkaabaahShr
import Derived.Test.YtkmacjdigkaabaahSrt
import Derived.Test.YtkmacjdigkaabaaProg
import Derived.KernelRfl
set_option linter.unusedVariables false
set_option linter.unusedSimpArgs false
set_option linter.unnecessarySimpa false
set_option linter.unusedSimpArgs false
set_option maxRecDepth 100000
namespace Go.Proofs.Ytkmacjdigkaabaa
open Go Go.Mh

theorem bookOk_iff (p : Bk) : bookOk p = true ↔ (p.things.length ≤ 8 ∧ namesB p.things = true ∧ p.bs.length ≤ 5) ∧ ∀ i, i < p.bs.length → (btAt p i = true ∧ ∀ j, j < i → ¬ ∃ x ∈ (nth p.bs i).has, x ∈ (nth p.bs j).has) := by
  simp only [bookOk, Bool.and_eq_true, decide_eq_true_eq, List.all_eq_true, List.mem_range, btFree, Bool.not_eq_true', ← meets_iff, Bool.not_eq_true]
  constructor
  · rintro ⟨⟨⟨h1, h2⟩, h3⟩, h4⟩; exact ⟨⟨h1, h2, h3⟩, h4⟩
  · rintro ⟨⟨h1, h2, h3⟩, h4⟩; exact ⟨⟨⟨h1, h2⟩, h3⟩, h4⟩
theorem btAt_iff (p : Bk) (i : Nat) : btAt p i = true ↔ nameOk (nth p.bs i).name = true ∧ (i = 0 ∨ strLt (nth p.bs (i - 1)).name (nth p.bs i).name = true) ∧ ((∀ x ∈ (nth p.bs i).needs, x ∈ p.things) ∧ Asc (nth p.bs i).needs) ∧ (∀ x ∈ (nth p.bs i).has, x ∈ (nth p.bs i).needs) ∧ Asc (nth p.bs i).has := by
  simp only [btAt, Bool.and_eq_true, Bool.or_eq_true, beq_iff_eq, within_iff, rising_asc]
  constructor
  · rintro ⟨⟨⟨h1, h2⟩, h3⟩, h4⟩; exact ⟨h1, h2, h3, h4⟩
  · rintro ⟨h1, h2, h3, h4⟩; exact ⟨⟨⟨h1, h2⟩, h3⟩, h4⟩
theorem bt_fz (bs : List Bt) : ∀ i j, i < bs.length → Fz (((nth bs i).cells).getD j .dead) (((nth bs i).zcells).getD j .dead) ∧ noSl (((nth bs i).zcells).getD j .dead) = true := fun i j _ => match j with
  | 0 => ⟨.refl _, rfl⟩
  | 1 => ⟨.fz (.refl _), rfl⟩
  | 2 => ⟨.fz (.refl _), rfl⟩
  | _ + 3 => ⟨.refl _, rfl⟩

end Go.Proofs.Ytkmacjdigkaabaa
