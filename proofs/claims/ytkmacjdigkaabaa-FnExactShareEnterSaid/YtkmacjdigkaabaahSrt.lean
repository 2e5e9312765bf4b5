/- Contracts of functions of the program, each met by its body; conditions stand in each statement. No condition. -/
import Derived.Test.YtkmacjdigkaabaahBase
import Derived.Test.YtkmacjdigkaabaahSort
import Derived.Test.YtkmacjdigkaabaaHc
import Derived.Test.YtkmacjdigkaabaaProg
import Derived.KernelRfl
set_option linter.unusedVariables false
set_option linter.unusedSimpArgs false
set_option linter.unnecessarySimpa false
set_option linter.unusedSimpArgs false
set_option maxRecDepth 100000
namespace Go.Proofs.Ytkmacjdigkaabaa
open Go Go.Mh

theorem bl_inj {x y : Str} (h : bl x = bl y) : x = y := by rw [← unbl_bl x, ← unbl_bl y, h]
theorem bytesLt : ∀ (x y : List UInt8), Op.bytesLess x y = decide (x < y)
  | [], [] => by simp [Op.bytesLess]
  | _ :: _, [] => by simp [Op.bytesLess]
  | [], _ :: _ => by simp [Op.bytesLess]
  | a :: x, b :: y => by
    rw [Op.bytesLess, bytesLt x y]
    simp only [List.cons_lt_cons_iff, Bool.decide_or, Bool.decide_and]
    congr 1
theorem strLt_iff (x y : Str) : strLt x y = true ↔ bl x < bl y := by
  unfold strLt bl; rw [bytesLt, ByteArray.toList_eq, ByteArray.toList_eq]; simp
theorem strEq_iff (x y : Str) : strEq x y = true ↔ x = y := by
  unfold strEq
  rw [ByteArray.toList_eq, ByteArray.toList_eq, beq_iff_eq]
  exact ⟨fun h => bl_inj h, fun h => by rw [h]⟩
theorem bl_lt_of {x y : Str} (h : ¬ bl x < bl y) (hne : x ≠ y) : bl y < bl x := by
  rcases List.le_total (bl x) (bl y) with h1 | h1
  · have h2 : bl y ≤ bl x := List.not_lt.1 h
    exact absurd (bl_inj (List.le_antisymm h1 h2)) hne
  · refine Classical.byContradiction fun h3 => hne (bl_inj (List.le_antisymm (List.not_lt.1 h3) h1))
theorem bl_irr {x : Str} (h : bl x < bl x) : False := List.lt_irrefl _ h
/-- ascending, each once -/
def Asc (l : List Str) : Prop := l.Pairwise (fun a b => bl a < bl b)
theorem nth_mem {l : List Str} {i : Nat} (h : i < l.length) : nth l i ∈ l := by
  simp only [nth, List.getD_eq_getElem?_getD, List.getElem?_eq_getElem h, Option.getD_some]; exact List.getElem_mem h
theorem nth_get {l : List Str} {i : Nat} (h : i < l.length) : nth l i = l[i] := by
  simp only [nth, List.getD_eq_getElem?_getD, List.getElem?_eq_getElem h, Option.getD_some]
theorem mem_nth {l : List Str} {x : Str} (h : x ∈ l) : ∃ i, i < l.length ∧ nth l i = x := by
  obtain ⟨i, hi, rfl⟩ := List.mem_iff_getElem.1 h
  exact ⟨i, hi, nth_get hi⟩
theorem has_mem (l : List Str) (s : Str) : hasB l s = true ↔ s ∈ l := by
  simp only [hasB, List.any_eq_true, List.mem_range, strEq_iff]
  constructor
  · rintro ⟨i, hi, rfl⟩; exact nth_mem hi
  · intro h; exact mem_nth h
theorem within_iff (a b : List Str) : withinB a b = true ↔ ∀ x ∈ a, x ∈ b := by
  simp only [withinB, List.all_eq_true, List.mem_range, has_mem]
  constructor
  · intro h x hx
    obtain ⟨i, hi, rfl⟩ := mem_nth hx
    exact h i hi
  · intro h i hi; exact h _ (nth_mem hi)
theorem meets_iff (a b : List Str) : meetsB a b = true ↔ ∃ x ∈ a, x ∈ b := by
  simp only [meetsB, List.any_eq_true, List.mem_range, has_mem]
  constructor
  · rintro ⟨i, hi, h⟩; exact ⟨_, nth_mem hi, h⟩
  · rintro ⟨x, hx, h⟩
    obtain ⟨i, hi, rfl⟩ := mem_nth hx
    exact ⟨i, hi, h⟩
theorem rising_asc (l : List Str) : risingB l = true ↔ Asc l := by
  simp only [risingB, List.all_eq_true, List.mem_range, risAt, Bool.or_eq_true, beq_iff_eq, strLt_iff, Asc, List.pairwise_iff_getElem]
  constructor
  · intro h i j hi hj hij
    induction j with
    | zero => omega
    | succ j ih =>
      have h1 := h (j + 1) hj
      rw [nth_get (by omega : j + 1 - 1 < l.length), nth_get hj] at h1
      have h2 : bl l[j] < bl l[j + 1] := by
        rcases h1 with h1 | h1
        · omega
        · exact h1
      by_cases e : i = j
      · subst e; exact h2
      · exact List.lt_trans (ih (by omega) (by omega)) h2
  · intro h i hi
    by_cases e : i = 0
    · exact .inl e
    · right
      rw [nth_get (by omega : i - 1 < l.length), nth_get hi]
      exact h (i - 1) i (by omega) hi (by omega)
/-- an insertion -/
def posB (l : List Str) (s : Str) : Nat := match (List.range l.length).find? (fun i => !strLt (nth l i) s) with | some i => i | none => l.length
theorem posB_eq {l : List Str} {s : Str} {i : Nat} (h : ∀ j, j < i → strLt (nth l j) s = true) (hi : i ≤ l.length) (hx : i < l.length → strLt (nth l i) s = false) : posB l s = i := by
  unfold posB
  by_cases hlt : i < l.length
  · have : (List.range l.length).find? (fun i => !strLt (nth l i) s) = some i := by
      rw [List.find?_range_eq_some]
      exact ⟨by simp [hx hlt], List.mem_range.2 hlt, fun j hj => by simp [h j hj]⟩
    rw [this]
  · have hil : i = l.length := by omega
    subst hil
    have : (List.range l.length).find? (fun i => !strLt (nth l i) s) = none := by
      rw [List.find?_eq_none]; intro x hx; simp [h x (List.mem_range.1 hx)]
    rw [this]
theorem posB_spec (l : List Str) (s : Str) : posB l s ≤ l.length ∧ (∀ j, j < posB l s → strLt (nth l j) s = true) ∧ (posB l s < l.length → strLt (nth l (posB l s)) s = false) := by
  unfold posB
  cases h : (List.range l.length).find? (fun i => !strLt (nth l i) s) with
  | none =>
    rw [List.find?_eq_none] at h
    exact ⟨Nat.le_refl _, fun j hj => by have := h j (List.mem_range.2 hj); simpa using this, fun hlt => absurd hlt (Nat.lt_irrefl _)⟩
  | some i =>
    rw [List.find?_range_eq_some] at h
    exact ⟨Nat.le_of_lt (List.mem_range.1 h.2.1), fun j hj => by have := h.2.2 j hj; simpa using this, fun _ => by simpa using h.1⟩
end Go.Proofs.Ytkmacjdigkaabaa
