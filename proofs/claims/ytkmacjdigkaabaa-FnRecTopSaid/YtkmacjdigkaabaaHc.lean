/- Contracts of functions of the program, each met by its body; conditions stand in each statement. No condition. -/
import Derived.Test.YtkmacjdigkaabaaGh
set_option linter.unusedVariables false
set_option linter.unusedSimpArgs false
set_option linter.unnecessarySimpa false
namespace Go.Mh
open Go

/-! ### what is made out of other roots goes on at a root of its own -/
theorem C.free_of_clr {d : Nat} {g : Place → Bool} {c : C} (h : c.free d = true) : (c.clr g).free d = true := by
  simp only [C.free, List.all_eq_true] at h ⊢
  exact fun p hp => h p (C.clr_places hp).1
theorem V.free1_of_clr {d : Nat} {g : Place → Bool} {v : V} (h : v.free1 d = true) : (v.clr1 g).free1 d = true := by
  cases v with
  | one c => exact C.free_of_clr (c := c) h
  | agg cs =>
    simp only [V.free1, V.clr1, List.all_map, List.all_eq_true, Function.comp] at h ⊢
    exact fun c hc => C.free_of_clr (h c hc)
  | tup vs => exact h
  | any => rfl
theorem V.free_of_clr {d : Nat} {g : Place → Bool} {v : V} (h : v.free d = true) : (v.clr g).free d = true := by
  cases v with
  | tup vs =>
    simp only [V.free, V.clr, List.all_map, List.all_eq_true, Function.comp] at h ⊢
    exact fun c hc => V.free1_of_clr (h c hc)
  | one c => exact V.free1_of_clr (v := .one c) h
  | agg cs => exact V.free1_of_clr (v := .agg cs) h
  | any => rfl
theorem NoRef.clr {d : Nat} {σ : AS} (h : NoRef d σ) (g : Place → Bool) : (∀ t, ((σ.s t).clr g).clr (onRoot d) = (σ.s t).clr g) ∧ ∀ t, ((σ.box t).map (C.clr g)).map (C.clr (onRoot d)) = (σ.box t).map (C.clr g) := by
  refine ⟨fun t => ?_, fun t => ?_⟩
  · unfold SV.clr
    rw [V.free_clr (V.free_of_clr (h.1 t))]
  · rw [List.map_map]
    exact List.map_congr_left fun c hc => C.free_clr (C.free_of_clr (List.all_eq_true.1 (h.2 t) c hc))

end Go.Mh

set_option linter.unusedVariables false
namespace Go.Mh
open Go

/-! ### what lies below an array is let go -/
/-! ### in regions that draw -/
/-- one plain cell of a root array's row is written -/
theorem step_store_1 {P : Program} {o : Oper} {σ : AS} {t : Nat} {x y : Operand} (hd : o.dst = none) (ho : o.op = .store t x y) (ht : cellsSz P t = some (0 + 1)) {d k i j e sz n : Nat} {f : Nat → List T} {v : T}
    (hx : σ.ev x = ⟨true, .one (.eptr ⟨.arr d k, []⟩ i j)⟩) (hp : σ.arr d k = .sl e sz n f) (hi : i < n) (hj : j + 1 ≤ sz) (hy : σ.ev y = ⟨true, .one (.v v)⟩) (hs : v.solid = true := by rfl) :
    Step P o σ (σ.setArr d k (.sl e sz n (setRow f i j (toT (.v v))))) := by
  have hn : σ.node ⟨.arr d k, []⟩ = .sl e sz n f := by simp only [AS.node, follow, hp]
  have h := step_store_e (P := P) hd ho ht hx hn hi hj (by rw [hy]) (by rw [hy]; rfl) (by
    simp only [storeOkNA, hy, V.cells, List.getElem?_cons_zero, storeOkA, Bool.and_true, solidC, hs])
  have e1 : storeNA ⟨.arr d k, []⟩ i j y (0 + 1) 0 σ = σ.setArr d k (.sl e sz n (setRow f i j (toT (.v v)))) := by
    simp only [storeNA, hy, V.cells, List.getElem?_cons_zero, storeA1, hn, Nat.add_zero, AS.updNode, updT]
  rw [e1] at h
  exact h

/-! ### references to arrays in rows, put into variables -/
end Go.Mh
