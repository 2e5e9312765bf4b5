/- Contracts of functions of the program, each met by its body; conditions stand in each statement. No condition. -/
import Derived.Test.YtkmacjdigkaabaaHb
set_option linter.unusedVariables false
set_option linter.unusedSimpArgs false
set_option linter.unnecessarySimpa false
namespace Go.Mh
open Go

/-! ### what lies below an array is let go -/
theorem pathEq_refl : ∀ (p : List (Nat × Nat)), pathEq p p = true
  | [] => rfl
  | (i, j) :: p => by simp [pathEq, pathEq_refl p]
theorem pathEq_cons (p : List (Nat × Nat)) : ∀ (x : Nat × Nat) (s : List (Nat × Nat)), pathEq p (p ++ x :: s) = false := by
  induction p with
  | nil => intro x s; rfl
  | cons y p ih => intro x s; obtain ⟨i, j⟩ := y; simp [pathEq, ih]
def dropBelow (own : Own) (p : Place) : Own := fun b => match own b with
  | some q => match under p q && !pathEq p.p q.p with | true => none | false => some q
  | none => none
theorem dropBelow_some {own : Own} {p q : Place} {b : Nat} (h : dropBelow own p b = some q) : own b = some q := by
  unfold dropBelow at h
  cases hb : own b with
  | none => simp [hb] at h
  | some x =>
    simp only [hb] at h
    cases hu : under p x && !pathEq p.p x.p with
    | true => rw [hu] at h; cases h
    | false => rw [hu] at h; exact h
theorem dropBelow_keep {own : Own} {p q : Place} {b : Nat} (h : own b = some q) (hu : (under p q && !pathEq p.p q.p) = false) : dropBelow own p b = some q := by
  simp only [dropBelow, h, hu]
theorem dropBelow_self {own : Own} {p : Place} {b : Nat} (h : own b = some p) : dropBelow own p b = some p := dropBelow_keep h (by simp [pathEq_refl])
theorem dropBelow_off {own : Own} {p q : Place} {b : Nat} (h : own b = some q) (hu : under p q = false) : dropBelow own p b = some q := dropBelow_keep h (by simp [hu])
theorem dropBelow_root {own : Own} {p : Place} {r : Root} {b : Nat} (h : own b = some ⟨r, []⟩) : dropBelow own p b = some ⟨r, []⟩ := dropBelow_keep h (by
  obtain ⟨r', ps⟩ := p
  cases ps with
  | nil => simp [pathEq]
  | cons x ps => obtain ⟨i, j⟩ := x; simp [under, isPre])

theorem Le.fzBelow {σ : AS} (p : Place) {e sz n : Nat} {f : Nat → List T} (g : Nat → List T) (hn : σ.node p = .sl e sz n f) (hl : ∀ i, i < n → (g i).length = (f i).length)
    (hz : ∀ i j, i < n → Fz ((f i).getD j .dead) ((g i).getD j .dead) ∧ noSl ((g i).getD j .dead) = true) : Le σ (((σ.updNode p (.sl e sz n g)).mapC (belowB p)).goneArr (fun _ _ => false)) := by
  intro w0 own0 a w own h
  have hf : Froz w w own (dropBelow own p) := ⟨fun b hb _ => ⟨by simp [dropBelow, hb], rfl⟩⟩
  refine ⟨dropBelow own p, h.upd hn (.sl e sz n g) ⟨rfl, rfl, rfl, Nat.le_refl _⟩ hf (fun _ _ => false) (by cases p with | mk r ps => cases r <;> rfl) (fun b q hb hq _ => ⟨dropBelow_off hb hq, rfl⟩) (fun v hv => ?_) (belowB p) (fun q _ => by cases q with | mk r ps => cases r <;> rfl)
    (fun q hq => ?_) (fun _ => rfl) (fun b b' q hb hb' => h.inj b b' q (dropBelow_some hb) (dropBelow_some hb')) (fun b q hb => ⟨(h.rng b q (dropBelow_some hb)).1, .inl (by rw [dropBelow_some hb]; simp)⟩) (Kept.of fun b k hb => ⟨dropBelow_root hb, rfl⟩)⟩
  · cases hv with
    | nil => exact .nil _ _ _
    | osl ho hh hs hn' hcap hl' hr =>
      refine .osl (dropBelow_self ho) hh hs hn' hcap (fun i hi => (hl i hi).trans (hl' i hi)) (fun i j hi hj => ?_)
      obtain ⟨z1, z2⟩ := hz i j hi
      refine Ok.place (Ok.asFz z1 ((hr i j hi hj).freeze hf (fun b s hb => ⟨?_, rfl⟩))) z2 _
      have e1 : (⟨(p.push i j).r, (p.push i j).p ++ s⟩ : Place) = ⟨p.r, p.p ++ (i, j) :: s⟩ := by simp [Place.push]
      rw [e1] at hb
      simp only [dropBelow, hb, under_self, pathEq_cons, Bool.not_false, Bool.and_self]
  · rcases belowB_false hq with rfl | hp
    · refine ⟨fun e' sz' n' f' hq' => ?_, fun t0 _ hb e0 => hb (by have := updNode_box_len σ q (.sl e sz n g) t0; rw [e0] at this; exact List.eq_nil_of_length_eq_zero this), fun _ b hb => ⟨dropBelow_self hb, fun c e hc => ⟨c, hc, rfl⟩⟩⟩
      rw [updNode_self σ q _ hn] at hq'
      cases hq'
      exact ⟨f, hn⟩
    · exact ⟨fun e' sz' n' f' hq' => updNode_off σ p q _ (not_under hp) hq', fun t0 _ hb e0 => hb (by have := updNode_box_len σ p (.sl e sz n g) t0; rw [e0] at this; exact List.eq_nil_of_length_eq_zero this), fun _ b hb => ⟨dropBelow_off hb (not_under hp), fun c e hc => ⟨c, hc, rfl⟩⟩⟩

/-! ### in regions that draw -/
/-- one plain cell of a root array's row is written -/
theorem step_store_1 {P : Program} {o : Oper} {σ : AS} {t : Nat} {x y : Operand} (hd : o.dst = none) (ho : o.op = .store t x y) (ht : cellsSz P t = some (0 + 1)) {d k i j e sz n : Nat} {f : Nat → List T} {v : T}
    (hx : σ.ev x = ⟨true, .one (.eptr ⟨.arr d k, []⟩ i j)⟩) (hp : σ.arr d k = .sl e sz n f) (hi : i < n) (hj : j + 1 ≤ sz) (hy : σ.ev y = ⟨true, .one (.v v)⟩) (hs : v.solid = true := by rfl) :
    Step P o σ (σ.setArr d k (.sl e sz n (setRow f i j (toT (.v v))))) := by
  have hn : σ.node ⟨.arr d k, []⟩ = .sl e sz n f := by simp only [AS.node, follow, hp]
  have h := step_store_e (P := P) hd ho ht hx hn hi hj (by rw [hy]) (by rw [hy]; rfl) (by
    simp only [storeOkNA, hy, V.cells, List.getElem?_cons_zero, storeOkA, Bool.and_true, solidC, hs])
  have e1 : storeNA ⟨.arr d k, []⟩ i j y (0 + 1) 0 σ = σ.setArr d k (.sl e sz n (setRow f i j (toT (.v v)))) := by
    simp only [storeNA, hy, V.cells, List.getElem?_cons_zero, storeA1, hn, Nat.add_zero, AS.updNode, updT]
  rw [e1] at h
  exact h

/-! ### references to arrays in rows, put into variables -/
end Go.Mh
