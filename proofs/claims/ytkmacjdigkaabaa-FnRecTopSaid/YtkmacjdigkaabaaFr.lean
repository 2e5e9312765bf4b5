/- Owned arrays told in other words, and results that are arrays. No condition. -/
import Derived.Test.YtkmacjdigkaabaaFq
set_option linter.unusedVariables false
set_option linter.unusedSimpArgs false
set_option linter.unnecessarySimpa false
namespace Go.Mh
open Go

/-! ### an owned array told in other words -/
inductive Eqv : T → T → Prop where
  | refl (t : T) : Eqv t t
  | rows {e sz n : Nat} {f g : Nat → List T} (h : ∀ i, i < n → f i = g i) : Eqv (.sl e sz n f) (.sl e sz n g)
theorem Eqv.of_sl {t : T} {e sz n : Nat} {g : Nat → List T} (h : Eqv t (.sl e sz n g)) : ∃ f, t = .sl e sz n f ∧ ∀ i, i < n → f i = g i := by
  cases h with
  | refl => exact ⟨g, rfl, fun _ _ => rfl⟩
  | rows h => exact ⟨_, rfl, h⟩
theorem Eqv.follow {t t' : T} (h : Eqv t t') : ∀ (ps : List (Nat × Nat)) {e sz n g}, follow t' ps = .sl e sz n g → ∃ f, follow t ps = .sl e sz n f
  | ps, e, sz, n, g, hf => by
    cases h with
    | refl => exact ⟨g, hf⟩
    | @rows e' sz' n' f1 g1 h =>
      cases ps with
      | nil => simp only [Mh.follow, T.sl.injEq] at hf ⊢; obtain ⟨rfl, rfl, rfl, rfl⟩ := hf; exact ⟨f1, ⟨rfl, rfl, rfl, rfl⟩⟩
      | cons x ps =>
        obtain ⟨i, j⟩ := x
        simp only [Mh.follow] at hf ⊢
        split at hf
        · rename_i hi; rw [if_pos hi, h i hi]; exact ⟨g, hf⟩
        · cases hf
theorem Eqv.ok {w own p v t t'} (h : Eqv t t') (hok : Ok w own (some p) v t) : Ok w own (some p) v t' := by
  cases h with
  | refl => exact hok
  | rows h =>
    cases hok with
    | nil => exact .nil _ _ _
    | osl ho hh hs hn hcap hl hr => exact .osl ho hh hs hn hcap (fun i hi => by rw [← h i hi]; exact hl i hi) (fun i j hi hj => by rw [← h i hi]; exact hr i j hi hj)

def isAR (σ : AS) : List (Nat × Nat × T) → Prop
  | [] => True
  | (k, i, v) :: l => Eqv (σ.arr k i) v ∧ isAR σ l
theorem isAR_look {σ : AS} : ∀ {sl : List (Nat × Nat × T)}, isAR σ sl → ∀ t j, Eqv (σ.arr t j) (lookA sl t j) ∨ lookA sl t j = .dead
  | [], _, t, j => .inr rfl
  | (k, i, v) :: l, h, t, j => by
    simp only [lookA]
    cases hb : Nat.beq t k with
    | true =>
      cases hb2 : Nat.beq j i with
      | true => left; rw [Nat.eq_of_beq_eq_true hb, Nat.eq_of_beq_eq_true hb2]; exact h.1
      | false => exact isAR_look h.2 t j
    | false => exact isAR_look h.2 t j

theorem Le.forgetR {σ : AS} {n : Nat} {sl : List (Nat × SV)} {bl : List (Nat × List C)} {al : List (Nat × Nat × T)} (hn : σ.n = n) (hs : isS σ sl) (hb : isB σ bl) (ha : isAR σ al) : Le σ (mkAS n sl bl al) := by
  intro w0 own0 a w own h
  have hnode : ∀ p e sz n' f, (mkAS n sl bl al).node p = .sl e sz n' f → ∃ g, σ.node p = .sl e sz n' g := by
    intro p e sz n' f hp
    obtain ⟨r, ps⟩ := p
    cases r with
    | arr d k =>
      simp only [AS.node, mkAS] at hp ⊢
      rcases isAR_look ha d k with h1 | h1
      · exact h1.follow ps hp
      · rw [h1, follow_dead] at hp; cases hp
    | box d =>
      cases ps with
      | nil => simp [AS.node] at hp
      | cons x ps =>
        obtain ⟨i, j⟩ := x
        cases i with
        | succ i => simp [AS.node] at hp
        | zero =>
          simp only [AS.node, mkAS] at hp ⊢
          rcases isB_look hb d with h1 | h1
          · rw [← h1]; exact ⟨f, hp⟩
          · rw [h1] at hp; simp [cellTree, follow_dead] at hp
  have hbx : ∀ d, (mkAS n sl bl al).box d ≠ [] → (mkAS n sl bl al).box d = σ.box d := fun d hd => (isB_look hb d).resolve_right hd
  have hk : ∀ p, KeepP w w own own σ (mkAS n sl bl al) p := fun p => ⟨fun e sz n' f hp => hnode p e sz n' f hp, fun d _ hd => by rw [← hbx d hd]; exact hd, fun _ b hb' => ⟨hb', fun c e hc => ⟨c, hc, rfl⟩⟩⟩
  refine ⟨own, h.trans ⟨rfl, rfl, rfl, Nat.le_refl _⟩ (fun _ _ _ => rfl) (fun b hb => ⟨hb, rfl⟩) (fun k => ?_) h.inj (fun b p hp => ⟨(h.rng b p hp).1, .inl (by rw [hp]; simp)⟩) hn.symm (fun t ht => ?_) (fun d hd => ?_) (fun d k e sz n' f hd => ?_) (Kept.of fun b k hb => ⟨hb, rfl⟩)⟩
  · rcases isAR_look ha FF k with h1 | h1
    · have h2 := h.noff k
      rw [h2] at h1
      show lookA al FF k = .dead
      generalize lookA al FF k = x at h1
      cases h1; rfl
    · exact h1
  · rcases isS_look hs t with h1 | h1
    · show OkS w own _ _ (lookS sl t)
      rw [h1]
      exact ht.keepAll hk
    · show OkS w own _ _ (lookS sl t)
      rw [h1]
      trivial
  · rw [hbx d hd]
    obtain ⟨b, c, e, h1, h2, h3, h4⟩ := h.boxes d (by rw [← hbx d hd]; exact hd)
    exact ⟨b, c, e, h1, h2, h3, fun j x hx => (h4 j x hx).keepAll hk⟩
  · rcases isAR_look ha d k with h1 | h1
    · have hd' : lookA al d k = .sl e sz n' f := hd
      rw [hd'] at h1
      obtain ⟨g, hg, hfg⟩ := h1.of_sl
      obtain ⟨v, hv⟩ := h.arrs d k e sz n' g hg
      exact ⟨v, Eqv.ok (.rows hfg) hv⟩
    · have : lookA al d k = .sl e sz n' f := hd
      rw [h1] at this; cases this

/-! ### calls, once more: what is asked of the arguments, as a look by program -/
def noRefB : List C → Bool
  | [] => true
  | .ref _ :: _ => false
  | _ :: l => noRefB l
theorem noRefB_spec : ∀ {l : List C}, noRefB l = true → noRefL l
  | [], _ => by intro c hc; cases hc
  | c :: l, h => by
    intro x hx p
    rcases List.mem_cons.1 hx with rfl | hx
    · rintro rfl; cases h
    · refine noRefB_spec (l := l) ?_ x hx p
      cases c <;> first | exact h | cases h
def noRefsB (σ : AS) : List Operand → Bool
  | [] => true
  | x :: xs => match noRefB (σ.ev x).v.cells with | true => noRefsB σ xs | false => false
theorem noRefsB_spec {σ : AS} : ∀ {xs : List Operand}, noRefsB σ xs = true → ∀ x ∈ xs, noRefL (σ.ev x).v.cells
  | [], _ => by intro x hx; cases hx
  | y :: xs, h => by
    simp only [noRefsB] at h
    cases hy : noRefB (σ.ev y).v.cells with
    | false => rw [hy] at h; cases h
    | true =>
      rw [hy] at h
      intro x hx
      rcases List.mem_cons.1 hx with rfl | hx
      · exact noRefB_spec hy
      · exact noRefsB_spec h x hx
/-! ### handing back -/
theorem RetIs.ref {t : Nat} {p : Place} {e' sz n : Nat} {f : Nat → List T} {y : T} {e : Exit} {σ : AS} (he : e = .normal ∨ e = .ret) (hs : σ.s t = ⟨true, .one (.ref p)⟩) (hp : σ.node p = .sl e' sz n f) (h : T.sl e' sz n f = y) : RetIs [t] (.one y) e σ :=
  ⟨he, [.one (.sl e' sz n f)], [(p, 0)], by have := RetVs.cons (i := 0) hs (.one (.ref p _ hp)) (.nil _); simpa using this, rfl, by rw [h]⟩
theorem RetIs.agg {t : Nat} {cs : List C} {ts ts' : List T} {l : List (Place × Nat)} {e : Exit} {σ : AS} (he : e = .normal ∨ e = .ret) (hs : σ.s t = ⟨true, .agg cs⟩) (hp : RetL σ cs ts l 0) (hd : disjL l = true) (h : ts = ts') : RetIs [t] (.agg ts') e σ :=
  ⟨he, [.agg ts], l, by simpa using RetVs.cons hs (.agg hp) (.nil _), hd, by rw [h]⟩

end Go.Mh
