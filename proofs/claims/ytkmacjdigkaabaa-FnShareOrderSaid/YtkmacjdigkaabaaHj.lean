/- Contracts of functions of the program, each met by its body; conditions stand in each statement. No condition. -/
import Derived.Test.YtkmacjdigkaabaaHh
import Derived.Sort.Grow
set_option linter.unusedVariables false
set_option linter.unusedSimpArgs false
set_option linter.unnecessarySimpa false
namespace Go.Mh
open Go

/-! ### parts of owned arrays -/
section
variable {P : Program} {o : Oper} {σ : AS} {d : Nat} (hd : o.dst = some d) (hn : d < σ.n)
include hd hn
end

/-! ### a row is cut out -/
/-! ### nil slices told in other words -/
inductive ReC : C → C → Prop where
  | refl (c : C) : ReC c c
  | nl : ReC (.v .nl) .nil
  | nlsl (e sz : Nat) (f : Nat → List T) : ReC (.v .nl) (.v (.sl e sz 0 f))
  | sl (e sz : Nat) (f : Nat → List T) : ReC .nil (.v (.sl e sz 0 f))
theorem ReC.ok {w own σ v c c'} (h : ReC c c') (k : OkC w own σ v c) : OkC w own σ v c' := by
  cases h with
  | refl => exact k
  | nl => have k' : Ok w own none v .nl := k; cases k'; exact rfl
  | nlsl e sz f => have k' : Ok w own none v .nl := k; cases k'; exact .nil e sz f
  | sl e sz f => have k' : v = .slice none 0 0 := k; rw [k']; exact .nil e sz f
theorem ReC.cell {w own σ d j v c c'} (h : ReC c c') (k : OkCell w own σ d j v c) : OkCell w own σ d j v c' := by
  cases h with
  | refl => exact k
  | nl => exact OkCell.of_C (ReC.ok (c := .v .nl) .nl k)
  | nlsl e sz f => exact OkCell.of_C (ReC.ok (c := .v .nl) (.nlsl e sz f) k)
  | sl e sz f => exact OkCell.of_C (ReC.ok (c := .nil) (.sl e sz f) k)
theorem ReC.tree {c c'} (h : ReC c c') : cellTree (some c) = cellTree (some c') := by cases h <;> rfl
inductive ReL : List C → List C → Prop where
  | nil : ReL [] []
  | cons {c c' : C} {l l' : List C} (h : ReC c c') (hs : ReL l l') : ReL (c :: l) (c' :: l')
theorem ReL.get {l l' : List C} (h : ReL l l') : l.length = l'.length ∧ ∀ (j : Nat) c', l'[j]? = some c' → ∃ c, l[j]? = some c ∧ ReC c c' := by
  induction h with
  | nil => exact ⟨rfl, fun j t' h => by simp at h⟩
  | cons h hs ih =>
    refine ⟨by simp [ih.1], fun j t' hj => ?_⟩
    cases j with
    | zero => simp only [List.getElem?_cons_zero, Option.some.injEq] at hj; subst hj; exact ⟨_, by simp, h⟩
    | succ j => obtain ⟨t, h1, h2⟩ := ih.2 j t' (by simpa using hj); exact ⟨t, by simpa using h1, h2⟩
theorem ReL.tree {l l' : List C} (h : ReL l l') (i : Nat) : cellTree (l[i]?) = cellTree (l'[i]?) := by
  induction h generalizing i with
  | nil => rfl
  | cons h hs ih =>
    cases i with
    | zero => exact h.tree
    | succ i => simpa using ih i
theorem Le.reAgg {σ : AS} (t : Nat) {cs cs' : List C} (hs : σ.s t = ⟨true, .agg cs⟩) (h : ReL cs cs') : Le σ (σ.setS t ⟨true, .agg cs'⟩) := by
  intro w0 own0 a w own hI
  refine ⟨own, hI.retell ?_⟩
  obtain ⟨xs, h1, h2, h3⟩ := hI.evV (x := .tmp t) hs
  exact ⟨xs, h1, h2.trans h.get.1, fun j c' hc => by
    obtain ⟨c, k1, k2⟩ := h.get.2 j c' hc
    exact k2.ok (h3 j c k1)⟩
theorem Le.reBox {σ : AS} (d : Nat) {cs cs' : List C} (hs : σ.box d = cs) (h : ReL cs cs') : Le σ (σ.setBox d cs') := by
  intro w0 own0 a w own hI
  subst hs
  refine ⟨own, hI.sameN rfl rfl rfl (fun p => ?_) (fun t => ?_) (fun t ht => ?_)⟩
  · obtain ⟨r, ps⟩ := p
    cases r with
    | arr t k => rfl
    | box t =>
      cases ps with
      | nil => rfl
      | cons x ps =>
        obtain ⟨i, l⟩ := x
        cases i with
        | succ i => rfl
        | zero =>
          simp only [AS.node, setBox_box]
          split
          · rename_i e; subst e; rw [h.tree]
          · rfl
  · rw [setBox_box]
    split
    · rename_i e; subst e
      have hl := h.get.1
      constructor
      · intro e; rw [e] at hl; exact List.eq_nil_of_length_eq_zero hl.symm
      · intro e; rw [e] at hl; exact List.eq_nil_of_length_eq_zero hl
    · exact Iff.rfl
  · rw [setBox_box] at ht ⊢
    split
    · rename_i e; subst e
      rw [if_pos rfl] at ht
      have hne : σ.box t ≠ [] := fun e0 => ht (by
        have hl := h.get.1
        rw [e0] at hl; exact List.eq_nil_of_length_eq_zero hl.symm)
      obtain ⟨b, c, e1, g1, g2, g3, g4⟩ := hI.boxes t hne
      refine ⟨b, c, e1, g1, g2, g3.trans h.get.1, fun j x hx => ?_⟩
      obtain ⟨c0, k1, k2⟩ := h.get.2 j x hx
      exact k2.cell (g4 j c0 k1)
    · rename_i e
      rw [if_neg e] at ht
      exact hI.boxes t ht

/-! ### roads that meet -/
theorem AWp.join {P : Program} {Q : Exit → AS → Prop} {σ : AS} {x y : Code} {α : Type} (mk : α → AS) (Pre : α → Prop) (J : ∀ z, Pre z → AWp P y Q (mk z)) (h : AWp P x (AThen (fun σ' => ∃ z, Pre z ∧ Le σ' (mk z)) Q) σ) : AWp P (.seq x y) Q σ := by
  refine AWp.seq (AWp.mono h fun e σ' hq => ?_)
  cases e with
  | normal => obtain ⟨z, h1, h2⟩ := hq; exact AWp.le h2 (J z h1)
  | _ => exact hq
theorem E.join {Φ : (Exit → AS → Prop) → Prop} {P : Program} {σ : AS} {K : (Exit → AS → Prop) → Exit → AS → Prop} {x y : Code} {α : Type} (mk : α → AS) (Pre : α → Prop) (J : ∀ z, Pre z → E Φ (fun Q => AWp P y (K Q) (mk z)))
    (h : (∀ z σ', Pre z → Le σ' (mk z) → E Φ (fun Q => AWp P y (K Q) σ')) → E Φ (fun Q => AWp P x (AThen (AWp P y (K Q)) (K Q)) σ)) : E Φ (fun Q => AWp P (.seq x y) (K Q) σ) :=
  E.mono (fun Q h => AWp.seq h) (h fun z σ' hz hl => E.mono (fun Q h => AWp.le hl h) (J z hz))

end Go.Mh

set_option linter.unusedVariables false
namespace Go.Mh
open Go

/-! ### permutations of places -/
/-! ### nil slices in rows told as slices that nobody writes -/
inductive TelC : T → T → Prop where
  | refl (t : T) : TelC t t
  | nlz (e sz : Nat) (f : Nat → List T) : TelC .nl (.fz (.sl e sz 0 f))
inductive Tel : T → T → Prop where
  | refl (t : T) : Tel t t
  | rows {e sz n : Nat} {f g : Nat → List T} (hl : ∀ i, i < n → (g i).length = (f i).length) (h : ∀ i j, i < n → TelC ((f i).getD j .dead) ((g i).getD j .dead)) : Tel (.sl e sz n f) (.sl e sz n g)
theorem TelC.ok {w own pl v t t'} (h : TelC t t') (k : Ok w own pl v t) : Ok w own pl v t' := by
  cases h with
  | refl => exact k
  | nlz e sz f => cases k; exact .fz (.nil e sz f)
theorem TelC.follow {t t' : T} (h : TelC t t') (ps : List (Nat × Nat)) {e sz n g} (hf : follow t' ps = .sl e sz n g) : ∃ f, follow t ps = .sl e sz n f := by
  cases h with
  | refl => exact ⟨g, hf⟩
  | nlz e sz f => cases ps <;> simp [Mh.follow] at hf
theorem Tel.of_sl {t : T} {e sz n : Nat} {g : Nat → List T} (h : Tel t (.sl e sz n g)) : ∃ f, t = .sl e sz n f ∧ (∀ i, i < n → (g i).length = (f i).length) ∧ ∀ i j, i < n → TelC ((f i).getD j .dead) ((g i).getD j .dead) := by
  cases h with
  | refl => exact ⟨g, rfl, fun _ _ => rfl, fun _ _ _ => .refl _⟩
  | rows hl h => exact ⟨_, rfl, hl, h⟩
theorem Tel.follow {t t' : T} (h : Tel t t') (ps : List (Nat × Nat)) {e sz n g} (hf : follow t' ps = .sl e sz n g) : ∃ f, follow t ps = .sl e sz n f := by
  cases h with
  | refl => exact ⟨g, hf⟩
  | @rows e' sz' n' f1 g1 hl h =>
    cases ps with
    | nil => simp only [Mh.follow, T.sl.injEq] at hf ⊢; obtain ⟨rfl, rfl, rfl, _⟩ := hf; exact ⟨f1, rfl, rfl, rfl, rfl⟩
    | cons x ps =>
      obtain ⟨i, j⟩ := x
      simp only [Mh.follow] at hf ⊢
      split at hf
      · rename_i hi
        rw [if_pos hi]
        exact (h i j hi).follow ps hf
      · cases hf
theorem Tel.ok {w own p v t t'} (h : Tel t t') (k : Ok w own (some p) v t) : Ok w own (some p) v t' := by
  cases h with
  | refl => exact k
  | rows hl h =>
    cases k with
    | nil => exact .nil _ _ _
    | osl ho hh hs hn hcap hl' hr => exact .osl ho hh hs hn hcap (fun i hi => (hl i hi).trans (hl' i hi)) (fun i j hi hj => (h i j hi).ok (hr i j hi hj))
theorem Le.tel {σ σ' : AS} (hn : σ.n = σ'.n) (hs : σ'.s = σ.s) (hb : σ'.box = σ.box) (ha : ∀ d k, Tel (σ.arr d k) (σ'.arr d k)) : Le σ σ' := by
  intro w0 own0 a w own h
  have hnode : ∀ p e sz n' f, σ'.node p = .sl e sz n' f → ∃ g, σ.node p = .sl e sz n' g := by
    intro p e sz n' f hp
    obtain ⟨r, ps⟩ := p
    cases r with
    | arr d k => exact (ha d k).follow ps hp
    | box d =>
      cases ps with
      | nil => simp [AS.node] at hp
      | cons x ps =>
        obtain ⟨i, j⟩ := x
        cases i with
        | succ i => simp [AS.node] at hp
        | zero => simp only [AS.node, hb] at hp ⊢; exact ⟨f, hp⟩
  have hk : ∀ p, KeepP w w own own σ σ' p := fun p => ⟨fun e sz n' f hp => hnode p e sz n' f hp, fun d _ hd => by rw [← hb]; exact hd, fun _ b hb' => ⟨hb', fun c e hc => ⟨c, hc, rfl⟩⟩⟩
  refine ⟨own, h.trans ⟨rfl, rfl, rfl, Nat.le_refl _⟩ (fun _ _ _ => rfl) (fun b hb => ⟨hb, rfl⟩) (fun k => ?_) h.inj (fun b p hp => ⟨(h.rng b p hp).1, .inl (by rw [hp]; simp)⟩) hn.symm (fun t ht => ?_) (fun d hd => ?_) (fun d k e sz n' f hd => ?_) (Kept.of fun b k hb => ⟨hb, rfl⟩)⟩
  · have h1 := ha FF k
    have h2 := h.noff k
    rw [h2] at h1
    generalize σ'.arr FF k = x at h1
    cases h1; rfl
  · rw [hs]; exact ht.keepAll hk
  · rw [hb] at hd ⊢
    obtain ⟨b, c, e, h1, h2, h3, h4⟩ := h.boxes d hd
    exact ⟨b, c, e, h1, h2, h3, fun j x hx => (h4 j x hx).keepAll hk⟩
  · have h1 := ha d k
    rw [hd] at h1
    obtain ⟨g, hg, hl, hfg⟩ := h1.of_sl
    obtain ⟨v, hv⟩ := h.arrs d k e sz n' g hg
    exact ⟨v, Tel.ok (.rows hl hfg) hv⟩
theorem Le.telArr {σ : AS} (d k : Nat) {t' : T} (h : Tel (σ.arr d k) t') : Le σ (σ.setArr d k t') :=
  Le.tel rfl rfl rfl fun a b => by
    rw [setArr_arr]
    split
    · rename_i e; rw [e.1, e.2]; exact h
    · exact .refl _

inductive TelS : T → T → Prop where
  | refl (t : T) : TelS t t
  | nlz (e sz : Nat) (f : Nat → List T) : TelS .nl (.fz (.sl e sz 0 f))
  | nls (e sz : Nat) (f : Nat → List T) : TelS .nl (.sl e sz 0 f)
theorem TelS.ok {w own pl v t t'} (h : TelS t t') (k : Ok w own pl v t) : Ok w own pl v t' := by
  cases h with
  | refl => exact k
  | nlz e sz f => cases k; exact .fz (.nil e sz f)
  | nls e sz f => cases k; exact .nil e sz f
end Go.Mh
