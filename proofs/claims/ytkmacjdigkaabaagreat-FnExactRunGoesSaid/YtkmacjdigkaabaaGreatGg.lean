/- Contracts of functions of the program, each met by its body; conditions stand in each statement. No condition. -/
import Derived.Test.YtkmacjdigkaabaaGreatGf
set_option linter.unusedVariables false
set_option linter.unusedSimpArgs false
set_option linter.unnecessarySimpa false
namespace Go.Mh
open Go

/-! ### references to what is dead need not be forgotten -/
theorem OkC.unclr {w own σ σ' v} {g : Place → Bool} (hn : ∀ p, σ'.node p = σ.node p) (hb : ∀ d, σ'.box d = [] → σ.box d = []) (hg : ∀ p, g p = true → ¬ aliveP σ p) (hg0 : ∀ d, g ⟨.box d, []⟩ = false) : ∀ {c : C}, OkC w own σ' v (c.clr g) → OkC w own σ v c
  | .v _, k => k
  | .own _, k => k
  | .ref p, k => by
    intro e sz n f hp
    simp only [C.clr] at k
    cases h : g p with
    | true => exact absurd (.inl ⟨e, sz, n, f, hp⟩) (hg p h)
    | false => rw [h] at k; exact k e sz n f ((hn p).trans hp)
  | .eptr p i j, k => by
    intro e sz n f hp
    simp only [C.clr] at k
    cases h : g p with
    | true => exact absurd (.inl ⟨e, sz, n, f, hp⟩) (hg p h)
    | false => rw [h] at k; exact k e sz n f ((hn p).trans hp)
  | .bptr d j, k => by
    simp only [C.clr, hg0] at k
    intro h
    exact k (fun e => h (hb d e))
  | .ifc ty p, k => by
    intro e sz N f hp
    simp only [C.clr] at k
    cases h : g p with
    | true => exact absurd (.inl ⟨e, sz, N, f, hp⟩) (hg p h)
    | false => rw [h] at k; exact k e sz N f ((hn p).trans hp)
  | .sub p lo n full, k => by
    intro e sz N f hp
    simp only [C.clr] at k
    cases h : g p with
    | true => exact absurd (.inl ⟨e, sz, N, f, hp⟩) (hg p h)
    | false => rw [h] at k; exact k e sz N f ((hn p).trans hp)
  | .fptr .., k => k
  | .fn f ds, k => by
    have : ds.any (fun d => g ⟨.box d, []⟩) = false := by rw [List.any_eq_false]; intro x _; simp [hg0]
    simp only [C.clr, this] at k
    obtain ⟨vs, h1, h2, h3⟩ := k
    exact ⟨vs, h1, h2, fun j d hd h => h3 j d hd (fun e => h (hb d e))⟩
  | .nil, k => k
  | .any, _ => trivial
theorem OkCell.unclr {w own σ σ' d j v} {g : Place → Bool} (hn : ∀ p, σ'.node p = σ.node p) (hb : ∀ d, σ'.box d = [] → σ.box d = []) (hg : ∀ p, g p = true → ¬ aliveP σ p) (hg0 : ∀ d, g ⟨.box d, []⟩ = false) {c : C} (k : OkCell w own σ' d j v (c.clr g)) : OkCell w own σ d j v c := by
  cases c with
  | own t => exact k
  | ref p =>
    refine OkC.unclr (w := w) (c := .ref p) hn hb hg hg0 ?_
    cases h : g p with
    | true => simp only [C.clr, h]; trivial
    | false => simp only [C.clr, h] at k ⊢; exact k
  | eptr p i j =>
    refine OkC.unclr (w := w) (c := .eptr p i j) hn hb hg hg0 ?_
    cases h : g p with
    | true => simp only [C.clr, h]; trivial
    | false => simp only [C.clr, h] at k ⊢; exact k
  | ifc ty p =>
    refine OkC.unclr (w := w) (c := .ifc ty p) hn hb hg hg0 ?_
    cases h : g p with
    | true => simp only [C.clr, h]; trivial
    | false => simp only [C.clr, h] at k ⊢; exact k
  | sub p lo n full =>
    refine OkC.unclr (w := w) (c := .sub p lo n full) hn hb hg hg0 ?_
    cases h : g p with
    | true => simp only [C.clr, h]; trivial
    | false => simp only [C.clr, h] at k ⊢; exact k
  | bptr b j => exact OkC.unclr (w := w) (c := .bptr b j) hn hb hg hg0 (by simp only [C.clr, hg0] at k ⊢; exact k)
  | fn f ds => exact OkC.unclr (w := w) (c := .fn f ds) hn hb hg hg0 (by
      have : ds.any (fun d => g ⟨.box d, []⟩) = false := by rw [List.any_eq_false]; intro x _; simp [hg0]
      simp only [C.clr, this] at k ⊢; exact k)
  | v t => exact OkC.unclr (w := w) (c := .v t) hn hb hg hg0 k
  | fptr e sz n f i j => exact OkC.unclr (w := w) (c := .fptr e sz n f i j) hn hb hg hg0 k
  | nil => exact OkC.unclr (w := w) (own := own) (c := .nil) hn hb hg hg0 k
  | any => trivial
theorem OkFlat.unclr {w own σ σ' v} {g : Place → Bool} (hn : ∀ p, σ'.node p = σ.node p) (hb : ∀ d, σ'.box d = [] → σ.box d = []) (hg : ∀ p, g p = true → ¬ aliveP σ p) (hg0 : ∀ d, g ⟨.box d, []⟩ = false) {u : V} (k : OkFlat w own σ' v (u.clr1 g)) : OkFlat w own σ v u := by
  cases u with
  | one c => exact OkC.unclr hn hb hg hg0 k
  | agg cs =>
    obtain ⟨xs, h1, h2, h3⟩ := k
    exact ⟨xs, h1, by simpa using h2, fun j c hc => OkC.unclr hn hb hg hg0 (h3 j _ (by simp [hc]))⟩
  | tup _ => exact k
  | any => trivial
theorem OkV.unclr {w own σ σ' v} {g : Place → Bool} (hn : ∀ p, σ'.node p = σ.node p) (hb : ∀ d, σ'.box d = [] → σ.box d = []) (hg : ∀ p, g p = true → ¬ aliveP σ p) (hg0 : ∀ d, g ⟨.box d, []⟩ = false) {u : V} (k : OkV w own σ' v (u.clr g)) : OkV w own σ v u := by
  cases u with
  | one c => exact OkFlat.unclr (u := .one c) hn hb hg hg0 k
  | agg cs => exact OkFlat.unclr (u := .agg cs) hn hb hg hg0 k
  | tup vs =>
    obtain ⟨xs, h1, h2, h3⟩ := k
    exact ⟨xs, h1, by simpa using h2, fun j c hc => OkFlat.unclr hn hb hg hg0 (h3 j _ (by simp [hc]))⟩
  | any => trivial
theorem Inv.unclr {w0 own0 σ σ' a w own} (h : Inv w0 own0 σ' a w own) (g : Place → Bool) (e0 : σ'.n = σ.n) (e1 : σ'.arr = σ.arr) (e2 : ∀ t, σ'.s t = (σ.s t).clr g) (e3 : ∀ t, σ'.box t = (σ.box t).map (C.clr g)) (hg : ∀ p, g p = true → ¬ aliveP σ p) (hg0 : ∀ d, g ⟨.box d, []⟩ = false) : Inv w0 own0 σ a w own := by
  have hn : ∀ p, σ'.node p = σ.node p := fun p => by
    have : σ'.node p = (σ.mapC g).node p := by
      obtain ⟨r, ps⟩ := p
      cases r with
      | arr d k => simp only [AS.node, e1, AS.mapC]
      | box d => cases ps with
        | nil => rfl
        | cons x ps => obtain ⟨i, j⟩ := x; cases i <;> simp only [AS.node, e3, AS.mapC]
    rw [this, mapC_node]
  have hb : ∀ d, σ'.box d = [] → σ.box d = [] := fun d hd => by rw [e3, List.map_eq_nil_iff] at hd; exact hd
  refine { h with noff := fun k => by rw [← e1]; exact h.noff k, nf := by rw [← e0]; exact h.nf, tsz := by rw [← e0]; exact h.tsz, slots := fun t => ?_, boxes := fun d hd => ?_, arrs := fun d k e sz n f hf => h.arrs d k e sz n f (by rw [e1]; exact hf) }
  · have := h.slots t
    rw [e2] at this
    unfold OkS at this ⊢
    by_cases hc : (σ.s t).c = true
    · rw [if_pos hc]
      rw [if_pos (show (SV.clr g (σ.s t)).c = true from hc)] at this
      exact OkV.unclr hn hb hg hg0 this
    · rw [if_neg hc]
      rw [if_neg (show ¬ (SV.clr g (σ.s t)).c = true from hc)] at this
      exact this
  · obtain ⟨b, c, e, h1, h2, h3, h4⟩ := h.boxes d (fun e => hd (hb d e))
    rw [e3] at h3 h4
    exact ⟨b, c, e, h1, h2, by simpa using h3, fun j x hx => OkCell.unclr hn hb hg hg0 (h4 j _ (by simp [hx]))⟩

/-! ### a cell of a new row, finely -/
def NoRef (d : Nat) (σ : AS) : Prop := (∀ t, (σ.s t).v.free d = true) ∧ ∀ t, (σ.box t).all (C.free d) = true
theorem Free.noRef {d : Nat} {σ : AS} (h : Free d σ) : NoRef d σ := ⟨fun t => h (.s t), fun t => (h (.b t)).1⟩
/-! ### a new slice of one row, whose cells may own memory -/
/-! the cells of the row, told by a list -/
def keepC : C → Bool
  | .v t => t.solid
  | .nil => true
  | _ => false
def CellT (d : Nat) (σ : AS) : C → T → Prop
  | .ref ⟨.arr d' k', []⟩, t => σ.arr d' k' = t ∧ isSl t = true ∧ Nat.beq d' d = false ∧ Nat.beq d' RR = false
  | c, t => toT c = t ∧ keepC c = true
def CellsT (d : Nat) (σ : AS) : List C → List T → Prop
  | [], [] => True
  | c :: cs, t :: ts => CellT d σ c t ∧ CellsT d σ cs ts
  | _, _ => False
def rootOf : C → List (Nat × Nat)
  | .ref ⟨.arr d' k', []⟩ => [(d', k')]
  | _ => []
def rootsOf : List C → List (Nat × Nat)
  | [] => []
  | c :: cs => rootOf c ++ rootsOf cs
def goneR (L : List (Nat × Nat)) (d k : Nat) : Bool := L.any (fun x => Nat.beq d x.1 && Nat.beq k x.2)
def apart : List (Nat × Nat) → Bool
  | [] => true
  | x :: L => !goneR L x.1 x.2 && apart L
theorem CellsT.of {d : Nat} {σ τ : AS} : ∀ {cs : List C} {ts : List T}, (∀ x ∈ rootsOf cs, τ.arr x.1 x.2 = σ.arr x.1 x.2) → CellsT d σ cs ts → CellsT d τ cs ts
  | [], [], _, _ => trivial
  | [], _ :: _, _, h => h.elim
  | _ :: _, [], _, h => h.elim
  | c :: cs, t :: ts, hr, ⟨h1, h2⟩ => by
    refine ⟨?_, CellsT.of (fun x hx => hr x (by simp [rootsOf, hx])) h2⟩
    unfold CellT at h1 ⊢
    split
    · rename_i d' k'
      simp only at h1
      exact ⟨(hr (d', k') (by simp [rootsOf, rootOf])).trans h1.1, h1.2⟩
    · rename_i hc
      split at h1
      · exact absurd rfl (hc _ _)
      · exact h1
/-! ### a nil slice in a box is an owned array without rows -/
/-! ### a state told by lists, in which a root is free -/
def freeMk (d : Nat) (sl : List (Nat × SV)) (bl : List (Nat × List C)) (al : List (Nat × Nat × T)) : Bool :=
  sl.all (fun x => x.2.v.free d) && (bl.all (fun x => x.2.all (C.free d) && (!Nat.beq x.1 d || x.2.isEmpty)) && al.all (fun x => !Nat.beq x.1 d))
theorem lookS_free {d : Nat} : ∀ {sl : List (Nat × SV)}, (∀ x ∈ sl, x.2.v.free d = true) → ∀ t, (lookS sl t).v.free d = true
  | [], _, _ => rfl
  | (k, v) :: l, h, t => by
    simp only [lookS]
    split
    · exact h (k, v) (by simp)
    · exact lookS_free (fun x hx => h x (by simp [hx])) t
theorem lookB_free {d : Nat} : ∀ {bl : List (Nat × List C)}, (∀ x ∈ bl, x.2.all (C.free d) = true ∧ (Nat.beq x.1 d = false ∨ x.2 = [])) → ∀ t, (lookB bl t).all (C.free d) = true ∧ (t = d → lookB bl t = [])
  | [], _, _ => ⟨rfl, fun _ => rfl⟩
  | (k, v) :: l, h, t => by
    simp only [lookB]
    split
    · rename_i e
      have e1 := Nat.eq_of_beq_eq_true e
      subst e1
      obtain ⟨h1, h2⟩ := h (t, v) (by simp)
      exact ⟨h1, fun e => by subst e; rcases h2 with h2 | h2; · simp at h2
                             · exact h2⟩
    · exact lookB_free (fun x hx => h x (by simp [hx])) t
theorem lookA_free {d : Nat} : ∀ {al : List (Nat × Nat × T)}, (∀ x ∈ al, Nat.beq x.1 d = false) → ∀ t k, t = d → lookA al t k = .dead
  | [], _, _, _, _ => rfl
  | (k, i, v) :: l, h, t, j, e => by
    simp only [lookA]
    split
    · rename_i e1 _
      have e2 := Nat.eq_of_beq_eq_true e1
      have := h (k, i, v) (by simp)
      simp only at this
      rw [← e2, e] at this
      simp at this
    · exact lookA_free (fun x hx => h x (by simp [hx])) t j e
theorem Free.mk' {d n : Nat} {sl : List (Nat × SV)} {bl : List (Nat × List C)} {al : List (Nat × Nat × T)} (h : freeMk d sl bl al = true) : Free d (mkAS n sl bl al) := by
  simp only [freeMk, Bool.and_eq_true, List.all_eq_true, Bool.or_eq_true, Bool.not_eq_true', List.isEmpty_iff] at h
  obtain ⟨h1, h2, h3⟩ := h
  intro l
  cases l with
  | s t => exact lookS_free h1 t
  | b t => exact lookB_free (fun x hx => ⟨List.all_eq_true.2 (h2 x hx).1, (h2 x hx).2⟩) t
  | a t k => exact lookA_free h3 t k
theorem AWp.drawM {P : Program} {Q : Exit → AS → Prop} {l : List Oper} {n : Nat} {sl : List (Nat × SV)} {bl : List (Nat × List C)} {al : List (Nat × Nat × T)} {σ : AS} {id : Nat} (rs : List DRow) (hm : P.follows .mixedOrders = true) (hok : drawOk l (rs.map DRow.d) = true) (hav : avAll rs rs (masks l []) 0 = true)
    (hl : Le σ (mkAS n sl bl al)) (h0 : rs.all (fun r => match r.fr with | none => true | some x => freeMk x sl bl al) = true) (h : FRun P l.toArray l rs (mkAS n sl bl al) (Q .normal)) : AWp P (.region id l.toArray true) Q σ :=
  AWp.le hl (AWp.drawF rs hm hok hav (fun r hr x hx => by
    have := List.all_eq_true.1 h0 r hr
    rw [hx] at this
    exact Free.mk' this) h)
end Go.Mh
