/- A cell of a box is dropped, told anew, or takes over an array. No condition. -/
import Derived.Test.YtkmacjdigkaabaaFd
set_option linter.unusedVariables false
set_option linter.unusedSimpArgs false
set_option linter.unnecessarySimpa false
namespace Go.Mh
open Go

/-! ### under a place -/
def Root.beq : Root → Root → Bool
  | .box d, .box d' => Nat.beq d d'
  | .arr d k, .arr d' k' => Nat.beq d d' && Nat.beq k k'
  | _, _ => false
theorem Root.beq_eq {r r' : Root} (h : r.beq r' = true) : r = r' := by
  cases r <;> cases r' <;> simp_all [Root.beq]
theorem Root.beq_refl (r : Root) : r.beq r = true := by cases r <;> simp [Root.beq]

def isPre : List (Nat × Nat) → List (Nat × Nat) → Bool
  | [], _ => true
  | (i, j) :: q, (i', j') :: p => Nat.beq i i' && (Nat.beq j j' && isPre q p)
  | _ :: _, [] => false
def mayPre : List (Nat × Nat) → List (Nat × Nat) → Bool
  | [], _ => true
  | (_, j) :: q, (_, j') :: p => Nat.beq j j' && mayPre q p
  | _ :: _, [] => false
theorem isPre_may : ∀ {q p : List (Nat × Nat)}, isPre q p = true → mayPre q p = true
  | [], _, _ => rfl
  | (i, j) :: q, (i', j') :: p, h => by
    simp only [isPre, Bool.and_eq_true] at h
    simp only [mayPre, Bool.and_eq_true]
    exact ⟨h.2.1, isPre_may h.2.2⟩
  | _ :: _, [], h => by cases h
theorem isPre_append : ∀ (q s : List (Nat × Nat)), isPre q (q ++ s) = true
  | [], _ => rfl
  | (i, j) :: q, s => by simp [isPre, isPre_append q s]
theorem isPre_split : ∀ {q p : List (Nat × Nat)}, isPre q p = true → ∃ s, p = q ++ s
  | [], p, _ => ⟨p, rfl⟩
  | (i, j) :: q, (i', j') :: p, h => by
    simp only [isPre, Bool.and_eq_true] at h
    obtain ⟨s, hs⟩ := isPre_split h.2.2
    exact ⟨s, by rw [Nat.eq_of_beq_eq_true h.1, Nat.eq_of_beq_eq_true h.2.1, hs]; rfl⟩
  | _ :: _, [], h => by cases h

def under (q p : Place) : Bool := q.r.beq p.r && isPre q.p p.p
def mayUnder (q p : Place) : Bool := q.r.beq p.r && mayPre q.p p.p
theorem under_may {q p : Place} (h : under q p = true) : mayUnder q p = true := by
  simp only [under, mayUnder, Bool.and_eq_true] at *
  exact ⟨h.1, isPre_may h.2⟩
theorem not_under {q p : Place} (h : mayUnder q p = false) : under q p = false := by
  cases h' : under q p with
  | false => rfl
  | true => rw [under_may h'] at h; cases h
theorem under_self (q : Place) (s : List (Nat × Nat)) : under q ⟨q.r, q.p ++ s⟩ = true := by simp [under, Root.beq_refl, isPre_append]

def dropOwn (own : Own) (q : Place) : Own := fun b => match own b with
  | some p => match under q p with | true => none | false => some p
  | none => none
theorem dropOwn_some {own : Own} {q p : Place} {b : Nat} (h : dropOwn own q b = some p) : own b = some p ∧ under q p = false := by
  unfold dropOwn at h
  cases hb : own b with
  | none => simp [hb] at h
  | some x =>
    simp only [hb] at h
    cases hu : under q x with
    | true => simp [hu] at h
    | false => simp only [hu, Option.some.injEq] at h; subst h; exact ⟨rfl, hu⟩
theorem dropOwn_keep {own : Own} {q p : Place} {b : Nat} (h : own b = some p) (hu : under q p = false) : dropOwn own q b = some p := by
  simp [dropOwn, h, hu]
theorem dropOwn_froz (w : World) (own : Own) (q : Place) : Froz w w own (dropOwn own q) := ⟨fun b hb _ => ⟨by simp [dropOwn, hb], rfl⟩⟩

def AS.mapC (σ : AS) (g : Place → Bool) : AS := { σ with s := fun t => (σ.s t).clr g, box := fun t => (σ.box t).map (C.clr g) }

theorem mapC_node (σ : AS) (g : Place → Bool) (p : Place) : (σ.mapC g).node p = σ.node p := by
  obtain ⟨r, ps⟩ := p
  cases r with
  | arr t k => rfl
  | box t =>
    cases ps with
    | nil => rfl
    | cons x ps => obtain ⟨i, j⟩ := x; cases i <;> simp only [AS.node, AS.mapC, List.getElem?_map, cellTree_clr]

theorem setBox_box (σ : AS) (d : Nat) (x : List C) (t : Nat) : (σ.setBox d x).box t = if t = d then x else σ.box t := by
  simp only [AS.setBox]
  by_cases h : t = d
  · subst h; simp
  · simp [beq_false h, h]

theorem setBox_node (σ : AS) (d : Nat) (x : List C) (p : Place) (h : p.r ≠ .box d) : (σ.setBox d x).node p = σ.node p := by
  obtain ⟨r, ps⟩ := p
  cases r with
  | arr t k => rfl
  | box t =>
    have ht : t ≠ d := fun e => h (by rw [e])
    cases ps with
    | nil => rfl
    | cons y ps => obtain ⟨i, j⟩ := y; cases i <;> simp only [AS.node, AS.setBox, beq_false ht]

/-- a world that differs from another one in nothing that counts -/
structure SameW (w w' : World) : Prop where
  os : w'.os = w.os
  tape : w'.tape = w.tape
  output : w'.output = w.output
  size : w.heap.size ≤ w'.heap.size

/-- from one state to another, slots and boxes having been looked through -/
theorem Inv.trans {w0 own0 σ a w own} (h : Inv w0 own0 σ a w own) {w' : World} {own' : Own} {σ' : AS} (hw : SameW w w')
    (hsh : ∀ b, own b = none → b < w.heap.size → w'.heap[b]? = w.heap[b]?)
    (hfo : ∀ b, own b = some (FP b) → own' b = some (FP b) ∧ w'.heap[b]? = w.heap[b]?) (hff : ∀ k, σ'.arr FF k = .dead)
    (inj : ∀ b b' p, own' b = some p → own' b' = some p → b = b')
    (rng : ∀ b p, own' b = some p → b < w'.heap.size ∧ (own b ≠ none ∨ w.heap.size ≤ b))
    (hn : σ'.n = σ.n)
    (slots : ∀ t, OkS w own σ (a.tmps.getD t undef) (σ.s t) → OkS w' own' σ' (a.tmps.getD t undef) (σ'.s t))
    (boxes : ∀ d, σ'.box d ≠ [] → OkBox w' own' σ' d (σ'.box d))
    (arrs : ∀ d k e sz n f, σ'.arr d k = .sl e sz n f → ∃ v, Ok w' own' (some ⟨.arr d k, []⟩) v (.sl e sz n f))
    (hkp : Kept w w' own own') : Inv w0 own0 σ' a w' own' where
  inj := inj
  rng := fun b p hb => by
    obtain ⟨h1, h2⟩ := rng b p hb
    refine ⟨h1, ?_⟩
    rcases h2 with h2 | h2
    · cases ho : own b with
      | none => exact absurd ho h2
      | some q => exact (h.rng b q ho).2
    · exact .inl (Nat.le_trans h.size h2)
  os := hw.os.trans h.os
  tape := hw.tape.trans h.tape
  output := hw.output.trans h.output
  size := Nat.le_trans h.size hw.size
  frm := fun b hb h0 => by
    have ho : own b = none := by
      cases ho : own b with
      | none => rfl
      | some q => rcases (h.rng b q ho).2 with h1 | h1 <;> first | omega | exact absurd h0 h1
    rw [hsh b ho (Nat.lt_of_lt_of_le hb h.size)]
    exact h.frm b hb h0
  fore := fun b hb => ⟨(hfo b (h.fore b hb).1).1, (hfo b (h.fore b hb).1).2.trans (h.fore b hb).2⟩
  noff := hff
  nf := hn ▸ h.nf
  tsz := h.tsz.trans hn.symm
  dfr := h.dfr
  keep := Kept.trans h.keep hkp
  slots := fun t => slots t (h.slots t)
  boxes := boxes
  arrs := arrs

/-! ### dropping what lies in a box's cell -/
def AS.dropB (σ : AS) (d j : Nat) : AS :=
  (σ.mapC (mayUnder ⟨.box d, [(0, j)]⟩)).setBox d (((σ.box d).map (C.clr (mayUnder ⟨.box d, [(0, j)]⟩))).set j .any)

theorem dropB_node (σ : AS) (d j : Nat) (p : Place) (hp : mayUnder ⟨.box d, [(0, j)]⟩ p = false) : (σ.dropB d j).node p = σ.node p := by
  unfold AS.dropB
  by_cases hr : p.r = .box d
  · obtain ⟨r, ps⟩ := p
    simp only at hr
    subst hr
    cases ps with
    | nil => rfl
    | cons x ps =>
      obtain ⟨i, j'⟩ := x
      cases i with
      | succ i => rfl
      | zero =>
        have hj : j ≠ j' := fun e => by subst e; simp [mayUnder, mayPre, Root.beq] at hp
        simp only [AS.node, AS.setBox, beq_self, List.getElem?_set, if_neg hj, List.getElem?_map, cellTree_clr]
  · rw [setBox_node _ _ _ _ hr, mapC_node]

theorem Inv.dropB {w0 own0 σ a w own} (h : Inv w0 own0 σ a w own) (d j : Nat) : Inv w0 own0 (σ.dropB d j) a w (dropOwn own ⟨.box d, [(0, j)]⟩) := by
  let q : Place := ⟨.box d, [(0, j)]⟩
  have hf := dropOwn_froz w own q
  have hk : ∀ p, mayUnder q p = false → KeepP w w own (dropOwn own q) σ (σ.dropB d j) p := by
    intro p hp
    refine ⟨fun e sz n f hn => ⟨f, by rw [← dropB_node σ d j p hp]; exact hn⟩, fun t ht hb => ?_, fun _ b hb => ⟨dropOwn_keep hb (not_under hp), fun c e hc => ⟨c, hc, rfl⟩⟩⟩
    intro h0
    apply hb
    simp only [AS.dropB, setBox_box]
    split
    · rename_i e; rw [e] at h0; simp [h0]
    · simp [AS.mapC, h0]
  have hmv : ∀ p : Place, (∀ s, under q ⟨p.r, p.p ++ s⟩ = false) → Moved w w own (dropOwn own q) p p := fun p hp b s hb => ⟨dropOwn_keep hb (hp s), rfl⟩
  refine h.trans ⟨rfl, rfl, rfl, Nat.le_refl _⟩ (fun _ _ _ => rfl) (fun b hb => ⟨dropOwn_keep hb (by simp [under, FP, Root.beq]), rfl⟩) h.noff (fun b b' p hb hb' => h.inj b b' p (dropOwn_some hb).1 (dropOwn_some hb').1)
    (fun b p hb => ⟨(h.rng b p (dropOwn_some hb).1).1, .inl (by rw [(dropOwn_some hb).1]; simp)⟩) rfl (fun t ht => ht.clr hf _ hk) ?_ ?_ (Kept.of fun b k hb => ⟨dropOwn_keep hb (by simp [under, Root.beq]), rfl⟩)
  · intro t ht
    have hne : σ.box t ≠ [] := by
      intro h0
      apply ht
      simp only [AS.dropB, setBox_box]
      split
      · rename_i e; rw [← e]; simp [h0]
      · simp [AS.mapC, h0]
    obtain ⟨b, c, e', h1, h2, h3, h4⟩ := h.boxes t hne
    have hb0 : under q ⟨.box t, []⟩ = false := by simp [under, q, isPre]
    by_cases htd : t = d
    · subst htd
      have e : (σ.dropB t j).box t = ((σ.box t).map (C.clr (mayUnder q))).set j .any := by simp [AS.dropB, setBox_box, q]
      rw [e]
      refine ⟨b, c, e', dropOwn_keep h1 hb0, h2, by simpa using h3, fun i x hx => ?_⟩
      rw [List.getElem?_set] at hx
      split at hx
      · rename_i hij
        subst hij
        split at hx
        · cases hx; trivial
        · cases hx
      · rename_i hij
        simp only [List.getElem?_map, Option.map_eq_some_iff] at hx
        obtain ⟨x0, hx0, rfl⟩ := hx
        refine (h4 i x0 hx0).clr hf _ hk (hmv _ fun s => ?_)
        simp [under, q, isPre, beq_false hij]
    · have e : (σ.dropB d j).box t = (σ.box t).map (C.clr (mayUnder q)) := by simp [AS.dropB, setBox_box, htd, AS.mapC, q]
      rw [e]
      refine ⟨b, c, e', dropOwn_keep h1 hb0, h2, by simpa using h3, fun i x hx => ?_⟩
      simp only [List.getElem?_map, Option.map_eq_some_iff] at hx
      obtain ⟨x0, hx0, rfl⟩ := hx
      refine (h4 i x0 hx0).clr hf _ hk (hmv _ fun s => ?_)
      have : Nat.beq d t = false := beq_false (fun e => htd e.symm)
      simp [under, q, Root.beq, this]
  · intro t k e sz n f ht
    obtain ⟨v, hv⟩ := h.arrs t k e sz n f ht
    exact ⟨v, hv.moved hf (hmv _ fun s => by simp [under, q, Root.beq])⟩

/-! ### a value written into a cell of which nothing is said -/
theorem heap_setCell (w : World) (b o : Nat) (v : Value) (k : Nat) : (w.setCell ⟨b, o, none⟩ v).heap[k]? =
    if k = b then (w.heap[b]?).map (fun x => match x with | .cells c e fr => .cells (c.setIfInBounds o v) e fr | y => y) else w.heap[k]? := by
  simp only [World.setCell, Array.getElem?_modify]
  by_cases h : b = k
  · subst h; cases hb : w.heap[b]? with
    | none => simp
    | some x => cases x <;> simp
  · rw [if_neg h, if_neg (fun e => h e.symm)]

theorem Inv.rawB {w0 own0 σ a w own} (h : Inv w0 own0 σ a w own) {d j b : Nat} (v : Value) (hb : own b = some ⟨.box d, []⟩) (hd : σ.box d ≠ []) (hj : ∀ x, (σ.box d)[j]? = some x → x = .any) :
    Inv w0 own0 σ a (w.setCell ⟨b, j, none⟩ v) own := by
  obtain ⟨b0, c0, e0, g1, g2, g3, g4⟩ := h.boxes d hd
  have := h.inj _ _ _ hb g1
  subst this
  have hheap : ∀ k, k ≠ b → (w.setCell ⟨b, j, none⟩ v).heap[k]? = w.heap[k]? := fun k hk => by rw [heap_setCell, if_neg hk]
  have hself : (w.setCell ⟨b, j, none⟩ v).heap[b]? = some (.cells (c0.setIfInBounds j v) e0 (0, 0)) := by rw [heap_setCell, if_pos rfl, g2]; rfl
  have hf : Froz w (w.setCell ⟨b, j, none⟩ v) own own := ⟨fun x hx _ => ⟨hx, hheap x (fun e => by subst e; rw [hb] at hx; cases hx)⟩⟩
  have hk : ∀ p, KeepP w (w.setCell ⟨b, j, none⟩ v) own own σ σ p := fun p => ⟨fun e sz n f hn => ⟨f, hn⟩, fun _ _ hx => hx, fun _ x hx => ⟨hx, fun c e hc => by
    by_cases hxb : x = b
    · subst hxb; rw [g2] at hc; cases hc; exact ⟨_, hself, by simp⟩
    · exact ⟨c, by rw [hheap x hxb]; exact hc, rfl⟩⟩⟩
  have hmv : ∀ p : Place, (p.r ≠ .box d ∨ p.p ≠ []) → Moved w (w.setCell ⟨b, j, none⟩ v) own own p p := fun p hp x s hx => ⟨hx, hheap x (fun e => by
    subst e
    rw [hb] at hx
    simp only [Option.some.injEq, Place.mk.injEq] at hx
    rcases hp with hp | hp
    · exact hp hx.1.symm
    · exact hp (by have := hx.2; simp at this; exact this.1))⟩
  have hC : ∀ {v' c}, OkC w own σ v' c → OkC (w.setCell ⟨b, j, none⟩ v) own σ v' c := fun hc => OkC.change hf (fun p _ => hk p) hc
  have hcell : ∀ {t i v' c}, OkCell w own σ t i v' c → OkCell (w.setCell ⟨b, j, none⟩ v) own σ t i v' c := by
    intro t i v' c hc
    cases c with
    | own tt => exact Ok.moved hc hf (hmv _ (.inr (by simp)))
    | v tt => exact OkCell.of_C (hC (c := .v tt) hc)
    | ref p => exact OkCell.of_C (hC (c := .ref p) hc)
    | bptr x y => exact OkCell.of_C (hC (c := .bptr x y) hc)
    | eptr p x y => exact OkCell.of_C (hC (c := .eptr p x y) hc)
    | sub p lo n full => exact OkCell.of_C (hC (c := .sub p lo n full) hc)
    | ifc ty p => exact OkCell.of_C (hC (c := .ifc ty p) hc)
    | fptr e sz n f x y => exact OkCell.of_C (hC (c := .fptr e sz n f x y) hc)
    | fn f ds => exact OkCell.of_C (hC (c := .fn f ds) hc)
    | nil => exact hc
    | any => trivial
  have hV : ∀ {v' u}, OkFlat w own σ v' u → OkFlat (w.setCell ⟨b, j, none⟩ v) own σ v' u := by
    intro v' u hu
    cases u with
    | one c => exact hC (c := c) hu
    | agg cs => obtain ⟨xs, k1, k2, k3⟩ := hu; exact ⟨xs, k1, k2, fun i c hc => hC (k3 i c hc)⟩
    | tup vs => exact hu
    | any => trivial
  refine h.trans ⟨rfl, rfl, rfl, by simp [World.setCell]⟩ (fun x hx hlt => (hf.h x hx hlt).2) (fun x hx => ⟨hx, hheap x (fun e => by subst e; rw [hb] at hx; simp [FP] at hx)⟩) h.noff h.inj (fun x p hx => ⟨by have := (h.rng x p hx).1; simpa [World.setCell] using this, .inl (by rw [hx]; simp)⟩) rfl ?_ ?_ ?_ (Kept.of fun x k hx => ⟨hx, hheap x (fun e => by subst e; rw [hb] at hx; simp at hx)⟩)
  · intro t ht
    unfold OkS at *
    split
    · rename_i hc
      rw [if_pos hc] at ht
      cases hu : (σ.s t).v with
      | tup vs => rw [hu] at ht; obtain ⟨xs, k1, k2, k3⟩ := ht; exact ⟨xs, k1, k2, fun i c hc => hV (k3 i c hc)⟩
      | one c => rw [hu] at ht; exact hV (u := .one c) ht
      | agg c => rw [hu] at ht; exact hV (u := .agg c) ht
      | any => trivial
    · rename_i hc; rw [if_neg hc] at ht; exact ht
  · intro t ht
    obtain ⟨b', c, e', h1, h2, h3, h4⟩ := h.boxes t ht
    by_cases htd : t = d
    · subst htd
      have := h.inj _ _ _ hb h1
      subst this
      rw [g2] at h2
      cases h2
      refine ⟨b, _, e0, hb, hself, by simpa using h3, fun i x hx => ?_⟩
      by_cases hij : j = i
      · subst hij; rw [hj x hx]; trivial
      · have e1 : (c0.setIfInBounds j v).getD i undef = c0.getD i undef := by
          simp only [Array.getD_eq_getD_getElem?, Array.getElem?_setIfInBounds, if_neg hij]
        rw [e1]
        exact hcell (h4 i x hx)
    · have hne : b' ≠ b := fun e => by
        subst e
        rw [hb] at h1
        simp only [Option.some.injEq, Place.mk.injEq, Root.box.injEq, and_true] at h1
        exact htd h1.symm
      exact ⟨b', c, e', h1, by rw [hheap b' hne]; exact h2, h3, fun i x hx => hcell (h4 i x hx)⟩
  · intro t k e sz n f ht
    obtain ⟨v', hv⟩ := h.arrs t k e sz n f ht
    exact ⟨v', hv.moved hf (hmv _ (.inl (by simp)))⟩

/-! ### what was written is told -/
theorem SameNode.keep {w : World} {own : Own} {σ σ' : AS} (hn : ∀ p, σ'.node p = σ.node p) (hb : ∀ d, σ'.box d ≠ [] → σ.box d ≠ []) (p : Place) : KeepP w w own own σ σ' p :=
  ⟨fun e sz n f h => ⟨f, by rw [← hn]; exact h⟩, fun d _ h => hb d h, fun _ b h => ⟨h, fun c e hc => ⟨c, hc, rfl⟩⟩⟩

theorem OkC.keepAll {w own σ σ' v c} (hk : ∀ p, KeepP w w own own σ σ' p) (h : OkC w own σ v c) : OkC w own σ' v c := OkC.change ⟨fun _ hb _ => ⟨hb, rfl⟩⟩ (fun p _ => hk p) h
theorem OkFlat.keepAll {w own σ σ' v u} (hk : ∀ p, KeepP w w own own σ σ' p) (h : OkFlat w own σ v u) : OkFlat w own σ' v u := by
  cases u with
  | one c => exact OkC.keepAll hk (c := c) h
  | agg cs => obtain ⟨xs, k1, k2, k3⟩ := h; exact ⟨xs, k1, k2, fun i c hc => OkC.keepAll hk (k3 i c hc)⟩
  | tup vs => exact h
  | any => trivial
theorem OkS.keepAll {w own σ σ' v x} (hk : ∀ p, KeepP w w own own σ σ' p) (h : OkS w own σ v x) : OkS w own σ' v x := by
  unfold OkS at *
  split
  · rename_i hc
    rw [if_pos hc] at h
    cases hu : x.v with
    | tup vs => rw [hu] at h; obtain ⟨xs, k1, k2, k3⟩ := h; exact ⟨xs, k1, k2, fun i c hc => OkFlat.keepAll hk (k3 i c hc)⟩
    | one c => rw [hu] at h; exact OkFlat.keepAll hk (u := .one c) h
    | agg c => rw [hu] at h; exact OkFlat.keepAll hk (u := .agg c) h
    | any => trivial
  · rename_i hc; rw [if_neg hc] at h; exact h
theorem OkCell.keepAll {w own σ σ' d j v c} (hk : ∀ p, KeepP w w own own σ σ' p) (h : OkCell w own σ d j v c) : OkCell w own σ' d j v c := by
  cases c with
  | own t => exact h
  | v t => exact h
  | ref p => exact OkCell.of_C (OkC.keepAll hk (c := .ref p) h)
  | bptr x y => exact OkCell.of_C (OkC.keepAll hk (c := .bptr x y) h)
  | eptr p x y => exact OkCell.of_C (OkC.keepAll hk (c := .eptr p x y) h)
  | ifc ty p => exact OkCell.of_C (OkC.keepAll hk (c := .ifc ty p) h)
  | sub p lo n full => exact OkCell.of_C (OkC.keepAll hk (c := .sub p lo n full) h)
  | fptr e sz n f x y => exact h
  | fn f ds => exact OkCell.of_C (OkC.keepAll hk (c := .fn f ds) h)
  | nil => exact h
  | any => trivial

/-- a plain value is told of a cell -/
theorem Inv.adoptB {w0 own0 σ a w own} (h : Inv w0 own0 σ a w own) {d j b : Nat} {c : C} {cc : Array Value} {e : Nat} (hb : own b = some ⟨.box d, []⟩) (hh : w.heap[b]? = some (.cells cc e (0, 0)))
    (hj : (σ.box d)[j]? = some .any) (hc : OkC w own σ (cc.getD j undef) c) : Inv w0 own0 (σ.setBox d ((σ.box d).set j c)) a w own := by
  have hno : ∀ t, c ≠ .own t := fun t e => by subst e; exact hc
  have hn : ∀ p, (σ.setBox d ((σ.box d).set j c)).node p = σ.node p := by
    intro p
    by_cases hr : p.r = .box d
    · obtain ⟨r, ps⟩ := p
      simp only at hr
      subst hr
      cases ps with
      | nil => rfl
      | cons x ps =>
        obtain ⟨i, j'⟩ := x
        cases i with
        | succ i => rfl
        | zero =>
          simp only [AS.node, setBox_box, if_pos]
          congr 1
          rw [List.getElem?_set]
          split
          · rename_i e; subst e
            rw [hj]
            split
            · cases c <;> first | rfl | exact absurd rfl (hno _)
            · rfl
          · rfl
    · exact setBox_node _ _ _ _ hr
  have hbx : ∀ t, (σ.setBox d ((σ.box d).set j c)).box t ≠ [] → σ.box t ≠ [] := by
    intro t ht h0
    apply ht
    rw [setBox_box]
    split
    · rename_i e; rw [← e, h0]; rfl
    · exact h0
  have hk : ∀ p, KeepP w w own own σ (σ.setBox d ((σ.box d).set j c)) p := SameNode.keep hn hbx
  refine h.trans ⟨rfl, rfl, rfl, Nat.le_refl _⟩ (fun _ _ _ => rfl) (fun x hx => ⟨hx, rfl⟩) h.noff h.inj (fun x p hx => ⟨(h.rng x p hx).1, .inl (by rw [hx]; simp)⟩) rfl (fun t ht => ht.keepAll hk) ?_ (fun t k e sz n f ht => h.arrs t k e sz n f ht) (Kept.of fun x k hx => ⟨hx, rfl⟩)
  intro t ht
  obtain ⟨b', c', e', h1, h2, h3, h4⟩ := h.boxes t (hbx t ht)
  rw [setBox_box]
  split
  · rename_i e; subst e
    have := h.inj _ _ _ hb h1
    subst this
    rw [hh] at h2
    cases h2
    refine ⟨b, cc, e, hb, hh, by simpa using h3, fun i x hx => ?_⟩
    rw [List.getElem?_set] at hx
    split at hx
    · rename_i hij
      subst hij
      split at hx
      · cases hx; exact OkCell.of_C (OkC.keepAll hk hc)
      · cases hx
    · exact (h4 i x hx).keepAll hk
  · exact ⟨b', c', e', h1, h2, h3, fun i x hx => (h4 i x hx).keepAll hk⟩

/-! ### a root's tree moves to another place -/
def reOwn (own : Own) (src : Root) (q : Place) : Own := fun b => match own b with
  | some p => match p.r.beq src with
    | true => some ⟨q.r, q.p ++ p.p⟩
    | false => match under q p with | true => none | false => some p
  | none => none

theorem beq_root_false {r r' : Root} (h : r ≠ r') : r.beq r' = false := by
  cases h' : r.beq r' with
  | true => exact absurd (Root.beq_eq h') h
  | false => rfl

theorem reOwn_src {own : Own} {src : Root} {q : Place} {b : Nat} {s : List (Nat × Nat)} (h : own b = some ⟨src, s⟩) : reOwn own src q b = some ⟨q.r, q.p ++ s⟩ := by
  simp [reOwn, h, Root.beq_refl]
theorem reOwn_keep {own : Own} {src : Root} {q p : Place} {b : Nat} (h : own b = some p) (hr : p.r ≠ src) (hu : under q p = false) : reOwn own src q b = some p := by
  simp [reOwn, h, beq_root_false hr, hu]
theorem reOwn_some {own : Own} {src : Root} {q p : Place} {b : Nat} (h : reOwn own src q b = some p) :
    (∃ s, own b = some ⟨src, s⟩ ∧ p = ⟨q.r, q.p ++ s⟩) ∨ (own b = some p ∧ p.r ≠ src ∧ under q p = false) := by
  unfold reOwn at h
  cases hb : own b with
  | none => simp [hb] at h
  | some x =>
    simp only [hb] at h
    cases hx : x.r.beq src with
    | true =>
      simp only [hx, Option.some.injEq] at h
      left
      exact ⟨x.p, by rw [← Root.beq_eq hx], h.symm⟩
    | false =>
      simp only [hx] at h
      cases hu : under q x with
      | true => simp [hu] at h
      | false =>
        simp only [hu, Option.some.injEq] at h
        subst h
        exact .inr ⟨rfl, (fun e => by rw [e, Root.beq_refl] at hx; cases hx), hu⟩
theorem reOwn_froz (w : World) (own : Own) (src : Root) (q : Place) : Froz w w own (reOwn own src q) := ⟨fun b hb _ => ⟨by simp [reOwn, hb], rfl⟩⟩
theorem reOwn_inj {own : Own} (hi : ∀ b b' p, own b = some p → own b' = some p → b = b') (src : Root) (q : Place) : ∀ b b' p, reOwn own src q b = some p → reOwn own src q b' = some p → b = b' := by
  intro b b' p hb hb'
  rcases reOwn_some hb with ⟨s, h1, rfl⟩ | ⟨h1, h2, h3⟩ <;> rcases reOwn_some hb' with ⟨s', h1', he⟩ | ⟨h1', h2', h3'⟩
  · simp only [Place.mk.injEq, true_and, List.append_cancel_left_eq] at he
    subst he
    exact hi _ _ _ h1 h1'
  · rw [under_self] at h3'; cases h3'
  · subst he; rw [under_self] at h3; cases h3
  · exact hi _ _ _ h1 h1'

theorem setArr_arr (σ : AS) (d k : Nat) (x : T) (t l : Nat) : (σ.setArr d k x).arr t l = if t = d ∧ l = k then x else σ.arr t l := by
  simp only [AS.setArr]
  by_cases h : t = d
  · subst h
    by_cases h2 : l = k
    · subst h2; simp
    · simp [beq_false h2, h2]
  · simp [beq_false h, h]
theorem setArr_node (σ : AS) (d k : Nat) (x : T) (p : Place) (h : p.r ≠ .arr d k) : (σ.setArr d k x).node p = σ.node p := by
  obtain ⟨r, ps⟩ := p
  cases r with
  | arr t l =>
    simp only [AS.node, setArr_arr]
    rw [if_neg]
    rintro ⟨rfl, rfl⟩
    exact h rfl
  | box t =>
    cases ps with
    | nil => rfl
    | cons y ps => obtain ⟨i, j⟩ := y; cases i <;> rfl

def badMove (d' k' : Nat) (q : Place) (p : Place) : Bool := p.r.beq (.arr d' k') || mayUnder q p
theorem badMove_false {d' k' : Nat} {q p : Place} (h : badMove d' k' q p = false) : p.r ≠ .arr d' k' ∧ mayUnder q p = false := by
  simp only [badMove, Bool.or_eq_false_iff] at h
  exact ⟨fun e => by rw [e, Root.beq_refl] at h; exact absurd h.1 (by simp), h.2⟩

/-- the tree of a root of its own moves into a box's cell -/
def AS.moveB (σ : AS) (d j d' k' : Nat) : AS :=
  ((σ.mapC (badMove d' k' ⟨.box d, [(0, j)]⟩)).setArr d' k' .dead).setBox d (((σ.box d).map (C.clr (badMove d' k' ⟨.box d, [(0, j)]⟩))).set j (.own (σ.arr d' k')))

theorem Inv.moveB {w0 own0 σ a w own} (h : Inv w0 own0 σ a w own) {d j b d' k' : Nat} {cc : Array Value} {e e1 sz n : Nat} {f : Nat → List T} (hb : own b = some ⟨.box d, []⟩) (hh : w.heap[b]? = some (.cells cc e (0, 0)))
    (hj : (σ.box d)[j]? = some .any) (hc : OkC w own σ (cc.getD j undef) (.ref ⟨.arr d' k', []⟩)) (ht : σ.arr d' k' = .sl e1 sz n f) (hdr : d' ≠ RR) :
    Inv w0 own0 (σ.moveB d j d' k') a w (reOwn own (.arr d' k') ⟨.box d, [(0, j)]⟩) := by
  let q : Place := ⟨.box d, [(0, j)]⟩
  let src : Root := .arr d' k'
  have hf := reOwn_froz w own src q
  have hsub : Ok w own (some ⟨.arr d' k', []⟩) (cc.getD j undef) (.sl e1 sz n f) := h.ref hc (by simp only [AS.node, follow, ht])
  have hnode : ∀ p, badMove d' k' q p = false → (σ.moveB d j d' k').node p = σ.node p := by
    intro p hp
    obtain ⟨h1, h2⟩ := badMove_false hp
    unfold AS.moveB
    by_cases hr : p.r = .box d
    · obtain ⟨r, ps⟩ := p
      simp only at hr
      subst hr
      cases ps with
      | nil => rfl
      | cons x ps =>
        obtain ⟨i, j'⟩ := x
        cases i with
        | succ i => rfl
        | zero =>
          have hj : j ≠ j' := fun e => by subst e; simp [mayUnder, mayPre, Root.beq, q] at h2
          simp only [AS.node, setBox_box, if_pos, List.getElem?_set, if_neg hj, List.getElem?_map, cellTree_clr]
    · rw [setBox_node _ _ _ _ hr, setArr_node _ _ _ _ _ h1, mapC_node]
  have hbx : ∀ t, (σ.moveB d j d' k').box t ≠ [] → σ.box t ≠ [] := by
    intro t ht h0
    apply ht
    simp only [AS.moveB, setBox_box]
    split
    · rename_i e; rw [← e, h0]; rfl
    · simp [AS.setArr, AS.mapC, h0]
  have hk : ∀ p, badMove d' k' q p = false → KeepP w w own (reOwn own src q) σ (σ.moveB d j d' k') p := by
    intro p hp
    exact ⟨fun e sz n f hn => ⟨f, by rw [← hnode p hp]; exact hn⟩, fun t _ hb => hbx t hb, fun _ b hb => ⟨reOwn_keep hb (badMove_false hp).1 (not_under (badMove_false hp).2), fun c e hc => ⟨c, hc, rfl⟩⟩⟩
  have hmv : ∀ p : Place, p.r ≠ src → (∀ s, under q ⟨p.r, p.p ++ s⟩ = false) → Moved w w own (reOwn own src q) p p := fun p hp hu b s hb => ⟨reOwn_keep hb hp (hu s), rfl⟩
  have hms : Moved w w own (reOwn own src q) ⟨.arr d' k', []⟩ q := fun b s hb => ⟨reOwn_src (by simpa using hb), rfl⟩
  have hdf : FF ≠ d' := fun e => by rw [← e, h.noff] at ht; cases ht
  refine h.trans ⟨rfl, rfl, rfl, Nat.le_refl _⟩ (fun _ _ _ => rfl) (fun x hx => ⟨reOwn_keep hx (by simp [FP, hdf]) (by simp [under, FP, Root.beq]), rfl⟩)
    (fun k => by show ((σ.mapC _).setArr d' k' .dead).arr FF k = .dead; rw [setArr_arr, if_neg (fun e => hdf e.1)]; exact h.noff k) (reOwn_inj h.inj _ _)
    (fun x p hx => ?_) rfl (fun t ht => ht.clr hf _ hk) ?_ ?_ (Kept.of fun x k hx => ⟨reOwn_keep hx (by simp [src]; intro e; exact absurd e.symm hdr) (by simp [under, q, Root.beq]), rfl⟩)
  · rcases reOwn_some hx with ⟨s, h1, _⟩ | ⟨h1, _, _⟩
    · exact ⟨(h.rng x _ h1).1, .inl (by rw [h1]; simp)⟩
    · exact ⟨(h.rng x _ h1).1, .inl (by rw [h1]; simp)⟩
  · intro t htb
    obtain ⟨b', c', e', h1, h2, h3, h4⟩ := h.boxes t (hbx t htb)
    have hb0 : reOwn own src q b' = some ⟨.box t, []⟩ := reOwn_keep h1 (by simp [src]) (by simp [under, q, isPre])
    by_cases htd : t = d
    · subst htd
      have := h.inj _ _ _ hb h1
      subst this
      rw [hh] at h2
      cases h2
      have e0 : (σ.moveB t j d' k').box t = ((σ.box t).map (C.clr (badMove d' k' q))).set j (.own (σ.arr d' k')) := by simp [AS.moveB, setBox_box, q]
      rw [e0]
      refine ⟨b, cc, e, hb0, hh, by simpa using h3, fun i x hx => ?_⟩
      rw [List.getElem?_set] at hx
      split at hx
      · rename_i hij
        subst hij
        split at hx
        · cases hx
          rw [ht]
          exact hsub.moved hf hms
        · cases hx
      · rename_i hij
        simp only [List.getElem?_map, Option.map_eq_some_iff] at hx
        obtain ⟨x0, hx0, rfl⟩ := hx
        refine (h4 i x0 hx0).clr hf _ hk (hmv _ (by simp [src]) fun s => ?_)
        simp [under, q, isPre, beq_false hij]
    · have e0 : (σ.moveB d j d' k').box t = (σ.box t).map (C.clr (badMove d' k' q)) := by simp [AS.moveB, setBox_box, htd, AS.mapC, AS.setArr, q]
      rw [e0]
      refine ⟨b', c', e', hb0, h2, by simpa using h3, fun i x hx => ?_⟩
      simp only [List.getElem?_map, Option.map_eq_some_iff] at hx
      obtain ⟨x0, hx0, rfl⟩ := hx
      refine (h4 i x0 hx0).clr hf _ hk (hmv _ (by simp [src]) fun s => ?_)
      have : Nat.beq d t = false := beq_false (fun e => htd e.symm)
      simp [under, q, Root.beq, this]
  · intro t k e sz n f hta
    have e0 : (σ.moveB d j d' k').arr t k = if t = d' ∧ k = k' then .dead else σ.arr t k := by
      show ((σ.mapC _).setArr d' k' .dead).arr t k = _
      rw [setArr_arr]; rfl
    rw [e0] at hta
    split at hta
    · cases hta
    · rename_i hne
      obtain ⟨v, hv⟩ := h.arrs t k e sz n f hta
      refine ⟨v, hv.moved hf (hmv _ (fun e => ?_) fun s => by simp [under, q, Root.beq])⟩
      simp only [src, Root.arr.injEq] at e
      exact hne e

end Go.Mh
