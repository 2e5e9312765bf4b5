/- What is told of a state is kept by changes elsewhere. No condition. -/
import Derived.Test.YtkmacjdigkaabaaFa
set_option linter.unusedVariables false
set_option linter.unusedSimpArgs false
set_option linter.unnecessarySimpa false
namespace Go.Mh
open Go

/-! ### what is kept of the places that a slot speaks of -/
def C.places : C → List Place
  | .ref p => [p]
  | .eptr p _ _ => [p]
  | .sub p _ _ _ => [p]
  | .ifc _ p => [p]
  | .bptr d _ => [⟨.box d, []⟩]
  | .fn _ ds => ds.map fun d => ⟨.box d, []⟩
  | _ => []

def aliveP (σ : AS) (p : Place) : Prop := (∃ e sz n f, σ.node p = .sl e sz n f) ∨ (∃ d, p = ⟨.box d, []⟩ ∧ σ.box d ≠ [])
structure KeepP (w w' : World) (own own' : Own) (σ σ' : AS) (p : Place) : Prop where
  nd : ∀ e sz n f, σ'.node p = .sl e sz n f → ∃ g, σ.node p = .sl e sz n g
  bx : ∀ d, p = ⟨.box d, []⟩ → σ'.box d ≠ [] → σ.box d ≠ []
  ow : aliveP σ' p → ∀ b, own b = some p → own' b = some p ∧ ∀ c e, w.heap[b]? = some (.cells c e (0, 0)) → ∃ c' : Array Value, w'.heap[b]? = some (.cells c' e (0, 0)) ∧ c'.size = c.size

theorem OkPtr.change {w w' own own' σ σ' d j v} (h : OkPtr own σ d j v) (hk : KeepP w w' own own' σ σ' ⟨.box d, []⟩) : OkPtr own' σ' d j v := by
  intro hb
  obtain ⟨b, hv, ho⟩ := h (hk.bx d rfl hb)
  exact ⟨b, hv, (hk.ow (.inr ⟨d, rfl, hb⟩) b ho).1⟩

theorem OkC.change {w w' own own' σ σ' v} (hf : Froz w w' own own') : ∀ {c}, (∀ p ∈ c.places, KeepP w w' own own' σ σ' p) → OkC w own σ v c → OkC w' own' σ' v c
  | .v _, _, k => Ok.frozen k hf
  | .own _, _, k => k
  | .ref p, hk, k => by
    intro e sz n f hn
    have hp := hk p (by simp [C.places])
    obtain ⟨g, hg⟩ := hp.nd e sz n f hn
    rcases k e sz n g hg with h | ⟨b, cap, c, h1, h2, h3, h4, h5, h6⟩
    · exact .inl h
    · obtain ⟨h2', h3'⟩ := hp.ow (.inl ⟨e, sz, n, f, hn⟩) b h2
      obtain ⟨c', hc', hs'⟩ := h3' c e h3
      exact .inr ⟨b, cap, c', h1, h2', hc', hs' ▸ h4, h5, h6⟩
  | .bptr d j, hk, k => OkPtr.change k (hk _ (by simp [C.places]))
  | .eptr p i j, hk, k => by
    intro e sz n f hn
    have hp := hk p (by simp [C.places])
    obtain ⟨g, hg⟩ := hp.nd e sz n f hn
    obtain ⟨b, h1, h2⟩ := k e sz n g hg
    exact ⟨b, h1, (hp.ow (.inl ⟨e, sz, n, f, hn⟩) b h2).1⟩
  | .ifc ty p, hk, k => by
    intro e sz n f hn
    have hp := hk p (by simp [C.places])
    obtain ⟨g, hg⟩ := hp.nd e sz n f hn
    obtain ⟨u, hu, k⟩ := k e sz n g hg
    refine ⟨u, hu, ?_⟩
    rcases k with h | ⟨b, cap, c, h1, h2, h3, h4, h5, h6⟩
    · exact .inl h
    · obtain ⟨h2', h3'⟩ := hp.ow (.inl ⟨e, sz, n, f, hn⟩) b h2
      obtain ⟨c', hc', hs'⟩ := h3' c e h3
      exact .inr ⟨b, cap, c', h1, h2', hc', hs' ▸ h4, h5, h6⟩
  | .sub p lo n full, hk, k => by
    intro e sz N f hn
    have hp := hk p (by simp [C.places])
    obtain ⟨g, hg⟩ := hp.nd e sz N f hn
    obtain ⟨b, off, cap, c, h1, h2, h3, h4, h5, h6⟩ := k e sz N g hg
    obtain ⟨h2', h3'⟩ := hp.ow (.inl ⟨e, sz, N, f, hn⟩) b h2
    obtain ⟨c', hc', hs'⟩ := h3' c e h3
    exact ⟨b, off, cap, c', h1, h2', hc', h4, hs' ▸ h5, h6⟩
  | .fptr e sz n f i j, _, ⟨b, off, cap, h1, h2, h3⟩ => ⟨b, off, cap, h1.frozen hf, h2, h3⟩
  | .fn f ds, hk, ⟨vs, h1, h2, h3⟩ => ⟨vs, h1, h2, fun j d hd => OkPtr.change (h3 j d hd) (hk _ (by simp only [C.places, List.mem_map]; exact ⟨d, List.mem_of_getElem? hd, rfl⟩))⟩
  | .nil, _, k => k
  | .any, _, _ => trivial

/-! ### what is forgotten of slots -/
def C.clr (bad : Place → Bool) : C → C
  | .ref p => match bad p with | true => .any | false => .ref p
  | .eptr p i j => match bad p with | true => .any | false => .eptr p i j
  | .sub p lo n full => match bad p with | true => .any | false => .sub p lo n full
  | .ifc ty p => match bad p with | true => .any | false => .ifc ty p
  | .bptr d j => match bad ⟨.box d, []⟩ with | true => .any | false => .bptr d j
  | .fn f ds => match ds.any (fun d => bad ⟨.box d, []⟩) with | true => .any | false => .fn f ds
  | c => c

def V.clr1 (bad : Place → Bool) : V → V
  | .one c => .one (c.clr bad)
  | .agg cs => .agg (cs.map (C.clr bad))
  | v => v
def V.clr (bad : Place → Bool) : V → V
  | .tup vs => .tup (vs.map (V.clr1 bad))
  | v => v.clr1 bad
def SV.clr (bad : Place → Bool) (x : SV) : SV := ⟨x.c, x.v.clr bad⟩

theorem C.clr_places {bad : Place → Bool} {c : C} {p : Place} (h : p ∈ (c.clr bad).places) : p ∈ c.places ∧ bad p = false := by
  cases c with
  | v t => cases h
  | own t => cases h
  | ref q =>
    simp only [C.clr] at h
    cases hb : bad q <;> simp only [hb] at h
    · simp only [C.places, List.mem_singleton] at h ⊢; subst h; exact ⟨rfl, hb⟩
    · cases h
  | eptr q i j =>
    simp only [C.clr] at h
    cases hb : bad q <;> simp only [hb] at h
    · simp only [C.places, List.mem_singleton] at h ⊢; subst h; exact ⟨rfl, hb⟩
    · cases h
  | bptr d j =>
    simp only [C.clr] at h
    cases hb : bad ⟨.box d, []⟩ <;> simp only [hb] at h
    · simp only [C.places, List.mem_singleton] at h ⊢; subst h; exact ⟨rfl, hb⟩
    · cases h
  | ifc ty q =>
    simp only [C.clr] at h
    cases hb : bad q <;> simp only [hb] at h
    · simp only [C.places, List.mem_singleton] at h ⊢; subst h; exact ⟨rfl, hb⟩
    · cases h
  | sub q lo n full =>
    simp only [C.clr] at h
    cases hb : bad q <;> simp only [hb] at h
    · simp only [C.places, List.mem_singleton] at h ⊢; subst h; exact ⟨rfl, hb⟩
    · cases h
  | fptr => cases h
  | fn f ds =>
    simp only [C.clr] at h
    cases hb : ds.any (fun d => bad ⟨.box d, []⟩) <;> simp only [hb] at h
    · refine ⟨h, ?_⟩
      simp only [C.places, List.mem_map] at h
      obtain ⟨d, hd, rfl⟩ := h
      have := List.any_eq_false.1 hb d hd
      simpa using this
    · cases h
  | nil => cases h
  | any => cases h

theorem OkC.clr {w w' own own' σ σ' v c} (hf : Froz w w' own own') (bad : Place → Bool) (hk : ∀ p, bad p = false → KeepP w w' own own' σ σ' p) (h : OkC w own σ v c) : OkC w' own' σ' v (c.clr bad) := by
  have key : OkC w own σ v (c.clr bad) := by
    cases c <;> try exact h
    all_goals (simp only [C.clr]; split <;> first | trivial | exact h)
  exact OkC.change hf (fun p hp => hk p (C.clr_places hp).2) key

theorem OkFlat.clr {w w' own own' σ σ' v} (hf : Froz w w' own own') (bad : Place → Bool) (hk : ∀ p, bad p = false → KeepP w w' own own' σ σ' p) : ∀ {c}, OkFlat w own σ v c → OkFlat w' own' σ' v (c.clr1 bad)
  | .one _, k => OkC.clr hf bad hk k
  | .agg cs, ⟨xs, h1, h2, h3⟩ => ⟨xs, h1, by simpa using h2, fun j c hc => by
      simp only [List.getElem?_map, Option.map_eq_some_iff] at hc
      obtain ⟨c0, hc0, rfl⟩ := hc
      exact OkC.clr hf bad hk (h3 j c0 hc0)⟩
  | .tup _, k => k
  | .any, _ => trivial

theorem OkV.clr {w w' own own' σ σ' v} (hf : Froz w w' own own') (bad : Place → Bool) (hk : ∀ p, bad p = false → KeepP w w' own own' σ σ' p) : ∀ {c}, OkV w own σ v c → OkV w' own' σ' v (c.clr bad)
  | .one c, k => OkFlat.clr hf bad hk (c := .one c) k
  | .agg cs, k => OkFlat.clr hf bad hk (c := .agg cs) k
  | .tup vs, ⟨xs, h1, h2, h3⟩ => ⟨xs, h1, by simpa using h2, fun j c hc => by
      simp only [List.getElem?_map, Option.map_eq_some_iff] at hc
      obtain ⟨c0, hc0, rfl⟩ := hc
      exact OkFlat.clr hf bad hk (h3 j c0 hc0)⟩
  | .any, _ => trivial

theorem OkS.clr {w w' own own' σ σ' v x} (hf : Froz w w' own own') (bad : Place → Bool) (hk : ∀ p, bad p = false → KeepP w w' own own' σ σ' p) (h : OkS w own σ v x) : OkS w' own' σ' v (x.clr bad) := by
  unfold OkS at *
  by_cases hc : x.c = true
  · rw [if_pos hc] at h; rw [if_pos (show (x.clr bad).c = true from hc)]; exact OkV.clr hf bad hk h
  · rw [if_neg hc] at h; rw [if_neg (show ¬ (x.clr bad).c = true from hc)]; exact h

theorem OkCell.of_C {w own σ d j v} : ∀ {c}, OkC w own σ v c → OkCell w own σ d j v c
  | .own _, k => k.elim
  | .v _, k => k
  | .ref _, k => k
  | .bptr .., k => k
  | .eptr .., k => k
  | .sub .., k => k
  | .ifc .., k => k
  | .fptr .., k => k
  | .fn .., k => k
  | .nil, k => k
  | .any, _ => trivial

theorem OkCell.clr {w w' own own' σ σ' d j v c} (hf : Froz w w' own own') (bad : Place → Bool) (hk : ∀ p, bad p = false → KeepP w w' own own' σ σ' p)
    (hm : Moved w w' own own' ⟨.box d, [(0, j)]⟩ ⟨.box d, [(0, j)]⟩) (h : OkCell w own σ d j v c) : OkCell w' own' σ' d j v (c.clr bad) := by
  cases c with
  | own t => exact Ok.moved h hf hm
  | v t => exact OkCell.of_C (OkC.clr (c := .v t) hf bad hk h)
  | ref p => exact OkCell.of_C (OkC.clr (c := .ref p) hf bad hk h)
  | bptr d j => exact OkCell.of_C (OkC.clr (c := .bptr d j) hf bad hk h)
  | eptr p i j => exact OkCell.of_C (OkC.clr (c := .eptr p i j) hf bad hk h)
  | ifc ty p => exact OkCell.of_C (OkC.clr (c := .ifc ty p) hf bad hk h)
  | sub p lo n full => exact OkCell.of_C (OkC.clr (c := .sub p lo n full) hf bad hk h)
  | fptr e sz n f i j => exact OkCell.of_C (OkC.clr (c := .fptr e sz n f i j) hf bad hk h)
  | fn f ds => exact OkCell.of_C (OkC.clr (c := .fn f ds) hf bad hk h)
  | nil => exact h
  | any => trivial

def Root.num : Root → Nat
  | .box d => d
  | .arr d _ => d

def onRoot (d : Nat) (p : Place) : Bool := Nat.beq p.r.num d

/-- all that root d was is forgotten -/
def AS.kill (σ : AS) (d : Nat) : AS where
  n := σ.n
  s := fun t => (σ.s t).clr (onRoot d)
  box := fun t => match Nat.beq t d with | true => [] | false => (σ.box t).map (C.clr (onRoot d))
  arr := fun t k => match Nat.beq t d with | true => .dead | false => σ.arr t k

theorem beq_false {t d : Nat} (h : t ≠ d) : Nat.beq t d = false := by
  cases h' : Nat.beq t d with
  | true => exact absurd (Nat.eq_of_beq_eq_true h') h
  | false => rfl
theorem beq_self (d : Nat) : Nat.beq d d = true := by simp

theorem cellTree_clr (bad : Place → Bool) (o : Option C) : cellTree (o.map (C.clr bad)) = cellTree o := by
  cases o with
  | none => rfl
  | some c =>
    cases c <;> simp only [Option.map_some, C.clr, cellTree]
    all_goals (split <;> rename_i h <;> (try split at h) <;> simp_all)

theorem kill_node (σ : AS) (d : Nat) (p : Place) (h : p.r.num ≠ d) : (σ.kill d).node p = σ.node p := by
  obtain ⟨r, ps⟩ := p
  cases r with
  | arr t k => simp only [Root.num] at h; simp only [AS.node, AS.kill, beq_false h]
  | box t =>
    simp only [Root.num] at h
    cases ps with
    | nil => rfl
    | cons x ps => obtain ⟨i, j⟩ := x; cases i <;> simp only [AS.node, AS.kill, beq_false h, List.getElem?_map, cellTree_clr]

def killOwn (own : Own) (d : Nat) : Own := fun b => match own b with
  | some p => match onRoot d p with | true => none | false => some p
  | none => none

theorem killOwn_some {own : Own} {d b : Nat} {p : Place} (h : killOwn own d b = some p) : own b = some p ∧ p.r.num ≠ d := by
  unfold killOwn at h
  cases hb : own b with
  | none => simp [hb] at h
  | some q =>
    simp only [hb] at h
    cases ho : onRoot d q with
    | true => simp [ho] at h
    | false =>
      simp only [ho, Option.some.injEq] at h
      subst h
      exact ⟨rfl, fun e => by simp [onRoot, e] at ho⟩

theorem killOwn_keep {own : Own} {d b : Nat} {p : Place} (h : own b = some p) (hp : p.r.num ≠ d) : killOwn own d b = some p := by
  simp [killOwn, h, onRoot, beq_false hp]

theorem Inv.kill {w0 own0 σ a w own} (h : Inv w0 own0 σ a w own) (d : Nat) (hdlt : d < RR) : Inv w0 own0 (σ.kill d) a w (killOwn own d) := by
  have hdf : d ≠ FF := by have := RR_lt_FF; omega
  have hf : Froz w w own (killOwn own d) := ⟨fun b hb _ => ⟨by simp [killOwn, hb], rfl⟩⟩
  have hk : ∀ p, onRoot d p = false → KeepP w w own (killOwn own d) σ (σ.kill d) p := by
    intro p hp
    have hpd : p.r.num ≠ d := fun e => by simp [onRoot, e] at hp
    refine ⟨fun e sz n f hn => ⟨f, by rw [← kill_node σ d p hpd]; exact hn⟩, fun t ht hb => ?_, fun _ b hb => ⟨killOwn_keep hb hpd, fun c e hc => ⟨c, hc, rfl⟩⟩⟩
    subst ht
    intro h0
    simp only [AS.kill, h0, List.map_nil, ne_eq] at hb
    exact hb (by cases Nat.beq t d <;> rfl)
  have hmv : ∀ p : Place, p.r.num ≠ d → Moved w w own (killOwn own d) p p := fun p hp b s hb => ⟨killOwn_keep hb hp, rfl⟩
  refine { h with inj := ?_, rng := ?_, frm := h.frm, fore := fun b hb => ⟨killOwn_keep (h.fore b hb).1 (fun e => hdf e.symm), (h.fore b hb).2⟩, keep := h.keep.trans (Kept.of fun b k hb => ⟨killOwn_keep hb (by simp only [Root.num]; omega), rfl⟩), noff := fun k => by simp only [AS.kill, beq_false (fun e : FF = d => hdf e.symm), h.noff], nf := h.nf, tsz := h.tsz, slots := ?_, boxes := ?_, arrs := ?_ }
  · intro b b' p hb hb'
    exact h.inj b b' p (killOwn_some hb).1 (killOwn_some hb').1
  · intro b p hb
    exact h.rng b p (killOwn_some hb).1
  · exact fun t => (h.slots t).clr hf _ hk
  · intro t ht
    by_cases htd : t = d
    · subst htd; simp [AS.kill] at ht
    · have e : (σ.kill d).box t = (σ.box t).map (C.clr (onRoot d)) := by simp only [AS.kill, beq_false htd]
      rw [e] at ht ⊢
      obtain ⟨b, c, e', h1, h2, h3, h4⟩ := h.boxes t (fun h0 => ht (by rw [h0]; rfl))
      refine ⟨b, c, e', killOwn_keep h1 htd, h2, by simpa using h3, fun j x hx => ?_⟩
      simp only [List.getElem?_map, Option.map_eq_some_iff] at hx
      obtain ⟨x0, hx0, rfl⟩ := hx
      exact (h4 j x0 hx0).clr hf _ hk (hmv _ htd)
  · intro t k e sz n f ht
    by_cases htd : t = d
    · subst htd; simp [AS.kill] at ht
    · have e' : (σ.kill d).arr t k = σ.arr t k := by simp only [AS.kill, beq_false htd]
      rw [e'] at ht
      obtain ⟨v, hv⟩ := h.arrs t k e sz n f ht
      exact ⟨v, hv.moved hf (hmv _ htd)⟩

end Go.Mh
