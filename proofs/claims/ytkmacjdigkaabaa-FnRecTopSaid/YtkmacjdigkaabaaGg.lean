/- Contracts of functions of the program, each met by its body; conditions stand in each statement. No condition. -/
import Derived.Test.YtkmacjdigkaabaaGf
set_option linter.unusedVariables false
set_option linter.unusedSimpArgs false
set_option linter.unnecessarySimpa false
namespace Go.Mh
open Go

/-! ### references to what is dead need not be forgotten -/
theorem OkC.unclr {w own σ σ' v} {g : Place → Bool} (hn : ∀ p, σ'.node p = σ.node p) (hb : ∀ d, σ'.box d = [] → σ.box d = []) (hg : ∀ p, g p = true → ¬ aliveP σ p) (hg0 : ∀ d, g ⟨.box d, []⟩ = false) : ∀ {c : C}, OkC w own σ' v (c.clr g) → OkC w own σ v c
  | .v _, k => k
  | .own _, k => k
  | .ref p, k => by
    intro e sz n f hp
    simp only [C.clr] at k
    cases h : g p with
    | true => exact absurd (.inl ⟨e, sz, n, f, hp⟩) (hg p h)
    | false => rw [h] at k; exact k e sz n f ((hn p).trans hp)
  | .eptr p i j, k => by
    intro e sz n f hp
    simp only [C.clr] at k
    cases h : g p with
    | true => exact absurd (.inl ⟨e, sz, n, f, hp⟩) (hg p h)
    | false => rw [h] at k; exact k e sz n f ((hn p).trans hp)
  | .bptr d j, k => by
    simp only [C.clr, hg0] at k
    intro h
    exact k (fun e => h (hb d e))
  | .ifc ty p, k => by
    intro e sz N f hp
    simp only [C.clr] at k
    cases h : g p with
    | true => exact absurd (.inl ⟨e, sz, N, f, hp⟩) (hg p h)
    | false => rw [h] at k; exact k e sz N f ((hn p).trans hp)
  | .sub p lo n full, k => by
    intro e sz N f hp
    simp only [C.clr] at k
    cases h : g p with
    | true => exact absurd (.inl ⟨e, sz, N, f, hp⟩) (hg p h)
    | false => rw [h] at k; exact k e sz N f ((hn p).trans hp)
  | .fptr .., k => k
  | .fn f ds, k => by
    have : ds.any (fun d => g ⟨.box d, []⟩) = false := by rw [List.any_eq_false]; intro x _; simp [hg0]
    simp only [C.clr, this] at k
    obtain ⟨vs, h1, h2, h3⟩ := k
    exact ⟨vs, h1, h2, fun j d hd h => h3 j d hd (fun e => h (hb d e))⟩
  | .nil, k => k
  | .any, _ => trivial
theorem OkCell.unclr {w own σ σ' d j v} {g : Place → Bool} (hn : ∀ p, σ'.node p = σ.node p) (hb : ∀ d, σ'.box d = [] → σ.box d = []) (hg : ∀ p, g p = true → ¬ aliveP σ p) (hg0 : ∀ d, g ⟨.box d, []⟩ = false) {c : C} (k : OkCell w own σ' d j v (c.clr g)) : OkCell w own σ d j v c := by
  cases c with
  | own t => exact k
  | ref p =>
    refine OkC.unclr (w := w) (c := .ref p) hn hb hg hg0 ?_
    cases h : g p with
    | true => simp only [C.clr, h]; trivial
    | false => simp only [C.clr, h] at k ⊢; exact k
  | eptr p i j =>
    refine OkC.unclr (w := w) (c := .eptr p i j) hn hb hg hg0 ?_
    cases h : g p with
    | true => simp only [C.clr, h]; trivial
    | false => simp only [C.clr, h] at k ⊢; exact k
  | ifc ty p =>
    refine OkC.unclr (w := w) (c := .ifc ty p) hn hb hg hg0 ?_
    cases h : g p with
    | true => simp only [C.clr, h]; trivial
    | false => simp only [C.clr, h] at k ⊢; exact k
  | sub p lo n full =>
    refine OkC.unclr (w := w) (c := .sub p lo n full) hn hb hg hg0 ?_
    cases h : g p with
    | true => simp only [C.clr, h]; trivial
    | false => simp only [C.clr, h] at k ⊢; exact k
  | bptr b j => exact OkC.unclr (w := w) (c := .bptr b j) hn hb hg hg0 (by simp only [C.clr, hg0] at k ⊢; exact k)
  | fn f ds => exact OkC.unclr (w := w) (c := .fn f ds) hn hb hg hg0 (by
      have : ds.any (fun d => g ⟨.box d, []⟩) = false := by rw [List.any_eq_false]; intro x _; simp [hg0]
      simp only [C.clr, this] at k ⊢; exact k)
  | v t => exact OkC.unclr (w := w) (c := .v t) hn hb hg hg0 k
  | fptr e sz n f i j => exact OkC.unclr (w := w) (c := .fptr e sz n f i j) hn hb hg hg0 k
  | nil => exact OkC.unclr (w := w) (own := own) (c := .nil) hn hb hg hg0 k
  | any => trivial
theorem OkFlat.unclr {w own σ σ' v} {g : Place → Bool} (hn : ∀ p, σ'.node p = σ.node p) (hb : ∀ d, σ'.box d = [] → σ.box d = []) (hg : ∀ p, g p = true → ¬ aliveP σ p) (hg0 : ∀ d, g ⟨.box d, []⟩ = false) {u : V} (k : OkFlat w own σ' v (u.clr1 g)) : OkFlat w own σ v u := by
  cases u with
  | one c => exact OkC.unclr hn hb hg hg0 k
  | agg cs =>
    obtain ⟨xs, h1, h2, h3⟩ := k
    exact ⟨xs, h1, by simpa using h2, fun j c hc => OkC.unclr hn hb hg hg0 (h3 j _ (by simp [hc]))⟩
  | tup _ => exact k
  | any => trivial
theorem OkV.unclr {w own σ σ' v} {g : Place → Bool} (hn : ∀ p, σ'.node p = σ.node p) (hb : ∀ d, σ'.box d = [] → σ.box d = []) (hg : ∀ p, g p = true → ¬ aliveP σ p) (hg0 : ∀ d, g ⟨.box d, []⟩ = false) {u : V} (k : OkV w own σ' v (u.clr g)) : OkV w own σ v u := by
  cases u with
  | one c => exact OkFlat.unclr (u := .one c) hn hb hg hg0 k
  | agg cs => exact OkFlat.unclr (u := .agg cs) hn hb hg hg0 k
  | tup vs =>
    obtain ⟨xs, h1, h2, h3⟩ := k
    exact ⟨xs, h1, by simpa using h2, fun j c hc => OkFlat.unclr hn hb hg hg0 (h3 j _ (by simp [hc]))⟩
  | any => trivial
theorem Inv.unclr {w0 own0 σ σ' a w own} (h : Inv w0 own0 σ' a w own) (g : Place → Bool) (e0 : σ'.n = σ.n) (e1 : σ'.arr = σ.arr) (e2 : ∀ t, σ'.s t = (σ.s t).clr g) (e3 : ∀ t, σ'.box t = (σ.box t).map (C.clr g)) (hg : ∀ p, g p = true → ¬ aliveP σ p) (hg0 : ∀ d, g ⟨.box d, []⟩ = false) : Inv w0 own0 σ a w own := by
  have hn : ∀ p, σ'.node p = σ.node p := fun p => by
    have : σ'.node p = (σ.mapC g).node p := by
      obtain ⟨r, ps⟩ := p
      cases r with
      | arr d k => simp only [AS.node, e1, AS.mapC]
      | box d => cases ps with
        | nil => rfl
        | cons x ps => obtain ⟨i, j⟩ := x; cases i <;> simp only [AS.node, e3, AS.mapC]
    rw [this, mapC_node]
  have hb : ∀ d, σ'.box d = [] → σ.box d = [] := fun d hd => by rw [e3, List.map_eq_nil_iff] at hd; exact hd
  refine { h with noff := fun k => by rw [← e1]; exact h.noff k, nf := by rw [← e0]; exact h.nf, tsz := by rw [← e0]; exact h.tsz, slots := fun t => ?_, boxes := fun d hd => ?_, arrs := fun d k e sz n f hf => h.arrs d k e sz n f (by rw [e1]; exact hf) }
  · have := h.slots t
    rw [e2] at this
    unfold OkS at this ⊢
    by_cases hc : (σ.s t).c = true
    · rw [if_pos hc]
      rw [if_pos (show (SV.clr g (σ.s t)).c = true from hc)] at this
      exact OkV.unclr hn hb hg hg0 this
    · rw [if_neg hc]
      rw [if_neg (show ¬ (SV.clr g (σ.s t)).c = true from hc)] at this
      exact this
  · obtain ⟨b, c, e, h1, h2, h3, h4⟩ := h.boxes d (fun e => hd (hb d e))
    rw [e3] at h3 h4
    exact ⟨b, c, e, h1, h2, by simpa using h3, fun j x hx => OkCell.unclr hn hb hg hg0 (h4 j _ (by simp [hx]))⟩

theorem C.clr_congr {d : Nat} {g g' : Place → Bool} (hg : ∀ p, p.r.num ≠ d → g p = g' p) {c : C} (h : c.free d = true) : c.clr g = c.clr g' := by
  have hp : ∀ p ∈ c.places, g p = g' p := fun p hp => hg p (fun e => by
    have := List.all_eq_true.1 h p hp
    rw [e] at this; simp at this)
  cases c with
  | ref p => simp only [C.clr, hp p (by simp [C.places])]
  | eptr p i j => simp only [C.clr, hp p (by simp [C.places])]
  | sub p lo n full => simp only [C.clr, hp p (by simp [C.places])]
  | ifc ty p => simp only [C.clr, hp p (by simp [C.places])]
  | bptr b j => simp only [C.clr, hp _ (by simp [C.places] : (⟨.box b, []⟩ : Place) ∈ (C.bptr b j).places)]
  | fn f ds =>
    have : ds.any (fun d => g ⟨.box d, []⟩) = ds.any (fun d => g' ⟨.box d, []⟩) := by
      rw [Bool.eq_iff_iff, List.any_eq_true, List.any_eq_true]
      constructor
      · rintro ⟨x, hx, hy⟩; exact ⟨x, hx, by rw [← hp _ (by simp only [C.places, List.mem_map]; exact ⟨x, hx, rfl⟩)]; exact hy⟩
      · rintro ⟨x, hx, hy⟩; exact ⟨x, hx, by rw [hp _ (by simp only [C.places, List.mem_map]; exact ⟨x, hx, rfl⟩)]; exact hy⟩
    simp only [C.clr, this]
  | _ => rfl
theorem V.clr1_congr {d : Nat} {g g' : Place → Bool} (hg : ∀ p, p.r.num ≠ d → g p = g' p) {v : V} (h : v.free1 d = true) : v.clr1 g = v.clr1 g' := by
  cases v with
  | one c => simp only [V.clr1, C.clr_congr hg h]
  | agg cs => simp only [V.clr1]; congr 1; exact List.map_congr_left fun c hc => C.clr_congr hg (List.all_eq_true.1 h c hc)
  | _ => rfl
theorem V.clr_congr {d : Nat} {g g' : Place → Bool} (hg : ∀ p, p.r.num ≠ d → g p = g' p) {v : V} (h : v.free d = true) : v.clr g = v.clr g' := by
  cases v with
  | tup vs => simp only [V.clr]; congr 1; exact List.map_congr_left fun c hc => V.clr1_congr hg (List.all_eq_true.1 h c hc)
  | one c => exact V.clr1_congr (v := .one c) hg h
  | agg c => exact V.clr1_congr (v := .agg c) hg h
  | any => rfl

/-! ### a cell of a new row, finely -/
def NoRef (d : Nat) (σ : AS) : Prop := (∀ t, (σ.s t).v.free d = true) ∧ ∀ t, (σ.box t).all (C.free d) = true
theorem Free.noRef {d : Nat} {σ : AS} (h : Free d σ) : NoRef d σ := ⟨fun t => h (.s t), fun t => (h (.b t)).1⟩
def fineA (σ : AS) (d i l : Nat) (c : C) : AS := match σ.arr d 0 with
  | .sl e sz n f => match c with
    | .ref ⟨.arr d' k', []⟩ => (σ.setArr d 0 (.sl e sz n (setRow f i l (σ.arr d' k')))).goneArr (isRoot d' k')
    | c => σ.setArr d 0 (.sl e sz n (setRow f i l (toT c)))
  | _ => σ
theorem fineA_s (σ : AS) (d i l : Nat) (c : C) : (fineA σ d i l c).s = σ.s := by
  unfold fineA
  split
  · split <;> rfl
  · rfl
theorem fineA_box (σ : AS) (d i l : Nat) (c : C) : (fineA σ d i l c).box = σ.box := by
  unfold fineA
  split
  · split <;> rfl
  · rfl
theorem fineA_n (σ : AS) (d i l : Nat) (c : C) : (fineA σ d i l c).n = σ.n := by
  unfold fineA
  split
  · split <;> rfl
  · rfl
theorem fineA_ev (σ : AS) (d i l : Nat) (c : C) (y : Operand) : (fineA σ d i l c).ev y = σ.ev y := by
  cases y with
  | tmp t => simp only [AS.ev, fineA_s]
  | _ => rfl
theorem fineA_noRef {σ : AS} {d i l : Nat} {c : C} (h : NoRef d σ) : NoRef d (fineA σ d i l c) := by
  unfold NoRef
  rw [fineA_s, fineA_box]
  exact h
theorem Inv.fineA {w0 own0 σ a w own} (h : Inv w0 own0 σ a w own) {d : Nat} (hfr : NoRef d σ) {b e sz n i j : Nat} {f : Nat → List T} (hn : σ.arr d 0 = .sl e sz n f) (hb : own b = some ⟨.arr d 0, []⟩) (hi : i < n) (hj : j < sz) {v : Value} {c : C}
    (hcell : w.cell? ⟨b, i * sz + j, none⟩ = some v) (hc : OkC w own σ v c) (hok : storeOkA σ ⟨.arr d 0, []⟩ c = true) :
    ∃ own', Inv w0 own0 (Mh.fineA σ d i j c) a w own' ∧ own' b = some ⟨.arr d 0, []⟩ ∧ ∃ g, (Mh.fineA σ d i j c).arr d 0 = .sl e sz n g := by
  have hn' : σ.node ⟨.arr d 0, []⟩ = .sl e sz n f := by simp only [AS.node, follow]; exact hn
  obtain ⟨own', hI', hb', g, hg⟩ := h.tellA hn' hb hi hj hc hok
  rw [setCell_same w b (i * sz + j) _ hcell] at hI'
  refine ⟨own', ?_, hb', ?_⟩
  · unfold storeA1 at hI'
    rw [hn'] at hI'
    simp only at hI'
    unfold Mh.fineA
    rw [hn]
    simp only
    split
    · rename_i d' k'
      simp only at hI'
      simp only [storeOkA, Bool.and_eq_true, Bool.not_eq_true'] at hok
      have hne : ¬ (d = d' ∧ 0 = k') := by
        rintro ⟨rfl, rfl⟩
        have := hok.2.1
        rw [Root.beq_refl] at this; cases this
      unfold AS.moveA at hI'
      rw [hn'] at hI'
      simp only at hI'
      have hcg : ∀ p : Place, p.r.num ≠ d → badMove d' k' (Place.push ⟨.arr d 0, []⟩ i j) p = onArr d' k' p := fun p hp => by
        have : (Root.arr d 0).beq p.r = false := by
          cases hh : (Root.arr d 0).beq p.r with
          | false => rfl
          | true => exact absurd (by rw [← Root.beq_eq hh]; rfl) hp
        simp only [badMove, mayUnder, Place.push, this, Bool.false_and, Bool.or_false]
        cases p with
        | mk r ps => cases r with
          | arr x y => simp [onArr, Root.beq]
          | box x => simp [onArr, Root.beq]
      refine Inv.unclr hI' (onArr d' k') rfl ?_ (fun t => ?_) (fun t => ?_) ?_ (fun d => rfl)
      · simp only [AS.goneArr, AS.mapC, AS.updNode, updT]
      · show SV.clr _ (σ.s t) = _
        simp only [SV.clr]
        rw [V.clr_congr hcg (hfr.1 t)]
        rfl
      · show (σ.box t).map _ = _
        exact List.map_congr_left fun c hc => C.clr_congr hcg (List.all_eq_true.1 (hfr.2 t) c hc)
      · intro p hp ha
        obtain ⟨r, ps⟩ := p
        cases r with
        | box x => cases hp
        | arr x y =>
          have := Root.beq_eq hp
          simp only [Root.arr.injEq] at this
          obtain ⟨rfl, rfl⟩ := this
          rcases ha with ⟨e, sz, n, f, hx⟩ | ⟨x, hx, _⟩
          · simp only [AS.node, AS.goneArr, isRoot, beq_self, Bool.and_self] at hx
            rw [follow_dead] at hx
            cases hx
          · cases hx
    · rename_i hnr
      split at hI'
      · exact absurd rfl (hnr _ _)
      · simpa only [AS.updNode, updT] using hI'
  · unfold Mh.fineA
    rw [hn]
    simp only
    split
    · rename_i d' k'
      simp only [storeOkA, Bool.and_eq_true, Bool.not_eq_true'] at hok
      have hne : isRoot d' k' d 0 = false := isRoot_false (fun e => by rw [e, Root.beq_refl] at hok; exact absurd hok.2.1 (by simp))
      exact ⟨setRow f i j (σ.arr d' k'), by simp only [AS.goneArr, hne, setArr_arr, and_self, if_true]⟩
    · exact ⟨setRow f i j (toT c), by simp only [setArr_arr, and_self, if_true]⟩

/-! ### a new slice of one row, whose cells may own memory -/
def fineRow (d : Nat) : List C → Nat → AS → AS
  | [], _, σ => σ
  | c :: cs, l, σ => fineRow d cs (l + 1) (fineA σ d 0 l c)
def fineOk (d : Nat) : List C → Nat → AS → Bool
  | [], _, _ => true
  | c :: cs, l, σ => storeOkA σ ⟨.arr d 0, []⟩ c && fineOk d cs (l + 1) (fineA σ d 0 l c)
theorem fineRow_n (d : Nat) : ∀ (cs : List C) (l : Nat) (σ : AS), (fineRow d cs l σ).n = σ.n
  | [], _, _ => rfl
  | c :: cs, l, σ => by simp only [fineRow]; rw [fineRow_n d cs, fineA_n]
theorem Inv.fineRow {w0 own0 a w} {d b e sz n : Nat} {y : Operand} (hn0 : 0 < n) : ∀ (cs : List C) (l : Nat) (σ : AS) (own : Own) (f : Nat → List T), Inv w0 own0 σ a w own → NoRef d σ →
    own b = some ⟨.arr d 0, []⟩ → σ.arr d 0 = .sl e sz n f → l + cs.length ≤ sz → (σ.ev y).c = true → (∀ j c, cs[j]? = some c → (σ.ev y).v.cells[l + j]? = some c) → fineOk d cs l σ = true →
    (∀ l', l' < l + cs.length → w.cell? ⟨b, l', none⟩ = some ((a.eval y).cells.getD l' undef)) →
    ∃ own', Inv w0 own0 (Mh.fineRow d cs l σ) a w own' ∧ own' b = some ⟨.arr d 0, []⟩ ∧ ∃ g, (Mh.fineRow d cs l σ).arr d 0 = .sl e sz n g
  | [], l, σ, own, f, h, _, hb, hn, _, _, _, _, _ => ⟨own, h, hb, f, hn⟩
  | c :: cs, l, σ, own, f, h, hfr, hb, hn, hlen, hc, hcs, hok, hcell => by
    simp only [fineOk, Bool.and_eq_true] at hok
    simp only [List.length_cons] at hlen hcell
    have hv : OkV w own σ (a.eval y) (σ.ev y).v := by
      have := h.ev y
      unfold OkS at this
      rwa [if_pos hc] at this
    have hcl := hv.cell_solid (hcs 0 c rfl) (storeOkA_solid hok.1)
    obtain ⟨own', hI', hb', g, hn'⟩ := h.fineA hfr (i := 0) (j := l) hn hb hn0 (by omega) (by rw [Nat.zero_mul, Nat.zero_add]; exact hcell l (by omega)) hcl hok.1
    exact Inv.fineRow hn0 cs (l + 1) _ own' g hI' (fineA_noRef hfr) hb' hn' (by omega) (by rw [fineA_ev]; exact hc) (fun j c' hj => by rw [fineA_ev, show l + 1 + j = l + (j + 1) by omega]; exact hcs (j + 1) c' (by simpa using hj)) hok.2 (fun l' hl' => hcell l' (by omega))

theorem step_buildF {P : Program} {o : Oper} {σ : AS} {d : Nat} (hd : o.dst = some d) (hn : d < σ.n) {t e sz by' : Nat} {y : Operand} {cs : List C} {u : V} (ho : o.op = .buildSlice t 1 [(0, y)].toArray) (ht : sliceT P t = some ⟨e, sz, by'⟩)
    (hfr : Free d σ) (hsmall : Nat.ble (1 * sz) 1024 = true) (hy : σ.ev y = ⟨true, u⟩) (hcs : u.cells = cs) (hl : cs.length = sz) (hs : ∀ c, u = .one c → solidC σ c = true)
    (hok : fineOk d cs 0 (σ.setArr d 0 (.sl e sz 1 (fun _ => List.replicate sz .dead))) = true) :
    Step P o σ ((fineRow d cs 0 (σ.setArr d 0 (.sl e sz 1 (fun _ => List.replicate sz .dead)))).setS d ⟨true, .one (.ref ⟨.arr d 0, []⟩)⟩) := by
  refine Step.make hd (by rw [fineRow_n]; exact hn) fun w0 own0 a w own hI => ?_
  obtain ⟨hu, i, z, hi, hz, hsz0, hby, hzs, hsz⟩ := sliceT_spec ht
  have hsm := Nat.le_of_ble_eq_true hsmall
  let len := 1
  let zero : Array Value := if len * sz = 0 then #[] else z.cells
  let cells0 : Array Value := (Array.range (len * sz)).map (zero[· % zero.size]!)
  have hc0 : cells0.size = len * sz := by simp [cells0]
  have hev : (a.eval y).cells.size = sz := by
    have := evCells_len hI (y := y) (m := sz) (by rw [hy]) (by rw [hy]; simpa [hcs] using hl) hsz (by rw [hy]; exact hs)
    simpa using this
  obtain ⟨r, k1, k2, k3, k4⟩ := fill_row sz [(0, a.eval y)] cells0 (fun p hp => by
    simp only [List.mem_singleton] at hp
    subst hp
    exact ⟨hev, by rw [hc0]; simp [len]⟩)
  have hrun : (Instr.buildSlice t 1 [(0, a.eval y)].toArray).run P w = .ok (.slice (some ⟨w.heap.size, 0, none⟩) 1 1) (w.alloc (.cells r e)) := by
    have hbig : ¬ (1 * sz > 2 ^ 24) := by omega
    have h0 : ¬ (1 * sz = 0) := by omega
    simp only [Instr.buildSlice, Sem.run_bind, run_underlying hu, Result.andThen_ok, sizeOf, run_info hi, Sem.run_pure, hsz0, hbig, if_false]
    have e0 : zero = z.cells := by simp only [zero, len, h0, if_false]
    simp only [cells0, e0] at k1
    simp only [h0, if_false, Sem.run_bind, zeroValue, run_info hi, Result.andThen_ok, hz, Sem.run_pure]
    rw [k1]
    rfl
  obtain ⟨own', hI', hnew⟩ := hI.newArr d 0 (by have := hI.nf; omega) (.cells r e) (.slice (some ⟨w.heap.size, 0, none⟩) 1 1) (.sl e sz 1 (fun _ => List.replicate sz .dead)) (fun own' hnew =>
    .osl hnew (heap_alloc_new w _) (.inl (by rw [k2, hc0])) (Nat.le_refl _) (by simp [maxLen]) (fun _ _ => by simp) (fun k l hk hl => by
      have : (List.replicate sz T.dead).getD l .dead = .dead := by simp [List.getD_eq_getElem?_getD, hl]
      rw [this]; exact .dead _))
  rw [hfr.kill] at hI'
  obtain ⟨own2, hI2, hb2, g, hn2⟩ := Inv.fineRow (e := e) (sz := sz) (n := 1) (y := y) (by omega) cs 0 _ own' (fun _ => List.replicate sz .dead) hI' hfr.noRef hnew (by simp [setArr_arr]) (by omega) (by
      have : (σ.setArr d 0 (.sl e sz 1 (fun _ => List.replicate sz .dead))).ev y = σ.ev y := by cases y <;> rfl
      rw [this, hy]) (fun j c hj => by
      have : (σ.setArr d 0 (.sl e sz 1 (fun _ => List.replicate sz .dead))).ev y = σ.ev y := by cases y <;> rfl
      rw [this, hy, Nat.zero_add, hcs]; exact hj) hok (fun l hl' => by
    have hlt : l < sz := by omega
    have hlt2 : l < r.size := by rw [k2, hc0]; simp only [len]; omega
    have := k4 (by simp) (0, a.eval y) (by simp) l hlt
    simp only [Nat.zero_mul, Nat.zero_add] at this
    have hnewh : (w.alloc (.cells r e)).heap[w.heap.size]? = some (.cells r e (0, 0)) := heap_alloc_new w _
    simp only [World.cell?, hnewh, Option.isSome_none, Bool.false_eq_true, if_false]
    rw [← this]
    simp [Array.getD, hlt2])
  refine ⟨.slice (some ⟨w.heap.size, 0, none⟩) 1 1, _, own2, ?_, hI2, ?_⟩
  · simp only [execOp, ho, Sem.run_bind]
    have e1 : ([(0, y)].toArray.map fun x => (x.1, a.eval x.2)) = [(0, a.eval y)].toArray := by simp
    rw [e1, hrun]
    rfl
  · intro e' sz' n' f' hq
    simp only [AS.node, follow] at hq
    rw [hn2] at hq
    cases hq
    exact .inr ⟨w.heap.size, _, r, rfl, hb2, heap_alloc_new w _, .inl (by rw [k2, hc0]), Nat.le_refl _, by simp [maxLen]⟩

/-! the cells of the row, told by a list -/
def keepC : C → Bool
  | .v t => t.solid
  | .nil => true
  | _ => false
def CellT (d : Nat) (σ : AS) : C → T → Prop
  | .ref ⟨.arr d' k', []⟩, t => σ.arr d' k' = t ∧ isSl t = true ∧ Nat.beq d' d = false ∧ Nat.beq d' RR = false
  | c, t => toT c = t ∧ keepC c = true
def CellsT (d : Nat) (σ : AS) : List C → List T → Prop
  | [], [] => True
  | c :: cs, t :: ts => CellT d σ c t ∧ CellsT d σ cs ts
  | _, _ => False
def rootOf : C → List (Nat × Nat)
  | .ref ⟨.arr d' k', []⟩ => [(d', k')]
  | _ => []
def rootsOf : List C → List (Nat × Nat)
  | [] => []
  | c :: cs => rootOf c ++ rootsOf cs
def goneR (L : List (Nat × Nat)) (d k : Nat) : Bool := L.any (fun x => Nat.beq d x.1 && Nat.beq k x.2)
def apart : List (Nat × Nat) → Bool
  | [] => true
  | x :: L => !goneR L x.1 x.2 && apart L
def setRowL (f : Nat → List T) : Nat → List T → Nat → List T
  | _, [] => f
  | l, t :: ts => setRowL (setRow f 0 l t) (l + 1) ts
theorem setRowL_get : ∀ (ts : List T) (f : Nat → List T) (l : Nat), l + ts.length ≤ (f 0).length → (setRowL f l ts 0).length = (f 0).length ∧ ∀ j, (setRowL f l ts 0)[j]? = if l ≤ j ∧ j < l + ts.length then ts[j - l]? else (f 0)[j]?
  | [], f, l, h => ⟨rfl, fun j => by rw [if_neg (by simp)]; rfl⟩
  | t :: ts, f, l, h => by
    simp only [List.length_cons] at h
    have h0 : (setRow f 0 l t 0) = (f 0).set l t := setRow_self f 0 l t
    obtain ⟨h1, h2⟩ := setRowL_get ts (setRow f 0 l t) (l + 1) (by rw [h0, List.length_set]; omega)
    refine ⟨by simp only [setRowL]; rw [h1, h0, List.length_set], fun j => ?_⟩
    simp only [setRowL, List.length_cons]
    rw [h2, h0]
    by_cases hj : j = l
    · subst hj
      rw [if_neg (by omega), if_pos (by omega), List.getElem?_set]
      simp; omega
    · by_cases h3 : l + 1 ≤ j ∧ j < l + 1 + ts.length
      · rw [if_pos h3, if_pos (by omega), show j - l = (j - (l + 1)) + 1 by omega, List.getElem?_cons_succ]
      · rw [if_neg h3, if_neg (by omega), List.getElem?_set, if_neg (by omega)]
theorem setRowL_all {ts : List T} {sz : Nat} (h : ts.length = sz) : setRowL (fun _ => List.replicate sz .dead) 0 ts 0 = ts := by
  obtain ⟨h1, h2⟩ := setRowL_get ts (fun _ => List.replicate sz .dead) 0 (by simp [h])
  refine List.ext_getElem? fun j => ?_
  rw [h2]
  by_cases hj : j < ts.length
  · rw [if_pos (by omega)]; rfl
  · rw [if_neg (by omega), List.getElem?_eq_none (by simp; omega), List.getElem?_eq_none (by omega)]

theorem fine_all {d e sz : Nat} {σ : AS} : ∀ (cs : List C) (ts : List T) (l : Nat) (L : List (Nat × Nat)) (f : Nat → List T), CellsT d σ cs ts → (∀ x ∈ rootsOf cs, goneR L x.1 x.2 = false) → apart (rootsOf cs) = true → 
    fineOk d cs l ((σ.goneArr (goneR L)).setArr d 0 (.sl e sz 1 f)) = true ∧ fineRow d cs l ((σ.goneArr (goneR L)).setArr d 0 (.sl e sz 1 f)) = (σ.goneArr (goneR (rootsOf cs ++ L))).setArr d 0 (.sl e sz 1 (setRowL f l ts))
  | [], [], l, L, f, _, _, _ => ⟨rfl, rfl⟩
  | [], _ :: _, _, _, _, h, _, _ => h.elim
  | _ :: _, [], _, _, _, h, _, _ => h.elim
  | c :: cs, t :: ts, l, L, f, h, hL, ha => by
    obtain ⟨h1, h2⟩ := h
    have hd : ((σ.goneArr (goneR L)).setArr d 0 (.sl e sz 1 f)).arr d 0 = .sl e sz 1 f := by simp [setArr_arr]
    by_cases hc : ∃ d' k', c = .ref ⟨.arr d' k', []⟩
    · obtain ⟨d', k', rfl⟩ := hc
      obtain ⟨g1, g2, g3, g4⟩ := h1
      have hne : d' ≠ d := fun e => by subst e; simp at g3
      have hL0 : goneR L d' k' = false := hL (d', k') (by simp [rootsOf, rootOf])
      have harr : ((σ.goneArr (goneR L)).setArr d 0 (.sl e sz 1 f)).arr d' k' = t := by
        rw [setArr_arr, if_neg (fun e => hne e.1)]
        simp only [AS.goneArr, hL0]; exact g1
      have hstep : fineA ((σ.goneArr (goneR L)).setArr d 0 (.sl e sz 1 f)) d 0 l (.ref ⟨.arr d' k', []⟩) = (σ.goneArr (goneR ((d', k') :: L))).setArr d 0 (.sl e sz 1 (setRow f 0 l t)) := by
        unfold fineA
        rw [hd]
        simp only [harr]
        refine AS.ext_at rfl fun loc => ?_
        cases loc with
        | s t => rfl
        | b t => rfl
        | a x y =>
          simp only [AS.at, AS.goneArr, setArr_arr]
          by_cases h1 : x = d ∧ y = 0
          · simp only [if_pos h1]
            rw [isRoot_false (fun e => by simp only [Root.arr.injEq] at e; exact hne (by rw [← e.1, h1.1]))]
          · simp only [if_neg h1]
            simp only [goneR, List.any_cons, isRoot]
            cases Nat.beq x d' && Nat.beq y k' <;> simp
      simp only [rootsOf, rootOf, List.cons_append, List.nil_append, apart, Bool.and_eq_true, Bool.not_eq_true'] at ha hL
      obtain ⟨k1, k2⟩ := fine_all (e := e) (sz := sz) (σ := σ) cs ts (l + 1) ((d', k') :: L) (setRow f 0 l t) h2 (fun x hx => by
        have h3 := hL x (by simp [hx])
        simp only [goneR, List.any_cons]
        have h4 := ha.1
        simp only [goneR] at h3
        rw [h3, Bool.or_false]
        cases hb : Nat.beq x.1 d' && Nat.beq x.2 k' with
        | false => rfl
        | true =>
          exfalso
          simp only [Bool.and_eq_true] at hb
          have : goneR (rootsOf cs) d' k' = true := by
            simp only [goneR, List.any_eq_true]
            exact ⟨x, hx, by rw [Nat.eq_of_beq_eq_true hb.1, Nat.eq_of_beq_eq_true hb.2]; simp⟩
          rw [h4] at this; cases this) ha.2
      refine ⟨?_, ?_⟩
      · simp only [fineOk, hstep, k1, Bool.and_true, storeOkA, harr, g2, Bool.true_and, Bool.and_eq_true, Bool.not_eq_true']
        refine ⟨?_, g4⟩
        cases hb : (Root.arr d 0).beq (.arr d' k') with
        | false => rfl
        | true => have := Root.beq_eq hb; simp only [Root.arr.injEq] at this; exact absurd this.1.symm hne
      · simp only [fineRow, hstep, k2, setRowL, rootsOf, rootOf]
        congr 2
        funext x y
        simp only [goneR, List.any_append, List.any_cons, List.any_nil, Bool.or_false, Bool.or_assoc]
        rw [← Bool.or_assoc, ← Bool.or_assoc, Bool.or_comm (List.any _ _)]
    · have hr : rootOf c = [] := by
        unfold rootOf
        split
        · exact absurd ⟨_, _, rfl⟩ hc
        · rfl
      have h1' : toT c = t ∧ keepC c = true := by
        unfold CellT at h1
        split at h1
        · exact absurd ⟨_, _, rfl⟩ hc
        · exact h1
      obtain ⟨g1, g2⟩ := h1'
      have hstep : fineA ((σ.goneArr (goneR L)).setArr d 0 (.sl e sz 1 f)) d 0 l c = (σ.goneArr (goneR L)).setArr d 0 (.sl e sz 1 (setRow f 0 l t)) := by
        unfold fineA
        rw [hd]
        simp only
        split
        · exact absurd ⟨_, _, rfl⟩ hc
        · rw [setArr_setArr, g1]
      simp only [rootsOf, hr, List.nil_append] at ha hL
      obtain ⟨k1, k2⟩ := fine_all (e := e) (sz := sz) (σ := σ) cs ts (l + 1) L (setRow f 0 l t) h2 hL ha
      refine ⟨?_, ?_⟩
      · simp only [fineOk, hstep, k1, Bool.and_true]
        cases c with
        | v t => exact g2
        | nil => rfl
        | _ => cases g2
      · simp only [fineRow, hstep, k2, setRowL, rootsOf, hr, List.nil_append]

theorem step_buildM {P : Program} {o : Oper} {σ : AS} {d : Nat} (hd : o.dst = some d) (hn : d < σ.n) {t e sz by' : Nat} {y : Operand} {cs : List C} {ts : List T} {u : V} (ho : o.op = .buildSlice t 1 [(0, y)].toArray) (ht : sliceT P t = some ⟨e, sz, by'⟩)
    (hfr : Free d σ) (hsmall : Nat.ble (1 * sz) 1024 = true) (hy : σ.ev y = ⟨true, u⟩) (hcs : u.cells = cs) (hl : cs.length = sz) (hs : ∀ c, u = .one c → solidC σ c = true) (hl2 : ts.length = sz)
    (hct : CellsT d σ cs ts) (hap : apart (rootsOf cs) = true) :
    Step P o σ (((σ.goneArr (goneR (rootsOf cs))).setArr d 0 (.sl e sz 1 (fun _ => ts))).setS d ⟨true, .one (.ref ⟨.arr d 0, []⟩)⟩) := by
  obtain ⟨k1, k2⟩ := fine_all (e := e) (sz := sz) cs ts 0 [] (fun _ => List.replicate sz .dead) hct (fun _ _ => rfl) hap
  have e0 : σ.goneArr (goneR []) = σ := goneArr_id σ
  rw [e0] at k1 k2
  have h := step_buildF hd hn ho ht hfr hsmall hy hcs hl hs k1
  rw [k2, List.append_nil] at h
  refine h.le (Le.eqvArr (.rows fun i hi => ?_))
  have : i = 0 := by omega
  subst this
  exact setRowL_all hl2

theorem CellsT.of {d : Nat} {σ τ : AS} : ∀ {cs : List C} {ts : List T}, (∀ x ∈ rootsOf cs, τ.arr x.1 x.2 = σ.arr x.1 x.2) → CellsT d σ cs ts → CellsT d τ cs ts
  | [], [], _, _ => trivial
  | [], _ :: _, _, h => h.elim
  | _ :: _, [], _, h => h.elim
  | c :: cs, t :: ts, hr, ⟨h1, h2⟩ => by
    refine ⟨?_, CellsT.of (fun x hx => hr x (by simp [rootsOf, hx])) h2⟩
    unfold CellT at h1 ⊢
    split
    · rename_i d' k'
      simp only at h1
      exact ⟨(hr (d', k') (by simp [rootsOf, rootOf])).trans h1.1, h1.2⟩
    · rename_i hc
      split at h1
      · exact absurd rfl (hc _ _)
      · exact h1
/-- a slice literal of one row, whose cells may own memory -/
theorem FRun.build {P : Program} {ops : Array Oper} {o : Oper} {rest : List Oper} {d : Nat} {A : List Nat} {rs : List DRow} {σ : AS} {K : AS → Prop} (hg : o.guard = none) (hd : o.dst = some d) (hn : d < σ.n) {t e sz by' ty : Nat} {cs : List C} {ts : List T} {u : V} (ho : o.op = .buildSlice t 1 [(0, .tmp ty)].toArray) (ht : sliceT P t = some ⟨e, sz, by'⟩)
    (hsmall : Nat.ble (1 * sz) 1024 = true) (hy : σ.s ty = ⟨true, u⟩) (hcs : u.cells = cs) (hl : cs.length = sz) (hs : ∀ c, u = .one c → keepC c = true) (hl2 : ts.length = sz)
    (hct : CellsT d σ cs ts) (hap : apart (rootsOf cs) = true) (hA : A.all (fun x => !Nat.beq d x) = true)
    (hr : FRun P ops rest rs (((σ.goneArr (goneR (rootsOf cs))).setArr d 0 (.sl e sz 1 (fun _ => ts))).setS d ⟨true, .one (.ref ⟨.arr d 0, []⟩)⟩) K) :
    FRun P ops (o :: rest) (⟨⟨.s ty :: (rootsOf cs).map (fun x => Loc.a x.1 x.2), .s d :: .a d 0 :: (rootsOf cs).map (fun x => Loc.a x.1 x.2), false⟩, some d, A⟩ :: rs) σ K := by
  have hnr : ∀ x y, (.a x y : Loc) ∈ (rootsOf cs).map (fun x => Loc.a x.1 x.2) ↔ goneR (rootsOf cs) x y = true := fun x y => by
    simp only [List.mem_map, goneR, List.any_eq_true, Bool.and_eq_true]
    constructor
    · rintro ⟨z, h1, h2⟩; simp only [Loc.a.injEq] at h2; exact ⟨z, h1, by rw [h2.1]; simp, by rw [h2.2]; simp⟩
    · rintro ⟨z, h1, h2, h3⟩; exact ⟨z, h1, by rw [Nat.eq_of_beq_eq_true h2, Nat.eq_of_beq_eq_true h3]⟩
  have hns : ∀ x, (.s x : Loc) ∉ (rootsOf cs).map (fun x => Loc.a x.1 x.2) := fun x h => by
    simp only [List.mem_map] at h; obtain ⟨z, _, h⟩ := h; cases h
  have hnb : ∀ x, (.b x : Loc) ∉ (rootsOf cs).map (fun x => Loc.a x.1 x.2) := fun x h => by
    simp only [List.mem_map] at h; obtain ⟨z, _, h⟩ := h; cases h
  refine FRun.cons (σ' := ((σ.goneArr (goneR (rootsOf cs))).setArr d 0 (.sl e sz 1 (fun _ => ts))).setS d ⟨true, .one (.ref ⟨.arr d 0, []⟩)⟩) ⟨rfl, fun l hl => ?_, fun τ k1 k2 k3 => ?_, fun x hx l hl => ?_⟩ hr
  · have hm := DOp.mem_of_false hl
    simp only [List.mem_cons, not_or] at hm
    cases l with
    | s x =>
      simp only [AS.at, setS_s]
      rw [if_neg (fun e => hm.1 (by rw [e]))]
      rfl
    | b x => rfl
    | a x y =>
      show (((σ.goneArr (goneR (rootsOf cs))).setArr d 0 (.sl e sz 1 (fun _ => ts))).arr x y) = σ.arr x y
      rw [setArr_arr, if_neg (fun e => hm.2.1 (by rw [e.1, e.2]))]
      have : goneR (rootsOf cs) x y = false := by
        cases hh : goneR (rootsOf cs) x y with
        | false => rfl
        | true => exact absurd ((hnr x y).2 hh) hm.2.2
      simp only [AS.goneArr, this]
  · have hct' : CellsT d τ cs ts := CellsT.of (fun x hx => k2 (.a x.1 x.2) (Loc.mem_iff.2 (by simp only [List.mem_cons]; exact .inr (List.mem_map.2 ⟨x, hx, rfl⟩)))) hct
    have hy' : τ.s ty = ⟨true, u⟩ := (k2 (.s ty) (Loc.mem_iff.2 (by simp))).trans hy
    have h1 := step_buildM (P := P) (o := o) hd (by rw [k1]; exact hn) ho ht (k3 d rfl) hsmall (y := .tmp ty) hy' hcs hl (fun c hc => by
      have := hs c hc
      cases c with
      | v t => exact this
      | nil => rfl
      | _ => cases this) hl2 hct' hap
    have e : AS.patch τ (((σ.goneArr (goneR (rootsOf cs))).setArr d 0 (.sl e sz 1 (fun _ => ts))).setS d ⟨true, .one (.ref ⟨.arr d 0, []⟩)⟩) (DOp.wr ⟨.s ty :: (rootsOf cs).map (fun x => Loc.a x.1 x.2), .s d :: .a d 0 :: (rootsOf cs).map (fun x => Loc.a x.1 x.2), false⟩) = (((τ.goneArr (goneR (rootsOf cs))).setArr d 0 (.sl e sz 1 (fun _ => ts))).setS d ⟨true, .one (.ref ⟨.arr d 0, []⟩)⟩) := by
      refine AS.ext_at rfl fun l => ?_
      cases hl : DOp.wr ⟨.s ty :: (rootsOf cs).map (fun x => Loc.a x.1 x.2), .s d :: .a d 0 :: (rootsOf cs).map (fun x => Loc.a x.1 x.2), false⟩ l with
      | true =>
        refine AS.at_trans (AS.patch_in hl) ?_
        have hm := Loc.mem_iff.1 hl
        simp only [List.mem_cons] at hm
        rcases hm with rfl | rfl | hm
        · simp only [AS.at, setS_s, if_true]
        · show ((σ.goneArr _).setArr d 0 _).arr d 0 = ((τ.goneArr _).setArr d 0 _).arr d 0
          rw [setArr_arr, setArr_arr, if_pos ⟨rfl, rfl⟩, if_pos ⟨rfl, rfl⟩]
        · cases l with
          | s x => exact absurd hm (hns x)
          | b x => exact absurd hm (hnb x)
          | a x y =>
            show ((σ.goneArr _).setArr d 0 _).arr x y = ((τ.goneArr _).setArr d 0 _).arr x y
            rw [setArr_arr, setArr_arr]
            split
            · rfl
            · simp only [AS.goneArr, (hnr x y).1 hm]
      | false =>
        refine AS.at_trans (AS.patch_out hl) ?_
        have hm := DOp.mem_of_false hl
        simp only [List.mem_cons, not_or] at hm
        cases l with
        | s x =>
          simp only [AS.at, setS_s]
          rw [if_neg (fun e => hm.1 (by rw [e]))]
          rfl
        | b x => rfl
        | a x y =>
          show τ.arr x y = (((τ.goneArr (goneR (rootsOf cs))).setArr d 0 (.sl e sz 1 (fun _ => ts))).arr x y)
          rw [setArr_arr, if_neg (fun e => hm.2.1 (by rw [e.1, e.2]))]
          have : goneR (rootsOf cs) x y = false := by
            cases hh : goneR (rootsOf cs) x y with
            | false => rfl
            | true => exact absurd ((hnr x y).2 hh) hm.2.2
          simp only [AS.goneArr, this]
    rw [e]
    exact .plain hg h1
  · have hdx : d ≠ x := fun e => by have := List.all_eq_true.1 hA x hx; rw [e] at this; simp at this
    have hm := Loc.mem_iff.1 hl
    simp only [List.mem_cons] at hm
    rcases hm with rfl | rfl | hm
    · simp only [freeAt, setS_s, if_true]
      simp only [V.free, V.free1, C.free, C.places, List.all_cons, List.all_nil, Bool.and_true, Root.num, beq_false hdx, Bool.not_false]
    · intro e; exact absurd e hdx
    · cases l with
      | s x => exact absurd hm (hns x)
      | b x => exact absurd hm (hnb x)
      | a y k =>
        intro e
        show (((σ.goneArr (goneR (rootsOf cs))).setArr d 0 (.sl _ sz 1 (fun _ => ts))).arr y k) = .dead
        rw [setArr_arr, if_neg (fun e' => hdx (e'.1.symm.trans e))]
        simp only [AS.goneArr, (hnr y k).1 hm]

/-! ### a nil slice in a box is an owned array without rows -/
/-! ### a state told by lists, in which a root is free -/
def freeMk (d : Nat) (sl : List (Nat × SV)) (bl : List (Nat × List C)) (al : List (Nat × Nat × T)) : Bool :=
  sl.all (fun x => x.2.v.free d) && (bl.all (fun x => x.2.all (C.free d) && (!Nat.beq x.1 d || x.2.isEmpty)) && al.all (fun x => !Nat.beq x.1 d))
theorem lookS_free {d : Nat} : ∀ {sl : List (Nat × SV)}, (∀ x ∈ sl, x.2.v.free d = true) → ∀ t, (lookS sl t).v.free d = true
  | [], _, _ => rfl
  | (k, v) :: l, h, t => by
    simp only [lookS]
    split
    · exact h (k, v) (by simp)
    · exact lookS_free (fun x hx => h x (by simp [hx])) t
theorem lookB_free {d : Nat} : ∀ {bl : List (Nat × List C)}, (∀ x ∈ bl, x.2.all (C.free d) = true ∧ (Nat.beq x.1 d = false ∨ x.2 = [])) → ∀ t, (lookB bl t).all (C.free d) = true ∧ (t = d → lookB bl t = [])
  | [], _, _ => ⟨rfl, fun _ => rfl⟩
  | (k, v) :: l, h, t => by
    simp only [lookB]
    split
    · rename_i e
      have e1 := Nat.eq_of_beq_eq_true e
      subst e1
      obtain ⟨h1, h2⟩ := h (t, v) (by simp)
      exact ⟨h1, fun e => by subst e; rcases h2 with h2 | h2; · simp at h2
                             · exact h2⟩
    · exact lookB_free (fun x hx => h x (by simp [hx])) t
theorem lookA_free {d : Nat} : ∀ {al : List (Nat × Nat × T)}, (∀ x ∈ al, Nat.beq x.1 d = false) → ∀ t k, t = d → lookA al t k = .dead
  | [], _, _, _, _ => rfl
  | (k, i, v) :: l, h, t, j, e => by
    simp only [lookA]
    split
    · rename_i e1 _
      have e2 := Nat.eq_of_beq_eq_true e1
      have := h (k, i, v) (by simp)
      simp only at this
      rw [← e2, e] at this
      simp at this
    · exact lookA_free (fun x hx => h x (by simp [hx])) t j e
theorem Free.mk' {d n : Nat} {sl : List (Nat × SV)} {bl : List (Nat × List C)} {al : List (Nat × Nat × T)} (h : freeMk d sl bl al = true) : Free d (mkAS n sl bl al) := by
  simp only [freeMk, Bool.and_eq_true, List.all_eq_true, Bool.or_eq_true, Bool.not_eq_true', List.isEmpty_iff] at h
  obtain ⟨h1, h2, h3⟩ := h
  intro l
  cases l with
  | s t => exact lookS_free h1 t
  | b t => exact lookB_free (fun x hx => ⟨List.all_eq_true.2 (h2 x hx).1, (h2 x hx).2⟩) t
  | a t k => exact lookA_free h3 t k
theorem AWp.drawM {P : Program} {Q : Exit → AS → Prop} {l : List Oper} {n : Nat} {sl : List (Nat × SV)} {bl : List (Nat × List C)} {al : List (Nat × Nat × T)} {σ : AS} {id : Nat} (rs : List DRow) (hm : P.follows .mixedOrders = true) (hok : drawOk l (rs.map DRow.d) = true) (hav : avAll rs rs (masks l []) 0 = true)
    (hl : Le σ (mkAS n sl bl al)) (h0 : rs.all (fun r => match r.fr with | none => true | some x => freeMk x sl bl al) = true) (h : FRun P l.toArray l rs (mkAS n sl bl al) (Q .normal)) : AWp P (.region id l.toArray true) Q σ :=
  AWp.le hl (AWp.drawF rs hm hok hav (fun r hr x hx => by
    have := List.all_eq_true.1 h0 r hr
    rw [hx] at this
    exact Free.mk' this) h)
end Go.Mh
