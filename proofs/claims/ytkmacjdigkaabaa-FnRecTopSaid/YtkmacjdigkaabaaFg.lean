/- A tree within a tree is replaced. No condition. -/
import Derived.Test.YtkmacjdigkaabaaFf
set_option linter.unusedVariables false
set_option linter.unusedSimpArgs false
set_option linter.unnecessarySimpa false
namespace Go.Mh
open Go

/-! ### a tree within a tree is replaced -/
def setRow (f : Nat → List T) (i j : Nat) (t : T) : Nat → List T := fun k => match Nat.beq k i with | true => (f i).set j t | false => f k

def updT : T → List (Nat × Nat) → T → T
  | _, [], s => s
  | .sl e sz n f, (i, j) :: ps, s => .sl e sz n (setRow f i j (updT ((f i).getD j .dead) ps s))
  | t, _ :: _, _ => t

theorem setRow_self (f : Nat → List T) (i j : Nat) (t : T) : setRow f i j t i = (f i).set j t := by simp [setRow]
theorem setRow_other (f : Nat → List T) (i j : Nat) (t : T) {k : Nat} (h : k ≠ i) : setRow f i j t k = f k := by simp only [setRow, beq_false h]
theorem setRow_len (f : Nat → List T) (i j : Nat) (t : T) (k : Nat) : (setRow f i j t k).length = (f k).length := by
  by_cases h : k = i
  · subst h; simp [setRow_self]
  · rw [setRow_other f i j t h]
theorem setRow_get (f : Nat → List T) (i j : Nat) (t : T) (k l : Nat) (hl : j < (f i).length) : (setRow f i j t k).getD l .dead = if k = i ∧ l = j then t else (f k).getD l .dead := by
  by_cases h : k = i
  · subst h
    rw [setRow_self]
    by_cases h2 : l = j
    · subst h2; simp [List.getD_eq_getElem?_getD, hl]
    · rw [if_neg (fun e => h2 e.2)]
      simp only [List.getD_eq_getElem?_getD, List.getElem?_set, if_neg (fun e => h2 e.symm : ¬ j = l)]
  · rw [setRow_other f i j t h, if_neg (fun e => h e.1)]

theorem follow_dead (ps : List (Nat × Nat)) : follow .dead ps = .dead := by cases ps <;> rfl

theorem updT_ok {w w' : World} {own own' : Own} (hf : Froz w w' own own') : ∀ (ps : List (Nat × Nat)) (p : Place) (v : Value) (t s : T) {e sz n : Nat} {f : Nat → List T}, Ok w own (some p) v t → follow t ps = .sl e sz n f →
    (∀ b r, own b = some ⟨p.r, p.p ++ r⟩ → isPre ps r = false → own' b = some ⟨p.r, p.p ++ r⟩ ∧ w'.heap[b]? = w.heap[b]?) →
    (∀ v', Ok w own (some ⟨p.r, p.p ++ ps⟩) v' (.sl e sz n f) → Ok w' own' (some ⟨p.r, p.p ++ ps⟩) v' s) → Ok w' own' (some p) v (updT t ps s)
  | [], p, v, t, s, e, sz, n, f, h, hfo, hout, hin => by
    simp only [follow] at hfo
    subst hfo
    have := hin v (by simpa using h)
    simpa [updT] using this
  | (i, j) :: ps, p, v, t, s, e, sz, n, f, h, hfo, hout, hin => by
    cases t with
    | sl e' sz' n' f' =>
      simp only [follow] at hfo
      split at hfo
      · rename_i hi
        cases h with
        | nil => omega
        | osl ho hh hs hn hcap hl hr =>
          have hj : j < sz' := by
            rcases Nat.lt_or_ge j sz' with h | h
            · exact h
            · have : (f' i).getD j .dead = .dead := by simp [List.getD_eq_getElem?_getD, List.getElem?_eq_none (by rw [hl i hi]; exact h)]
              rw [this, follow_dead] at hfo
              cases hfo
          obtain ⟨ho', hh'⟩ := hout _ [] (by simpa using ho) rfl
          simp only [List.append_nil] at ho'
          refine .osl ho' (hh'.trans hh) hs hn hcap (fun k hk => by rw [setRow_len]; exact hl k hk) (fun k l hk hlz => ?_)
          rw [setRow_get _ _ _ _ _ _ (by rw [hl i hi]; exact hj)]
          split
          · rename_i e1
            obtain ⟨rfl, rfl⟩ := e1
            refine updT_ok hf ps (p.push k l) _ _ s (hr k l hk hlz) hfo (fun b r hb hpre => ?_) (fun v' hv' => ?_)
            · simp only [Place.push, List.append_assoc, List.singleton_append] at hb ⊢
              exact hout b _ hb (by simpa [isPre] using hpre)
            · simp only [Place.push, List.append_assoc, List.singleton_append] at hv' ⊢
              exact hin v' hv'
          · rename_i e1
            refine (hr k l hk hlz).moved hf (fun b r hb => ?_)
            simp only [Place.push, List.append_assoc, List.singleton_append] at hb ⊢
            refine hout b _ hb ?_
            simp only [isPre]
            by_cases hki : i = k
            · subst hki
              have : l ≠ j := fun e => e1 ⟨rfl, e⟩
              simp [beq_false (fun e => this e.symm)]
            · simp [beq_false hki]
      · cases hfo
    | _ => simp [follow] at hfo

def AS.updNode (σ : AS) (p : Place) (s : T) : AS :=
  match p with
  | ⟨.arr d k, ps⟩ => σ.setArr d k (updT (σ.arr d k) ps s)
  | ⟨.box d, (0, j) :: ps⟩ => σ.setBox d ((σ.box d).set j (.own (updT (cellTree (σ.box d)[j]?) ps s)))
  | ⟨.box _, _⟩ => σ

/-- follow behind an update, off its way: the shape is as it was -/
theorem follow_updT_off : ∀ (ps : List (Nat × Nat)) (t s : T) (q : List (Nat × Nat)), isPre ps q = false → ∀ {e sz n f}, follow (updT t ps s) q = .sl e sz n f → ∃ g, follow t q = .sl e sz n g
  | [], t, s, q, h, e, sz, n, f, hf => by simp [isPre] at h
  | (i, j) :: ps, t, s, [], h, e, sz, n, f, hf => by
    cases t with
    | sl e' sz' n' f' => simp only [updT, follow, T.sl.injEq] at hf ⊢; obtain ⟨rfl, rfl, rfl, _⟩ := hf; exact ⟨f', rfl, rfl, rfl, rfl⟩
    | _ => simp [updT, follow] at hf
  | (i, j) :: ps, t, s, (i', j') :: q, h, e, sz, n, f, hf => by
    cases t with
    | sl e' sz' n' f' =>
      simp only [updT, follow] at hf ⊢
      split at hf
      · rename_i hi
        rw [if_pos hi]
        by_cases hj : j < (f' i).length
        · rw [setRow_get _ _ _ _ _ _ hj] at hf
          split at hf
          · rename_i e1
            obtain ⟨rfl, rfl⟩ := e1
            exact follow_updT_off ps _ s q (by simpa [isPre] using h) hf
          · exact ⟨f, hf⟩
        · have e2 : (setRow f' i j (updT ((f' i).getD j .dead) ps s) i').getD j' .dead = (f' i').getD j' .dead := by
            by_cases hk : i' = i
            · subst hk; rw [setRow_self, List.set_eq_of_length_le (by omega)]
            · rw [setRow_other _ _ _ _ hk]
          rw [e2] at hf
          exact ⟨f, hf⟩
      · cases hf
    | _ => simp [updT, follow] at hf

theorem follow_updT_at : ∀ (ps : List (Nat × Nat)) (t s : T) (r : List (Nat × Nat)) {e sz n f}, (∀ i j, (i,j) ∈ ps → True) → follow t ps = .sl e sz n f → (∀ {e' sz' n' f'}, follow (updT t ps s) (ps ++ r) = .sl e' sz' n' f' → follow s r = .sl e' sz' n' f')
  | [], t, s, r, e, sz, n, f, _, hf, e', sz', n', f', h => by simpa [updT] using h
  | (i, j) :: ps, t, s, r, e, sz, n, f, _, hf, e', sz', n', f', h => by
    cases t with
    | sl e1 sz1 n1 f1 =>
      simp only [List.cons_append, updT, follow] at h hf
      split at hf
      · rename_i hi
        rw [if_pos hi] at h
        by_cases hj : j < (f1 i).length
        · rw [setRow_get _ _ _ _ _ _ hj, if_pos ⟨rfl, rfl⟩] at h
          exact follow_updT_at ps _ s r (fun _ _ _ => trivial) hf h
        · have : (f1 i).getD j .dead = .dead := by simp [List.getD_eq_getElem?_getD, List.getElem?_eq_none (Nat.le_of_not_lt hj)]
          rw [this, follow_dead] at hf
          cases hf
      · cases hf
    | _ => simp [follow] at hf

theorem updNode_off (σ : AS) (p q : Place) (s : T) (h : under p q = false) {e sz n f} (hn : (σ.updNode p s).node q = .sl e sz n f) : ∃ g, σ.node q = .sl e sz n g := by
  obtain ⟨r, ps⟩ := p
  cases r with
  | arr d k =>
    simp only [AS.updNode] at hn
    by_cases hr : q.r = .arr d k
    · obtain ⟨r, qs⟩ := q
      simp only at hr
      subst hr
      simp only [AS.node, setArr_arr, and_self, if_true] at hn ⊢
      exact follow_updT_off ps _ s qs (by simpa [under, Root.beq_refl] using h) hn
    · rw [setArr_node _ _ _ _ _ hr] at hn
      exact ⟨f, hn⟩
  | box d =>
    cases ps with
    | nil => exact ⟨f, hn⟩
    | cons x ps =>
      obtain ⟨i, j⟩ := x
      cases i with
      | succ i => exact ⟨f, hn⟩
      | zero =>
        simp only [AS.updNode] at hn
        by_cases hr : q.r = .box d
        · obtain ⟨r, qs⟩ := q
          simp only at hr
          subst hr
          cases qs with
          | nil => simp [AS.node] at hn
          | cons y qs =>
            obtain ⟨i', j'⟩ := y
            cases i' with
            | succ i' => simp [AS.node] at hn
            | zero =>
              simp only [AS.node, setBox_box, if_pos, List.getElem?_set] at hn ⊢
              split at hn
              · rename_i e1
                subst e1
                split at hn
                · simp only [cellTree] at hn
                  exact follow_updT_off ps _ s qs (by simpa [under, Root.beq_refl, isPre] using h) hn
                · rw [List.getElem?_eq_none (by omega)]; simp only [cellTree] at hn ⊢; exact ⟨f, hn⟩
              · exact ⟨f, hn⟩
        · rw [setBox_node _ _ _ _ hr] at hn
          exact ⟨f, hn⟩

theorem updNode_at (σ : AS) (p : Place) (s : T) (r : List (Nat × Nat)) {e sz n f} (hp : σ.node p = .sl e sz n f) {e' sz' n' f'} (hn : (σ.updNode p s).node ⟨p.r, p.p ++ r⟩ = .sl e' sz' n' f') : follow s r = .sl e' sz' n' f' := by
  obtain ⟨rt, ps⟩ := p
  cases rt with
  | arr d k =>
    simp only [AS.updNode, AS.node, setArr_arr, and_self, if_true] at hn hp
    exact follow_updT_at ps _ s r (fun _ _ _ => trivial) hp hn
  | box d =>
    cases ps with
    | nil => simp [AS.node] at hp
    | cons x ps =>
      obtain ⟨i, j⟩ := x
      cases i with
      | succ i => simp [AS.node] at hp
      | zero =>
        simp only [AS.updNode, AS.node, List.cons_append, setBox_box, if_pos, List.getElem?_set] at hn hp
        split at hn
        · simp only [cellTree] at hn
          exact follow_updT_at ps _ s r (fun _ _ _ => trivial) hp hn
        · rw [List.getElem?_eq_none (by omega)] at hp
          simp only [cellTree, follow_dead] at hp
          cases hp

theorem C.clr_id (c : C) : c.clr (fun _ => false) = c := by
  cases c with
  | fn f ds =>
    have : ds.any (fun _ => false) = false := by simp
    simp only [C.clr, this]
  | _ => rfl
theorem V.clr1_id (u : V) : u.clr1 (fun _ => false) = u := by
  cases u with
  | one c => simp only [V.clr1, C.clr_id]
  | agg cs => simp only [V.clr1]; congr 1; exact (List.map_congr_left fun c _ => C.clr_id c).trans (List.map_id _)
  | _ => rfl
theorem SV.clr_id (x : SV) : x.clr (fun _ => false) = x := by
  obtain ⟨c, u⟩ := x
  simp only [SV.clr, SV.mk.injEq, true_and]
  cases u with
  | tup vs => simp only [V.clr]; congr 1; exact (List.map_congr_left fun c _ => V.clr1_id c).trans (List.map_id _)
  | one c => exact V.clr1_id (.one c)
  | agg c => exact V.clr1_id (.agg c)
  | any => rfl
theorem mapC_id (σ : AS) : σ.mapC (fun _ => false) = σ := by
  obtain ⟨n, s, b, r⟩ := σ
  simp only [AS.mapC, AS.mk.injEq, true_and]
  refine ⟨funext fun t => SV.clr_id _, funext fun t => ?_, trivial⟩
  exact (List.map_congr_left fun c _ => C.clr_id c).trans (List.map_id _)

theorem updNode_box_len (σ : AS) (p : Place) (s : T) (t : Nat) : ((σ.updNode p s).box t).length = (σ.box t).length := by
  obtain ⟨r, ps⟩ := p
  cases r with
  | arr d k => rfl
  | box d =>
    cases ps with
    | nil => rfl
    | cons x ps =>
      obtain ⟨i, j⟩ := x
      cases i with
      | succ i => rfl
      | zero =>
        simp only [AS.updNode, setBox_box]
        split
        · rename_i e; subst e; simp
        · rfl

/-- roots that are no more -/
def AS.goneArr (σ : AS) (g : Nat → Nat → Bool) : AS := { σ with arr := fun d k => match g d k with | true => .dead | false => σ.arr d k }
theorem goneArr_id (σ : AS) : σ.goneArr (fun _ _ => false) = σ := rfl
def goneP (g : Nat → Nat → Bool) : Place → Bool
  | ⟨.arr d k, _⟩ => g d k
  | _ => false
theorem goneArr_node (σ : AS) (g : Nat → Nat → Bool) (q : Place) (h : goneP g q = false) : (σ.goneArr g).node q = σ.node q := by
  obtain ⟨r, ps⟩ := q
  cases r with
  | arr d k => simp only [goneP] at h; simp only [AS.node, AS.goneArr, h]
  | box d => cases ps with
    | nil => rfl
    | cons x ps => obtain ⟨i, j⟩ := x; cases i <;> rfl

/-- the tree at a place changes, and with it the blocks below it -/
theorem Inv.upd {w0 own0 σ a w own} (h : Inv w0 own0 σ a w own) {p : Place} {e sz n : Nat} {f : Nat → List T} (hn : σ.node p = .sl e sz n f) (s : T) {w' : World} {own' : Own} (hw : SameW w w') (hf : Froz w w' own own')
    (g : Nat → Nat → Bool) (hpg : goneP g p = false) (hout : ∀ b q, own b = some q → under p q = false → goneP g q = false → own' b = some q ∧ w'.heap[b]? = w.heap[b]?)
    (hin : ∀ v, Ok w own (some p) v (.sl e sz n f) → Ok w' own' (some p) v s) (bad : Place → Bool)
    (hbg : ∀ q, bad q = false → goneP g q = false) (hk : ∀ q, bad q = false → KeepP w w' own own' σ (σ.updNode p s) q)
    (hgf : ∀ k, g FF k = false) (inj : ∀ b b' q, own' b = some q → own' b' = some q → b = b') (rng : ∀ b q, own' b = some q → b < w'.heap.size ∧ (own b ≠ none ∨ w.heap.size ≤ b)) (hkp : Kept w w' own own') :
    Inv w0 own0 (((σ.updNode p s).mapC bad).goneArr g) a w' own' := by
  have hk' : ∀ q, bad q = false → KeepP w w' own own' σ (((σ.updNode p s).mapC bad).goneArr g) q := by
    intro q hq
    have := hk q hq
    refine ⟨fun e sz n f hnn => this.nd e sz n f (by rw [← mapC_node (σ.updNode p s) bad, ← goneArr_node _ g q (hbg q hq)]; exact hnn), fun d hd hb => this.bx d hd (fun e0 => hb ?_), fun ha => this.ow (by
      rcases ha with ⟨e, sz, n, f, h⟩ | ⟨d, rfl, hb⟩
      · exact .inl ⟨e, sz, n, f, by rw [← mapC_node (σ.updNode p s) bad, ← goneArr_node _ g q (hbg q hq)]; exact h⟩
      · exact .inr ⟨d, rfl, fun e0 => hb (by simp [AS.mapC, AS.goneArr, e0])⟩)⟩
    simp [AS.mapC, AS.goneArr, e0]
  -- a place off the way keeps its tree
  have hoff : ∀ q : Place, (∀ r, under p ⟨q.r, q.p ++ r⟩ = false) → (∀ r, goneP g ⟨q.r, r⟩ = false) → Moved w w' own own' q q := fun q hq hq' b r hb => hout b _ hb (hq r) (hq' _)
  have hpf : ∀ k, p.r ≠ .arr FF k := fun k e => by
    obtain ⟨r, ps⟩ := p
    simp only at e
    subst e
    simp only [AS.node, h.noff, follow_dead] at hn
    cases hn
  refine h.trans hw (fun b hb hlt => (hf.h b hb hlt).2) (fun b hb => hout b _ hb (by simp [under, FP, beq_root_false (hpf b)]) (hgf b)) (fun k => ?_) inj rng ?_ (fun t ht => ?_) ?_ ?_ hkp
  · have e0 : (((σ.updNode p s).mapC bad).goneArr g).arr FF k = σ.arr FF k := by
      simp only [AS.goneArr, hgf]
      obtain ⟨r, ps⟩ := p
      cases r with
      | arr d l =>
        simp only [AS.mapC, AS.updNode, setArr_arr]
        rw [if_neg]
        rintro ⟨rfl, rfl⟩
        exact hpf _ rfl
      | box d => cases ps with
        | nil => rfl
        | cons x ps => obtain ⟨i, j⟩ := x; cases i <;> rfl
    rw [e0]; exact h.noff k
  · obtain ⟨r, ps⟩ := p
    cases r with
    | arr d k => rfl
    | box d => cases ps with
      | nil => rfl
      | cons x ps => obtain ⟨i, j⟩ := x; cases i <;> rfl
  · have e0 : (((σ.updNode p s).mapC bad).goneArr g).s t = (σ.s t).clr bad := by
      obtain ⟨r, ps⟩ := p
      cases r with
      | arr d k => rfl
      | box d => cases ps with
        | nil => rfl
        | cons x ps => obtain ⟨i, j⟩ := x; cases i <;> rfl
    rw [e0]
    exact ht.clr hf _ hk'
  · intro t ht
    have hne : σ.box t ≠ [] := by
      intro h0
      apply ht
      have := updNode_box_len σ p s t
      rw [h0] at this
      simp [AS.mapC, AS.goneArr, List.eq_nil_of_length_eq_zero this]
    obtain ⟨b, c, e', h1, h2, h3, h4⟩ := h.boxes t hne
    have hb0 : under p ⟨.box t, []⟩ = false := by
      obtain ⟨r, ps⟩ := p
      cases ps with
      | nil => cases r with
        | arr d k => simp [under, Root.beq]
        | box d => simp [AS.node] at hn
      | cons x ps => simp [under, isPre]
    obtain ⟨ho', hh'⟩ := hout b _ h1 hb0 rfl
    refine ⟨b, c, e', ho', hh'.trans h2, ?_, fun i x hx => ?_⟩
    · rw [h3]; simp [AS.mapC, AS.goneArr, updNode_box_len]
    · simp only [AS.mapC, AS.goneArr, List.getElem?_map, Option.map_eq_some_iff] at hx
      obtain ⟨x0, hx0, rfl⟩ := hx
      -- is it the cell on the way?
      by_cases hway : p.r = .box t ∧ ∃ ps, p.p = (0, i) :: ps
      · obtain ⟨hr, ps, hps⟩ := hway
        obtain ⟨r, pp⟩ := p
        simp only at hr hps
        subst hr hps
        have hil : i < (σ.box t).length := by
          have := (List.getElem?_eq_some_iff.1 hx0).1
          rw [updNode_box_len] at this
          exact this
        simp only [AS.updNode, setBox_box, if_pos, List.getElem?_set, hil] at hx0
        cases hx0
        simp only [AS.node] at hn
        cases hc : (σ.box t)[i]? with
        | none => rw [hc] at hn; simp only [cellTree, follow_dead] at hn; cases hn
        | some c0 =>
          rw [hc] at hn
          cases c0 with
          | own t0 =>
            simp only [cellTree] at hn ⊢
            have hcell := h4 i _ hc
            exact updT_ok hf ps ⟨.box t, [(0, i)]⟩ _ t0 s hcell hn (fun b r hb hpre => hout b _ hb (by simpa [under, Root.beq_refl, isPre] using hpre) rfl) (fun v' hv' => hin v' hv')
          | _ => simp only [cellTree, follow_dead] at hn; cases hn
      · have e1 : (σ.updNode p s).box t = σ.box t ∨ (∃ d j ps, p = ⟨.box d, (0, j) :: ps⟩ ∧ d = t ∧ j ≠ i) := by
          obtain ⟨r, ps⟩ := p
          cases r with
          | arr d k => exact .inl rfl
          | box d =>
            cases ps with
            | nil => exact .inl rfl
            | cons y ps =>
              obtain ⟨i0, j⟩ := y
              cases i0 with
              | succ i0 => exact .inl rfl
              | zero =>
                by_cases hd : t = d
                · subst hd
                  refine .inr ⟨t, j, ps, rfl, rfl, fun e => hway ⟨rfl, ps, by rw [e]⟩⟩
                · left
                  simp only [AS.updNode, setBox_box, if_neg hd]
        have hx1 : (σ.box t)[i]? = some x0 := by
          rcases e1 with e1 | ⟨d, j, ps, rfl, rfl, hj⟩
          · rw [← e1]; exact hx0
          · simp only [AS.updNode, setBox_box, if_pos, List.getElem?_set, if_neg hj] at hx0
            exact hx0
        refine (h4 i x0 hx1).clr hf _ hk' (hoff _ (fun r => ?_) (fun _ => rfl))
        -- off the way
        cases hu : under p ⟨.box t, [(0, i)] ++ r⟩ with
        | false => rfl
        | true =>
          exfalso
          simp only [under, Bool.and_eq_true] at hu
          have hr := Root.beq_eq hu.1
          obtain ⟨rt, ps⟩ := p
          simp only at hr
          subst hr
          cases ps with
          | nil => simp [AS.node] at hn
          | cons y ps =>
            obtain ⟨i0, j⟩ := y
            cases i0 with
            | succ i0 => simp [AS.node] at hn
            | zero =>
              simp only [List.singleton_append, isPre, Bool.and_eq_true] at hu
              have := Nat.eq_of_beq_eq_true hu.2.2.1
              exact hway ⟨rfl, ps, by rw [this]⟩
  · intro t k e' sz' n' f' ht
    have hg : g t k = false := by
      cases hg : g t k with
      | false => rfl
      | true => simp [AS.goneArr, hg] at ht
    simp only [AS.goneArr, hg] at ht
    by_cases hr : p.r = .arr t k
    · obtain ⟨r, ps⟩ := p
      simp only at hr
      subst hr
      simp only [AS.mapC, AS.updNode, setArr_arr, and_self, if_true] at ht
      simp only [AS.node] at hn
      have : ∃ e1 sz1 n1 f1, σ.arr t k = .sl e1 sz1 n1 f1 := by
        cases ht0 : σ.arr t k with
        | sl e1 sz1 n1 f1 => exact ⟨e1, sz1, n1, f1, rfl⟩
        | _ => rw [ht0] at hn; cases ps <;> simp [follow] at hn
      obtain ⟨e1, sz1, n1, f1, ht0⟩ := this
      obtain ⟨v, hv⟩ := h.arrs t k _ _ _ _ ht0
      have := updT_ok hf ps ⟨.arr t k, []⟩ v (σ.arr t k) s (by rw [ht0]; exact hv) hn (fun b r hb hpre => hout b _ hb (by simpa [under, Root.beq_refl] using hpre) (by simpa [goneP] using hg)) (fun v' hv' => hin v' hv')
      rw [ht] at this
      exact ⟨v, this⟩
    · have e0 : ((σ.updNode p s).mapC bad).arr t k = σ.arr t k := by
        obtain ⟨r, ps⟩ := p
        cases r with
        | arr d l =>
          simp only [AS.mapC, AS.updNode, setArr_arr]
          rw [if_neg]
          rintro ⟨rfl, rfl⟩
          exact hr rfl
        | box d => cases ps with
          | nil => rfl
          | cons x ps => obtain ⟨i, j⟩ := x; cases i <;> rfl
      rw [e0] at ht
      obtain ⟨v, hv⟩ := h.arrs t k _ _ _ _ ht
      exact ⟨v, hv.moved hf (hoff _ (fun r => by simp [under, beq_root_false hr]) (fun _ => by simpa [goneP] using hg))⟩

end Go.Mh
