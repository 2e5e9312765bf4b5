/- Writes into the cells of owned arrays. No condition. -/
import Derived.Test.YtkmacjdigkaabaaFg
set_option linter.unusedVariables false
set_option linter.unusedSimpArgs false
set_option linter.unnecessarySimpa false
namespace Go.Mh
open Go

/-! ### a cell of an owned array is written -/
def noSl : T → Bool
  | .sl .. => false
  | _ => true

theorem Ok.place {w own v t} (h : Ok w own none v t) (ht : noSl t = true) (q : Place) : Ok w own (some q) v t := by
  cases h with
  | int k n => exact .int _ _
  | bool b => exact .bool _
  | str s hs => exact .str _ hs
  | nl => exact .nl
  | dead v => exact .dead _
  | fz h => exact .fz h
  | nil => cases ht
  | fsl => cases ht
  | emp => cases ht

theorem follow_noSl {t : T} (ht : noSl t = true) (r : List (Nat × Nat)) {e sz n f} (h : follow t r = .sl e sz n f) : False := by
  cases r with
  | nil => simp only [follow] at h; rw [h] at ht; cases ht
  | cons x r => obtain ⟨i, j⟩ := x; cases t with
    | sl => cases ht
    | _ => simp [follow] at h

/-- the shape behind a row's cell being set -/
theorem follow_setRow {f : Nat → List T} {i j : Nat} {t : T} {e sz n : Nat} {r : List (Nat × Nat)} (hr : ∀ s, r = (i, j) :: s → False) {e' sz' n' f'} (h : follow (.sl e sz n (setRow f i j t)) r = .sl e' sz' n' f') :
    ∃ g, follow (.sl e sz n f) r = .sl e' sz' n' g := by
  cases r with
  | nil => simp only [follow, T.sl.injEq] at h ⊢; obtain ⟨rfl, rfl, rfl, _⟩ := h; exact ⟨f, rfl, rfl, rfl, rfl⟩
  | cons x r =>
    obtain ⟨i', j'⟩ := x
    simp only [follow] at h ⊢
    split at h
    · rename_i hi
      rw [if_pos hi]
      have hne : ¬ (i' = i ∧ j' = j) := fun e => hr r (by rw [e.1, e.2])
      have e2 : (setRow f i j t i').getD j' .dead = (f i').getD j' .dead := by
        by_cases hk : i' = i
        · subst hk
          rw [setRow_self]
          have hj : j ≠ j' := fun e => hne ⟨rfl, e.symm⟩
          simp only [List.getD_eq_getElem?_getD, List.getElem?_set, if_neg hj]
        · rw [setRow_other _ _ _ _ hk]
      rw [e2] at h
      exact ⟨f', h⟩
    · cases h

theorem Ok.setCell {w : World} {own : Own} {p : Place} {b n cap e sz i j : Nat} {f : Nat → List T} {t : T} {v : Value} (hinj : ∀ b b' q, own b = some q → own b' = some q → b = b')
    (h : Ok w own (some p) (.slice (some ⟨b, 0, none⟩) n cap) (.sl e sz n f)) (hi : i < n) (hj : j < sz) (hv : Ok (w.setCell ⟨b, i * sz + j, none⟩ v) own (some (p.push i j)) v t) :
    Ok (w.setCell ⟨b, i * sz + j, none⟩ v) own (some p) (.slice (some ⟨b, 0, none⟩) n cap) (.sl e sz n (setRow f i j t)) := by
  cases h with
  | osl ho hh hs hn hcap hl hr =>
    rename_i c
    have hheap : ∀ k, k ≠ b → (w.setCell ⟨b, i * sz + j, none⟩ v).heap[k]? = w.heap[k]? := fun k hk => by rw [heap_setCell, if_neg hk]
    have hself : (w.setCell ⟨b, i * sz + j, none⟩ v).heap[b]? = some (.cells (c.setIfInBounds (i * sz + j) v) e (0, 0)) := by rw [heap_setCell, if_pos rfl, hh]; rfl
    have hlt : i * sz + j < c.size := hs.lt hn (mul_add_lt hi hj)
    refine .osl ho hself (by simpa using hs) hn hcap (fun k hk => by rw [setRow_len]; exact hl k hk) (fun k l hk hlz => ?_)
    rw [setRow_get _ _ _ _ _ _ (by rw [hl i hi]; exact hj)]
    by_cases hkl : k = i ∧ l = j
    · obtain ⟨rfl, rfl⟩ := hkl
      rw [if_pos ⟨rfl, rfl⟩]
      have : (c.setIfInBounds (k * sz + l) v).getD (k * sz + l) undef = v := by simp [Array.getD, hlt]
      rw [this]
      exact hv
    · rw [if_neg hkl]
      have hne : i * sz + j ≠ k * sz + l := by
        intro e1
        apply hkl
        have h1 : i = k := by
          rcases Nat.lt_trichotomy i k with h | h | h
          · have := Nat.mul_le_mul_right sz (show i + 1 ≤ k from h); rw [Nat.add_mul] at this; omega
          · exact h
          · have := Nat.mul_le_mul_right sz (show k + 1 ≤ i from h); rw [Nat.add_mul] at this; omega
        subst h1
        exact ⟨rfl, by omega⟩
      have e1 : (c.setIfInBounds (i * sz + j) v).getD (k * sz + l) undef = c.getD (k * sz + l) undef := by
        simp only [Array.getD_eq_getD_getElem?, Array.getElem?_setIfInBounds, if_neg hne]
      rw [e1]
      refine (hr k l hk hlz).moved ⟨fun x hx _ => ⟨hx, hheap x (fun e => by subst e; rw [ho] at hx; cases hx)⟩⟩ (fun x r hx => ⟨hx, hheap x (fun e => ?_)⟩)
      subst e
      rw [ho] at hx
      simp only [Option.some.injEq, Place.push] at hx
      have := congrArg (fun p : Place => p.p.length) hx
      simp at this

theorem Inv.rawA {w0 own0 σ a w own} (h : Inv w0 own0 σ a w own) {p : Place} {b e sz n i j : Nat} {f : Nat → List T} (hn : σ.node p = .sl e sz n f) (hb : own b = some p) (hi : i < n) (hj : j < sz) {v : Value} {t : T}
    (hv : Ok w own none v t) (ht : noSl t = true) :
    Inv w0 own0 (σ.updNode p (.sl e sz n (setRow f i j t))) a (w.setCell ⟨b, i * sz + j, none⟩ v) own := by
  obtain ⟨cap, hok⟩ := ptr_block h hn hb (by omega)
  have hheap : ∀ k, k ≠ b → (w.setCell ⟨b, i * sz + j, none⟩ v).heap[k]? = w.heap[k]? := fun k hk => by rw [heap_setCell, if_neg hk]
  have hf : Froz w (w.setCell ⟨b, i * sz + j, none⟩ v) own own := ⟨fun x hx _ => ⟨hx, hheap x (fun e => by subst e; rw [hb] at hx; cases hx)⟩⟩
  have key := h.upd hn (.sl e sz n (setRow f i j t)) (w' := w.setCell ⟨b, i * sz + j, none⟩ v) (own' := own) ⟨rfl, rfl, rfl, by simp [World.setCell]⟩ hf
    (fun _ _ => false) (by cases p with | mk r ps => cases r <;> rfl)
    (fun x q hx hu _ => ⟨hx, hheap x (fun e => by
      subst e; rw [hb] at hx; cases hx
      have := under_self p []
      rw [List.append_nil] at this
      rw [this] at hu; cases hu)⟩)
    (fun v0 hv0 => by
      cases hv0 with
      | nil => omega
      | osl ho hh hs hn' hcap hl hr =>
        have := h.inj _ _ _ ho hb
        subst this
        exact Ok.setCell h.inj (.osl ho hh hs hn' hcap hl hr) hi hj ((hv.frozen hf).place ht _))
    (fun _ => false) (fun q _ => by cases q with | mk r ps => cases r <;> rfl)
    (fun q _ => ⟨fun e' sz' n' f' hq => by
        by_cases hu : under p q = true
        · have hq0 : ∃ r, q = ⟨p.r, p.p ++ r⟩ := by
            simp only [under, Bool.and_eq_true] at hu
            obtain ⟨r, hr⟩ := isPre_split hu.2
            exact ⟨r, by cases q; simp_all [Root.beq_eq hu.1]⟩
          obtain ⟨r, rfl⟩ := hq0
          have h1 := updNode_at σ p _ r hn hq
          have h2 : ∃ g, follow (.sl e sz n f) r = .sl e' sz' n' g := by
            apply follow_setRow (i := i) (j := j) (t := t) _ h1
            intro s hs
            subst hs
            simp only [follow, if_pos hi] at h1
            have hjl : j < (f i).length := by cases hok with | osl _ _ _ _ _ hl _ => rw [hl i hi]; exact hj
            rw [setRow_get _ _ _ _ _ _ hjl, if_pos ⟨rfl, rfl⟩] at h1
            exact follow_noSl ht s h1
          obtain ⟨g, hg⟩ := h2
          refine ⟨g, ?_⟩
          have hnode : σ.node ⟨p.r, p.p ++ r⟩ = follow (σ.node p) r := by
            obtain ⟨rt, ps⟩ := p
            cases rt with
            | arr d k => simp only [AS.node]; exact follow_append _ _ _
            | box d =>
              cases ps with
              | nil => simp [AS.node] at hn
              | cons y ps =>
                obtain ⟨i0, j0⟩ := y
                cases i0 with
                | succ i0 => simp [AS.node] at hn
                | zero => simp only [AS.node, List.cons_append]; exact follow_append _ _ _
          rw [hnode, hn]
          exact hg
        · exact updNode_off σ p q _ (by simpa using hu) hq,
      fun d _ hd e0 => hd (by have := updNode_box_len σ p (.sl e sz n (setRow f i j t)) d; rw [e0] at this; exact List.eq_nil_of_length_eq_zero this),
      fun _ x hx => ⟨hx, fun c e1 hc => by
        by_cases hxb : x = b
        · subst hxb
          exact ⟨c.setIfInBounds (i * sz + j) v, by rw [heap_setCell, if_pos rfl, hc]; rfl, by simp⟩
        · exact ⟨c, by rw [hheap x hxb]; exact hc, rfl⟩⟩⟩)
    (fun _ => rfl) h.inj (fun x q hx => ⟨by have := (h.rng x q hx).1; simpa [World.setCell] using this, .inl (by rw [hx]; simp)⟩)
    (fun x k hx => ⟨hx, fun c e1 hc => by
        by_cases hxb : x = b
        · subst hxb
          exact ⟨c.setIfInBounds (i * sz + j) v, by rw [heap_setCell, if_pos rfl, hc]; rfl, by simp⟩
        · exact ⟨c, by rw [hheap x hxb]; exact hc, rfl⟩⟩)
  rw [mapC_id, goneArr_id] at key
  exact key

/-! ### updates twice, and looking behind them -/
theorem setRow_setRow (f : Nat → List T) (i j : Nat) (x y : T) : setRow (setRow f i j x) i j y = setRow f i j y := by
  funext k
  by_cases h : k = i
  · subst h; simp [setRow_self, List.set_set]
  · simp [setRow_other _ _ _ _ h]

/-- the path to a tree can be gone -/
inductive Goes : T → List (Nat × Nat) → Prop where
  | here (t : T) : Goes t []
  | step {e sz n : Nat} {f : Nat → List T} {i j : Nat} {ps : List (Nat × Nat)} (hi : i < n) (hj : j < (f i).length) (h : Goes ((f i).getD j .dead) ps) : Goes (.sl e sz n f) ((i, j) :: ps)

theorem goes_of_follow : ∀ (ps : List (Nat × Nat)) (t : T) {e sz n f}, follow t ps = .sl e sz n f → Goes t ps
  | [], t, _, _, _, _, _ => .here t
  | (i, j) :: ps, t, e, sz, n, f, h => by
    cases t with
    | sl e1 sz1 n1 f1 =>
      simp only [follow] at h
      split at h
      · rename_i hi
        have hj : j < (f1 i).length := by
          rcases Nat.lt_or_ge j (f1 i).length with h1 | h1
          · exact h1
          · have : (f1 i).getD j .dead = .dead := by simp [List.getD_eq_getElem?_getD, List.getElem?_eq_none h1]
            rw [this, follow_dead] at h
            cases h
        exact .step hi hj (goes_of_follow ps _ h)
      · cases h
    | _ => simp [follow] at h

theorem updT_self {t : T} {ps : List (Nat × Nat)} (h : Goes t ps) (s : T) : follow (updT t ps s) ps = s := by
  induction h with
  | here t => rfl
  | step hi hj h ih => simp only [updT, follow, if_pos hi]; rw [setRow_get _ _ _ _ _ _ hj, if_pos ⟨rfl, rfl⟩]; exact ih
theorem updT_updT {t : T} {ps : List (Nat × Nat)} (h : Goes t ps) (s s' : T) : updT (updT t ps s) ps s' = updT t ps s' := by
  induction h with
  | here t => rfl
  | step hi hj h ih => simp only [updT]; rw [setRow_get _ _ _ _ _ _ hj, if_pos ⟨rfl, rfl⟩, setRow_setRow, ih]

theorem updNode_self (σ : AS) (p : Place) (s : T) {e sz n f} (h : σ.node p = .sl e sz n f) : (σ.updNode p s).node p = s := by
  obtain ⟨r, ps⟩ := p
  cases r with
  | arr d k =>
    simp only [AS.node] at h
    simp only [AS.updNode, AS.node, setArr_arr, and_self, if_true]
    exact updT_self (goes_of_follow _ _ h) s
  | box d =>
    cases ps with
    | nil => simp [AS.node] at h
    | cons x ps =>
      obtain ⟨i, j⟩ := x
      cases i with
      | succ i => simp [AS.node] at h
      | zero =>
        simp only [AS.node] at h
        have hlt : j < (σ.box d).length := by
          rcases Nat.lt_or_ge j (σ.box d).length with h1 | h1
          · exact h1
          · rw [List.getElem?_eq_none h1] at h; simp only [cellTree, follow_dead] at h; cases h
        simp only [AS.updNode, AS.node, setBox_box, if_pos, List.getElem?_set, hlt, cellTree]
        exact updT_self (goes_of_follow _ _ h) s

theorem setArr_setArr (σ : AS) (d k : Nat) (x y : T) : (σ.setArr d k x).setArr d k y = σ.setArr d k y := by
  simp only [AS.setArr, AS.mk.injEq, true_and]
  funext t l
  cases Nat.beq t d <;> cases Nat.beq l k <;> rfl
theorem setBox_setBox (σ : AS) (d : Nat) (x y : List C) : (σ.setBox d x).setBox d y = σ.setBox d y := by
  simp only [AS.setBox, AS.mk.injEq, true_and, and_true]
  funext t
  cases Nat.beq t d <;> rfl

theorem updNode_updNode (σ : AS) (p : Place) (s s' : T) {e sz n f} (h : σ.node p = .sl e sz n f) : (σ.updNode p s).updNode p s' = σ.updNode p s' := by
  obtain ⟨r, ps⟩ := p
  cases r with
  | arr d k =>
    simp only [AS.node] at h
    simp only [AS.updNode, setArr_arr, and_self, if_true, setArr_setArr]
    rw [updT_updT (goes_of_follow _ _ h)]
  | box d =>
    cases ps with
    | nil => rfl
    | cons x ps =>
      obtain ⟨i, j⟩ := x
      cases i with
      | succ i => rfl
      | zero =>
        simp only [AS.node] at h
        have hlt : j < (σ.box d).length := by
          rcases Nat.lt_or_ge j (σ.box d).length with h1 | h1
          · exact h1
          · rw [List.getElem?_eq_none h1] at h; simp only [cellTree, follow_dead] at h; cases h
        have := updT_updT (goes_of_follow _ _ h) s s'
        simp only [AS.updNode, setBox_box, if_pos, List.getElem?_set, hlt, setBox_setBox, List.set_set]
        simp only [cellTree] at this ⊢
        rw [this]

/-! ### the tree of a root of its own moves into a cell of an array -/
def isRoot (d' k' : Nat) : Nat → Nat → Bool := fun d k => Nat.beq d d' && Nat.beq k k'
def AS.moveA (σ : AS) (p : Place) (i j d' k' : Nat) : AS :=
  match σ.node p with
  | .sl e sz n f => ((σ.updNode p (.sl e sz n (setRow f i j (σ.arr d' k')))).mapC (badMove d' k' (p.push i j))).goneArr (isRoot d' k')
  | _ => σ

theorem node_append (σ : AS) (p : Place) (r : List (Nat × Nat)) {e sz n f} (h : σ.node p = .sl e sz n f) : σ.node ⟨p.r, p.p ++ r⟩ = follow (.sl e sz n f) r := by
  obtain ⟨rt, ps⟩ := p
  cases rt with
  | arr d k => simp only [AS.node] at h ⊢; rw [follow_append, h]
  | box d =>
    cases ps with
    | nil => simp [AS.node] at h
    | cons y ps =>
      obtain ⟨i0, j0⟩ := y
      cases i0 with
      | succ i0 => simp [AS.node] at h
      | zero => simp only [AS.node, List.cons_append] at h ⊢; rw [follow_append, h]

theorem under_split {q p : Place} (h : under q p = true) : ∃ s, p = ⟨q.r, q.p ++ s⟩ := by
  simp only [under, Bool.and_eq_true] at h
  obtain ⟨r, hr⟩ := isPre_split h.2
  exact ⟨r, by cases p; simp_all [Root.beq_eq h.1]⟩

theorem isRoot_false {d' k' d k : Nat} (h : Root.arr d k ≠ .arr d' k') : isRoot d' k' d k = false := by
  simp only [isRoot]
  by_cases h1 : d = d'
  · subst h1
    have : k ≠ k' := fun e => h (by rw [e])
    simp [beq_false this]
  · simp [beq_false h1]
theorem goneP_root {d' k' : Nat} {q : Place} (h : q.r ≠ .arr d' k') : goneP (isRoot d' k') q = false := by
  obtain ⟨r, ps⟩ := q
  cases r with
  | arr d k => exact isRoot_false h
  | box d => rfl

theorem Inv.moveA {w0 own0 σ a w own} (h : Inv w0 own0 σ a w own) {p : Place} {b e sz n i j d' k' : Nat} {f : Nat → List T} (hn : σ.node p = .sl e sz n f) (hb : own b = some p) (hi : i < n) (hj : j < sz)
    (hr : p.r ≠ .arr d' k') {v : Value} (hcell : w.cell? ⟨b, i * sz + j, none⟩ = some v) (hc : OkC w own σ v (.ref ⟨.arr d' k', []⟩)) {e1 sz1 n1 : Nat} {f1 : Nat → List T} (ht : σ.arr d' k' = .sl e1 sz1 n1 f1) (hdr : d' ≠ RR) :
    Inv w0 own0 (σ.moveA p i j d' k') a w (reOwn own (.arr d' k') (p.push i j)) := by
  let q := p.push i j
  let src : Root := .arr d' k'
  have hf := reOwn_froz w own src q
  have hsub : Ok w own (some ⟨.arr d' k', []⟩) v (.sl e1 sz1 n1 f1) := h.ref hc (by simp only [AS.node, follow, ht])
  have hms : Moved w w own (reOwn own src q) ⟨.arr d' k', []⟩ q := fun b s hb => ⟨reOwn_src (by simpa using hb), rfl⟩
  have hup : ∀ x r, own x = some ⟨p.r, r⟩ → under q ⟨p.r, r⟩ = false → reOwn own src q x = some ⟨p.r, r⟩ := fun x r hx hu => reOwn_keep hx hr hu
  have hqp : ∀ x, own x = some p → reOwn own src q x = some p := fun x hx => reOwn_keep hx hr (by
    cases hu : under q p with
    | false => rfl
    | true =>
      obtain ⟨s, hs⟩ := under_split hu
      have := congrArg (fun p : Place => p.p.length) hs
      simp [q, Place.push] at this)
  unfold AS.moveA
  rw [hn]
  simp only [ht]
  refine h.upd hn _ (w' := w) (own' := reOwn own src q) ⟨rfl, rfl, rfl, Nat.le_refl _⟩ hf (isRoot d' k') (goneP_root hr) ?_ ?_ (badMove d' k' q) ?_ ?_ (fun k => isRoot_false (fun e => by simp only [Root.arr.injEq] at e; rw [← e.1, h.noff] at ht; cases ht)) (reOwn_inj h.inj _ _) ?_
    (Kept.of fun x k hx => ⟨reOwn_keep hx (by simp [src]; intro e; exact absurd e.symm hdr) (by
      cases hu : under q ⟨.arr RR k, []⟩ with
      | false => rfl
      | true =>
        obtain ⟨s, hs⟩ := under_split hu
        have := congrArg (fun p : Place => p.p.length) hs
        simp [q, Place.push] at this), rfl⟩)
  · intro x y hx hu hg
    refine ⟨reOwn_keep hx (fun e => ?_) ?_, rfl⟩
    · obtain ⟨r, ps⟩ := y
      simp only [src] at e
      subst e
      simp [goneP, isRoot] at hg
    · cases hu' : under q y with
      | false => rfl
      | true =>
        obtain ⟨s, rfl⟩ := under_split hu'
        have := under_self p ([(i, j)] ++ s)
        simp only [q, Place.push, List.append_assoc] at hu
        rw [this] at hu
        cases hu
  · intro v0 hv0
    cases hv0 with
    | nil => omega
    | osl ho hh hs hn' hcap hl hr' =>
      rename_i bb cap c
      have := h.inj _ _ _ ho hb
      subst this
      have hlt : i * sz + j < c.size := hs.lt hn' (mul_add_lt hi hj)
      have hvc : c.getD (i * sz + j) undef = v := by
        simp only [World.cell?, hh] at hcell
        simp [Array.getD, hlt] at hcell ⊢
        exact hcell
      refine .osl (hqp _ ho) hh hs hn' hcap (fun k hk => by rw [setRow_len]; exact hl k hk) (fun k l hk hlz => ?_)
      rw [setRow_get _ _ _ _ _ _ (by rw [hl i hi]; exact hj)]
      by_cases hkl : k = i ∧ l = j
      · obtain ⟨rfl, rfl⟩ := hkl
        rw [if_pos ⟨rfl, rfl⟩, hvc]
        exact hsub.moved hf hms
      · rw [if_neg hkl]
        refine (hr' k l hk hlz).moved hf (fun x r hx => ⟨?_, rfl⟩)
        simp only [Place.push, List.append_assoc] at hx ⊢
        refine hup x _ hx ?_
        simp only [under, q, Place.push, Root.beq_refl, Bool.true_and]
        cases hpre : isPre (p.p ++ [(i, j)]) (p.p ++ ([(k, l)] ++ r)) with
        | false => rfl
        | true =>
          obtain ⟨s, hs'⟩ := isPre_split hpre
          rw [List.append_assoc, List.append_cancel_left_eq] at hs'
          simp only [List.cons_append, List.nil_append, List.cons.injEq, Prod.mk.injEq] at hs'
          exact absurd hs'.1 hkl
  · intro y hy
    exact goneP_root (badMove_false hy).1
  · intro y hy
    obtain ⟨h1, h2⟩ := badMove_false hy
    refine ⟨fun e' sz' n' f' hq => ?_, fun d _ hd e0 => hd (by have := updNode_box_len σ p (.sl e sz n (setRow f i j (.sl e1 sz1 n1 f1))) d; rw [e0] at this; exact List.eq_nil_of_length_eq_zero this),
      fun _ x hx => ⟨reOwn_keep hx h1 (not_under h2), fun c e hc => ⟨c, hc, rfl⟩⟩⟩
    by_cases hu : under p y = true
    · obtain ⟨r, rfl⟩ := under_split hu
      have h3 := updNode_at σ p _ r hn hq
      rw [node_append σ p r hn]
      apply follow_setRow _ h3
      intro s hs
      subst hs
      have := not_under h2
      rw [show (⟨p.r, p.p ++ (i, j) :: s⟩ : Place) = ⟨(p.push i j).r, (p.push i j).p ++ s⟩ from by simp [Place.push], under_self] at this
      cases this
    · exact updNode_off σ p y _ (by simpa using hu) hq
  · intro x y hx
    rcases reOwn_some hx with ⟨s, h1, _⟩ | ⟨h1, _, _⟩
    · exact ⟨(h.rng x _ h1).1, .inl (by rw [h1]; simp)⟩
    · exact ⟨(h.rng x _ h1).1, .inl (by rw [h1]; simp)⟩

end Go.Mh
