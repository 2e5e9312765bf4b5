/- Contracts of functions of the program, each met by its body; conditions stand in each statement. No condition. -/
import Derived.Test.YtkmacjdigkaabaaHc
set_option linter.unusedVariables false
set_option linter.unusedSimpArgs false
set_option linter.unnecessarySimpa false
namespace Go.Mh
open Go

/-! ### functions that are lent one row by a pointer, and write into it -/
def setBlk (w : World) (b : Nat) (o : Obj) : World := { w with heap := w.heap.setIfInBounds b o }
theorem setBlk_size (w : World) (b : Nat) (o : Obj) : (setBlk w b o).heap.size = w.heap.size := by simp [setBlk]
theorem setBlk_self {w : World} {b : Nat} {o : Obj} (h : b < w.heap.size) : (setBlk w b o).heap[b]? = some o := by simp [setBlk, h]
theorem setBlk_other {w : World} {b b' : Nat} {o : Obj} (h : b' ≠ b) : (setBlk w b o).heap[b']? = w.heap[b']? := by
  simp only [setBlk, Array.getElem?_setIfInBounds, if_neg (Ne.symm h)]
def ptT (e : Nat) (r : List T) : T := .sl e r.length 1 (fun _ => r)
def RR0 : Place := ⟨.arr RR 0, []⟩
def ownL (w : World) (F : Nat → Bool) (b0 : Nat) : Own := fun b => if b = b0 then some RR0 else ownF w F b
theorem ownL_b0 (w : World) (F : Nat → Bool) (b0 : Nat) : ownL w F b0 b0 = some RR0 := by simp [ownL]
theorem ownL_other {w : World} {F : Nat → Bool} {b0 b : Nat} (h : b ≠ b0) : ownL w F b0 b = ownF w F b := by simp [ownL, h]

def LSpec (P : Program) (f : FuncId) (e : Nat) (r r' : List T) (args : List PV) (res : PV) : Prop :=
  ∀ (w : World) (F : Nat → Bool) (b0 cap : Nat) (c : Array Value) (vals : Array Value), vals.size = args.length + 1 → vals.getD 0 undef = .pointer (some ⟨b0, 0, none⟩) → F b0 = true → w.heap[b0]? = some (.cells c e (0, 0)) →
    Room c.size cap r.length 1 → 1 ≤ cap → cap ≤ maxLen → (∀ j, j < r.length → Ok w (ownF w F) none (c.getD j undef) (r.getD j .dead)) → (∀ i u, args[i]? = some u → OkP w (ownF w F) (fun _ => none) (vals.getD (i + 1) undef) u) →
    Calls P f vals w fun ex w' => ∃ v c' own', ex = .returned v ∧ w'.heap[b0]? = some (.cells c' e (0, 0)) ∧ c'.size = c.size ∧ Ret (setBlk w b0 (.cells c' e (0, 0))) w' own' ∧
      r'.length = r.length ∧ (∀ j, j < r'.length → Ok w' (mergeF w F own') none (c'.getD j undef) (r'.getD j .dead)) ∧ OkR w' (mergeF w F own') v res

def initL (n e : Nat) (r : List T) (args : List PV) : AS where
  n := n
  s := fun t => match t with
    | 0 => ⟨true, .one (.eptr RR0 0 0)⟩
    | t + 1 => match args[t]? with | some u => ⟨true, argV u⟩ | none => ⟨true, .any⟩
  box := fun _ => []
  arr := fun d k => match Nat.beq d RR, Nat.beq k 0 with | true, true => ptT e r | _, _ => .dead

theorem Ok.unplace {w own pl v t} (h : Ok w own pl v t) (ht : noSl t = true) : Ok w own none v t := by
  cases h with
  | int k n => exact .int k n
  | bool b => exact .bool b
  | str s hs => exact .str s hs
  | nl => exact .nl
  | dead v => exact .dead v
  | fz h => exact .fz h
  | nil => cases ht
  | fsl => cases ht
  | emp => cases ht
  | osl => cases ht

theorem froz_FL (w : World) (F : Nat → Bool) (b0 : Nat) (hF : ownF w F b0 ≠ none) : Froz w w (ownF w F) (ownL w F b0) := ⟨fun b hb _ => ⟨by
  have hne : b ≠ b0 := fun e => hF (by rw [← e]; exact hb)
  rw [ownL_other hne]; exact hb, rfl⟩⟩

theorem initL_ok {w : World} {F : Nat → Bool} {b0 cap : Nat} {c : Array Value} {vals : Array Value} {e : Nat} {r : List T} {args : List PV} {n : Nat} (hs : vals.size = args.length + 1) (hn : args.length + 1 ≤ n) (hnf : n ≤ RR) (hF : F b0 = true)
    (hv0 : vals.getD 0 undef = .pointer (some ⟨b0, 0, none⟩)) (hh : w.heap[b0]? = some (.cells c e (0, 0))) (hc : Room c.size cap r.length 1) (h1 : 1 ≤ cap) (h2 : cap ≤ maxLen) (hr : ∀ j, j < r.length → Ok w (ownF w F) none (c.getD j undef) (r.getD j .dead)) (hns : r.all noSl = true)
    (h : ∀ i u, args[i]? = some u → OkP w (ownF w F) (fun _ => none) (vals.getD (i + 1) undef) u) :
    Inv w (ownL w F b0) (initL n e r args) { tmps := vals ++ Array.replicate (n - vals.size) undef, defers := [] } w (ownL w F b0) := by
  have hlt := heap_lt hh
  have hFo : ownF w F b0 ≠ none := by simp [ownF, hlt, hF]
  have hf := froz_FL w F b0 hFo
  have hcase : ∀ b p, ownL w F b0 b = some p → (b = b0 ∧ p = RR0) ∨ (b ≠ b0 ∧ ownF w F b = some p) := fun b p hb => by
    by_cases e : b = b0
    · subst e; rw [ownL_b0] at hb; cases hb; exact .inl ⟨rfl, rfl⟩
    · rw [ownL_other e] at hb; exact .inr ⟨e, hb⟩
  have hRF : RR ≠ FF := by decide
  have harr : (initL n e r args).arr RR 0 = ptT e r := by simp [initL]
  exact {
    inj := fun b b' p hb hb' => by
      rcases hcase b p hb with ⟨h1, h2⟩ | ⟨h1, h2⟩ <;> rcases hcase b' p hb' with ⟨g1, g2⟩ | ⟨g1, g2⟩
      · rw [h1, g1]
      · have := (ownF_some g2).2.2
        rw [h2] at this
        simp only [RR0, FP, Place.mk.injEq, Root.arr.injEq] at this
        exact absurd this.1.1 hRF
      · have := (ownF_some h2).2.2
        rw [g2] at this
        simp only [RR0, FP, Place.mk.injEq, Root.arr.injEq] at this
        exact absurd this.1.1 hRF
      · have e1 := (ownF_some h2).2.2
        have e2 := (ownF_some g2).2.2
        rw [e1] at e2
        simpa [FP] using e2
    rng := fun b p hb => by
      rcases hcase b p hb with ⟨h1, h2⟩ | ⟨h1, h2⟩
      · exact ⟨by rw [h1]; exact hlt, .inr (by rw [hb]; simp)⟩
      · exact ⟨(ownF_some h2).1, .inr (by rw [hb]; simp)⟩
    os := rfl
    tape := rfl
    output := rfl
    size := Nat.le_refl _
    frm := fun _ _ _ => rfl
    fore := fun b hb => ⟨hb, rfl⟩
    keep := Kept.of fun b k hb => ⟨hb, rfl⟩
    noff := fun k => by simp [initL, RR, FF]
    nf := hnf
    tsz := by
      show (vals ++ Array.replicate (n - vals.size) undef).size = n
      rw [Array.size_append, Array.size_replicate]; omega
    dfr := rfl
    slots := fun t => by
      have hget : ∀ i, i < vals.size → (vals ++ Array.replicate (n - vals.size) undef).getD i undef = vals.getD i undef := fun i hi => by
        simp [Array.getD_eq_getD_getElem?, Array.getElem?_append, hi]
      cases t with
      | zero =>
        show OkC w (ownL w F b0) (initL n e r args) _ (.eptr RR0 0 0)
        intro e' sz' n' f' hq
        simp only [RR0, AS.node, harr, follow, ptT, T.sl.injEq] at hq
        obtain ⟨_, rfl, _, _⟩ := hq
        refine ⟨b0, ?_, ownL_b0 w F b0⟩
        show (vals ++ Array.replicate (n - vals.size) undef).getD 0 undef = _
        rw [hget 0 (by omega), hv0]
        simp
      | succ t =>
        show OkS w (ownL w F b0) (initL n e r args) ((vals ++ Array.replicate (n - vals.size) undef).getD (t + 1) undef) (match args[t]? with | some u => ⟨true, argV u⟩ | none => ⟨true, .any⟩)
        cases hu : args[t]? with
        | none => exact trivial
        | some u =>
          have hlt2 : t < args.length := (List.getElem?_eq_some_iff.1 hu).1
          rw [hget (t + 1) (by omega)]
          have := h t u hu
          cases u with
          | one t0 => exact (show Ok w (ownF w F) none _ t0 from this).frozen hf
          | agg ts =>
            obtain ⟨xs, k1, k2, k3⟩ := this
            refine ⟨xs, k1, by simpa using k2, fun j x hx => ?_⟩
            simp only [List.getElem?_map, Option.map_eq_some_iff] at hx
            obtain ⟨y, hy, rfl⟩ := hx
            exact (k3 j y hy).frozen hf
          | tup vs => exact this.elim
    boxes := fun d hd => absurd rfl hd
    arrs := fun d k e' sz' n' f' hq => by
      by_cases hd : d = RR ∧ k = 0
      · obtain ⟨rfl, rfl⟩ := hd
        rw [harr] at hq
        simp only [ptT, T.sl.injEq] at hq
        obtain ⟨rfl, rfl, rfl, rfl⟩ := hq
        refine ⟨.slice (some ⟨b0, 0, none⟩) 1 cap, .osl (ownL_b0 w F b0) hh hc h1 h2 (fun _ _ => rfl) (fun i j hi hj => ?_)⟩
        have hi0 : i = 0 := by omega
        subst hi0
        have := (hr j hj).frozen hf
        refine Ok.place (by simpa using this) ?_ _
        rw [List.getD_eq_getElem?_getD, List.getElem?_eq_getElem hj, Option.getD_some]
        exact List.all_eq_true.1 hns _ (List.getElem_mem hj)
      · exfalso
        have : (initL n e r args).arr d k = .dead := by
          simp only [initL]
          by_cases h1 : d = RR
          · have : k ≠ 0 := fun e => hd ⟨h1, e⟩
            simp [beq_false this]
          · simp [beq_false h1]
        rw [this] at hq; cases hq }

/-- the lent row is told no more: as if it had been so from the start -/
def ownD (own : Own) (b0 : Nat) : Own := fun b => if b = b0 then some (FP b0) else match own b with
  | some p => if p.r = .arr RR 0 ∨ p.r = .arr FF b0 then none else some p
  | none => none
theorem ownD_keep {own : Own} {b0 b : Nat} {p : Place} (h : own b = some p) (hb : b ≠ b0) (h1 : p.r ≠ .arr RR 0) (h2 : p.r ≠ .arr FF b0) : ownD own b0 b = some p := by
  simp only [ownD, if_neg hb, h, h1, h2, or_self, if_false]
theorem ownD_some {own : Own} {b0 b : Nat} {p : Place} (h : ownD own b0 b = some p) : (b = b0 ∧ p = FP b0) ∨ (b ≠ b0 ∧ own b = some p ∧ p.r ≠ .arr RR 0 ∧ p.r ≠ .arr FF b0) := by
  unfold ownD at h
  by_cases e : b = b0
  · rw [if_pos e] at h; cases h; exact .inl ⟨e, rfl⟩
  · rw [if_neg e] at h
    cases ho : own b with
    | none => rw [ho] at h; cases h
    | some q =>
      rw [ho] at h
      simp only at h
      split at h
      · cases h
      · rename_i hq
        cases h
        exact .inr ⟨e, rfl, fun e1 => hq (.inl e1), fun e1 => hq (.inr e1)⟩

theorem Inv.dropL {w : World} {F : Nat → Bool} {b0 : Nat} {σ a w' own'} (hI : Inv w (ownL w F b0) σ a w' own') {c c' : Array Value} {e : Nat} (hF : F b0 = true) (hh : w.heap[b0]? = some (.cells c e (0, 0))) (hh' : w'.heap[b0]? = some (.cells c' e (0, 0))) :
    Inv (setBlk w b0 (.cells c' e (0, 0))) (ownF (setBlk w b0 (.cells c' e (0, 0))) F) (σ.goneArr (isRoot RR 0)) a w' (ownD own' b0) := by
  have hlt := heap_lt hh
  have hFo : ∀ b, ownF (setBlk w b0 (.cells c' e (0, 0))) F b = ownF w F b := fun b => by simp [ownF, setBlk_size]
  have hFb : ownF w F b0 = some (FP b0) := by simp [ownF, hlt, hF]
  have hk0 : own' b0 = some RR0 := (hI.keep b0 0 (ownL_b0 w F b0)).1
  have hnode : ∀ p : Place, p.r ≠ .arr RR 0 → (σ.goneArr (isRoot RR 0)).node p = σ.node p := fun p hp => goneArr_node _ _ _ (goneP_root hp)
  have hdead : ∀ ps, (σ.goneArr (isRoot RR 0)).node ⟨.arr RR 0, ps⟩ = .dead := fun ps => by
    simp only [AS.node, AS.goneArr, isRoot, Nat.beq_refl, Bool.and_self, follow_dead]
  have hfz : Froz w' w' own' (ownD own' b0) := ⟨fun b hb _ => ⟨by
    have : b ≠ b0 := fun e => by rw [e, hk0] at hb; cases hb
    simp only [ownD, if_neg this, hb], rfl⟩⟩
  have hne0 : ∀ {b p}, own' b = some p → p.r ≠ .arr RR 0 → b ≠ b0 := fun hb hp e => by
    rw [e, hk0] at hb; cases hb; exact hp rfl
  have hnf : ∀ (p : Place), p.r = .arr FF b0 → ∀ e sz n f, σ.node p ≠ .sl e sz n f := fun p hp e sz n f hq => by
    obtain ⟨r, ps⟩ := p
    simp only at hp
    subst hp
    simp only [AS.node, hI.noff, follow_dead] at hq
    cases hq
  have hk : ∀ p, KeepP w' w' own' (ownD own' b0) σ (σ.goneArr (isRoot RR 0)) p := fun p => by
    refine ⟨fun e' sz n f hq => ?_, fun d _ hd => hd, fun hal b hb => ?_⟩
    · by_cases hp : p.r = .arr RR 0
      · obtain ⟨r, ps⟩ := p
        simp only at hp
        subst hp
        rw [hdead] at hq; cases hq
      · exact ⟨f, by rw [← hnode p hp]; exact hq⟩
    · have hp : p.r ≠ .arr RR 0 := fun hp => by
        obtain ⟨r, ps⟩ := p
        simp only at hp
        subst hp
        rcases hal with ⟨e', sz, n, f, hq⟩ | ⟨d, hd, _⟩
        · rw [hdead] at hq; cases hq
        · cases hd
      have hp2 : p.r ≠ .arr FF b0 := fun hp2 => by
        rcases hal with ⟨e', sz, n, f, hq⟩ | ⟨d, hd, _⟩
        · rw [hnode p hp] at hq; exact hnf p hp2 _ _ _ _ hq
        · rw [hd] at hp2; cases hp2
      exact ⟨ownD_keep hb (hne0 hb hp) hp hp2, fun c e hc => ⟨c, hc, rfl⟩⟩
  have hmv : ∀ p : Place, p.r ≠ .arr RR 0 → p.r ≠ .arr FF b0 → Moved w' w' own' (ownD own' b0) p p := fun p h1 h2 b s hb => ⟨ownD_keep hb (hne0 hb h1) h1 h2, rfl⟩
  exact {
    inj := fun b b' p hb hb' => by
      rcases ownD_some hb with ⟨h1, h2⟩ | ⟨h1, h2, h3, h4⟩ <;> rcases ownD_some hb' with ⟨g1, g2⟩ | ⟨g1, g2, g3, g4⟩
      · rw [h1, g1]
      · rw [h2] at g4; exact absurd rfl g4
      · rw [g2] at h4; exact absurd rfl h4
      · exact hI.inj _ _ _ h2 g2
    rng := fun b p hb => by
      rw [setBlk_size]
      rcases ownD_some hb with ⟨h1, h2⟩ | ⟨h1, h2, h3, h4⟩
      · exact ⟨by rw [h1]; exact Nat.lt_of_lt_of_le hlt hI.size, .inr (by rw [h1, hFo, hFb]; simp)⟩
      · obtain ⟨g1, g2⟩ := hI.rng b p h2
        refine ⟨g1, g2.imp_right fun hq => ?_⟩
        rw [hFo, ← ownL_other h1]; exact hq
    os := hI.os
    tape := hI.tape
    output := hI.output
    size := by rw [setBlk_size]; exact hI.size
    frm := fun b hb ho => by
      rw [setBlk_size] at hb
      rw [hFo] at ho
      have hne : b ≠ b0 := fun e => by rw [e, hFb] at ho; cases ho
      rw [setBlk_other hne]
      exact hI.frm b hb (by rw [ownL_other hne]; exact ho)
    fore := fun b hb => by
      rw [hFo] at hb
      by_cases e1 : b = b0
      · subst e1
        exact ⟨by simp [ownD], by rw [hh', setBlk_self hlt]⟩
      · have := hI.fore b (by rw [ownL_other e1]; exact hb)
        refine ⟨ownD_keep this.1 e1 (by simp [FP, RR, FF]) (by simp [FP]; exact e1), ?_⟩
        rw [setBlk_other e1]; exact this.2
    keep := fun b k hb => by
      rw [hFo] at hb
      have := (ownF_some hb).2.2
      simp only [FP, Place.mk.injEq, Root.arr.injEq] at this
      exact absurd this.1.1 (by decide)
    noff := fun k => by
      show (σ.goneArr (isRoot RR 0)).arr FF k = .dead
      simp only [AS.goneArr, isRoot, beq_false (show FF ≠ RR by decide), Bool.false_and]
      exact hI.noff k
    nf := hI.nf
    tsz := hI.tsz
    dfr := hI.dfr
    slots := fun t => OkS.turn hfz hk (hI.slots t)
    boxes := fun d hd => by
      obtain ⟨b, cc, e', k1, k2, k3, k4⟩ := hI.boxes d hd
      refine ⟨b, cc, e', ownD_keep k1 (hne0 k1 (by simp)) (by simp) (by simp), k2, k3, fun j x hx => ?_⟩
      have := k4 j x hx
      cases x with
      | own t => exact Ok.moved (t := t) this hfz (hmv _ (by simp) (by simp))
      | _ => exact OkCell.of_C (OkC.change hfz (fun p _ => hk p) this)
    arrs := fun d k e' sz n f hq => by
      by_cases hd : d = RR ∧ k = 0
      · obtain ⟨rfl, rfl⟩ := hd
        have : (σ.goneArr (isRoot RR 0)).arr RR 0 = .dead := by simp [AS.goneArr, isRoot]
        rw [this] at hq; cases hq
      · have e1 : (σ.goneArr (isRoot RR 0)).arr d k = σ.arr d k := by
          simp only [AS.goneArr]
          rw [isRoot_false (fun e => hd (by simpa using e))]
        rw [e1] at hq
        obtain ⟨v, hv⟩ := hI.arrs d k e' sz n f hq
        refine ⟨v, hv.moved hfz (hmv _ (fun e => hd (by simpa using e)) (fun e => ?_))⟩
        simp only [Root.arr.injEq] at e
        rw [e.1, hI.noff] at hq
        cases hq }

/-! ### the body -/
def RetIsL (e : Nat) (r' : List T) (R : Exit → AS → Prop) : Exit → AS → Prop := fun ex σ' => R ex (σ'.goneArr (isRoot RR 0)) ∧ Eqv (σ'.arr RR 0) (ptT e r')

theorem lent_post {w : World} {F : Nat → Bool} {b0 : Nat} {σ a w' own'} (hI : Inv w (ownL w F b0) σ a w' own') {c : Array Value} {e : Nat} {r r' : List T} (hF : F b0 = true) (hh : w.heap[b0]? = some (.cells c e (0, 0)))
    (hr : Eqv (σ.arr RR 0) (ptT e r')) (hns : r'.all noSl = true) :
    ∃ c' : Array Value, w'.heap[b0]? = some (.cells c' e (0, 0)) ∧ c'.size = c.size ∧ ∀ j, j < r'.length → Ok w' own' none (c'.getD j undef) (r'.getD j .dead) := by
  obtain ⟨k1, k2⟩ := hI.keep b0 0 (ownL_b0 w F b0)
  obtain ⟨c', g1, g2⟩ := k2 c e hh
  refine ⟨c', g1, g2, fun j hj => ?_⟩
  obtain ⟨f, hf, _⟩ := hr.of_sl
  obtain ⟨v, hv⟩ := hI.arrs RR 0 _ _ _ _ hf
  rw [← hf] at hv
  have hv2 := hr.ok hv
  unfold ptT at hv2
  cases hv2 with
  | osl ho hh2 hs hn hcap hl hrr =>
    have := hI.inj _ _ _ ho k1
    subst this
    rw [g1] at hh2
    cases hh2
    have h1 := hrr 0 j (by omega) hj
    simp only [Nat.zero_mul, Nat.zero_add] at h1
    refine h1.unplace ?_
    rw [List.getD_eq_getElem?_getD, List.getElem?_eq_getElem hj, Option.getD_some]
    exact List.all_eq_true.1 hns _ (List.getElem_mem hj)

theorem LSpec.fin {w : World} {F : Nat → Bool} {b0 : Nat} {σ a w' own'} (hI : Inv w (ownL w F b0) σ a w' own') {c : Array Value} {e : Nat} {r r' : List T} (hF : F b0 = true) (hh : w.heap[b0]? = some (.cells c e (0, 0)))
    (hr : Eqv (σ.arr RR 0) (ptT e r')) (hns : r'.all noSl = true) (hlen : r'.length = r.length) {Q : Value → Prop} {res : PV} {v : Value}
    (hp : ∀ (w1 : World) own1, w1.heap.size = w.heap.size → Inv w1 (ownF w1 F) (σ.goneArr (isRoot RR 0)) a w' own1 → ∃ own2, (∀ b, own1 b = none → mergeF w1 F own2 b = none) ∧ Ret w1 w' own2 ∧ OkR w' (mergeF w1 F own2) v res) :
    ∃ c' own', w'.heap[b0]? = some (.cells c' e (0, 0)) ∧ c'.size = c.size ∧ Ret (setBlk w b0 (.cells c' e (0, 0))) w' own' ∧ r'.length = r.length ∧ (∀ j, j < r'.length → Ok w' (mergeF w F own') none (c'.getD j undef) (r'.getD j .dead)) ∧ OkR w' (mergeF w F own') v res := by
  obtain ⟨c', g1, g2, g3⟩ := lent_post (r := r) hI hF hh hr hns
  have hD := hI.dropL hF hh g1
  obtain ⟨own2, k0, k1, k2⟩ := hp _ _ (setBlk_size w b0 _) hD
  have hm : mergeF (setBlk w b0 (.cells c' e (0, 0))) F own2 = mergeF w F own2 := by
    funext b
    simp only [mergeF, ownF, setBlk_size]
  rw [hm] at k0 k2
  refine ⟨c', own2, g1, g2, k1, hlen, fun j hj => (g3 j hj).frozen ⟨fun b hb _ => ⟨k0 b ?_, rfl⟩⟩, k2⟩
  have hk0 : own' b0 = some RR0 := (hI.keep b0 0 (ownL_b0 w F b0)).1
  have : b ≠ b0 := fun e => by rw [e, hk0] at hb; cases hb
  simp only [ownD, if_neg this, hb]

theorem mergeF_none {w0 : World} {F : Nat → Bool} {σ a w own} (hI : Inv w0 (ownF w0 F) σ a w own) (L : List (Place × Nat)) {b : Nat} (hb : own b = none) : mergeF w0 F (collect L own) b = none := by
  unfold mergeF
  split
  · cases ho : ownF w0 F b with
    | none => rfl
    | some p =>
      have h1 := (ownF_some ho).2.2
      rw [h1] at ho
      have := (hI.fore b ho).1
      rw [this] at hb; cases hb
  · exact collect_none L hb
/-- what a frame hands back, by the slots ts -/
theorem post_of2 {w : World} {F : Nat → Bool} {σ' : AS} {a' : Act} {w' : World} {own' : Own} (hI : Inv w (ownF w F) σ' a' w' own') {ts : List Nat} {rs : List PV} {l : List (Place × Nat)} {res : PV} (h1 : RetVs σ' ts rs l 0) (h2 : disjL l = true) (h3 : oneOrTup rs = res) :
    ∃ own2, (∀ b, own' b = none → mergeF w F own2 b = none) ∧ Ret w w' own2 ∧ OkR w' (mergeF w F own2) (retVal (ts.map fun t => a'.tmps.getD t undef)) res := by
  unfold retVal
  obtain ⟨k1, k2⟩ := h1.ok hI h2 (fun x hx => hx)
  have hexp : ∀ q k, (q, k) ∈ l → ∀ b, q.r ≠ .arr FF b := fun q k hq b => h1.exported hI q k hq b
  have hret : Ret w w' (collect l own') := by
    refine ⟨⟨hI.os, hI.tape, hI.output, hI.size⟩, (fun b hb => ?_), fun b p hp => ?_, fun b b' p hp hp' => ?_⟩
    · cases ho : ownF w F b with
      | none => exact hI.frm b hb ho
      | some p => have h1 := (ownF_some ho).2.2; rw [h1] at ho; exact (hI.fore b ho).2
    · obtain ⟨q, k, s, g1, g2, g3⟩ := collect_some l hp
      obtain ⟨r1, r2⟩ := hI.rng b _ g2
      refine ⟨?_, r1, k, s, g3⟩
      rcases r2 with r2 | r2
      · exact r2
      · cases ho : ownF w F b with
        | none => exact absurd ho r2
        | some p =>
          have h1 := (ownF_some ho).2.2
          rw [h1] at ho
          have h3 := (hI.fore b ho).1
          rw [g2] at h3
          simp only [FP, Option.some.injEq, Place.mk.injEq] at h3
          exact absurd h3.1 (hexp q k g1 b)
    · obtain ⟨q, k, s, g1, g2, rfl⟩ := collect_some l hp
      obtain ⟨q', k', s', g1', g2', g3'⟩ := collect_some l hp'
      simp only [Place.mk.injEq, Root.arr.injEq, true_and] at g3'
      obtain ⟨rfl, rfl⟩ := g3'
      have := collect_k l h2 _ _ _ g1 g1'
      subst this
      exact hI.inj _ _ _ g2 g2'
  refine ⟨collect l own', fun b hb => mergeF_none hI l hb, hret, ?_⟩
  subst h3
  match rs, ts, h1, k1, k2 with
  | [r], [t], h1, k1, k2 =>
    simp only [List.map_cons, List.map_nil, List.size_toArray, List.length_cons, List.length_nil, Nat.zero_add, dif_pos]
    have := k2 0 r t rfl rfl
    cases h1 with
    | cons hs hv hr =>
      cases hv with
      | one h => exact this
      | agg h => exact this
  | [], [], h1, k1, k2 => exact ⟨#[], rfl, rfl, fun i u hu => by simp at hu⟩
  | r :: r2 :: rs, t :: t2 :: ts, h1, k1, k2 =>
    rw [dif_neg (by simp)]
    refine ⟨_, rfl, by simpa using k1, fun i u hu => ?_⟩
    have hlt : i < (t :: t2 :: ts).length := by rw [k1]; exact (List.getElem?_eq_some_iff.1 hu).1
    have := k2 i u _ hu (List.getElem?_eq_getElem hlt)
    rw [Nat.zero_add] at this
    have e : ((t :: t2 :: ts).map fun t => a'.tmps.getD t undef).toArray.getD i undef = a'.tmps.getD ((t :: t2 :: ts)[i]) undef := by
      simp only [Array.getD_eq_getD_getElem?, List.getElem?_toArray, List.getElem?_map, List.getElem?_eq_getElem hlt, Option.map_some, Option.getD_some]
    rw [e]
    exact this

theorem oneOrTup_of {rs : List PV} {res : PV} (h : (match rs with | [r] => r | _ => .tup rs) = res) : oneOrTup rs = res := by
  match rs, h with
  | [], h => exact h
  | [r], h => exact h
  | r :: r2 :: rs, h => exact h
theorem LSpec.body {P : Program} {f : FuncId} {fn : Func} {c : Code} {e : Nat} {r r' : List T} {args : List PV} {res : PV} (hf : P.funcs[f]? = some fn) (hb : fn.body = some c) (ts : List Nat) (hres : fn.results = (ts.map ResultVar.tmp).toArray) (n : Nat) (hnn : fn.ntmps = n) (hn : Nat.ble (args.length + 1) n = true) (hnf : Nat.ble n RR = true)
    (hns : r.all noSl = true) (hns' : r'.all noSl = true) (hlen : r'.length = r.length) (h : AWp P c (RetIsL e r' (RetIs ts res)) (initL n e r args)) : LSpec P f e r r' args res := by
  subst hnn
  intro w F b0 cap cc vals hs hv0 hF hh hc h1 h2 hr hv
  refine calls_of_wp hf hb (wp_mono (h w _ _ w _ (initL_ok hs (Nat.le_of_ble_eq_true hn) (Nat.le_of_ble_eq_true hnf) hF hv0 hh hc h1 h2 hr hns hv)) ?_)
  rintro ex a' w' ⟨σ', own', ⟨⟨he, rs, l, k1, k2, k3⟩, k4⟩, hI⟩
  have hpost : a'.defers = [] ∧ ∃ v, (results fn a'.tmps).run P w' = .ok v w' ∧ ∃ v' c' own', Ending.returned v = .returned v' ∧ w'.heap[b0]? = some (.cells c' e (0, 0)) ∧ c'.size = cc.size ∧ Ret (setBlk w b0 (.cells c' e (0, 0))) w' own' ∧
      r'.length = r.length ∧ (∀ j, j < r'.length → Ok w' (mergeF w F own') none (c'.getD j undef) (r'.getD j .dead)) ∧ OkR w' (mergeF w F own') v' res := by
    refine ⟨hI.dfr, retVal (ts.map fun t => a'.tmps.getD t undef), run_results a'.tmps ts hres, ?_⟩
    obtain ⟨c', own2, g⟩ := LSpec.fin (Q := fun _ => True) (v := retVal (ts.map fun t => a'.tmps.getD t undef)) hI hF hh k4 hns' hlen (fun w1 own1 hsz hI1 => by
      obtain ⟨own2, q1, q2⟩ := post_of2 hI1 k1 k2 (oneOrTup_of k3)
      exact ⟨own2, q1, q2⟩)
    exact ⟨_, c', own2, rfl, g⟩
  rcases he with rfl | rfl
  · exact hpost
  · exact hpost

end Go.Mh
