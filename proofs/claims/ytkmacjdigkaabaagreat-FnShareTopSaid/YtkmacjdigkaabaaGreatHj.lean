/- Contracts of functions of the program, each met by its body; conditions stand in each statement. No condition. -/
import Derived.Test.YtkmacjdigkaabaaGreatHi
import Derived.Sort.Grow
set_option linter.unusedVariables false
set_option linter.unusedSimpArgs false
set_option linter.unnecessarySimpa false
namespace Go.Mh
open Go

/-! ### permutations of places -/
def IsPerm (n : Nat) (π ρ : Nat → Nat) : Prop := ∀ i, i < n → π i < n ∧ ρ i < n ∧ π (ρ i) = i ∧ ρ (π i) = i
theorem perm_idx {α : Type} {l l' : List α} (h : l.Perm l') : ∃ π ρ, IsPerm l.length π ρ ∧ ∀ i, i < l.length → l[i]? = l'[π i]? := by
  induction h with
  | nil => exact ⟨id, id, fun i hi => absurd hi (Nat.not_lt_zero i), fun i hi => absurd hi (Nat.not_lt_zero i)⟩
  | cons x h ih =>
    obtain ⟨π, ρ, h1, h2⟩ := ih
    refine ⟨fun i => match i with | 0 => 0 | i + 1 => π i + 1, fun i => match i with | 0 => 0 | i + 1 => ρ i + 1, fun i hi => ?_, fun i hi => ?_⟩
    · cases i with
      | zero => exact ⟨hi, hi, rfl, rfl⟩
      | succ i =>
        obtain ⟨g1, g2, g3, g4⟩ := h1 i (by simpa using hi)
        simp only [List.length_cons]
        exact ⟨by omega, by omega, by rw [g3], by rw [g4]⟩
    · cases i with
      | zero => rfl
      | succ i => simpa using h2 i (by simpa using hi)
  | swap x y l =>
    refine ⟨fun i => match i with | 0 => 1 | 1 => 0 | i + 2 => i + 2, fun i => match i with | 0 => 1 | 1 => 0 | i + 2 => i + 2, fun i hi => ?_, fun i hi => ?_⟩
    · simp only [List.length_cons] at hi ⊢
      match i with
      | 0 => exact ⟨(by show 1 < _; omega), (by show 1 < _; omega), rfl, rfl⟩
      | 1 => exact ⟨(by show 0 < _; omega), (by show 0 < _; omega), rfl, rfl⟩
      | i + 2 => exact ⟨hi, hi, rfl, rfl⟩
    · match i with
      | 0 => rfl
      | 1 => rfl
      | i + 2 => rfl
  | @trans l1 l2 l3 h1 h2 ih1 ih2 =>
    obtain ⟨π, ρ, g1, g2⟩ := ih1
    obtain ⟨π', ρ', k1, k2⟩ := ih2
    have hl := h1.length_eq
    refine ⟨fun i => π' (π i), fun i => ρ (ρ' i), fun i hi => ?_, fun i hi => ?_⟩
    · obtain ⟨a1, a2, a3, a4⟩ := g1 i hi
      obtain ⟨b1, b2, b3, b4⟩ := k1 (π i) (by omega)
      obtain ⟨c1, c2, c3, c4⟩ := k1 i (by omega)
      obtain ⟨d1, d2, d3, d4⟩ := g1 (ρ' i) (by omega)
      exact ⟨(show π' (π i) < _ by omega), (show ρ (ρ' i) < _ by omega), by simp only [d3, c3], by simp only [b4, a4]⟩
    · obtain ⟨a1, _⟩ := g1 i hi
      exact (g2 i hi).trans (k2 _ (by omega))

/-- a call that sorts the rows of a slice by a text in each -/
def SortsRow (P : Program) (fS g : FuncId) (ty k jn jb : Nat) : Prop :=
  ∀ (w : World) (Bs blk cap cap2 n : Nat) (c : Array Value) (e : TypeId) (G : Nat → ByteArray), w.heap[blk]? = some (.cells c e (0, 0)) → n * k ≤ c.size → 0 < n → n < 4611686018427387904 →
    (∀ i j, i < n → j < k → (c.getD (i * k + j) undef).oneCell' = true) → (∀ i, i < n → c.getD (i * k + jn) undef = .string (G i)) →
    w.cell? ⟨Bs, jb, none⟩ = some (.slice (some ⟨blk, 0, none⟩) n cap2) → Bs ≠ blk → Bs < w.heap.size →
    Calls P fS #[.iface ty (.slice (some ⟨blk, 0, none⟩) n cap), .func (.func g) #[] #[.pointer (some ⟨Bs, 0, none⟩)]] w fun ex w' => ex = .returned (.tuple #[]) ∧
      ∃ (π ρ : Nat → Nat) (c' : Array Value), IsPerm n π ρ ∧ (∀ i j, i < j → j < n → strLt (G (π j)) (G (π i)) = false) ∧ SameW w w' ∧ w'.heap[blk]? = some (.cells c' e (0, 0)) ∧ c'.size = c.size ∧
        (∀ q, q < w.heap.size → q ≠ blk → w'.heap[q]? = w.heap[q]?) ∧ ∀ i j, i < n → j < k → c'.getD (i * k + j) undef = c.getD (π i * k + j) undef

def permOwn (p : Root) (n : Nat) (ρ : Nat → Nat) (own : Own) : Own := fun b => match own b with
  | some x => match x.r.beq p with
    | true => match x.p with
      | (i, j) :: s => if i < n then some ⟨p, (ρ i, j) :: s⟩ else none
      | [] => some ⟨p, []⟩
    | false => some x
  | none => none
theorem permOwn_some {p : Root} {n : Nat} {ρ : Nat → Nat} {own : Own} {b : Nat} {y : Place} (h : permOwn p n ρ own b = some y) :
    (own b = some y ∧ (y.r ≠ p ∨ y.p = [])) ∨ ∃ i j s, i < n ∧ own b = some ⟨p, (i, j) :: s⟩ ∧ y = ⟨p, (ρ i, j) :: s⟩ := by
  unfold permOwn at h
  cases ho : own b with
  | none => rw [ho] at h; cases h
  | some x =>
    obtain ⟨r, ps⟩ := x
    rw [ho] at h
    simp only at h
    cases h1 : r.beq p with
    | true =>
      rw [h1] at h
      have := Root.beq_eq h1
      subst this
      cases ps with
      | nil => cases h; exact .inl ⟨rfl, .inr rfl⟩
      | cons z s =>
        obtain ⟨i, j⟩ := z
        simp only at h
        split at h
        · rename_i hi; cases h; exact .inr ⟨i, j, s, hi, rfl, rfl⟩
        · cases h
    | false =>
      rw [h1] at h
      cases h
      exact .inl ⟨rfl, .inl fun e => by simp only at e; rw [e, Root.beq_refl] at h1; cases h1⟩
theorem permOwn_off {p : Root} {n : Nat} {ρ : Nat → Nat} {own : Own} {b : Nat} {x : Place} (h : own b = some x) (h1 : x.r ≠ p) : permOwn p n ρ own b = some x := by
  simp only [permOwn, h, beq_root_false h1]
theorem permOwn_root {p : Root} {n : Nat} {ρ : Nat → Nat} {own : Own} {b : Nat} {r : Root} (h : own b = some ⟨r, []⟩) : permOwn p n ρ own b = some ⟨r, []⟩ := by
  by_cases hr : r = p
  · subst hr; simp only [permOwn, h, Root.beq_refl]
  · exact permOwn_off h hr
theorem permOwn_row {p : Root} {n : Nat} {ρ : Nat → Nat} {own : Own} {b i j : Nat} {s : List (Nat × Nat)} (h : own b = some ⟨p, (i, j) :: s⟩) (hi : i < n) : permOwn p n ρ own b = some ⟨p, (ρ i, j) :: s⟩ := by
  simp only [permOwn, h, Root.beq_refl, if_pos hi]
theorem arr_mayUnder {d k : Nat} {q : Place} (h : mayUnder ⟨.arr d k, []⟩ q = false) : q.r ≠ .arr d k := by
  intro e
  simp [mayUnder, e, Root.beq_refl, mayPre] at h

/-- sort.Slice(x, less) -/
theorem step_sortS {P : Program} {o : Oper} {σ : AS} {dst : Nat} (hd : o.dst = some dst) (hn : dst < σ.n) {fS g : FuncId} {ty k jn jb : Nat} {x y : Operand} {ats : Array TypeId} (ho : o.op = .call { callee := .value (.func fS), args := #[x, y], argTypes := ats }) (hc : callOk P fS = true)
    (hS : SortsRow P fS g ty k jn jb) {d1 k1 db : Nat} (hx : σ.ev x = ⟨true, .one (.ifc ty ⟨.arr d1 k1, []⟩)⟩) (hy : σ.ev y = ⟨true, .one (.fn g [db])⟩) (hb : (σ.box db)[jb]? = some (.ref ⟨.arr d1 k1, []⟩)) {e n : Nat} {f : Nat → List T} (hp : σ.arr d1 k1 = .sl e k n f) (h0 : 0 < n) (hjn : jn < k) (hn2 : n < 4611686018427387904)
    (G : Nat → ByteArray) (hG : ∀ i, i < n → (f i).getD jn .dead = .str (G i)) (hso : solidRows n f) (f' : Nat → List T) (hu : ∀ π ρ, IsPerm n π ρ → (∀ i j, i < j → j < n → strLt (G (π j)) (G (π i)) = false) → ∀ i, i < n → f (π i) = f' i) (hdf : Nat.beq d1 FF = false := by rfl) :
    Step P o σ ((((σ.updNode ⟨.arr d1 k1, []⟩ (.sl e k n f')).mapC (belowB ⟨.arr d1 k1, []⟩)).goneArr (fun _ _ => false)).setS dst ⟨true, .any⟩) := by
  intro w0 own0 a w own hI K Q hK
  have hdf : d1 ≠ FF := fun e => by rw [e] at hdf; simp at hdf
  have hnd : σ.node ⟨.arr d1 k1, []⟩ = .sl e k n f := by simp only [AS.node, follow, hp]
  obtain ⟨u, hxv, hh⟩ := hI.evC hx e k n f hnd
  rcases hh with ⟨_, h⟩ | ⟨blk, cap, c, rfl, hbo, hbh, hroom, hcap, hcm⟩
  · omega
  obtain ⟨vs, hyv, hvs, hptr⟩ := hI.evC hy
  have hbne : σ.box db ≠ [] := fun e0 => by rw [e0] at hb; cases hb
  obtain ⟨Bs, hBp, hBo⟩ := hptr 0 db rfl hbne
  obtain ⟨Bs', bc, be, g1, g2, g3, g4⟩ := hI.boxes db hbne
  have hBB := hI.inj _ _ _ hBo g1
  subst hBB
  have hBcell := g4 jb _ hb
  have hBhdr : Hdr w own ⟨.arr d1 k1, []⟩ e k n (bc.getD jb undef) := hBcell e k n f hnd
  obtain ⟨v0, hv0⟩ := hI.arrs d1 k1 e k n f hp
  have hrow : (∀ q, q < n → (f q).length = k) ∧ ∀ q j, q < n → j < k → Ok w own (some ⟨.arr d1 k1, [(q, j)]⟩) (c.getD (q * k + j) undef) ((f q).getD j .dead) := by
    cases hv0 with
    | nil => omega
    | osl ho' hh' hcs' hn' hcap' hl' hr' =>
      have := hI.inj _ _ _ ho' hbo
      subst this
      rw [hbh] at hh'
      cases hh'
      exact ⟨hl', fun q j hq hj => hr' q j hq hj⟩
  obtain ⟨hl, hr⟩ := hrow
  have hjb : jb < bc.size := by rw [g3]; exact (List.getElem?_eq_some_iff.1 hb).1
  obtain ⟨cap2, hBv⟩ : ∃ cap2, bc.getD jb undef = .slice (some ⟨blk, 0, none⟩) n cap2 := by
    rcases hBhdr with ⟨_, h⟩ | ⟨b2, cap2, c2, h1, h2, _⟩
    · omega
    · have := hI.inj _ _ _ h2 hbo
      subst this
      exact ⟨cap2, h1⟩
  have hcell : w.cell? ⟨Bs, jb, none⟩ = some (.slice (some ⟨blk, 0, none⟩) n cap2) := by
    rw [← hBv]; simp [World.cell?, g2, Array.getD, hjb]
  obtain ⟨v1, rfl⟩ : ∃ v1, vs = #[v1] := by
    obtain ⟨l1⟩ := vs
    match l1, hvs with
    | [z], _ => exact ⟨z, rfl⟩
  have hv1 : v1 = .pointer (some ⟨Bs, 0, none⟩) := by simpa using hBp
  subst hv1
  have hrun : (execOp a.eval o).run P w = .ok (.enter fS (#[x, y].map a.eval)) w := by
    simp only [execOp, ho, resolve, Act.eval, Deferred.ofValue, Sem.run_bind, Sem.run_pure, Result.andThen_ok, invoke, Array.empty_append]
    simp only [Array.append_empty, run_callFunc hc]
  have hne : Bs ≠ blk := fun e0 => by subst e0; rw [hBo] at hbo; cases hbo
  unfold Oper.wp
  rw [hrun]
  simp only [Oper.upon]
  rw [show (#[x, y].map a.eval) = #[a.eval x, a.eval y] by simp, hxv, hyv]
  refine (hS w Bs blk cap cap2 n c e G hbh (Nat.le_trans (Nat.mul_le_mul_right k hcap) hroom.le) h0 hn2 (fun i j hi hj => ?_) (fun i hi => ?_) hcell hne (heap_lt g2)).mono ?_
  · have h1 := List.all_eq_true.1 (hso i hi)
    have hlt : j < (f i).length := by rw [hl i hi]; exact hj
    refine (hr i j hi hj).solid ?_
    rw [List.getD_eq_getElem?_getD, List.getElem?_eq_getElem hlt]
    exact h1 _ (List.getElem_mem hlt)
  · have := hr i jn hi hjn
    rw [hG i hi] at this
    exact this.sc rfl
  · rintro ex w' ⟨rfl, π, ρ, c', hπ, hsort, hw, hh', hsz, hoth, hcells⟩
    simp only [hd]
    have hff := hu π ρ hπ hsort
    let p : Place := ⟨.arr d1 k1, []⟩
    let own' := permOwn (.arr d1 k1) n ρ own
    have hf : Froz w w' own own' := ⟨fun b hb hlt => ⟨by simp only [own', permOwn, hb], hoth b hlt (fun e0 => by subst e0; rw [hbo] at hb; cases hb)⟩⟩
    have hnb : ∀ b q, own b = some q → q ≠ ⟨.arr d1 k1, []⟩ → b ≠ blk := fun b q hb hq e0 => by subst e0; rw [hbo] at hb; cases hb; exact hq rfl
    have hkeep : ∀ b q, own b = some q → q.r ≠ .arr d1 k1 → own' b = some q ∧ w'.heap[b]? = w.heap[b]? := fun b q hb hq =>
      ⟨permOwn_off hb hq, hoth b (hI.rng b q hb).1 (hnb b q hb (fun e0 => hq (by rw [e0])))⟩
    have hnoU : ∀ q : Place, under ⟨.arr d1 k1, []⟩ q = false → q.r ≠ .arr d1 k1 := fun q hq e0 => by
      simp [under, e0, Root.beq_refl, isPre] at hq
    have hinj : ∀ b b' q, own' b = some q → own' b' = some q → b = b' := fun b b' q hb hb' => by
      rcases permOwn_some hb with ⟨h1, h2⟩ | ⟨i, j, s, hi, h1, h2⟩ <;> rcases permOwn_some hb' with ⟨k1', k2⟩ | ⟨i', j', s', hi', k1', k2⟩
      · exact hI.inj _ _ _ h1 k1'
      · subst k2; rcases h2 with h2 | h2
        · exact absurd rfl h2
        · cases h2
      · subst h2; rcases k2 with k2 | k2
        · exact absurd rfl k2
        · cases k2
      · rw [h2] at k2
        simp only [Place.mk.injEq, List.cons.injEq, Prod.mk.injEq, true_and] at k2
        have : i = i' := by
          obtain ⟨_, _, _, a4⟩ := hπ i hi
          obtain ⟨_, _, _, b4⟩ := hπ i' hi'
          obtain ⟨_, _, a3, _⟩ := hπ i hi
          obtain ⟨_, _, b3, _⟩ := hπ i' hi'
          rw [← a3, ← b3, k2.1.1]
        rw [this, k2.1.2, k2.2] at h1
        exact hI.inj _ _ _ h1 k1'
    have hrng : ∀ b q, own' b = some q → b < w'.heap.size ∧ (own b ≠ none ∨ w.heap.size ≤ b) := fun b q hb => by
      rcases permOwn_some hb with ⟨h1, _⟩ | ⟨i, j, s, hi, h1, h2⟩
      · exact ⟨Nat.lt_of_lt_of_le (hI.rng b _ h1).1 hw.size, .inl (by rw [h1]; simp)⟩
      · exact ⟨Nat.lt_of_lt_of_le (hI.rng b _ h1).1 hw.size, .inl (by rw [h1]; simp)⟩
    have hI' := hI.upd hnd (.sl e k n f') hw hf (fun _ _ => false) rfl (fun b q hb hq _ => hkeep b q hb (hnoU q hq)) (fun v hv => ?_) (belowB p) (fun q _ => by cases q with | mk r ps => cases r <;> rfl) (fun q hq => ?_) (fun _ => rfl) hinj hrng (fun b l hb => ⟨permOwn_root hb, fun cc ee hcc => ?_⟩)
    · exact hK _ _ _ (hI'.put (d := dst) (by exact hn) (x := ⟨true, .any⟩) trivial)
    · cases hv with
      | nil => omega
      | @osl _ b n cap e sz f cc ho hhh hs hn' hcap hl' hr' =>
        have := hI.inj _ _ _ ho hbo
        subst this
        rw [hbh] at hhh
        cases hhh
        refine .osl (permOwn_root ho) hh' (hsz ▸ hs) hn' hcap (fun i hi => by rw [← hff i hi]; exact hl' _ (hπ i hi).1) (fun i j hi hj => ?_)
        rw [hcells i j hi hj, ← hff i hi]
        refine (hr' (π i) j (hπ i hi).1 hj).moved hf (fun b s hb => ?_)
        have hb' : own b = some ⟨.arr d1 k1, (π i, j) :: s⟩ := by simpa [Place.push] using hb
        have h1 := permOwn_row (ρ := ρ) hb' (hπ i hi).1
        rw [(hπ i hi).2.2.2] at h1
        exact ⟨by simpa [Place.push] using h1, hoth b (hI.rng b _ hb').1 (hnb b _ hb' (by simp))⟩
    · rcases belowB_false hq with rfl | hp'
      · refine ⟨fun e' sz' n' f'' hq' => ?_, (fun t0 _ hb => hb), fun _ b hb => ⟨permOwn_root hb, fun cc ee hcc => ?_⟩⟩
        · rw [updNode_self σ _ _ hnd] at hq'
          cases hq'
          exact ⟨f, hnd⟩
        · have := hI.inj _ _ _ hb hbo
          subst this
          rw [hbh] at hcc
          cases hcc
          exact ⟨c', hh', hsz⟩
      · have hqr := arr_mayUnder hp'
        refine ⟨fun e' sz' n' f'' hq' => updNode_off σ p q _ (not_under hp') hq', fun t0 _ hb => hb, fun _ b hb => ?_⟩
        obtain ⟨h1, h2⟩ := hkeep b q hb hqr
        exact ⟨h1, fun cc ee hcc => ⟨cc, h2.trans hcc, rfl⟩⟩
    · by_cases e0 : b = blk
      · subst e0
        rw [hbh] at hcc
        cases hcc
        exact ⟨c', hh', hsz⟩
      · exact ⟨cc, (hoth b (hI.rng b _ hb).1 e0).trans hcc, rfl⟩

theorem step_ifc {P : Program} {o : Oper} {σ : AS} {d : Nat} (hd : o.dst = some d) (hn : d < σ.n) {t : TypeId} {x : Operand} (ho : o.op = .makeInterface t x) {e0 : TypeId} (ht : P.underlying t = some (.slice e0)) {p : Place} (hx : σ.ev x = ⟨true, .one (.ref p)⟩) :
    Step P o σ (σ.setS d ⟨true, .one (.ifc t p)⟩) :=
  Step.value hd hn fun w0 own0 a w own hI => by
    refine ⟨.iface t (a.eval x), ?_, fun e sz n f hp => ⟨a.eval x, rfl, hI.evC hx e sz n f hp⟩⟩
    simp only [execOp, ho, Instr.makeInterface, Sem.run_bind, run_underlying ht, Result.andThen_ok, Sem.run_pure]
theorem step_clos1 {P : Program} {o : Oper} {σ : AS} {d : Nat} (hd : o.dst = some d) (hn : d < σ.n) {g : FuncId} {x : Operand} (ho : o.op = .makeFunc (.func g) #[] #[x]) {b : Nat} (hx : σ.ev x = ⟨true, .one (.bptr b 0)⟩) :
    Step P o σ (σ.setS d ⟨true, .one (.fn g [b])⟩) :=
  Step.value hd hn fun w0 own0 a w own hI => by
    refine ⟨.func (.func g) #[] #[a.eval x], ?_, ⟨#[a.eval x], rfl, rfl, fun j d hd => ?_⟩⟩
    · have : (#[x].map a.eval) = #[a.eval x] := by simp
      simp [execOp, ho, Instr.makeFunc]
    · cases j with
      | zero => cases hd; exact hI.evC hx
      | succ j => simp at hd

/-! ### nil slices in rows told as slices that nobody writes -/
inductive TelC : T → T → Prop where
  | refl (t : T) : TelC t t
  | nlz (e sz : Nat) (f : Nat → List T) : TelC .nl (.fz (.sl e sz 0 f))
inductive Tel : T → T → Prop where
  | refl (t : T) : Tel t t
  | rows {e sz n : Nat} {f g : Nat → List T} (hl : ∀ i, i < n → (g i).length = (f i).length) (h : ∀ i j, i < n → TelC ((f i).getD j .dead) ((g i).getD j .dead)) : Tel (.sl e sz n f) (.sl e sz n g)
theorem TelC.ok {w own pl v t t'} (h : TelC t t') (k : Ok w own pl v t) : Ok w own pl v t' := by
  cases h with
  | refl => exact k
  | nlz e sz f => cases k; exact .fz (.nil e sz f)
theorem TelC.follow {t t' : T} (h : TelC t t') (ps : List (Nat × Nat)) {e sz n g} (hf : follow t' ps = .sl e sz n g) : ∃ f, follow t ps = .sl e sz n f := by
  cases h with
  | refl => exact ⟨g, hf⟩
  | nlz e sz f => cases ps <;> simp [Mh.follow] at hf
theorem Tel.of_sl {t : T} {e sz n : Nat} {g : Nat → List T} (h : Tel t (.sl e sz n g)) : ∃ f, t = .sl e sz n f ∧ (∀ i, i < n → (g i).length = (f i).length) ∧ ∀ i j, i < n → TelC ((f i).getD j .dead) ((g i).getD j .dead) := by
  cases h with
  | refl => exact ⟨g, rfl, fun _ _ => rfl, fun _ _ _ => .refl _⟩
  | rows hl h => exact ⟨_, rfl, hl, h⟩
theorem Tel.follow {t t' : T} (h : Tel t t') (ps : List (Nat × Nat)) {e sz n g} (hf : follow t' ps = .sl e sz n g) : ∃ f, follow t ps = .sl e sz n f := by
  cases h with
  | refl => exact ⟨g, hf⟩
  | @rows e' sz' n' f1 g1 hl h =>
    cases ps with
    | nil => simp only [Mh.follow, T.sl.injEq] at hf ⊢; obtain ⟨rfl, rfl, rfl, _⟩ := hf; exact ⟨f1, rfl, rfl, rfl, rfl⟩
    | cons x ps =>
      obtain ⟨i, j⟩ := x
      simp only [Mh.follow] at hf ⊢
      split at hf
      · rename_i hi
        rw [if_pos hi]
        exact (h i j hi).follow ps hf
      · cases hf
theorem Tel.ok {w own p v t t'} (h : Tel t t') (k : Ok w own (some p) v t) : Ok w own (some p) v t' := by
  cases h with
  | refl => exact k
  | rows hl h =>
    cases k with
    | nil => exact .nil _ _ _
    | osl ho hh hs hn hcap hl' hr => exact .osl ho hh hs hn hcap (fun i hi => (hl i hi).trans (hl' i hi)) (fun i j hi hj => (h i j hi).ok (hr i j hi hj))
theorem Le.tel {σ σ' : AS} (hn : σ.n = σ'.n) (hs : σ'.s = σ.s) (hb : σ'.box = σ.box) (ha : ∀ d k, Tel (σ.arr d k) (σ'.arr d k)) : Le σ σ' := by
  intro w0 own0 a w own h
  have hnode : ∀ p e sz n' f, σ'.node p = .sl e sz n' f → ∃ g, σ.node p = .sl e sz n' g := by
    intro p e sz n' f hp
    obtain ⟨r, ps⟩ := p
    cases r with
    | arr d k => exact (ha d k).follow ps hp
    | box d =>
      cases ps with
      | nil => simp [AS.node] at hp
      | cons x ps =>
        obtain ⟨i, j⟩ := x
        cases i with
        | succ i => simp [AS.node] at hp
        | zero => simp only [AS.node, hb] at hp ⊢; exact ⟨f, hp⟩
  have hk : ∀ p, KeepP w w own own σ σ' p := fun p => ⟨fun e sz n' f hp => hnode p e sz n' f hp, fun d _ hd => by rw [← hb]; exact hd, fun _ b hb' => ⟨hb', fun c e hc => ⟨c, hc, rfl⟩⟩⟩
  refine ⟨own, h.trans ⟨rfl, rfl, rfl, Nat.le_refl _⟩ (fun _ _ _ => rfl) (fun b hb => ⟨hb, rfl⟩) (fun k => ?_) h.inj (fun b p hp => ⟨(h.rng b p hp).1, .inl (by rw [hp]; simp)⟩) hn.symm (fun t ht => ?_) (fun d hd => ?_) (fun d k e sz n' f hd => ?_) (Kept.of fun b k hb => ⟨hb, rfl⟩)⟩
  · have h1 := ha FF k
    have h2 := h.noff k
    rw [h2] at h1
    generalize σ'.arr FF k = x at h1
    cases h1; rfl
  · rw [hs]; exact ht.keepAll hk
  · rw [hb] at hd ⊢
    obtain ⟨b, c, e, h1, h2, h3, h4⟩ := h.boxes d hd
    exact ⟨b, c, e, h1, h2, h3, fun j x hx => (h4 j x hx).keepAll hk⟩
  · have h1 := ha d k
    rw [hd] at h1
    obtain ⟨g, hg, hl, hfg⟩ := h1.of_sl
    obtain ⟨v, hv⟩ := h.arrs d k e sz n' g hg
    exact ⟨v, Tel.ok (.rows hl hfg) hv⟩
theorem Le.telArr {σ : AS} (d k : Nat) {t' : T} (h : Tel (σ.arr d k) t') : Le σ (σ.setArr d k t') :=
  Le.tel rfl rfl rfl fun a b => by
    rw [setArr_arr]
    split
    · rename_i e; rw [e.1, e.2]; exact h
    · exact .refl _

inductive TelS : T → T → Prop where
  | refl (t : T) : TelS t t
  | nlz (e sz : Nat) (f : Nat → List T) : TelS .nl (.fz (.sl e sz 0 f))
  | nls (e sz : Nat) (f : Nat → List T) : TelS .nl (.sl e sz 0 f)
theorem TelS.ok {w own pl v t t'} (h : TelS t t') (k : Ok w own pl v t) : Ok w own pl v t' := by
  cases h with
  | refl => exact k
  | nlz e sz f => cases k; exact .fz (.nil e sz f)
  | nls e sz f => cases k; exact .nil e sz f
theorem Le.telBelow {σ : AS} (p : Place) {e sz n : Nat} {f : Nat → List T} (g : Nat → List T) (hn : σ.node p = .sl e sz n f) (hl : ∀ i, i < n → (g i).length = (f i).length)
    (hz : ∀ i j, i < n → TelS ((f i).getD j .dead) ((g i).getD j .dead)) : Le σ (((σ.updNode p (.sl e sz n g)).mapC (belowB p)).goneArr (fun _ _ => false)) := by
  intro w0 own0 a w own h
  have hf : Froz w w own own := ⟨fun b hb _ => ⟨hb, rfl⟩⟩
  refine ⟨own, h.upd hn (.sl e sz n g) ⟨rfl, rfl, rfl, Nat.le_refl _⟩ hf (fun _ _ => false) (by cases p with | mk r ps => cases r <;> rfl) (fun b q hb hq _ => ⟨hb, rfl⟩) (fun v hv => ?_) (belowB p) (fun q _ => by cases q with | mk r ps => cases r <;> rfl)
    (fun q hq => ?_) (fun _ => rfl) h.inj (fun b q hb => ⟨(h.rng b q hb).1, .inl (by rw [hb]; simp)⟩) (Kept.of fun b k hb => ⟨hb, rfl⟩)⟩
  · cases hv with
    | nil => exact .nil _ _ _
    | osl ho hh hs hn' hcap hl' hr => exact .osl ho hh hs hn' hcap (fun i hi => (hl i hi).trans (hl' i hi)) (fun i j hi hj => (hz i j hi).ok (hr i j hi hj))
  · rcases belowB_false hq with rfl | hp
    · refine ⟨fun e' sz' n' f' hq' => ?_, fun t0 _ hb e0 => hb (by have := updNode_box_len σ q (.sl e sz n g) t0; rw [e0] at this; exact List.eq_nil_of_length_eq_zero this), fun _ b hb => ⟨hb, fun c e hc => ⟨c, hc, rfl⟩⟩⟩
      rw [updNode_self σ q _ hn] at hq'
      cases hq'
      exact ⟨f, hn⟩
    · exact ⟨fun e' sz' n' f' hq' => updNode_off σ p q _ (not_under hp) hq', fun t0 _ hb e0 => hb (by have := updNode_box_len σ p (.sl e sz n g) t0; rw [e0] at this; exact List.eq_nil_of_length_eq_zero this), fun _ b hb => ⟨hb, fun c e hc => ⟨c, hc, rfl⟩⟩⟩

end Go.Mh
