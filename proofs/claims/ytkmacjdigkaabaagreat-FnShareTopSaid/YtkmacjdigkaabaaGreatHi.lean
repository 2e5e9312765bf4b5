/- Contracts of functions of the program, each met by its body; conditions stand in each statement. No condition. -/
import Derived.Test.YtkmacjdigkaabaaGreatHh
set_option linter.unusedVariables false
set_option linter.unusedSimpArgs false
set_option linter.unnecessarySimpa false
namespace Go.Mh
open Go

/-! ### parts of owned arrays -/
theorem addr_add (b off q : Nat) : (⟨b, off, none⟩ : Addr).add q = ⟨b, off + q, none⟩ := by unfold Addr.add; split <;> simp_all
theorem run_sliceM {P : Program} {w : World} {t e sz by' : Nat} (ht : sliceT P t = some ⟨e, sz, by'⟩) (a : Option Addr) (len cap lo hi mx : Nat) {olo ohi omx : Option Value} (h1 : (olo = none ∧ lo = 0) ∨ ∃ k, olo = some (.int k (lo : Int))) (h2 : ∃ k, ohi = some (.int k (hi : Int))) (h3 : ∃ k, omx = some (.int k (mx : Int)))
    (hlh : lo ≤ hi) (hhm : hi ≤ mx) (hmc : mx ≤ cap) : (Instr.sliceAt t (.slice a len cap) olo ohi omx).run P w = .ok (.slice (if mx = lo then a else a.map (·.add (lo * sz))) (hi - lo) (mx - lo)) w := by
  obtain ⟨hu, I, z, hi', hz, hs, hb, hzs, hsz⟩ := sliceT_spec ht
  obtain ⟨k2, rfl⟩ := h2
  obtain ⟨k3, rfl⟩ := h3
  have e0 : ∀ (k : IntKind) (c : BoundsCode), (Instr.sliceBound (.int k (mx : Int)) cap c).run P w = .ok mx w := fun k c => by
    have := run_sliceBound (P := P) w k (mx : Int) cap c (by omega) (by omega)
    simpa using this
  have e1 : ∀ (k : IntKind) (c : BoundsCode), (Instr.sliceBound (.int k (hi : Int)) mx c).run P w = .ok hi w := fun k c => by
    have := run_sliceBound (P := P) w k (hi : Int) mx c (by omega) (by omega)
    simpa using this
  have e2 : ∀ (k : IntKind) (c : BoundsCode), (Instr.sliceBound (.int k (lo : Int)) hi c).run P w = .ok lo w := fun k c => by
    have := run_sliceBound (P := P) w k (lo : Int) hi c (by omega) (by omega)
    simpa using this
  rcases h1 with ⟨rfl, rfl⟩ | ⟨k, rfl⟩
  · simp only [Instr.sliceAt, Sem.run_bind, run_underlying hu, Result.andThen_ok, Instr.slice, Instr.sliceBounds, Sem.run_pure, if_true, e0, e1, sizeOf, run_info hi', hs, Option.isSome_some]
  · simp only [Instr.sliceAt, Sem.run_bind, run_underlying hu, Result.andThen_ok, Instr.slice, Instr.sliceBounds, Sem.run_pure, if_true, e0, e1, e2, sizeOf, run_info hi', hs, Option.isSome_some]

section
variable {P : Program} {o : Oper} {σ : AS} {d : Nat} (hd : o.dst = some d) (hn : d < σ.n)
include hd hn
/-- x[lo:hi:hi] -/
theorem step_sub3 {t e' sz by' : Nat} {x : Operand} {olo : Option Operand} {ohi omx : Operand} (ho : o.op = .slice t x olo (some ohi) (some omx)) (ht : sliceT P t = some ⟨e', sz, by'⟩) {e n lo m : Nat} {k k' : IntKind} {f : Nat → List T} {p : Place} {i : Int}
    (hx : σ.ev x = ⟨true, .one (.ref p)⟩) (hp : σ.node p = .sl e sz n f) (hlo : BoundIs σ olo 0 lo) (hhi : σ.ev ohi = ⟨true, .one (.v (.int k i))⟩) (hmx : σ.ev omx = ⟨true, .one (.v (.int k' i))⟩) (hi : i = (lo + m : Nat)) (hle : lo + m ≤ n) (h0 : 0 < n) :
    Step P o σ (σ.setS d ⟨true, .one (.sub p lo m true)⟩) :=
  Step.value hd hn fun w0 own0 a w own hI => by
    subst hi
    have hx' := hI.evC hx
    rcases hx' e sz n f hp with ⟨_, h⟩ | ⟨b, cap, c, hv, h2, h3, h4, h5, h6⟩
    · omega
    · have r := run_sliceM (w := w) ht (some ⟨b, 0, none⟩) n cap lo (lo + m) (lo + m) (ohi := some (a.eval ohi)) (omx := some (a.eval omx)) (hlo.value hI) ⟨k, by rw [hI.evS hhi rfl]; rfl⟩ ⟨k', by rw [hI.evS hmx rfl]; rfl⟩ (by omega) (Nat.le_refl _) (by omega)
      have hadd := addr_add
      refine ⟨.slice (if lo + m = lo then some ⟨b, 0, none⟩ else (some (⟨b, 0, none⟩ : Addr)).map (·.add (lo * sz))) (lo + m - lo) (lo + m - lo), by simp only [execOp, ho, Option.map_some, Sem.run_bind, hv, r, Result.andThen_ok, Sem.run_pure], ?_⟩
      rw [show lo + m - lo = m by omega]
      intro e1 sz1 N1 f1 hp1
      rw [hp] at hp1
      cases hp1
      have hsz : (lo + m) * sz ≤ c.size := Nat.le_trans (Nat.mul_le_mul_right sz (by omega)) h4.le
      by_cases hm : lo + m = lo
      · rw [if_pos hm]
        have h0 : m = 0 := by omega
        subst h0
        exact ⟨b, 0, 0, c, rfl, h2, h3, (fun h => by rcases h with h | h <;> first | (subst h; simp; done) | omega), hsz, Nat.le_refl _, fun _ => rfl, by omega⟩
      · rw [if_neg hm]
        exact ⟨b, lo * sz, m, c, by simp only [Option.map_some, hadd, Nat.zero_add], h2, h3, fun _ => rfl, hsz, Nat.le_refl _, fun _ => rfl, by omega⟩
/-- x[lo:] -/
theorem step_subLo {t e' sz by' : Nat} {x olo : Operand} (ho : o.op = .slice t x (some olo) none none) (ht : sliceT P t = some ⟨e', sz, by'⟩) {e n lo m : Nat} {k : IntKind} {f : Nat → List T} {p : Place} {i : Int}
    (hx : σ.ev x = ⟨true, .one (.ref p)⟩) (hp : σ.node p = .sl e sz n f) (hlo : σ.ev olo = ⟨true, .one (.v (.int k i))⟩) (hi : i = (lo : Nat)) (hle : lo + m = n) (h0 : 0 < n) :
    Step P o σ (σ.setS d ⟨true, .one (.sub p lo m false)⟩) :=
  Step.value hd hn fun w0 own0 a w own hI => by
    subst hi
    have hx' := hI.evC hx
    rcases hx' e sz n f hp with ⟨_, h⟩ | ⟨b, cap, c, hv, h2, h3, h4, h5, h6⟩
    · omega
    · have r := run_sliceG (w := w) ht (some ⟨b, 0, none⟩) n cap lo n (olo := some (a.eval olo)) (ohi := none) (.inr ⟨k, by rw [hI.evS hlo rfl]; rfl⟩) (.inl ⟨rfl, rfl⟩) h5 (by omega) (Nat.le_refl _)
      have hadd := addr_add
      refine ⟨.slice (if cap = lo then some ⟨b, 0, none⟩ else (some (⟨b, 0, none⟩ : Addr)).map (·.add (lo * sz))) (n - lo) (cap - lo), by simp only [execOp, ho, Option.map_some, Option.map_none, Sem.run_bind, hv, r, Result.andThen_ok, Sem.run_pure], ?_⟩
      rw [show n - lo = m by omega]
      intro e1 sz1 N1 f1 hp1
      rw [hp] at hp1
      cases hp1
      have hsz : (lo + m) * sz ≤ c.size := Nat.le_trans (Nat.mul_le_mul_right sz (by omega)) h4.le
      by_cases hm : cap = lo
      · rw [if_pos hm]
        have h0 : m = 0 := by omega
        subst h0
        exact ⟨b, 0, cap - lo, c, rfl, h2, h3, (fun h => by rcases h with h | h <;> first | (subst h; simp; done) | omega), hsz, by omega, (fun h => by cases h), by omega⟩
      · rw [if_neg hm]
        exact ⟨b, lo * sz, cap - lo, c, by simp only [Option.map_some, hadd, Nat.zero_add], h2, h3, fun _ => rfl, hsz, by omega, (fun h => by cases h), by omega⟩
end

/-! ### a row is cut out -/
def cutF (i : Nat) (f : Nat → List T) : Nat → List T := fun j => if j < i then f j else f (j + 1)
/-- rows behind row i move down; what row i owned belongs to nobody; the array itself goes to block nb -/
def cutOwn (p : Root) (i : Nat) (nb : Nat) (own : Own) : Own := fun b => if b = nb then some ⟨p, []⟩ else match own b with
  | some x => match x.r.beq p with
    | true => match x.p with
      | (k, j) :: s => if k < i then some x else if k = i then none else some ⟨p, (k - 1, j) :: s⟩
      | [] => none
    | false => some x
  | none => none
theorem cutOwn_nb (p : Root) (i nb : Nat) (own : Own) : cutOwn p i nb own nb = some ⟨p, []⟩ := by simp [cutOwn]
theorem cutOwn_some {p : Root} {i nb : Nat} {own : Own} {b : Nat} {y : Place} (h : cutOwn p i nb own b = some y) :
    (b = nb ∧ y = ⟨p, []⟩) ∨ (b ≠ nb ∧ own b = some y ∧ y.r ≠ p) ∨ (b ≠ nb ∧ ∃ k j s, own b = some ⟨p, (k, j) :: s⟩ ∧ ((k < i ∧ y = ⟨p, (k, j) :: s⟩) ∨ (i < k ∧ y = ⟨p, (k - 1, j) :: s⟩))) := by
  unfold cutOwn at h
  by_cases hb : b = nb
  · rw [if_pos hb] at h; cases h; exact .inl ⟨hb, rfl⟩
  · rw [if_neg hb] at h
    right
    cases ho : own b with
    | none => rw [ho] at h; cases h
    | some x =>
      obtain ⟨r, ps⟩ := x
      rw [ho] at h
      simp only at h
      cases h1 : r.beq p with
      | true =>
        rw [h1] at h
        have := Root.beq_eq h1
        subst this
        cases ps with
        | nil => cases h
        | cons z s =>
          obtain ⟨k, j⟩ := z
          simp only at h
          right
          refine ⟨hb, k, j, s, rfl, ?_⟩
          split at h
          · rename_i hk; cases h; exact .inl ⟨hk, rfl⟩
          · split at h
            · cases h
            · rename_i h2 h3; cases h; exact .inr ⟨by omega, rfl⟩
      | false =>
        rw [h1] at h
        cases h
        exact .inl ⟨hb, rfl, fun e => by simp only at e; rw [e, Root.beq_refl] at h1; cases h1⟩
theorem cutOwn_keep {p : Root} {i nb : Nat} {own : Own} {b : Nat} {x : Place} (h : own b = some x) (hb : b ≠ nb) (h1 : x.r ≠ p) : cutOwn p i nb own b = some x := by
  simp only [cutOwn, if_neg hb, h, beq_root_false h1]
theorem cutOwn_low {p : Root} {i nb : Nat} {own : Own} {b k j : Nat} {s : List (Nat × Nat)} (h : own b = some ⟨p, (k, j) :: s⟩) (hb : b ≠ nb) (hk : k < i) : cutOwn p i nb own b = some ⟨p, (k, j) :: s⟩ := by
  simp only [cutOwn, if_neg hb, h, Root.beq_refl, if_pos hk]
theorem cutOwn_high {p : Root} {i nb : Nat} {own : Own} {b k j : Nat} {s : List (Nat × Nat)} (h : own b = some ⟨p, (k, j) :: s⟩) (hb : b ≠ nb) (hk : i < k) : cutOwn p i nb own b = some ⟨p, (k - 1, j) :: s⟩ := by
  simp only [cutOwn, if_neg hb, h, Root.beq_refl, if_neg (show ¬ k < i by omega), if_neg (show ¬ k = i by omega)]

/-- append(x[:i:i], x[i+1:]...) -/
theorem step_cut {P : Program} {o : Oper} {σ : AS} {dst : Nat} (hd : o.dst = some dst) (hn : dst < σ.n) {t e sz by' i m N : Nat} {x y : Operand} (ho : o.op = .call { callee := .builtin .append, args := #[x, y], argTypes := #[t, t] }) (ht : sliceT P t = some ⟨e, sz, by'⟩) {d k : Nat} {f : Nat → List T} {fl : Bool}
    (hx : σ.ev x = ⟨true, .one (.sub ⟨.arr d k, []⟩ 0 i true)⟩) (hy : σ.ev y = ⟨true, .one (.sub ⟨.arr d k, []⟩ (i + 1) m fl)⟩) (hp : σ.arr d k = .sl e sz N f) (hN : i + 1 + m = N) (hb : N * by' ≤ 140737488355328) (hm : N ≤ 140737488355328) (hdr : Nat.beq d RR = false := by rfl) :
    Step P o σ (((σ.mapC (onArr d k)).setArr d k (.sl e sz (i + m) (cutF i f))).setS dst ⟨true, .one (.ref ⟨.arr d k, []⟩)⟩) :=
  Step.make hd hn fun w0 own0 a w own hI => by
    have hdf : d ≠ FF := fun e => by subst e; rw [hI.noff] at hp; cases hp
    have hnd : σ.node ⟨.arr d k, []⟩ = .sl e sz N f := by simp only [AS.node, follow, hp]
    obtain ⟨b, off, cap, c, hxv, hbo, hbh, hoff, hcs, hcap, hfull, hcm⟩ := hI.evC hx e sz N f hnd
    obtain ⟨b2, off2, cap2, c2, hyv, hbo2, hbh2, hoff2, hcs2, hcap2, _, hcm2⟩ := hI.evC hy e sz N f hnd
    have hbb := hI.inj _ _ _ hbo hbo2
    subst hbb
    rw [hbh] at hbh2
    cases hbh2
    obtain rfl : off = 0 := by simpa using hoff (.inl rfl)
    have hfull := (hfull rfl).symm
    subst hfull
    obtain ⟨hu', I, z, hi, hz, hs, hby, hzs, hsz⟩ := sliceT_spec ht
    obtain ⟨v0, hv0⟩ := hI.arrs d k e sz N f hp
    -- the rows of the array
    have hrow : (∀ q, q < N → (f q).length = sz) ∧ ∀ q j, q < N → j < sz → Ok w own (some ⟨.arr d k, [(q, j)]⟩) (c.getD (q * sz + j) undef) ((f q).getD j .dead) := by
      cases hv0 with
      | nil => omega
      | osl ho' hh' hcs' hn' hcap' hl' hr' =>
        have := hI.inj _ _ _ ho' hbo
        subst this
        rw [hbh] at hh'
        cases hh'
        exact ⟨hl', fun q j hq hj => hr' q j hq hj⟩
    obtain ⟨hl, hr⟩ := hrow
    have hpsh : ∀ q j : Nat, (⟨.arr d k, []⟩ : Place).push q j = ⟨.arr d k, [(q, j)]⟩ := fun q j => rfl
    have hNsz : N * sz ≤ c.size := by rw [← hN]; exact hcs2
    have key : ∀ (v' : Value) (w' : World) (nb cap' : Nat) (c' : Array Value), SameW w w' → (∀ q, q < w.heap.size → q ≠ nb → w'.heap[q]? = w.heap[q]?) → (nb = b ∨ w.heap.size ≤ nb) → nb < w'.heap.size → v' = .slice (some ⟨nb, 0, none⟩) (i + m) cap' →
        w'.heap[nb]? = some (.cells c' e (0, 0)) → Room c'.size cap' sz (i + m) → i + m ≤ cap' → cap' ≤ maxLen → (∀ q j, q < i + m → j < sz → c'.getD (q * sz + j) undef = c.getD ((if q < i then q else q + 1) * sz + j) undef) →
        (Builtin.append_ #[t, t] o.type #[a.eval x, a.eval y]).run P w = .ok v' w' →
        ∃ v w' own', (execOp a.eval o).run P w = .ok (.value v) w' ∧ Inv w0 own0 ((σ.mapC (onArr d k)).setArr d k (.sl e sz (i + m) (cutF i f))) a w' own' ∧ OkS w' own' ((σ.mapC (onArr d k)).setArr d k (.sl e sz (i + m) (cutF i f))) v ⟨true, .one (.ref ⟨.arr d k, []⟩)⟩ := by
      intro v' w' nb cap' c' hw hoth hnb hlt hv' hh' hroom hle hcm' hcell hrun
      let own' := cutOwn (.arr d k) i nb own
      have hself : own' nb = some ⟨.arr d k, []⟩ := cutOwn_nb _ _ _ _
      have hne : ∀ q s, own q = some s → s ≠ ⟨.arr d k, []⟩ → q ≠ nb := fun q s hq hs' e1 => by
        subst e1
        rcases hnb with h | h
        · subst h; rw [hbo] at hq; cases hq; exact hs' rfl
        · have := (hI.rng q s hq).1; omega
      have hf : Froz w w' own own' := ⟨fun q hq hlt' => by
        have hqn : q ≠ nb := fun e1 => by
          subst e1
          rcases hnb with h | h
          · subst h; rw [hbo] at hq; cases hq
          · omega
        exact ⟨by simp only [own', cutOwn, if_neg hqn, hq], hoth q hlt' hqn⟩⟩
      have hinj : ∀ q q' s, own' q = some s → own' q' = some s → q = q' := fun q q' s hq hq' => by
        rcases cutOwn_some hq with ⟨h1, h2⟩ | ⟨h1, h2, h3⟩ | ⟨h1, k1, j1, s1, h2, h3⟩ <;> rcases cutOwn_some hq' with ⟨g1, g2⟩ | ⟨g1, g2, g3⟩ | ⟨g1, k2, j2, s2, g2, g3⟩
        · rw [h1, g1]
        · exact absurd (by rw [h2]) g3
        · rcases g3 with ⟨_, g3⟩ | ⟨_, g3⟩ <;> rw [h2] at g3 <;> cases g3
        · exact absurd (by rw [g2]) h3
        · exact hI.inj _ _ _ h2 g2
        · rcases g3 with ⟨_, g3⟩ | ⟨_, g3⟩ <;> exact absurd (by rw [g3]) h3
        · rcases h3 with ⟨_, h3⟩ | ⟨_, h3⟩ <;> rw [g2] at h3 <;> cases h3
        · rcases h3 with ⟨_, h3⟩ | ⟨_, h3⟩ <;> exact absurd (by rw [h3]) g3
        · have : (⟨.arr d k, (k1, j1) :: s1⟩ : Place) = ⟨.arr d k, (k2, j2) :: s2⟩ := by
            rcases h3 with ⟨h4, h3⟩ | ⟨h4, h3⟩ <;> rcases g3 with ⟨g4, g3⟩ | ⟨g4, g3⟩ <;> rw [h3] at g3 <;> simp only [Place.mk.injEq, List.cons.injEq, Prod.mk.injEq, true_and] at g3 ⊢ <;> exact ⟨⟨by omega, g3.1.2⟩, g3.2⟩
          rw [this] at h2
          exact hI.inj _ _ _ h2 g2
      have hrng : ∀ q s, own' q = some s → q < w'.heap.size ∧ (own q ≠ none ∨ w.heap.size ≤ q) := fun q s hq => by
        rcases cutOwn_some hq with ⟨h1, h2⟩ | ⟨h1, h2, h3⟩ | ⟨h1, k1, j1, s1, h2, h3⟩
        · subst h1
          refine ⟨hlt, ?_⟩
          rcases hnb with h | h
          · subst h; exact .inl (by rw [hbo]; simp)
          · exact .inr h
        · exact ⟨Nat.lt_of_lt_of_le (hI.rng q _ h2).1 hw.4, .inl (by rw [h2]; simp)⟩
        · exact ⟨Nat.lt_of_lt_of_le (hI.rng q _ h2).1 hw.4, .inl (by rw [h2]; simp)⟩
      have hok : Ok w' own' (some ⟨.arr d k, []⟩) v' (.sl e sz (i + m) (cutF i f)) := by
        rw [hv']
        refine .osl hself hh' hroom hle hcm' (fun q hq => ?_) (fun q j hq hj => ?_)
        · simp only [cutF]; split <;> exact hl _ (by omega)
        · rw [hcell q j hq hj]
          simp only [cutF, hpsh]
          by_cases h : q < i
          · rw [if_pos h, if_pos h]
            refine (hr q j (by omega) hj).moved hf (fun u s hu => ?_)
            simp only [List.cons_append, List.nil_append] at hu ⊢
            have hun := hne _ _ hu (by simp)
            exact ⟨cutOwn_low hu hun h, hoth _ (hI.rng _ _ hu).1 hun⟩
          · rw [if_neg h, if_neg h]
            refine (hr (q + 1) j (by omega) hj).moved hf (fun u s hu => ?_)
            simp only [List.cons_append, List.nil_append] at hu ⊢
            have hun := hne _ _ hu (by simp)
            have := cutOwn_high (p := .arr d k) (i := i) (nb := nb) hu hun (by omega)
            exact ⟨this, hoth _ (hI.rng _ _ hu).1 hun⟩
      have hI' := hI.turnArr d k hdf (fun e => by subst e; simp at hdr) (.sl e sz (i + m) (cutF i f)) hw hf (fun q s hq hs' => by
        have hqn := hne q s hq (fun e1 => hs' (by rw [e1]))
        exact ⟨cutOwn_keep hq hqn hs', hoth q (hI.rng q s hq).1 hqn⟩) hinj hrng ⟨v', hok⟩
      refine ⟨v', w', own', ?_, hI', ?_⟩
      · simp only [execOp, ho, resolve, invoke, builtin, Sem.run_bind, Sem.run_pure, Result.andThen_ok, List.map_toArray, List.map_cons, List.map_nil, hrun]
      · intro e' sz' n' f' hq'
        simp only [AS.node, setArr_arr, and_self, if_true, follow, T.sl.injEq] at hq'
        obtain ⟨rfl, rfl, rfl, rfl⟩ := hq'
        exact hok.hdr
    by_cases hm0 : m = 0
    · subst hm0
      have hrun0 : ∀ (o2 c2 : Nat), (Builtin.append_ #[t, t] o.type #[.slice (some ⟨b, 0, none⟩) i i, .slice (some ⟨b, o2, none⟩) 0 c2]).run P w = .ok (.slice (some ⟨b, 0, none⟩) i i) w := fun o2 c2 => by
        have hii : i ≤ i := Nat.le_refl i
        simp [Builtin.append_, run_underlying hu', sizeOf, typeInfo, hi, Builtin.lenOf, Builtin.firstCells, loadCells, loadCellsFrom, hii, storeCells]
      refine key (.slice (some ⟨b, 0, none⟩) (i + 0) i) w b i c ⟨rfl, rfl, rfl, Nat.le_refl _⟩ (fun _ _ _ => rfl) (.inl rfl) (heap_lt hbh) rfl hbh (.inr ⟨rfl, Nat.le_trans (Nat.mul_le_mul_right sz (by omega)) hNsz⟩) (Nat.le_refl _) hcm (fun q j hq hj => by rw [if_pos (by omega)]) ?_
      rw [hxv, hyv]
      exact hrun0 _ _
    · obtain rfl : off2 = (i + 1) * sz := hoff2 (.inr (by omega))
      have hadd := addr_add
      let olds := c.toList.take (i * sz)
      let news := (c.toList.drop ((i + 1) * sz)).take (m * sz)
      have hlt1 : i * sz + (sz + m * sz) ≤ c.size := by
        have : N * sz = i * sz + (sz + m * sz) := by rw [← hN]; simp only [Nat.add_mul, Nat.one_mul]; omega
        omega
      have ho1 : olds.length = i * sz := by simp only [olds, List.length_take, Array.length_toList]; omega
      have hn1 : news.length = m * sz := by simp only [news, List.length_take, List.length_drop, Array.length_toList, Nat.add_mul, Nat.one_mul]; omega
      have hog : ∀ q, q < i * sz → olds[q]? = some (c.getD q undef) := fun q hq => by
        simp only [olds, List.getElem?_take, if_pos hq, Array.getElem?_toList, Array.getD_eq_getD_getElem?]
        rw [Array.getElem?_eq_getElem (by omega)]; rfl
      have hng : ∀ q, q < m * sz → news[q]? = some (c.getD ((i + 1) * sz + q) undef) := fun q hq => by
        have hlt : (i + 1) * sz + q < c.size := by simp only [Nat.add_mul, Nat.one_mul]; omega
        simp only [news, List.getElem?_take, if_pos hq, List.getElem?_drop, Array.getElem?_toList, Array.getD_eq_getD_getElem?]
        rw [Array.getElem?_eq_getElem hlt]; rfl
      have hrun := run_append_grow (P := P) w t o.type e I z hu' hi hz ⟨b, 0, none⟩ i i olds (by rw [hs]; exact ho1) (fun j v hj => by
        have hlt : j < i * sz := by rw [← ho1]; exact (List.getElem?_eq_some_iff.1 hj).1
        rw [hog j hlt] at hj; cases hj
        rw [hadd, Nat.zero_add, cell_of_row w b j c e (0, 0) hbh]
        rw [Array.getD_eq_getD_getElem?, Array.getElem?_eq_getElem (by omega)]; rfl) ⟨b, (i + 1) * sz, none⟩ m cap2 news (by rw [hs]; exact hn1) (fun j v hj => by
        have hlt : j < m * sz := by rw [← hn1]; exact (List.getElem?_eq_some_iff.1 hj).1
        rw [hng j hlt] at hj; cases hj
        have hlt2 : (i + 1) * sz + j < c.size := by simp only [Nat.add_mul, Nat.one_mul]; omega
        rw [hadd, cell_of_row w b _ c e (0, 0) hbh]
        rw [Array.getD_eq_getD_getElem?, Array.getElem?_eq_getElem hlt2]; rfl) (by omega) (by omega) (growslice_fits (by omega) (by
          rw [hby]
          exact Nat.le_trans (Nat.mul_le_mul_right _ (by omega)) hb))
      have hge := grownCap_ge w (i + m) i e
      refine key (.slice (some ⟨w.heap.size, 0, none⟩) (i + m) (grownCap w (i + m) i e)) (w.drew.alloc (.cells (olds.toArray ++ news.toArray ++ Builtin.zeroCells z.cells (grownCap w (i + m) i e - (i + m))) e)) w.heap.size (grownCap w (i + m) i e) _ ⟨rfl, rfl, rfl, by simp⟩ (fun q hq hne => heap_alloc_old w.drew _ q hq) (.inr (Nat.le_refl _)) (by simp) rfl (heap_alloc_new w.drew _) (.inl ?_) hge (grownCap_le_maxLen w (i + m) i e (by simp only [maxLen]; omega)) (fun q j hq hj => ?_) (by rw [hxv, hyv]; exact hrun)
      · simp only [Array.size_append, List.size_toArray, size_zeroCells, hzs, hn1, ho1]
        rw [← Nat.add_mul, ← Nat.add_mul]
        congr 1; omega
      · have hqj : q * sz + j < (i + m) * sz := mul_add_lt hq hj
        have e1 : (olds.toArray ++ news.toArray ++ Builtin.zeroCells z.cells (grownCap w (i + m) i e - (i + m))).getD (q * sz + j) undef = ((olds ++ news)[q * sz + j]?).getD undef := by
          have hl : q * sz + j < (olds.toArray ++ news.toArray).size := by simp only [Array.size_append, List.size_toArray, ho1, hn1]; rw [← Nat.add_mul]; exact hqj
          rw [Array.getD_eq_getD_getElem?, Array.getElem?_append_left hl]
          simp
        rw [e1]
        by_cases h : q < i
        · have h2 : q * sz + j < i * sz := mul_add_lt h hj
          rw [if_pos h, List.getElem?_append_left (by rw [ho1]; exact h2), hog _ h2]; rfl
        · obtain ⟨l, rfl⟩ : ∃ l, q = i + l := ⟨q - i, by omega⟩
          have h3 : l * sz + j < m * sz := mul_add_lt (by omega) hj
          have e2 : (i + l) * sz + j = i * sz + (l * sz + j) := by rw [Nat.add_mul]; omega
          have e3 : (i + l + 1) * sz + j = (i + 1) * sz + (l * sz + j) := by simp only [Nat.add_mul, Nat.one_mul]; omega
          rw [if_neg h, List.getElem?_append_right (by rw [ho1]; omega), ho1, e2, Nat.add_sub_cancel_left, hng _ h3, e3]; rfl

/-! ### nil slices told in other words -/
inductive ReC : C → C → Prop where
  | refl (c : C) : ReC c c
  | nl : ReC (.v .nl) .nil
  | nlsl (e sz : Nat) (f : Nat → List T) : ReC (.v .nl) (.v (.sl e sz 0 f))
  | sl (e sz : Nat) (f : Nat → List T) : ReC .nil (.v (.sl e sz 0 f))
theorem ReC.ok {w own σ v c c'} (h : ReC c c') (k : OkC w own σ v c) : OkC w own σ v c' := by
  cases h with
  | refl => exact k
  | nl => have k' : Ok w own none v .nl := k; cases k'; exact rfl
  | nlsl e sz f => have k' : Ok w own none v .nl := k; cases k'; exact .nil e sz f
  | sl e sz f => have k' : v = .slice none 0 0 := k; rw [k']; exact .nil e sz f
theorem ReC.cell {w own σ d j v c c'} (h : ReC c c') (k : OkCell w own σ d j v c) : OkCell w own σ d j v c' := by
  cases h with
  | refl => exact k
  | nl => exact OkCell.of_C (ReC.ok (c := .v .nl) .nl k)
  | nlsl e sz f => exact OkCell.of_C (ReC.ok (c := .v .nl) (.nlsl e sz f) k)
  | sl e sz f => exact OkCell.of_C (ReC.ok (c := .nil) (.sl e sz f) k)
theorem ReC.tree {c c'} (h : ReC c c') : cellTree (some c) = cellTree (some c') := by cases h <;> rfl
inductive ReL : List C → List C → Prop where
  | nil : ReL [] []
  | cons {c c' : C} {l l' : List C} (h : ReC c c') (hs : ReL l l') : ReL (c :: l) (c' :: l')
theorem ReL.get {l l' : List C} (h : ReL l l') : l.length = l'.length ∧ ∀ (j : Nat) c', l'[j]? = some c' → ∃ c, l[j]? = some c ∧ ReC c c' := by
  induction h with
  | nil => exact ⟨rfl, fun j t' h => by simp at h⟩
  | cons h hs ih =>
    refine ⟨by simp [ih.1], fun j t' hj => ?_⟩
    cases j with
    | zero => simp only [List.getElem?_cons_zero, Option.some.injEq] at hj; subst hj; exact ⟨_, by simp, h⟩
    | succ j => obtain ⟨t, h1, h2⟩ := ih.2 j t' (by simpa using hj); exact ⟨t, by simpa using h1, h2⟩
theorem ReL.tree {l l' : List C} (h : ReL l l') (i : Nat) : cellTree (l[i]?) = cellTree (l'[i]?) := by
  induction h generalizing i with
  | nil => rfl
  | cons h hs ih =>
    cases i with
    | zero => exact h.tree
    | succ i => simpa using ih i
theorem Le.reBox {σ : AS} (d : Nat) {cs cs' : List C} (hs : σ.box d = cs) (h : ReL cs cs') : Le σ (σ.setBox d cs') := by
  intro w0 own0 a w own hI
  subst hs
  refine ⟨own, hI.sameN rfl rfl rfl (fun p => ?_) (fun t => ?_) (fun t ht => ?_)⟩
  · obtain ⟨r, ps⟩ := p
    cases r with
    | arr t k => rfl
    | box t =>
      cases ps with
      | nil => rfl
      | cons x ps =>
        obtain ⟨i, l⟩ := x
        cases i with
        | succ i => rfl
        | zero =>
          simp only [AS.node, setBox_box]
          split
          · rename_i e; subst e; rw [h.tree]
          · rfl
  · rw [setBox_box]
    split
    · rename_i e; subst e
      have hl := h.get.1
      constructor
      · intro e; rw [e] at hl; exact List.eq_nil_of_length_eq_zero hl.symm
      · intro e; rw [e] at hl; exact List.eq_nil_of_length_eq_zero hl
    · exact Iff.rfl
  · rw [setBox_box] at ht ⊢
    split
    · rename_i e; subst e
      rw [if_pos rfl] at ht
      have hne : σ.box t ≠ [] := fun e0 => ht (by
        have hl := h.get.1
        rw [e0] at hl; exact List.eq_nil_of_length_eq_zero hl.symm)
      obtain ⟨b, c, e1, g1, g2, g3, g4⟩ := hI.boxes t hne
      refine ⟨b, c, e1, g1, g2, g3.trans h.get.1, fun j x hx => ?_⟩
      obtain ⟨c0, k1, k2⟩ := h.get.2 j x hx
      exact k2.cell (g4 j c0 k1)
    · rename_i e
      rw [if_neg e] at ht
      exact hI.boxes t ht

/-! ### roads that meet -/
theorem AWp.join {P : Program} {Q : Exit → AS → Prop} {σ : AS} {x y : Code} {α : Type} (mk : α → AS) (Pre : α → Prop) (J : ∀ z, Pre z → AWp P y Q (mk z)) (h : AWp P x (AThen (fun σ' => ∃ z, Pre z ∧ Le σ' (mk z)) Q) σ) : AWp P (.seq x y) Q σ := by
  refine AWp.seq (AWp.mono h fun e σ' hq => ?_)
  cases e with
  | normal => obtain ⟨z, h1, h2⟩ := hq; exact AWp.le h2 (J z h1)
  | _ => exact hq
theorem E.join {Φ : (Exit → AS → Prop) → Prop} {P : Program} {σ : AS} {K : (Exit → AS → Prop) → Exit → AS → Prop} {x y : Code} {α : Type} (mk : α → AS) (Pre : α → Prop) (J : ∀ z, Pre z → E Φ (fun Q => AWp P y (K Q) (mk z)))
    (h : (∀ z σ', Pre z → Le σ' (mk z) → E Φ (fun Q => AWp P y (K Q) σ')) → E Φ (fun Q => AWp P x (AThen (AWp P y (K Q)) (K Q)) σ)) : E Φ (fun Q => AWp P (.seq x y) (K Q) σ) :=
  E.mono (fun Q h => AWp.seq h) (h fun z σ' hz hl => E.mono (fun Q h => AWp.le hl h) (J z hz))

end Go.Mh
