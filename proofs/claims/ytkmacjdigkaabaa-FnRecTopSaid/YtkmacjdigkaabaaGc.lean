/- Calls that are lent arrays, as steps. No condition. -/
import Derived.Test.YtkmacjdigkaabaaGb
set_option linter.unusedVariables false
set_option linter.unusedSimpArgs false
set_option linter.unnecessarySimpa false
namespace Go.Mh
open Go

def pathEq : List (Nat × Nat) → List (Nat × Nat) → Bool
  | [], [] => true
  | (i, j) :: p, (i', j') :: q => Nat.beq i i' && (Nat.beq j j' && pathEq p q)
  | _, _ => false
theorem pathEq_eq : ∀ {p q : List (Nat × Nat)}, pathEq p q = true → p = q
  | [], [], _ => rfl
  | (i, j) :: p, (i', j') :: q, h => by
    simp only [pathEq, Bool.and_eq_true] at h
    rw [Nat.eq_of_beq_eq_true h.1, Nat.eq_of_beq_eq_true h.2.1, pathEq_eq h.2.2]
  | [], _ :: _, h => by cases h
  | _ :: _, [], h => by cases h
/-- below q, not q itself -/
def belowB (q p : Place) : Bool := match mayUnder q p with
  | true => !(q.r.beq p.r && pathEq q.p p.p)
  | false => false
theorem belowB_false {q p : Place} (h : belowB q p = false) : p = q ∨ mayUnder q p = false := by
  unfold belowB at h
  cases hu : mayUnder q p with
  | false => exact .inr rfl
  | true =>
    rw [hu] at h
    simp only [Bool.not_eq_false', Bool.and_eq_true] at h
    left
    obtain ⟨r, ps⟩ := p
    obtain ⟨r', ps'⟩ := q
    have h1 := Root.beq_eq h.1
    have h2 := pathEq_eq h.2
    simp only at h1 h2
    rw [h1, h2]

/-! ### roots that are lent, all at once -/
def lookR : List (Nat × Nat × T) → Nat → Nat → Option T
  | [], _, _ => none
  | (d, k, t) :: l, d', k' => match Nat.beq d' d, Nat.beq k' k with | true, true => some t | _, _ => lookR l d' k'
def belowL (L : List (Place × Nat)) (p : Place) : Bool := L.any (fun x => belowB x.1 p)
def AS.setRootsL (σ : AS) (L : List (Place × Nat)) (TL : List (Nat × Nat × T)) : AS where
  n := σ.n
  s := fun t => (σ.s t).clr (belowL L)
  box := fun t => (σ.box t).map (C.clr (belowL L))
  arr := fun d k => match lookR TL d k with | some t => t | none => σ.arr d k
inductive BRoots (σ : AS) (args : List MV) : List (Place × Nat) → List (Nat × Nat × T) → Prop where
  | nil : BRoots σ args [] []
  | cons {d k K i j : Nat} {u : MV} {t t' : T} {L : List (Place × Nat)} {TL : List (Nat × Nat × T)} (hu : args[i]? = some u) (hc : (mcs u)[j]? = some (.rw t t')) (hK : 100 * i + j = K) {e sz n : Nat} {f g : Nat → List T} (hq : σ.arr d k = .sl e sz n f) (ht : t = .sl e sz n f) (ht' : t' = .sl e sz n g) (hs : BRoots σ args L TL) :
      BRoots σ args ((⟨.arr d k, []⟩, K) :: L) ((d, k, t') :: TL)
theorem BRoots.look {σ : AS} {args : List MV} : ∀ {L : List (Place × Nat)} {TL : List (Nat × Nat × T)}, BRoots σ args L TL → ∀ {d k t'}, lookR TL d k = some t' → ∃ K i j u t e sz n f g, (⟨.arr d k, []⟩, K) ∈ L ∧ args[i]? = some u ∧ (mcs u)[j]? = some (.rw t t') ∧ 100 * i + j = K ∧ σ.arr d k = .sl e sz n f ∧ t = .sl e sz n f ∧ t' = .sl e sz n g
  | _, _, .nil, _, _, _, h => by cases h
  | _, _, .cons (d := d0) (k := k0) hu hc hK hq ht ht' hs, d, k, t', h => by
    simp only [lookR] at h
    cases h1 : Nat.beq d d0 with
    | false => rw [h1] at h; obtain ⟨K, i, j, u, t, e, sz, n, f, g, g1, gr⟩ := hs.look h; exact ⟨K, i, j, u, t, e, sz, n, f, g, by simp [g1], gr⟩
    | true =>
      cases h2 : Nat.beq k k0 with
      | false => rw [h1, h2] at h; obtain ⟨K, i, j, u, t, e, sz, n, f, g, g1, gr⟩ := hs.look h; exact ⟨K, i, j, u, t, e, sz, n, f, g, by simp [g1], gr⟩
      | true =>
        rw [h1, h2] at h
        cases h
        rw [Nat.eq_of_beq_eq_true h1, Nat.eq_of_beq_eq_true h2]
        exact ⟨_, _, _, _, _, _, _, _, _, _, by simp, hu, hc, hK, hq, ht, ht'⟩
theorem BRoots.mem {σ : AS} {args : List MV} : ∀ {L : List (Place × Nat)} {TL : List (Nat × Nat × T)}, BRoots σ args L TL → ∀ {x}, x ∈ L → ∃ d k e sz n f g, x.1 = ⟨.arr d k, []⟩ ∧ σ.arr d k = .sl e sz n f ∧ lookR TL d k = some (.sl e sz n g)
  | _, _, .nil, _, h => by cases h
  | _, _, .cons (d := d0) (k := k0) hu hc hK hq ht ht' hs, x, h => by
    rw [List.mem_cons] at h
    rcases h with rfl | h
    · exact ⟨d0, k0, _, _, _, _, _, rfl, hq, by simp only [lookR, Nat.beq_refl]; exact congrArg some ht'⟩
    · obtain ⟨d, k, e, sz, n, f, g, h1, h2, h3⟩ := hs.mem h
      by_cases hdk : d = d0 ∧ k = k0
      · obtain ⟨rfl, rfl⟩ := hdk
        rw [hq] at h2
        cases h2
        exact ⟨d, k, _, _, _, _, _, h1, hq, by simp only [lookR, Nat.beq_refl]; exact congrArg some ht'⟩
      · refine ⟨d, k, e, sz, n, f, g, h1, h2, ?_⟩
        simp only [lookR]
        by_cases hd : d = d0
        · have hk : k ≠ k0 := fun e => hdk ⟨hd, e⟩
          rw [beq_false hk]
          cases Nat.beq d d0 <;> exact h3
        · rw [beq_false hd]; exact h3

theorem mcall_rootsG {P : Program} {o : Oper} {σ : AS} {d : Nat} (hd : o.dst = some d) (hn : d < σ.n) {f : FuncId} {xs : List Operand} {ats : Array TypeId} (ho : o.op = .call { callee := .value (.func f), args := xs.toArray, argTypes := ats }) (hc : callOk P f = true)
    {L : List (Place × Nat)} {TL : List (Nat × Nat × T)} (hL : disjL L = true) {args : List MV} {res : T} (ha : MArgVs σ L 0 xs args) (hs : MSpec P f args res) {x : SV} (hx : (res.sc = true ∧ x = ⟨true, .one (.v res)⟩) ∨ x = ⟨true, .any⟩) (hb : BRoots σ args L TL) :
    Step P o σ ((σ.setRootsL L TL).setS d x) := by
  intro w0 own0 a w own hI KK Q hKK
  refine lend_call (L := L) hd ho hc hL ha hs hI fun v w' own'' hvf hl => ?_
  have hroot : ∀ (p : Place), (∀ x ∈ L, under x.1 p = false) → ∀ s, ∀ x ∈ L, under x.1 ⟨p.r, p.p ++ s⟩ = false := fun p hp s x hx => by
    obtain ⟨d0, k0, e, sz, n, f, g, h1, _, _⟩ := hb.mem hx
    have := hp x hx
    rw [h1, under_arr] at this ⊢
    exact this
  have hlook : ∀ d0 k0, lookR TL d0 k0 = none → ∀ x ∈ L, ∀ s, under x.1 ⟨.arr d0 k0, s⟩ = false := fun d0 k0 h0 x hx s => by
    obtain ⟨d1, k1, e, sz, n, f, g, h1, _, h3⟩ := hb.mem hx
    rw [h1, under_arr]
    cases hh : onArr d1 k1 ⟨.arr d0 k0, s⟩ with
    | false => rfl
    | true =>
      have := Root.beq_eq hh
      simp only [Root.arr.injEq] at this
      rw [this.1, this.2, h3] at h0
      cases h0
  have hnode : ∀ (p : Place), (∀ x ∈ L, under x.1 p = false) → (σ.setRootsL L TL).node p = σ.node p := fun p hp => by
    obtain ⟨r, ps⟩ := p
    cases r with
    | arr d0 k0 =>
      simp only [AS.node, AS.setRootsL]
      cases hk : lookR TL d0 k0 with
      | none => rfl
      | some t' =>
        obtain ⟨K, i, j, u, t, e, sz, n, f, g, g1, _⟩ := hb.look hk
        have := hp _ g1
        rw [show (⟨.arr d0 k0, ps⟩ : Place) = ⟨(⟨.arr d0 k0, []⟩ : Place).r, (⟨.arr d0 k0, []⟩ : Place).p ++ ps⟩ from rfl, under_self] at this
        cases this
    | box b =>
      cases ps with
      | nil => rfl
      | cons x ps => obtain ⟨i, j⟩ := x; cases i <;> simp only [AS.node, AS.setRootsL, List.getElem?_map, cellTree_clr]
  have hk : ∀ p, belowL L p = false → KeepP w w' own own'' σ (σ.setRootsL L TL) p := by
    intro p hp
    have hp' : ∀ x ∈ L, belowB x.1 p = false := fun x hx => by
      have := List.any_eq_false.1 hp x hx
      simpa using this
    have hbx : ∀ t0, p = ⟨.box t0, []⟩ → (σ.setRootsL L TL).box t0 ≠ [] → σ.box t0 ≠ [] := fun t0 _ hb0 h0 => hb0 (by simp [AS.setRootsL, h0])
    by_cases hq : ∃ x ∈ L, x.1 = p
    · obtain ⟨x, hx, rfl⟩ := hq
      obtain ⟨d0, k0, e, sz, n, f, g, h1, h2, h3⟩ := hb.mem hx
      refine ⟨fun e' sz' n' f' hq' => ?_, hbx, fun _ b hb0 => hl.kp _ x.2 hx b hb0⟩
      rw [h1] at hq' ⊢
      simp only [AS.node, AS.setRootsL, h3, follow, T.sl.injEq] at hq'
      obtain ⟨rfl, rfl, rfl, rfl⟩ := hq'
      exact ⟨f, by simp only [AS.node, follow, h2]⟩
    · have hu : ∀ x ∈ L, under x.1 p = false := fun x hx => by
        rcases belowB_false (hp' x hx) with h | h
        · exact absurd ⟨x, hx, h.symm⟩ hq
        · exact not_under h
      refine ⟨fun e' sz' n' f' hq' => ⟨f', by rw [← hnode p hu]; exact hq'⟩, hbx, fun _ b hb0 => ?_⟩
      obtain ⟨k1, k2⟩ := hl.out b p hb0 hu
      exact ⟨k1, fun c e hc => ⟨c, k2.trans hc, rfl⟩⟩
  have hmv : ∀ p : Place, (∀ x ∈ L, under x.1 p = false) → Moved w w' own own'' p p := fun p hp b s hb0 => hl.out b _ hb0 (hroot p hp s)
  have hboxu : ∀ t0 ps, ∀ x ∈ L, under x.1 ⟨.box t0, ps⟩ = false := fun t0 ps x hx => by
    obtain ⟨d0, k0, e, sz, n, f, g, h1, _, _⟩ := hb.mem hx
    rw [h1, under_arr]
    rfl
  have hff : ∀ x, ∀ y ∈ L, under y.1 (FP x) = false := fun x y hy => by
    obtain ⟨d0, k0, e, sz, n, f, g, h1, h2, _⟩ := hb.mem hy
    rw [h1, under_arr]
    cases hh : onArr d0 k0 (FP x) with
    | false => rfl
    | true =>
      have := Root.beq_eq hh
      simp only [FP, Root.arr.injEq] at this
      rw [← this.1, hI.noff] at h2
      cases h2
  have h1 : Inv w0 own0 (σ.setRootsL L TL) a w' own'' := by
    refine hI.trans hl.same (fun b hb0 hlt => (hl.froz.h b hb0 hlt).2) (fun b hb0 => hl.out b _ hb0 (hff b)) (fun k => ?_) hl.inj hl.rng rfl (fun t ht => ht.clr hl.froz _ hk) (fun t0 ht => ?_) (fun d0 k0 e sz n f0 ht => ?_) hl.kept
    · show (match lookR TL FF k with | some t => t | none => σ.arr FF k) = .dead
      cases hkk : lookR TL FF k with
      | none => exact hI.noff k
      | some t' =>
        obtain ⟨K, i, j, u, t, e, sz, n, f, g, g1, g2, g3, g4, g5, _⟩ := hb.look hkk
        rw [hI.noff] at g5
        cases g5
    · have hne : σ.box t0 ≠ [] := fun h0 => ht (by simp [AS.setRootsL, h0])
      obtain ⟨b, c, e', k1, k2, k3, k4⟩ := hI.boxes t0 hne
      obtain ⟨m1, m2⟩ := hl.out b _ k1 (hboxu t0 [])
      refine ⟨b, c, e', m1, m2.trans k2, by simpa [AS.setRootsL] using k3, fun i x hx => ?_⟩
      simp only [AS.setRootsL, List.getElem?_map, Option.map_eq_some_iff] at hx
      obtain ⟨x0, hx0, rfl⟩ := hx
      exact (k4 i x0 hx0).clr hl.froz _ hk (hmv _ (hboxu t0 _))
    · have ht0 : (match lookR TL d0 k0 with | some t => t | none => σ.arr d0 k0) = .sl e sz n f0 := ht
      cases hkk : lookR TL d0 k0 with
      | none =>
        rw [hkk] at ht0
        obtain ⟨v0, hv0⟩ := hI.arrs d0 k0 e sz n f0 ht0
        exact ⟨v0, hv0.moved hl.froz (hmv _ (fun x hx => hlook d0 k0 hkk x hx []))⟩
      | some t' =>
        rw [hkk] at ht0
        obtain ⟨K, i, j, u, t, e1, sz1, n1, f1, g1, m1, m2, m3, m4, m5, m6, m7⟩ := hb.look hkk
        have ht0' : t' = .sl e sz n f0 := ht0
        obtain ⟨v0, hv0⟩ := hI.arrs d0 k0 e1 sz1 n1 f1 m5
        refine ⟨v0, ?_⟩
        rw [← ht0']
        exact hl.tree i u j t t' _ m2 m3 (by rw [m4]; exact m1) e1 sz1 n1 f1 g1 m6 m7 v0 (by rw [m6]; exact hv0)
  refine hKK _ _ _ (h1.put hn ?_)
  rcases hx with ⟨hsc, rfl⟩ | rfl
  · obtain ⟨hv, hfit⟩ := hvf hsc
    rw [hv]; exact Ok.of_sc hsc hfit
  · trivial
/-- a call that answers nothing -/
theorem mcall_void {P : Program} {o : Oper} {σ : AS} {d : Nat} (hd : o.dst = some d) (hn : d < σ.n) {f : FuncId} {xs : List Operand} {ats : Array TypeId} (ho : o.op = .call { callee := .value (.func f), args := xs.toArray, argTypes := ats }) (hc : callOk P f = true)
    {L : List (Place × Nat)} {TL : List (Nat × Nat × T)} (hL : disjL L = true) {args : List MV} {res : T} (ha : MArgVs σ L 0 xs args) (hs : MSpec P f args res) (hb : BRoots σ args L TL) :
    Step P o σ ((σ.setRootsL L TL).setS d ⟨true, .any⟩) :=
  mcall_rootsG hd hn ho hc hL ha hs (.inr rfl) hb

end Go.Mh
