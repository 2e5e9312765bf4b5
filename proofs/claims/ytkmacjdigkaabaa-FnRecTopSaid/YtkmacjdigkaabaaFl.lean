/- In a region that draws any order comes to the state of the order of the text. No condition. -/
import Derived.Test.YtkmacjdigkaabaaFo
set_option linter.unusedVariables false
set_option linter.unusedSimpArgs false
set_option linter.unnecessarySimpa false
namespace Go.Mh
open Go

/-! ### places of a state that one operation reads or writes -/
inductive Loc where
  | s (t : Nat)
  | b (d : Nat)
  | a (d k : Nat)

def Loc.is : Loc → Loc → Bool
  | .s t, .s u => Nat.beq t u
  | .b t, .b u => Nat.beq t u
  | .a t k, .a u l => match Nat.beq t u with | true => Nat.beq k l | false => false
  | _, _ => false
theorem Loc.is_eq : ∀ {x y : Loc}, x.is y = true → x = y
  | .s t, .s u, h => by rw [Nat.eq_of_beq_eq_true h]
  | .b t, .b u, h => by rw [Nat.eq_of_beq_eq_true h]
  | .a t k, .a u l, h => by
    simp only [Loc.is] at h
    cases h1 : Nat.beq t u with
    | true => rw [h1] at h; rw [Nat.eq_of_beq_eq_true h1, Nat.eq_of_beq_eq_true h]
    | false => rw [h1] at h; cases h
theorem Loc.is_refl : ∀ (x : Loc), x.is x = true
  | .s t => Nat.beq_refl t
  | .b t => Nat.beq_refl t
  | .a t k => by simp only [Loc.is, Nat.beq_refl]
def Loc.mem (x : Loc) : List Loc → Bool
  | [] => false
  | y :: l => match x.is y with | true => true | false => x.mem l
theorem Loc.mem_iff {x : Loc} : ∀ {l : List Loc}, x.mem l = true ↔ x ∈ l
  | [] => by simp [Loc.mem]
  | y :: l => by
    simp only [Loc.mem, List.mem_cons]
    cases h : x.is y with
    | true => simp [Loc.is_eq h]
    | false =>
      simp only [Loc.mem_iff (l := l)]
      constructor
      · exact .inr
      · rintro (rfl | h')
        · rw [Loc.is_refl] at h; cases h
        · exact h'
def apartL : List Loc → List Loc → Bool
  | [], _ => true
  | x :: l, m => match x.mem m with | true => false | false => apartL l m
theorem apartL_spec {m : List Loc} : ∀ {l : List Loc}, apartL l m = true → ∀ x, x ∈ l → x ∉ m
  | [], _, x, hx => by cases hx
  | y :: l, h, x, hx => by
    simp only [apartL] at h
    cases hy : y.mem m with
    | true => rw [hy] at h; cases h
    | false =>
      rw [hy] at h
      rcases List.mem_cons.1 hx with rfl | hx
      · intro hm; rw [Loc.mem_iff.2 hm] at hy; cases hy
      · exact apartL_spec h x hx

theorem Loc.mem_false {x : Loc} {l : List Loc} (h : x ∉ l) : x.mem l = false := by
  cases hx : x.mem l with
  | false => rfl
  | true => exact absurd (Loc.mem_iff.1 hx) h
def AS.at (σ τ : AS) : Loc → Prop
  | .s t => σ.s t = τ.s t
  | .b d => σ.box d = τ.box d
  | .a d k => σ.arr d k = τ.arr d k
theorem AS.at_refl (σ : AS) : ∀ l, σ.at σ l
  | .s _ => rfl
  | .b _ => rfl
  | .a _ _ => rfl
theorem AS.at_symm {σ τ : AS} : ∀ {l}, σ.at τ l → τ.at σ l
  | .s _, h => Eq.symm h
  | .b _, h => Eq.symm h
  | .a _ _, h => Eq.symm h
theorem AS.at_trans {σ τ υ : AS} : ∀ {l}, σ.at τ l → τ.at υ l → σ.at υ l
  | .s _, h, k => Eq.trans h k
  | .b _, h, k => Eq.trans h k
  | .a _ _, h, k => Eq.trans h k
theorem AS.ext_at {σ τ : AS} (hn : σ.n = τ.n) (h : ∀ l, σ.at τ l) : σ = τ := by
  obtain ⟨n, s, b, a⟩ := σ
  obtain ⟨n', s', b', a'⟩ := τ
  cases hn
  have h1 : s = s' := funext fun t => h (.s t)
  have h2 : b = b' := funext fun t => h (.b t)
  have h3 : a = a' := funext fun t => funext fun k => h (.a t k)
  rw [h1, h2, h3]
/-- σ with τ's contents at the places of W -/
def AS.patch (σ τ : AS) (W : Loc → Bool) : AS where
  n := σ.n
  s := fun t => match W (.s t) with | true => τ.s t | false => σ.s t
  box := fun t => match W (.b t) with | true => τ.box t | false => σ.box t
  arr := fun t k => match W (.a t k) with | true => τ.arr t k | false => σ.arr t k
theorem AS.patch_in {σ τ : AS} {W : Loc → Bool} : ∀ {l : Loc}, W l = true → (σ.patch τ W).at τ l
  | .s t, h => by simp only [AS.at, AS.patch, h]
  | .b t, h => by simp only [AS.at, AS.patch, h]
  | .a t k, h => by simp only [AS.at, AS.patch, h]
theorem AS.patch_out {σ τ : AS} {W : Loc → Bool} : ∀ {l : Loc}, W l = false → (σ.patch τ W).at σ l
  | .s t, h => by simp only [AS.at, AS.patch, h]
  | .b t, h => by simp only [AS.at, AS.patch, h]
  | .a t k, h => by simp only [AS.at, AS.patch, h]

/-! ### one operation, told by the places it looks at -/
structure DOp where
  R : List Loc
  W : List Loc
  all : Bool
def DOp.rd (d : DOp) (l : Loc) : Bool := match d.all with | true => true | false => l.mem d.R
def DOp.wr (d : DOp) (l : Loc) : Bool := match d.all with | true => true | false => l.mem d.W

structure DStep (P : Program) (ops : Array Oper) (o : Oper) (σ : AS) (d : DOp) (σ' : AS) : Prop where
  n : σ'.n = σ.n
  out : ∀ l, d.wr l = false → σ'.at σ l
  go : ∀ τ, τ.n = σ.n → (∀ l, d.rd l = true → τ.at σ l) → GStep P ops o τ (τ.patch σ' d.wr)

theorem DStep.whole {P : Program} {ops : Array Oper} {o : Oper} {σ σ' : AS} (hn : σ'.n = σ.n) (h : GStep P ops o σ σ') : DStep P ops o σ ⟨[], [], true⟩ σ' where
  n := hn
  out := fun l hl => by cases hl
  go := fun τ hτ hr => by
    have e1 : τ = σ := AS.ext_at hτ fun l => hr l rfl
    subst e1
    have e2 : AS.patch τ σ' (DOp.wr ⟨[], [], true⟩) = σ' := AS.ext_at hn.symm fun l => AS.patch_in rfl
    rw [e2]; exact h

theorem setS_at {σ : AS} {t : Nat} {x : SV} {l : Loc} (h : l ∉ [Loc.s t]) : (σ.setS t x).at σ l := by
  cases l with
  | s u => simp only [List.mem_cons, Loc.s.injEq, List.not_mem_nil, or_false] at h; simp only [AS.at, setS_s, if_neg h]
  | b _ => rfl
  | a _ _ => rfl
theorem DOp.mem_of_false {R W : List Loc} {l : Loc} (h : DOp.wr ⟨R, W, false⟩ l = false) : l ∉ W := by
  intro hm
  have : l.mem W = false := h
  rw [Loc.mem_iff.2 hm] at this; cases this

theorem DStep.slot {P : Program} {ops : Array Oper} {o : Oper} {σ : AS} {R : List Loc} {t : Nat} {x : SV} (h : ∀ τ, τ.n = σ.n → (∀ l, l ∈ R → τ.at σ l) → GStep P ops o τ (τ.setS t x)) :
    DStep P ops o σ ⟨R, [.s t], false⟩ (σ.setS t x) where
  n := rfl
  out := fun l hl => setS_at (DOp.mem_of_false hl)
  go := fun τ hτ hr => by
    have e : AS.patch τ (σ.setS t x) (DOp.wr ⟨R, [.s t], false⟩) = τ.setS t x := by
      refine AS.ext_at rfl fun l => ?_
      cases hl : DOp.wr ⟨R, [.s t], false⟩ l with
      | true =>
        refine AS.at_trans (AS.patch_in hl) ?_
        have : l ∈ [Loc.s t] := Loc.mem_iff.1 hl
        simp only [List.mem_cons, List.not_mem_nil, or_false] at this
        subst this
        simp only [AS.at, setS_s, if_true]
      | false =>
        exact AS.at_trans (AS.patch_out hl) (AS.at_symm (setS_at (DOp.mem_of_false hl)))
    rw [e]
    exact h τ hτ fun l hl => hr l (Loc.mem_iff.2 hl)

def DRun (P : Program) (ops : Array Oper) : List Oper → List DOp → AS → (AS → Prop) → Prop
  | [], [], σ, K => K σ
  | o :: rest, d :: ds, σ, K => ∃ σ', DStep P ops o σ d σ' ∧ DRun P ops rest ds σ' K
  | _, _, _, _ => False

theorem DRun.nil {P : Program} {ops : Array Oper} {σ : AS} {K : AS → Prop} (h : K σ) : DRun P ops [] [] σ K := h
theorem DRun.cons {P : Program} {ops : Array Oper} {o : Oper} {rest : List Oper} {d : DOp} {ds : List DOp} {σ σ' : AS} {K : AS → Prop} (h : DStep P ops o σ d σ') (hr : DRun P ops rest ds σ' K) :
    DRun P ops (o :: rest) (d :: ds) σ K := ⟨σ', h, hr⟩

/-- the states that the text's order passes -/
theorem DRun.states {P : Program} {ops : Array Oper} {K : AS → Prop} : ∀ {l : List Oper} {ds : List DOp} {σ : AS}, DRun P ops l ds σ K →
    l.length = ds.length ∧ ∃ S : Nat → AS, S 0 = σ ∧ K (S l.length) ∧ ∀ i o, l[i]? = some o → ∃ d, ds[i]? = some d ∧ DStep P ops o (S i) d (S (i + 1))
  | [], [], σ, h => ⟨rfl, fun _ => σ, rfl, h, by intro i o h; simp at h⟩
  | o :: rest, d :: ds, σ, ⟨σ', h1, h2⟩ => by
    obtain ⟨hl, S, h0, hK, hS⟩ := DRun.states h2
    refine ⟨by simp [hl], fun i => match i with | 0 => σ | i + 1 => S i, rfl, hK, ?_⟩
    intro i o' hi
    cases i with
    | zero =>
      simp only [List.getElem?_cons_zero, Option.some.injEq] at hi
      subst hi
      exact ⟨d, rfl, by simpa [h0] using h1⟩
    | succ i =>
      obtain ⟨d', hd, hs⟩ := hS i o' (by simpa using hi)
      exact ⟨d', by simpa using hd, hs⟩
  | [], _ :: _, _, h => h.elim
  | _ :: _, [], _, h => h.elim

/-! ### who must wait for whom -/
def waitsOf (o : Oper) : List Nat := o.after.toList.filterMap fun e => match Region.binds .any e with | true => some e.on | false => none
def maskOf (A : List Nat) : List Nat → Nat
  | [] => 0
  | d :: l => Nat.lor (Nat.lor (Nat.shiftLeft 1 d) (A.getD d 0)) (maskOf A l)
def masks : List Oper → List Nat → List Nat
  | [], A => A
  | o :: l, A => masks l (A ++ [maskOf A (waitsOf o)])
def lowL (k : Nat) : List Nat → Bool
  | [] => true
  | d :: l => match Nat.ble (d + 1) k with | true => lowL k l | false => false
/-- the masks are right, and every operation waits for earlier ones only -/
def masksOk (A : List Nat) : List Oper → List Nat → Nat → Bool
  | [], [], _ => true
  | o :: l, m :: ms, k => match lowL k (waitsOf o), Nat.beq m (maskOf A (waitsOf o)) with | true, true => masksOk A l ms (k + 1) | _, _ => false
  | _, _, _ => false
def pairOk (m i : Nat) (x y : DOp) : Bool :=
  match Nat.testBit m i with
  | true => true
  | false => match x.all, y.all with
    | false, false => match apartL x.W y.R, apartL x.W y.W, apartL y.W x.R with | true, true, true => true | _, _, _ => false
    | _, _ => false
def rowOk (m : Nat) (y : DOp) : List DOp → Nat → Bool
  | [], _ => true
  | x :: l, i => match pairOk m i x y with | true => rowOk m y l (i + 1) | false => false
def pairsOk (pre : List DOp) : List DOp → List Nat → Bool
  | [], [] => true
  | y :: l, m :: ms => match rowOk m y pre 0 with | true => pairsOk (pre ++ [y]) l ms | false => false
  | _, _ => false
def drawOk (l : List Oper) (ds : List DOp) : Bool :=
  match masksOk (masks l []) l (masks l []) 0 with
  | true => pairsOk [] ds (masks l [])
  | false => false

theorem testBit_maskOf {A : List Nat} {i : Nat} : ∀ {l : List Nat}, Nat.testBit (maskOf A l) i = true → ∃ d ∈ l, i = d ∨ Nat.testBit (A.getD d 0) i = true
  | [], h => by simp [maskOf] at h
  | d :: l, h => by
    have e : maskOf A (d :: l) = ((1 <<< d) ||| (A.getD d 0)) ||| (maskOf A l) := rfl
    rw [e, Nat.testBit_or, Nat.testBit_or] at h
    simp only [Bool.or_eq_true] at h
    rcases h with (h | h) | h
    · refine ⟨d, by simp, .inl ?_⟩
      rw [Nat.one_shiftLeft, Nat.testBit_two_pow] at h
      exact (of_decide_eq_true h).symm
    · exact ⟨d, by simp, .inr h⟩
    · obtain ⟨d', h1, h2⟩ := testBit_maskOf h
      exact ⟨d', by simp [h1], h2⟩

theorem lowL_spec {k : Nat} : ∀ {l : List Nat}, lowL k l = true → ∀ d ∈ l, d < k
  | [], _, d, hd => by cases hd
  | x :: l, h, d, hd => by
    simp only [lowL] at h
    cases hx : Nat.ble (x + 1) k with
    | false => rw [hx] at h; cases h
    | true =>
      rw [hx] at h
      rcases List.mem_cons.1 hd with rfl | hd
      · exact Nat.le_of_ble_eq_true hx
      · exact lowL_spec h d hd

theorem masksOk_spec {A : List Nat} : ∀ {l : List Oper} {ms : List Nat} {k : Nat}, masksOk A l ms k = true → l.length = ms.length ∧
    ∀ i o, l[i]? = some o → (∀ d ∈ waitsOf o, d < k + i) ∧ ms.getD i 0 = maskOf A (waitsOf o)
  | [], [], k, _ => ⟨rfl, by intro i o h; simp at h⟩
  | o :: l, m :: ms, k, h => by
    simp only [masksOk] at h
    cases h1 : lowL k (waitsOf o) with
    | false => rw [h1] at h; cases h
    | true =>
      cases h2 : Nat.beq m (maskOf A (waitsOf o)) with
      | false => rw [h1, h2] at h; cases h
      | true =>
        rw [h1, h2] at h
        obtain ⟨hl, hs⟩ := masksOk_spec h
        refine ⟨by simp [hl], ?_⟩
        intro i o' hi
        cases i with
        | zero =>
          simp only [List.getElem?_cons_zero, Option.some.injEq] at hi
          subst hi
          exact ⟨fun d hd => by have := lowL_spec h1 d hd; omega, by simpa using Nat.eq_of_beq_eq_true h2⟩
        | succ i =>
          obtain ⟨k1, k2⟩ := hs i o' (by simpa using hi)
          exact ⟨fun d hd => by have := k1 d hd; omega, by simpa using k2⟩
  | [], _ :: _, _, h => by simp [masksOk] at h
  | _ :: _, [], _, h => by simp [masksOk] at h

theorem rowOk_spec {m : Nat} {y : DOp} : ∀ {l : List DOp} {k : Nat}, rowOk m y l k = true → ∀ i x, l[i]? = some x → pairOk m (k + i) x y = true
  | [], _, _, i, x, h => by simp at h
  | x :: l, k, h, i, x', hi => by
    simp only [rowOk] at h
    cases h1 : pairOk m k x y with
    | false => rw [h1] at h; cases h
    | true =>
      rw [h1] at h
      cases i with
      | zero => simp only [List.getElem?_cons_zero, Option.some.injEq] at hi; subst hi; exact h1
      | succ i =>
        have := rowOk_spec h i x' (by simpa using hi)
        rwa [show k + 1 + i = k + (i + 1) by omega] at this
theorem pairsOk_spec : ∀ {l pre : List DOp} {ms : List Nat}, pairsOk pre l ms = true → ∀ j y, l[j]? = some y → ∀ i x, i < pre.length + j → (pre ++ l)[i]? = some x → pairOk (ms.getD j 0) i x y = true
  | [], _, _, _, j, y, h => by simp at h
  | y :: l, pre, m :: ms, h, j, y', hj => by
    simp only [pairsOk] at h
    cases h1 : rowOk m y pre 0 with
    | false => rw [h1] at h; cases h
    | true =>
      rw [h1] at h
      intro i x hi hx
      cases j with
      | zero =>
        simp only [List.getElem?_cons_zero, Option.some.injEq] at hj
        subst hj
        have hx' : pre[i]? = some x := by rw [List.getElem?_append_left (by simpa using hi)] at hx; exact hx
        have := rowOk_spec h1 i x hx'
        simpa using this
      | succ j =>
        have := pairsOk_spec h j y' (by simpa using hj) i x (by simp; omega) (by simpa using hx)
        simpa using this
  | _ :: _, _, [], h, _, _, _ => by simp [pairsOk] at h

theorem pairOk_spec {m i : Nat} {x y : DOp} (h : pairOk m i x y = true) : Nat.testBit m i = true ∨ ((∀ l, x.wr l = true → y.rd l = false) ∧ (∀ l, x.wr l = true → y.wr l = false) ∧ (∀ l, y.wr l = true → x.rd l = false)) := by
  simp only [pairOk] at h
  cases h0 : Nat.testBit m i with
  | true => exact .inl rfl
  | false =>
    rw [h0] at h
    right
    obtain ⟨R, W, al⟩ := x
    obtain ⟨R', W', al'⟩ := y
    cases al with
    | true => cases al' <;> exact Bool.noConfusion h
    | false =>
    cases al' with
    | true => exact Bool.noConfusion h
    | false =>
    change (match apartL W R', apartL W W', apartL W' R with | true, true, true => true | _, _, _ => false) = true at h
    cases h1 : apartL W R' with
    | false => rw [h1] at h; cases h
    | true =>
      cases h2 : apartL W W' with
      | false => rw [h1, h2] at h; cases h
      | true =>
        cases h3 : apartL W' R with
        | false => rw [h1, h2, h3] at h; cases h
        | true =>
          simp only [DOp.wr, DOp.rd]
          exact ⟨fun l hl => Loc.mem_false (apartL_spec h1 l (Loc.mem_iff.1 hl)), fun l hl => Loc.mem_false (apartL_spec h2 l (Loc.mem_iff.1 hl)), fun l hl => Loc.mem_false (apartL_spec h3 l (Loc.mem_iff.1 hl))⟩

theorem OkFlat.turn {w w' own own' σ σ' v} (hf : Froz w w' own own') (hk : ∀ p, KeepP w w' own own' σ σ' p) : ∀ {u}, OkFlat w own σ v u → OkFlat w' own' σ' v u
  | .one _, k => OkC.change hf (fun p _ => hk p) k
  | .agg _, ⟨xs, h1, h2, h3⟩ => ⟨xs, h1, h2, fun j c hc => OkC.change hf (fun p _ => hk p) (h3 j c hc)⟩
  | .tup _, k => k
  | .any, _ => trivial
theorem OkV.turn {w w' own own' σ σ' v} (hf : Froz w w' own own') (hk : ∀ p, KeepP w w' own own' σ σ' p) : ∀ {u}, OkV w own σ v u → OkV w' own' σ' v u
  | .one _, k => OkFlat.turn hf hk (u := .one _) k
  | .agg _, k => OkFlat.turn hf hk (u := .agg _) k
  | .tup _, ⟨xs, h1, h2, h3⟩ => ⟨xs, h1, h2, fun j c hc => OkFlat.turn hf hk (h3 j c hc)⟩
  | .any, _ => trivial
theorem OkS.turn {w w' own own' σ σ' v x} (hf : Froz w w' own own') (hk : ∀ p, KeepP w w' own own' σ σ' p) (k : OkS w own σ v x) : OkS w' own' σ' v x := by
  unfold OkS at *
  split
  · rename_i hc; rw [if_pos hc] at k; exact OkV.turn hf hk k
  · rename_i hc; rw [if_neg hc] at k; exact k
theorem OkCell.turn {w w' own own' σ σ' d j v} (hf : Froz w w' own own') (hk : ∀ p, KeepP w w' own own' σ σ' p) (hm : ∀ p, Moved w w' own own' p p) {c : C} (h : OkCell w own σ d j v c) : OkCell w' own' σ' d j v c := by
  cases c with
  | own t => exact Ok.moved (t := t) h hf (hm _)
  | _ => exact OkCell.of_C (OkC.change hf (fun p _ => hk p) h)

theorem Inv.drawn {w0 own0 σ a w own} (h : Inv w0 own0 σ a w own) (k : Nat) : Inv w0 own0 σ a { w with drawn := k } own := by
  have hk : ∀ p, KeepP w { w with drawn := k } own own σ σ p := fun p => ⟨fun e sz n' f hp => ⟨f, hp⟩, fun d _ hd => hd, fun _ b hb' => ⟨hb', fun c e hc => ⟨c, hc, rfl⟩⟩⟩
  have hf : Froz w { w with drawn := k } own own := ⟨fun b hb _ => ⟨hb, rfl⟩⟩
  have hm : ∀ p, Moved w { w with drawn := k } own own p p := fun p b s hb => ⟨hb, rfl⟩
  refine h.trans ⟨rfl, rfl, rfl, Nat.le_refl _⟩ (fun _ _ _ => rfl) (fun b hb => ⟨hb, rfl⟩) h.noff h.inj (fun b p hp => ⟨(h.rng b p hp).1, .inl (by rw [hp]; simp)⟩) rfl (fun t ht => ?_) (fun d hd => ?_) (fun d k' e sz n' f hd => ?_) (Kept.of fun b k hb => ⟨hb, rfl⟩)
  · exact ht.turn hf hk
  · obtain ⟨b, c, e, h1, h2, h3, h4⟩ := h.boxes d hd
    exact ⟨b, c, e, h1, h2, h3, fun j x hx => OkCell.turn hf hk hm (h4 j x hx)⟩
  · obtain ⟨v, hv⟩ := h.arrs d k' e sz n' f hd
    exact ⟨v, hv.moved hf (hm _)⟩

/-! ### any order is the text's order -/
theorem getD_set_true (L : Array Bool) (i k : Nat) (b : Bool) (hk : k < L.size) : (L.setIfInBounds i true).getD k b = if k = i then true else L.getD k b := by
  simp only [Array.getD_eq_getD_getElem?, Array.getElem?_setIfInBounds]
  by_cases h : i = k
  · subst h; simp [hk]
  · rw [if_neg h, if_neg (fun e => h e.symm)]

section
variable {P : Program} {Q : Exit → AS → Prop} {l : List Oper} {ds : List DOp} {S : Nat → AS}

def Staged (ds : List DOp) (S : Nat → AS) (m : Nat) (L : Nat → Bool) (τ : AS) : Prop :=
  τ.n = (S 0).n ∧ ∀ x j, j ≤ m → (∀ i d, ds[i]? = some d → d.wr x = true → (L i = true ↔ i < j)) → τ.at (S j) x

theorem S_same (hS : ∀ i o, l[i]? = some o → ∃ d, ds[i]? = some d ∧ DStep P l.toArray o (S i) d (S (i + 1))) {x : Loc} {a : Nat} :
    ∀ (b : Nat), a ≤ b → b ≤ l.length → (∀ i d, a ≤ i → i < b → ds[i]? = some d → d.wr x = false) → (S b).at (S a) x := by
  intro b
  induction b with
  | zero => intro hab _ _; have : a = 0 := by omega
            subst this; exact AS.at_refl _ _
  | succ b ih =>
    intro hab hb hw
    by_cases e : a = b + 1
    · subst e; exact AS.at_refl _ _
    · have hlt : b < l.length := by omega
      obtain ⟨d, hd, hs⟩ := hS b l[b] (List.getElem?_eq_getElem hlt)
      exact AS.at_trans (hs.out x (hw b d (by omega) (by omega) hd)) (ih (by omega) (by omega) fun i d h1 h2 h3 => hw i d h1 (by omega) h3)

theorem S_n (hS : ∀ i o, l[i]? = some o → ∃ d, ds[i]? = some d ∧ DStep P l.toArray o (S i) d (S (i + 1))) : ∀ (b : Nat), b ≤ l.length → (S b).n = (S 0).n := by
  intro b
  induction b with
  | zero => intro _; rfl
  | succ b ih =>
    intro hb
    obtain ⟨d, hd, hs⟩ := hS b l[b] (List.getElem?_eq_getElem (by omega))
    exact hs.n.trans (ih (by omega))

theorem drawOk_spec (h : drawOk l ds = true) (hlen : l.length = ds.length) :
    (∀ i o, l[i]? = some o → ∀ d ∈ waitsOf o, d < i) ∧
    ∀ (L : Nat → Bool), (∀ i o, l[i]? = some o → L i = true → ∀ d ∈ waitsOf o, L d = true) →
      ∀ j y i x, l.length ≤ l.length → ds[j]? = some y → ds[i]? = some x → i < j →
        ((∀ o, l[j]? = some o → (∀ d ∈ waitsOf o, L d = true) → L i = true) ∨ ((∀ l, x.wr l = true → y.rd l = false) ∧ (∀ l, x.wr l = true → y.wr l = false) ∧ (∀ l, y.wr l = true → x.rd l = false))) := by
  simp only [drawOk] at h
  cases h1 : masksOk (masks l []) l (masks l []) 0 with
  | false => rw [h1] at h; cases h
  | true =>
    rw [h1] at h
    obtain ⟨hl, hm⟩ := masksOk_spec h1
    refine ⟨fun i o ho d hd => by have := (hm i o ho).1 d hd; omega, ?_⟩
    intro L hL j y i x _ hy hx hij
    have hp := pairsOk_spec h j y hy i x (by simpa using hij) (by simpa using hx)
    rcases pairOk_spec hp with hb | hb
    · left
      intro o ho hd
      have key : ∀ j o, l[j]? = some o → (∀ d ∈ waitsOf o, L d = true) → Nat.testBit ((masks l []).getD j 0) i = true → L i = true := by
        intro j
        induction j using Nat.strongRecOn with
        | _ j ih =>
          intro o ho hd hb
          obtain ⟨k1, k2⟩ := hm j o ho
          rw [k2] at hb
          obtain ⟨d, hd1, hd2⟩ := testBit_maskOf hb
          rcases hd2 with rfl | hd2
          · exact hd _ hd1
          · have hdj := k1 d hd1
            have hjl : j < l.length := (List.getElem?_eq_some_iff.1 ho).1
            have hdl : l[d]? = some l[d] := List.getElem?_eq_getElem (by omega)
            exact ih d (by omega) l[d] hdl (hL d l[d] hdl (hd d hd1)) hd2
      exact key j o ho hd hb
    · exact .inr hb

theorem ready_mem {ops : Array Oper} {L : Array Bool} {i : Nat} (h : i ∈ Region.ready .any ops L) : i < ops.size ∧ L.getD i true = false ∧ ∀ o, ops[i]? = some o → ∀ d ∈ waitsOf o, L.getD d false = true := by
  simp only [Region.ready, List.mem_filter, List.mem_range, Bool.and_eq_true, Bool.not_eq_true'] at h
  obtain ⟨h1, h2, h3⟩ := h
  refine ⟨h1, h2, fun o ho d hd => ?_⟩
  rw [ho] at h3
  simp only [Option.map_some, Option.getD_some, Array.all_eq_true_iff_forall_mem] at h3
  simp only [waitsOf, List.mem_filterMap] at hd
  obtain ⟨e, he, hd⟩ := hd
  have := h3 e (by simpa using he)
  cases hb : Region.binds .any e with
  | false => rw [hb] at hd; cases hd
  | true =>
    rw [hb] at hd this
    simp only [Option.some.injEq] at hd
    subst hd
    simpa using this

theorem ready_of {ops : Array Oper} {L : Array Bool} {i : Nat} {o : Oper} (ho : ops[i]? = some o) (hi : L.getD i true = false) (hd : ∀ d ∈ waitsOf o, L.getD d false = true) : i ∈ Region.ready .any ops L := by
  simp only [Region.ready, List.mem_filter, List.mem_range, Bool.and_eq_true, Bool.not_eq_true']
  refine ⟨(Array.getElem?_eq_some_iff.1 ho).1, hi, ?_⟩
  rw [ho]
  simp only [Option.map_some, Option.getD_some, Array.all_eq_true_iff_forall_mem]
  intro e he
  cases hb : Region.binds .any e with
  | false => rfl
  | true =>
    have : e.on ∈ waitsOf o := by
      simp only [waitsOf, List.mem_filterMap]
      exact ⟨e, by simpa using he, by rw [hb]⟩
    simpa using hd _ this

theorem getD_any (L : Array Bool) (i : Nat) (b c : Bool) (h : i < L.size) : L.getD i b = L.getD i c := by
  simp [Array.getD, h]

theorem wpAny_draw (hS : ∀ i o, l[i]? = some o → ∃ d, ds[i]? = some d ∧ DStep P l.toArray o (S i) d (S (i + 1))) (hlen : l.length = ds.length) (hok : drawOk l ds = true) (hQ : Q .normal (S l.length)) {w0 own0} :
    ∀ (fuel : Nat) (L : Array Bool) (τ : AS) (a : Act) (w : World) (own : Own), L.size = l.length → ((List.range l.length).filter fun i => !L.getD i true).length ≤ fuel →
      (∀ i o, l[i]? = some o → L.getD i false = true → ∀ d ∈ waitsOf o, L.getD d false = true) → Staged ds S l.length (fun i => L.getD i false) τ → Inv w0 own0 τ a w own →
      wpAny P .any l.toArray (fun e a' w' => ∃ σ' own', Q e σ' ∧ Inv w0 own0 σ' a' w' own') fuel L a w := by
  obtain ⟨hlow, hpair⟩ := drawOk_spec hok hlen
  -- all listed: the end
  have hend : ∀ (L : Array Bool) (τ : AS) (a : Act) (w : World) (own : Own), (∀ i, i < l.length → L.getD i false = true) → Staged ds S l.length (fun i => L.getD i false) τ → Inv w0 own0 τ a w own →
      ∃ σ' own', Q .normal σ' ∧ Inv w0 own0 σ' a w own' := by
    intro L τ a w own hall hst hI
    have : τ = S l.length := by
      refine AS.ext_at (hst.1.trans (S_n hS _ (Nat.le_refl _)).symm) fun x => hst.2 x l.length (Nat.le_refl _) fun i d hd _ => ?_
      have hi : i < l.length := by rw [hlen]; exact (List.getElem?_eq_some_iff.1 hd).1
      simp [hi, hall i hi]
    subst this
    exact ⟨_, own, hQ, hI⟩
  have hnone : ∀ (L : Array Bool), L.size = l.length → Region.ready .any l.toArray L = [] → ∀ i, i < l.length → L.getD i false = true := by
    intro L hsz hr i
    induction i using Nat.strongRecOn with
    | _ i ih =>
      intro hi
      cases hb : L.getD i false with
      | true => rfl
      | false =>
        have ho : l[i]? = some l[i] := List.getElem?_eq_getElem hi
        have : i ∈ Region.ready .any l.toArray L := ready_of (o := l[i]) (by simpa using ho) (by rw [getD_any L i true false (by omega)]; exact hb) fun d hd => ih d (hlow i _ ho d hd) (by have := hlow i _ ho d hd; omega)
        rw [hr] at this; cases this
  intro fuel
  induction fuel with
  | zero =>
    intro L τ a w own hsz hf hcl hst hI
    have hall : ∀ i, i < l.length → L.getD i false = true := by
      intro i hi
      cases hb : L.getD i false with
      | true => rfl
      | false =>
        have : i ∈ (List.range l.length).filter fun i => !L.getD i true := by
          simp only [List.mem_filter, List.mem_range, Bool.not_eq_true']
          exact ⟨hi, by rw [getD_any L i true false (by omega)]; exact hb⟩
        rw [List.length_eq_zero_iff.1 (Nat.le_zero.1 hf)] at this; cases this
    refine ⟨?_, hend L τ a w own hall hst hI⟩
    cases hr : Region.ready .any l.toArray L with
    | nil => rfl
    | cons i rest =>
      obtain ⟨h1, h2, _⟩ := ready_mem (show i ∈ Region.ready .any l.toArray L by rw [hr]; simp)
      have h3 := hall i (by simpa using h1)
      rw [getD_any L i true false (by simp at h1; omega), h3] at h2; cases h2
  | succ fuel ih =>
    intro L τ a w own hsz hf hcl hst hI
    refine ⟨fun hr => hend L τ a w own (hnone L hsz hr) hst hI, fun j hj => ?_⟩
    obtain ⟨h1, h2, h3⟩ := ready_mem hj
    have hjl : j < l.length := by simpa using h1
    have ho : l[j]? = some l[j] := List.getElem?_eq_getElem hjl
    have ho' : l.toArray[j]? = some l[j] := by simpa using ho
    obtain ⟨y, hy, hs⟩ := hS j l[j] ho
    have hwt := h3 l[j] ho'
    have hLj : L.getD j false = false := by rw [getD_any L j false true (by omega)]; exact h2
    -- what j reads is as in the text's order
    have hread : ∀ x, y.rd x = true → τ.at (S j) x := by
      intro x hx
      refine hst.2 x j (by omega) fun i d hd hw => ?_
      rcases Nat.lt_trichotomy i j with hij | hij | hij
      · simp only [hij, iff_true]
        rcases hpair (fun i => L.getD i false) hcl j y i d (Nat.le_refl _) hy hd hij with h | h
        · exact h l[j] ho hwt
        · rw [h.1 x hw] at hx; cases hx
      · subst hij; simp [hLj]
      · have hn : ¬ i < j := by omega
        simp only [hn, iff_false, Bool.not_eq_true]
        cases hb : L.getD i false with
        | false => rfl
        | true =>
          exfalso
          have hil : i < l.length := by rw [hlen]; exact (List.getElem?_eq_some_iff.1 hd).1
          have hoi : l[i]? = some l[i] := List.getElem?_eq_getElem hil
          rcases hpair (fun i => L.getD i false) hcl i d j y (Nat.le_refl _) hd hy hij with h | h
          · have := h l[i] hoi (hcl i _ hoi hb)
            simp only [hLj] at this; cases this
          · rw [h.2.2 x hw] at hx; cases hx
    have hg := hs.go τ (by rw [hst.1]; exact (S_n hS j (by omega)).symm) hread
    have hst' : Staged ds S l.length (fun i => (L.setIfInBounds j true).getD i false) (τ.patch (S (j + 1)) y.wr) := by
      refine ⟨hst.1, fun x j' hj' hx => ?_⟩
      cases hw : y.wr x with
      | false =>
        refine AS.at_trans (AS.patch_out hw) (hst.2 x j' hj' fun i d hd hdw => ?_)
        have hne : i ≠ j := by rintro rfl; rw [hy] at hd; cases hd; rw [hw] at hdw; cases hdw
        have hil : i < l.length := by rw [hlen]; exact (List.getElem?_eq_some_iff.1 hd).1
        have : (L.setIfInBounds j true).getD i false = true ↔ i < j' := hx i d hd hdw
        rwa [getD_set_true _ _ _ _ (by omega), if_neg hne] at this
      | true =>
        refine AS.at_trans (AS.patch_in hw) (AS.at_symm ?_)
        have hjj : j < j' := by
          have := (hx j y hy hw).1 (by show (L.setIfInBounds j true).getD j false = true; rw [getD_set_true _ _ _ _ (by omega), if_pos rfl])
          exact this
        refine S_same hS j' (by omega) hj' fun k d hk1 hk2 hd => ?_
        cases hb : d.wr x with
        | false => rfl
        | true =>
          exfalso
          have hkl : k < l.length := by omega
          have hne : k ≠ j := by omega
          have hLk : (L.setIfInBounds j true).getD k false = true := (hx k d hd hb).2 hk2
          rw [getD_set_true _ _ _ _ (by omega), if_neg hne] at hLk
          have hok' : l[k]? = some l[k] := List.getElem?_eq_getElem hkl
          rcases hpair (fun i => L.getD i false) hcl k d j y (Nat.le_refl _) hd hy (by omega) with h | h
          · have := h l[k] hok' (hcl k _ hok' hLk)
            simp only [hLj] at this; cases this
          · have := h.2.1 x hw
            rw [hb] at this; cases this
    have hcl' : ∀ i o, l[i]? = some o → (L.setIfInBounds j true).getD i false = true → ∀ d ∈ waitsOf o, (L.setIfInBounds j true).getD d false = true := by
      intro i o hio hi d hd
      have hil : i < l.length := (List.getElem?_eq_some_iff.1 hio).1
      have hdl : d < l.length := by have := hlow i o hio d hd; omega
      rw [getD_set_true _ _ _ _ (by omega)] at hi ⊢
      by_cases hdj : d = j
      · rw [if_pos hdj]
      · rw [if_neg hdj]
        by_cases hij : i = j
        · subst hij
          rw [ho] at hio; cases hio
          exact hwt d hd
        · rw [if_neg hij] at hi
          exact hcl i o hio hi d hd
    have hf' : ((List.range l.length).filter fun i => !(L.setIfInBounds j true).getD i true).length ≤ fuel := by
      have e : ((List.range l.length).filter fun i => !(L.setIfInBounds j true).getD i true) = ((List.range l.length).filter fun i => !L.getD i true).filter (fun i => !(i == j)) := by
        rw [List.filter_filter]
        refine List.filter_congr fun i hi => ?_
        rw [getD_set_true _ _ _ _ (by rw [hsz]; exact List.mem_range.1 hi)]
        by_cases h : i = j <;> simp [h]
      rw [e]
      have : (((List.range l.length).filter fun i => !L.getD i true).filter (fun i => !(i == j))).length < ((List.range l.length).filter fun i => !L.getD i true).length := by
        rw [List.length_filter_lt_length_iff_exists]
        exact ⟨j, by simp only [List.mem_filter, List.mem_range, Bool.not_eq_true']; exact ⟨hjl, h2⟩, by simp⟩
      omega
    unfold wpOp
    rw [ho']
    simp only
    have := hg w0 own0 a w own hI (wpAny P .any l.toArray (fun e a' w' => ∃ σ' own', Q e σ' ∧ Inv w0 own0 σ' a' w' own') fuel (L.setIfInBounds j true)) (fun e a' w' => ∃ σ' own', Q e σ' ∧ Inv w0 own0 σ' a' w' own') (fun a' w' own' hI' => ih _ _ a' w' own' (by simpa using hsz) hf' hcl' hst' hI')
    split
    · rename_i hwn; rw [if_pos hwn] at this; exact .inl this
    · rename_i hwn; rw [if_neg hwn] at this; exact this

theorem AWp.draw {σ : AS} {id : Nat} (ds : List DOp) (hm : P.follows .mixedOrders = true) (hok : drawOk l ds = true) (h : DRun P l.toArray l ds σ (Q .normal)) : AWp P (.region id l.toArray true) Q σ := by
  intro w0 own0 a w own hI
  obtain ⟨hlen, S, h0, hK, hS⟩ := h.states
  subst h0
  refine wp_region_any hm ?_
  have hrep : ∀ i b, i < l.length → (Array.replicate l.length false).getD i b = false := fun i b hi => by simp [Array.getD, hi]
  have hrep' : ∀ i, (Array.replicate l.length false).getD i false = false := fun i => by simp [Array.getD]
  have hsz : l.toArray.size = l.length := by simp
  rw [hsz]
  refine wpAny_draw hS hlen hok hK _ _ (S 0) a _ own (by simp) ?_ ?_ ?_ (hI.drawn _)
  · refine Nat.le_trans (List.length_filter_le _ _) (by simp)
  · intro i o ho hi
    rw [hrep'] at hi; cases hi
  · refine ⟨rfl, fun x j hj hx => AS.at_symm (S_same hS j (Nat.zero_le _) hj fun i d _ hij hd => ?_)⟩
    cases hb : d.wr x with
    | false => rfl
    | true =>
      have := (hx i d hd hb).2 hij
      simp only [hrep'] at this; cases this
end

end Go.Mh
