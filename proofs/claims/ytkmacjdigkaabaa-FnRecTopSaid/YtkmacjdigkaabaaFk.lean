/- Code over told states. No condition. -/
import Derived.Test.YtkmacjdigkaabaaFj
set_option linter.unusedVariables false
set_option linter.unusedSimpArgs false
set_option linter.unnecessarySimpa false
namespace Go.Mh
open Go

/-! ### code over abstract states -/
def AWp (P : Program) (c : Code) (Q : Exit → AS → Prop) (σ : AS) : Prop :=
  ∀ w0 own0 a w own, Inv w0 own0 σ a w own → c.wp P (fun e a' w' => ∃ σ' own', Q e σ' ∧ Inv w0 own0 σ' a' w' own') a w

section
variable {P : Program} {Q : Exit → AS → Prop} {σ : AS}

theorem AWp.mono {c : Code} {Q' : Exit → AS → Prop} (h : AWp P c Q σ) (hq : ∀ e σ, Q e σ → Q' e σ) : AWp P c Q' σ :=
  fun w0 own0 a w own hI => wp_mono (h w0 own0 a w own hI) fun e a w ⟨σ', own', h1, h2⟩ => ⟨σ', own', hq _ _ h1, h2⟩

theorem AWp.skip (h : Q .normal σ) : AWp P .skip Q σ := fun w0 own0 a w own hI => wp_skip ⟨σ, own, h, hI⟩
theorem AWp.ret (h : Q .ret σ) : AWp P .ret Q σ := fun w0 own0 a w own hI => wp_ret ⟨σ, own, h, hI⟩
theorem AWp.exit {id : Nat} (h : Q (.exit id) σ) : AWp P (.exit id) Q σ := fun w0 own0 a w own hI => wp_exit ⟨σ, own, h, hI⟩

def AThen (next : AS → Prop) (Q : Exit → AS → Prop) : Exit → AS → Prop
  | .normal, σ => next σ
  | e, σ => Q e σ

theorem AWp.seq {x y : Code} (h : AWp P x (AThen (AWp P y Q) Q) σ) : AWp P (.seq x y) Q σ := by
  intro w0 own0 a w own hI
  refine wp_seq (wp_mono (h w0 own0 a w own hI) ?_)
  rintro e a' w' ⟨σ', own', h1, h2⟩
  cases e with
  | normal => exact h1 w0 own0 a' w' own' h2
  | _ => exact ⟨σ', own', h1, h2⟩

theorem AWp.cond {t : Nat} {b : Bool} {x y : Code} (hc : σ.s t = ⟨true, .one (.v (.bool b))⟩) (h1 : b = true → AWp P x Q σ) (h2 : b = false → AWp P y Q σ) : AWp P (.cond (.tmp t) x y) Q σ := by
  intro w0 own0 a w own hI
  have e := hI.evS (x := .tmp t) hc rfl
  refine wp_cond (t := b) e ?_
  cases b with
  | true => exact h1 rfl w0 own0 a w own hI
  | false => exact h2 rfl w0 own0 a w own hI

def ABlock (id : Nat) (Q : Exit → AS → Prop) : Exit → AS → Prop
  | .exit id', σ => if id' = id then Q .normal σ else Q (.exit id') σ
  | e, σ => Q e σ

theorem AWp.block {id : Nat} {c : Code} (h : AWp P c (ABlock id Q) σ) : AWp P (.block id c) Q σ := by
  intro w0 own0 a w own hI
  refine wp_block (wp_mono (h w0 own0 a w own hI) ?_)
  rintro e a' w' ⟨σ', own', h1, h2⟩
  cases e with
  | exit id' =>
    simp only [ABlock] at h1
    simp only [Exit.inBlock]
    split at h1
    · rename_i e; rw [if_pos e]; exact ⟨σ', own', h1, h2⟩
    · rename_i e; rw [if_neg e]; exact ⟨σ', own', h1, h2⟩
  | _ => exact ⟨σ', own', h1, h2⟩

theorem least {p : Nat → Prop} (h : ∃ n, p n) : ∃ m, p m ∧ ∀ k, p k → m ≤ k := by
  obtain ⟨n, hn⟩ := h
  induction n using Nat.strongRecOn with
  | _ n ih =>
    by_cases hk : ∃ k, k < n ∧ p k
    · obtain ⟨k, h1, h2⟩ := hk; exact ih k h1 h2
    · exact ⟨n, hn, fun k hp => Nat.le_of_not_lt fun hlt => hk ⟨k, hlt, hp⟩⟩

/-- a loop: a relation on abstract states and a measure -/
theorem AWp.loop {c : Code} (I : AS → Prop) (μ : AS → Nat) (h0 : I σ) (hr : ∀ σ, I σ → AWp P c (AThen (fun σ' => I σ' ∧ μ σ' < μ σ) Q) σ) : AWp P (.loop c) Q σ := by
  classical
  intro w0 own0 a w own hI
  let J : Act → World → Nat → Prop := fun a w n => ∃ σ' own', I σ' ∧ Inv w0 own0 σ' a w own' ∧ μ σ' = n
  let ν : Act → World → Nat := fun a w => if h : ∃ n, J a w n then Classical.choose (least h) else 0
  refine wp_loop (fun a w => ∃ n, J a w n) ν ⟨μ σ, σ, own, h0, hI, rfl⟩ ?_
  rintro a w hJ
  have hν : ν a w = Classical.choose (least hJ) := by simp only [ν]; rw [dif_pos hJ]
  obtain ⟨σ1, own1, h1, h2, h3⟩ := (Classical.choose_spec (least hJ)).1
  refine wp_mono (hr σ1 h1 w0 own0 a w own1 h2) ?_
  rintro e a' w' ⟨σ', own', k1, k2⟩
  cases e with
  | normal =>
    obtain ⟨k3, k4⟩ := k1
    have hJ' : ∃ n, J a' w' n := ⟨μ σ', σ', own', k3, k2, rfl⟩
    refine ⟨hJ', ?_⟩
    have hν' : ν a' w' = Classical.choose (least hJ') := by simp only [ν]; rw [dif_pos hJ']
    rw [hν, hν', ← h3]
    exact Nat.lt_of_le_of_lt ((Classical.choose_spec (least hJ')).2 _ ⟨σ', own', k3, k2, rfl⟩) k4
  | _ => exact ⟨σ', own', k1, k2⟩

/-- from one abstract state to another that says no more -/
def Le (σ σ' : AS) : Prop := ∀ w0 own0 a w own, Inv w0 own0 σ a w own → ∃ own', Inv w0 own0 σ' a w own'
theorem AWp.le {c : Code} {σ' : AS} (hl : Le σ σ') (h : AWp P c Q σ') : AWp P c Q σ := by
  intro w0 own0 a w own hI
  obtain ⟨own', hI'⟩ := hl w0 own0 a w own hI
  exact h w0 own0 a w own' hI'
theorem Le.refl (σ : AS) : Le σ σ := fun _ _ _ _ own h => ⟨own, h⟩
theorem Le.trans {a b c : AS} (h : Le a b) (k : Le b c) : Le a c := fun w0 own0 x w own hI => by
  obtain ⟨o1, h1⟩ := h w0 own0 x w own hI
  exact k w0 own0 x w o1 h1
end

/-! ### regions in the text's order -/
def GStep (P : Program) (ops : Array Oper) (o : Oper) (σ σ' : AS) : Prop :=
  ∀ w0 own0 a w own, Inv w0 own0 σ a w own → ∀ (K : Act → World → Prop) (Q : Exit → Act → World → Prop), (∀ a' w' own', Inv w0 own0 σ' a' w' own' → K a' w') →
    if Region.wanted o (yielded ops a.tmps) then o.wp P a w K Q else K (a.put o.dst undef) w

theorem GStep.plain {P : Program} {ops : Array Oper} {o : Oper} {σ σ' : AS} (hg : o.guard = none) (h : Step P o σ σ') : GStep P ops o σ σ' := by
  intro w0 own0 a w own hI K Q hK
  simp only [Region.wanted, hg, if_true]
  exact h w0 own0 a w own hI K Q hK

theorem GStep.guard {P : Program} {ops : Array Oper} {o : Oper} {σ : AS} {j t d : Nat} {want cj b : Bool} {u : V} (hg : o.guard = some (j, want)) (hj : (ops[j]?).bind (·.dst) = some t) (ht : σ.s t = ⟨cj, .one (.v (.bool b))⟩)
    (hd : o.dst = some d) (hn : d < σ.n) (h : cj = true → b = want → Step P o σ (σ.setS d ⟨true, u⟩)) : GStep P ops o σ (σ.setS d ⟨cj && (b == want), u⟩) := by
  intro w0 own0 a w own hI K Q hK
  have hs := hI.slots t
  rw [ht] at hs
  simp only [Region.wanted, hg]
  by_cases hc : cj = true
  · subst hc
    have hv : a.tmps.getD t undef = .bool b := by
      have : Ok w own none (a.tmps.getD t undef) (.bool b) := hs
      exact Ok.sc this rfl
    have hlt : a.tmps[t]? = some (.bool b) := by
      rw [Array.getD_eq_getD_getElem?] at hv
      cases hx : a.tmps[t]? with
      | none => rw [hx] at hv; simp [undef] at hv
      | some x => rw [hx] at hv; simp at hv; rw [hv]
    have hy : yielded ops a.tmps j = some b := by simp only [yielded, hj, Option.bind_some, hlt]
    rw [hy]
    by_cases hb : b = want
    · subst hb
      simp only [beq_self_eq_true, if_true]
      have e1 : (true && (b == b)) = true := by simp
      rw [e1] at hK
      exact h rfl rfl w0 own0 a w own hI K Q hK
    · have e2 : (some b == some want) = false := by simp [hb]
      rw [e2]
      simp only [Bool.false_eq_true, if_false]
      have e1 : (true && (b == want)) = false := by simp [hb]
      rw [e1] at hK
      rw [hd]
      exact hK _ _ _ (hI.put (v := undef) (x := ⟨false, u⟩) hn (by simp [OkS]))
  · have hc' : cj = false := by simpa using hc
    subst hc'
    have hv : a.tmps.getD t undef = undef := by simpa [OkS] using hs
    have hy : yielded ops a.tmps j = none := by
      rw [Array.getD_eq_getD_getElem?] at hv
      simp only [yielded, hj, Option.bind_some]
      cases hx : a.tmps[t]? with
      | none => rfl
      | some x => rw [hx] at hv; simp at hv; rw [hv]; rfl
    rw [hy]
    simp only [Bool.false_and] at hK
    have e3 : ((none : Option Bool) == some want) = false := rfl
    rw [e3]
    simp only [Bool.false_eq_true, if_false]
    rw [hd]
    exact hK _ _ _ (hI.put (v := undef) (x := ⟨false, u⟩) hn (by simp [OkS]))

def ARun (P : Program) (ops : Array Oper) : List Oper → AS → (AS → Prop) → Prop
  | [], σ, K => K σ
  | o :: rest, σ, K => ∃ σ', GStep P ops o σ σ' ∧ ARun P ops rest σ' K

theorem ARun.nil {P : Program} {ops : Array Oper} {σ : AS} {K : AS → Prop} (h : K σ) : ARun P ops [] σ K := h
theorem ARun.cons {P : Program} {ops : Array Oper} {o : Oper} {rest : List Oper} {σ σ' : AS} {K : AS → Prop} (h : GStep P ops o σ σ') (hr : ARun P ops rest σ' K) : ARun P ops (o :: rest) σ K := ⟨σ', h, hr⟩
theorem ARun.step {P : Program} {ops : Array Oper} {o : Oper} {rest : List Oper} {σ σ' : AS} {K : AS → Prop} (hg : o.guard = none) (h : Step P o σ σ') (hr : ARun P ops rest σ' K) : ARun P ops (o :: rest) σ K := ⟨σ', .plain hg h, hr⟩

theorem ARun.list {P : Program} {ops : Array Oper} {Q : Exit → AS → Prop} {w0 own0} : ∀ (l : List Oper) (σ : AS) (a : Act) (w : World) (own : Own), ARun P ops l σ (Q .normal) → Inv w0 own0 σ a w own →
    wpList P ops (fun e a' w' => ∃ σ' own', Q e σ' ∧ Inv w0 own0 σ' a' w' own') l a w
  | [], σ, a, w, own, h, hI => wpList_nil ⟨σ, own, h, hI⟩
  | o :: rest, σ, a, w, own, ⟨σ', hs, hr⟩, hI => by
    refine wpList_step fun K hK => ?_
    exact hs w0 own0 a w own hI K _ fun a' w' own' hI' => hK _ _ (ARun.list rest σ' a' w' own' hr hI')

theorem AWp.region {P : Program} {Q : Exit → AS → Prop} {σ : AS} {id : Nat} {l : List Oper} (h : ARun P l.toArray l σ (Q .normal)) : AWp P (.region id l.toArray false) Q σ :=
  fun w0 own0 a w own hI => wp_region_lit (ARun.list l σ a w own h hI)

end Go.Mh
