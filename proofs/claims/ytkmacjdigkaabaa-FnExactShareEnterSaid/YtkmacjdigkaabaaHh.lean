/- Contracts of functions of the program, each met by its body; conditions stand in each statement. No condition. -/
import Derived.Test.YtkmacjdigkaabaaHg
set_option linter.unusedVariables false
set_option linter.unusedSimpArgs false
set_option linter.unnecessarySimpa false
namespace Go.Mh
open Go

/-! ### a loop, from within -/
def lwp (P : Program) (c : Code) (Q : Exit → Act → World → Prop) (a : Act) (w : World) : Prop :=
  ∀ (b : Frame) (k : List Item) (cs : List Frame), ∃ e a' w', Q e a' w' ∧ Arrives P (lone (b.at a (.code c :: .inLoop c :: k)) cs w) b k cs e a' w'
theorem lwp.loop {P : Program} {Q : Exit → Act → World → Prop} {a : Act} {w : World} {c : Code} (h : lwp P c Q a w) : (Code.loop c).wp P Q a w := by
  intro b k cs
  obtain ⟨e, a', w', hq, harr⟩ := h b k cs
  exact ⟨e, a', w', hq, .of_steps (.one step_loop) harr⟩
theorem lwp.step {P : Program} {Q : Exit → Act → World → Prop} {a : Act} {w : World} {c : Code} (h : c.wp P (Exit.then (lwp P c Q) Q) a w) : lwp P c Q a w := by
  intro b k cs
  obtain ⟨e, a₁, w₁, hq, harr⟩ := h b (.inLoop c :: k) cs
  cases e with
  | normal =>
    obtain ⟨e₂, a₂, w₂, hq₂, harr₂⟩ := hq b k cs
    exact ⟨e₂, a₂, w₂, hq₂, .of_steps (Steps.trans harr (.one step_inLoop)) harr₂⟩
  | exit id => exact ⟨_, a₁, w₁, hq, .pass (x := .inLoop c) rfl (fun _ _ => .inl (by simp)) harr⟩
  | goto l => exact ⟨_, a₁, w₁, hq, .pass (x := .inLoop c) rfl (fun _ _ => .inl (by simp)) harr⟩
  | ret => exact ⟨_, a₁, w₁, hq, .pass (x := .inLoop c) rfl (fun _ _ => .inl (by simp)) harr⟩
  | panic ch => exact ⟨_, a₁, w₁, hq, .pass (x := .inLoop c) rfl (fun _ _ => .inl (by simp)) harr⟩
  | outgrown => exact ⟨_, a₁, w₁, hq, .pass (x := .inLoop c) rfl (fun _ _ => .inl (by simp)) harr⟩

def ALwp (P : Program) (c : Code) (Q : Exit → AS → Prop) (σ : AS) : Prop :=
  ∀ w0 own0 a w own, Inv w0 own0 σ a w own → lwp P c (fun e a' w' => ∃ σ' own', Q e σ' ∧ Inv w0 own0 σ' a' w' own') a w
section
variable {P : Program} {Q : Exit → AS → Prop} {σ : AS} {c : Code}
theorem ALwp.loop (h : ALwp P c Q σ) : AWp P (.loop c) Q σ := fun w0 own0 a w own hI => (h w0 own0 a w own hI).loop
theorem ALwp.step (h : AWp P c (AThen (ALwp P c Q) Q) σ) : ALwp P c Q σ := by
  intro w0 own0 a w own hI
  refine lwp.step (wp_mono (h w0 own0 a w own hI) ?_)
  rintro e a' w' ⟨σ', own', h1, h2⟩
  cases e with
  | normal => exact h1 w0 own0 a' w' own' h2
  | _ => exact ⟨σ', own', h1, h2⟩
theorem ALwp.le {σ' : AS} (hl : Le σ σ') (h : ALwp P c Q σ') : ALwp P c Q σ := by
  intro w0 own0 a w own hI
  obtain ⟨own', hI'⟩ := hl w0 own0 a w own hI
  exact h w0 own0 a w own' hI'
end

/-! ### the end is chosen on the way -/
def E (Φ : (Exit → AS → Prop) → Prop) (A : (Exit → AS → Prop) → Prop) : Prop := ∃ Q, Φ Q ∧ A Q
section
variable {Φ : (Exit → AS → Prop) → Prop}
theorem E.mono {A B : (Exit → AS → Prop) → Prop} (h : ∀ Q, B Q → A Q) (hB : E Φ B) : E Φ A := by
  obtain ⟨Q, h1, h2⟩ := hB
  exact ⟨Q, h1, h Q h2⟩
structure Hid (p : Prop) : Prop where
  out : p
theorem E.cond {P : Program} {σ : AS} {K : (Exit → AS → Prop) → Exit → AS → Prop} {t : Nat} {b : Bool} {x y : Code} (hc : σ.s t = ⟨true, .one (.v (.bool b))⟩)
    (h1 : b = true → E Φ (fun Q => AWp P x (K Q) σ)) (h2 : b = false → E Φ (fun Q => AWp P y (K Q) σ)) : E Φ (fun Q => AWp P (.cond (.tmp t) x y) (K Q) σ) := by
  cases b with
  | true =>
    obtain ⟨Q, k1, k2⟩ := h1 rfl
    exact ⟨Q, k1, AWp.cond hc (fun _ => k2) (fun h => by cases h)⟩
  | false =>
    obtain ⟨Q, k1, k2⟩ := h2 rfl
    exact ⟨Q, k1, AWp.cond hc (fun h => by cases h) (fun _ => k2)⟩
theorem E.loop {P : Program} {σ : AS} {K : (Exit → AS → Prop) → Exit → AS → Prop} {c : Code} {α : Type} (mk : α → AS) (Pre : α → Prop) (μ : α → Nat) (x0 : α) (hp : Pre x0) (h0 : Le σ (mk x0))
    (hr : ∀ x, Pre x → (∀ y σ', Pre y → μ y < μ x → Le σ' (mk y) → E Φ (fun Q => ALwp P c (K Q) σ')) → E Φ (fun Q => AWp P c (AThen (ALwp P c (K Q)) (K Q)) (mk x))) : E Φ (fun Q => AWp P (.loop c) (K Q) σ) := by
  have key : ∀ n x, μ x = n → Pre x → E Φ (fun Q => ALwp P c (K Q) (mk x)) := by
    intro n
    induction n using Nat.strongRecOn with
    | _ n ih =>
      intro x hx hpx
      refine E.mono (fun Q h => ALwp.step h) (hr x hpx fun y σ' hy hlt hle => ?_)
      exact E.mono (fun Q h => ALwp.le hle h) (ih (μ y) (hx ▸ hlt) y rfl hy)
  exact E.mono (fun Q h => AWp.le h0 (ALwp.loop h)) (key _ x0 rfl hp)
theorem E.ret {ι : Type} {G : ι → Prop} {F : ι → Exit → AS → Prop} {e : Exit} {σ : AS} (i : ι) (h : F i e σ) (hG : G i) : E (fun Q => ∃ i, G i ∧ Q = F i) (fun Q => Q e σ) := ⟨F i, ⟨i, hG, rfl⟩, h⟩
end

theorem LSpec.ex {P : Program} {f : FuncId} {fn : Func} {c : Code} {e : Nat} {r : List T} {args : List PV} (hf : P.funcs[f]? = some fn) (hb : fn.body = some c) (ts : List Nat) (hres : fn.results = (ts.map ResultVar.tmp).toArray) (n : Nat) (hnn : fn.ntmps = n) (hn : Nat.ble (args.length + 1) n = true) (hnf : Nat.ble n RR = true)
    (hns : r.all noSl = true) {ι : Type} (r' : ι → List T) (res : ι → PV) (G : ι → Prop) (hns' : ∀ i, (r' i).all noSl = true) (hlen : ∀ i, (r' i).length = r.length)
    (h : E (fun Q => ∃ i, G i ∧ Q = RetIsL e (r' i) (RetIs ts (res i))) (fun Q => AWp P c Q (initL n e r args))) : ∃ i, G i ∧ LSpec P f e r (r' i) args (res i) := by
  obtain ⟨_, ⟨i, hG, rfl⟩, h⟩ := h
  exact ⟨i, hG, LSpec.body hf hb ts hres n hnn hn hnf hns (hns' i) (hlen i) h⟩
theorem ASpec.ex {P : Program} {f : FuncId} {fn : Func} {c : Code} {args : List PV} (hf : P.funcs[f]? = some fn) (hb : fn.body = some c) (ts : List Nat) (hres : fn.results = (ts.map ResultVar.tmp).toArray) (n : Nat) (hnn : fn.ntmps = n) (hn : Nat.ble args.length n = true) (hnf : Nat.ble n RR = true)
    {ι : Type} (res : ι → PV) (G : ι → Prop)
    (h : E (fun Q => ∃ i, G i ∧ Q = RetIs ts (res i)) (fun Q => AWp P c Q (initAS n args))) : ∃ i, G i ∧ ASpec P f args (res i) := by
  obtain ⟨_, ⟨i, hG, rfl⟩, h⟩ := h
  exact ⟨i, hG, ASpec.body hf hb ts hres n hnn hn hnf h⟩
/-! ### the reader: a code, and the place in it -/
/-! ### literals -/
def RowsEq (r g : Nat → List T) : Nat → Nat → Prop
  | 0, _ => True
  | n + 1, i => r i = g i ∧ RowsEq r g n (i + 1)
theorem RowsEq.get {r g : Nat → List T} : ∀ {n k : Nat}, RowsEq r g n k → ∀ i, i < n → r (k + i) = g (k + i)
  | 0, _, _, i, hi => absurd hi (by omega)
  | n + 1, k, h, 0, _ => h.1
  | n + 1, k, h, i + 1, hi => by
    have := RowsEq.get h.2 i (by omega)
    rwa [show k + (i + 1) = k + 1 + i by omega]
end Go.Mh
