/- Whole rows written at once. No condition. -/
import Derived.Test.YtkmacjdigkaabaaFs
set_option linter.unusedVariables false
set_option linter.unusedSimpArgs false
set_option linter.unnecessarySimpa false
namespace Go.Mh
open Go

def fitsC : C → Prop
  | .v (.str s) => s.size ≤ 9223372036854775807
  | .v (.sl _ _ n _) => n ≤ 9223372036854775807
  | _ => True
theorem OkC.fitsC {w own σ v c} (h : OkC w own σ v c) : fitsC c := by
  cases c with
  | v t =>
    cases t with
    | str s => have := Ok.fits (pl := none) (t := .str s) h; show s.size ≤ 9223372036854775807; simpa only [T.fits, maxLen] using this
    | sl e sz n f =>
      have h' : Ok w own none v (.sl e sz n f) := h
      cases h' with
      | nil => exact Nat.zero_le 9223372036854775807
      | emp => exact Nat.zero_le 9223372036854775807
      | fsl x hn hcap => simp only [maxLen] at hcap; exact Nat.le_trans hn hcap
    | _ => trivial
  | _ => trivial
theorem Step.le {P : Program} {o : Oper} {σ τ τ' : AS} (h : Step P o σ τ) (hl : Le τ τ') : Step P o σ τ' := by
  intro w0 own0 a w own hI K Q hK
  refine h w0 own0 a w own hI K Q fun a' w' own' hI' => ?_
  obtain ⟨own2, h2⟩ := hl w0 own0 a' w' own' hI'
  exact hK _ _ _ h2

/-! ### a whole row written at once -/
def putRow (f : Nat → List T) (i : Nat) (ts : List T) : Nat → List T := fun j => match Nat.beq j i with | true => ts | false => f j
theorem putRow_self (f : Nat → List T) (i : Nat) (ts : List T) : putRow f i ts i = ts := by simp [putRow]
theorem putRow_other (f : Nat → List T) (i : Nat) (ts : List T) {j : Nat} (h : j ≠ i) : putRow f i ts j = f j := by simp only [putRow, beq_false h]
def setRowN (f : Nat → List T) (i : Nat) : Nat → List C → Nat → List T
  | _, [] => f
  | l, c :: cs => setRowN (setRow f i l (toT c)) i (l + 1) cs
theorem setRowN_other (i : Nat) : ∀ (cs : List C) (f : Nat → List T) (l j : Nat), j ≠ i → setRowN f i l cs j = f j
  | [], f, l, j, h => rfl
  | c :: cs, f, l, j, h => by simp only [setRowN]; rw [setRowN_other i cs _ _ _ h, setRow_other _ _ _ _ h]
theorem setRowN_self (i : Nat) : ∀ (cs : List C) (f : Nat → List T) (pre rest : List T), f i = pre ++ rest → rest.length = cs.length → setRowN f i pre.length cs i = pre ++ cs.map toT
  | [], f, pre, rest, h, hl => by have : rest = [] := List.eq_nil_of_length_eq_zero hl; subst this; simpa [setRowN] using h
  | c :: cs, f, pre, [], h, hl => by simp at hl
  | c :: cs, f, pre, x :: rest, h, hl => by
    simp only [setRowN]
    have := setRowN_self i cs (setRow f i pre.length (toT c)) (pre ++ [toT c]) rest (by rw [setRow_self, h]; simp) (by simpa using hl)
    simp only [List.length_append, List.length_cons, List.length_nil, Nat.zero_add] at this
    rw [this]; simp

theorem storeNA_plain {d k i e sz n : Nat} {y : Operand} {cs : List C} (hp : cs.all plainC = true) : ∀ (m l : Nat) (σ : AS) (f : Nat → List T), σ.arr d k = .sl e sz n f → (σ.ev y).v.cells = cs → l + m = cs.length →
    storeNA ⟨.arr d k, []⟩ i 0 y m l σ = σ.setArr d k (.sl e sz n (setRowN f i l (cs.drop l)))
  | 0, l, σ, f, hf, hy, hl => by
    rw [List.drop_of_length_le (by omega)]
    simp only [storeNA, setRowN]
    rw [← hf]
    obtain ⟨nn, s, b, r⟩ := σ
    simp only [AS.setArr, AS.mk.injEq, true_and]
    funext t q
    cases h1 : Nat.beq t d with
    | true => cases h2 : Nat.beq q k with
      | true => simp only [Nat.eq_of_beq_eq_true h1, Nat.eq_of_beq_eq_true h2]
      | false => rfl
    | false => rfl
  | m + 1, l, σ, f, hf, hy, hl => by
    have hlt : l < cs.length := by omega
    simp only [storeNA, hy]
    rw [List.getElem?_eq_getElem hlt]
    simp only
    have hpl : plainC cs[l] = true := List.all_eq_true.1 hp _ (List.getElem_mem hlt)
    have e1 : storeA1 σ ⟨.arr d k, []⟩ i (0 + l) cs[l] = σ.setArr d k (.sl e sz n (setRow f i l (toT cs[l]))) := by
      unfold storeA1
      have hn : σ.node ⟨.arr d k, []⟩ = .sl e sz n f := hf
      rw [hn, Nat.zero_add]
      simp only
      generalize cs[l] = c at hpl
      cases c <;> first | rfl | cases hpl
    rw [e1]
    have ha : (σ.setArr d k (.sl e sz n (setRow f i l (toT cs[l])))).arr d k = .sl e sz n (setRow f i l (toT cs[l])) := by simp [AS.setArr]
    rw [storeNA_plain hp m (l + 1) _ _ ha (by cases y <;> exact hy) (by omega), setArr_setArr]
    conv => rhs; rw [List.drop_eq_getElem_cons hlt]
    rfl

theorem step_store_row {P : Program} {o : Oper} {σ : AS} {t m : Nat} {x y : Operand} (hd : o.dst = none) (ho : o.op = .store t x y) (ht : cellsSz P t = some (m + 1)) {d k i e sz n : Nat} {f : Nat → List T}
    (hx : σ.ev x = ⟨true, .one (.eptr ⟨.arr d k, []⟩ i 0)⟩) (hp : σ.arr d k = .sl e sz n f) (hi : i < n) (hsz : sz = m + 1) {u : V} {cs : List C} (hy : σ.ev y = ⟨true, u⟩) (hcs : u.cells = cs) (hpl : cs.all plainC = true) (hl : cs.length = m + 1) (hrow : (f i).length = m + 1) :
    Step P o σ (σ.setArr d k (.sl e sz n (putRow f i (cs.map toT)))) := by
  have hyc : (σ.ev y).v.cells = cs := by rw [hy]; exact hcs
  have hok : ∀ (q l : Nat) (τ : AS) (g : Nat → List T), τ.arr d k = .sl e sz n g → (τ.ev y).v.cells = cs → l + q = cs.length → storeOkNA ⟨.arr d k, []⟩ i 0 y q l τ = true := by
    intro q
    induction q with
    | zero => intro l τ g _ _ _; rfl
    | succ q ih =>
      intro l τ g hg hyy hlq
      have hlt : l < cs.length := by omega
      have hpc : plainC cs[l] = true := List.all_eq_true.1 hpl _ (List.getElem_mem hlt)
      simp only [storeOkNA, hyy]
      rw [List.getElem?_eq_getElem hlt]
      simp only [Bool.and_eq_true]
      refine ⟨?_, ?_⟩
      · have := plainC_solid (σ := τ) hpc
        unfold storeOkA
        generalize cs[l] = c at hpc this
        cases c <;> first | exact this | cases hpc
      · have e1 : storeA1 τ ⟨.arr d k, []⟩ i (0 + l) cs[l] = τ.setArr d k (.sl e sz n (setRow g i l (toT cs[l]))) := by
          unfold storeA1
          have hn : τ.node ⟨.arr d k, []⟩ = .sl e sz n g := hg
          rw [hn, Nat.zero_add]
          simp only
          generalize cs[l] = c at hpc
          cases c <;> first | rfl | cases hpc
        rw [e1]
        exact ih (l + 1) _ (setRow g i l (toT cs[l])) (by simp [AS.setArr]) (by cases y <;> exact hyy) (by omega)
  have h := step_store_e (P := P) hd ho ht hx (p := ⟨.arr d k, []⟩) hp hi (by omega) (by rw [hy]) (by rw [hyc, hl]) (hok (m + 1) 0 σ f hp hyc (by omega))
  rw [storeNA_plain hpl (m + 1) 0 σ f hp hyc (by omega), List.drop_zero] at h
  have e : setRowN f i 0 cs = putRow f i (cs.map toT) := by
    funext j
    by_cases hj : j = i
    · subst hj
      rw [putRow_self]
      exact setRowN_self j cs f [] (f j) rfl (by rw [hrow, hl])
    · rw [putRow_other _ _ _ hj, setRowN_other _ _ _ _ _ hj]
  rw [e] at h
  exact h

end Go.Mh
