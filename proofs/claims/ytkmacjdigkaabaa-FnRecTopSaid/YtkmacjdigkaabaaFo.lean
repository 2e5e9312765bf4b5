/- States written out, and loops over them. No condition. -/
import Derived.Test.YtkmacjdigkaabaaFn
import Derived.IntWalk
set_option linter.unusedVariables false
set_option linter.unusedSimpArgs false
set_option linter.unnecessarySimpa false
namespace Go.Mh
open Go

/-! ### states written out -/
def lookS : List (Nat × SV) → Nat → SV
  | [], _ => ⟨true, .any⟩
  | (k, v) :: l, t => match Nat.beq t k with | true => v | false => lookS l t
def lookB : List (Nat × List C) → Nat → List C
  | [], _ => []
  | (k, v) :: l, t => match Nat.beq t k with | true => v | false => lookB l t
def lookA : List (Nat × Nat × T) → Nat → Nat → T
  | [], _, _ => .dead
  | (k, i, v) :: l, t, j => match Nat.beq t k, Nat.beq j i with | true, true => v | _, _ => lookA l t j
def mkAS (n : Nat) (sl : List (Nat × SV)) (bl : List (Nat × List C)) (al : List (Nat × Nat × T)) : AS := ⟨n, lookS sl, lookB bl, lookA al⟩

def isS (σ : AS) : List (Nat × SV) → Prop
  | [] => True
  | (k, v) :: l => σ.s k = v ∧ isS σ l
def isB (σ : AS) : List (Nat × List C) → Prop
  | [] => True
  | (k, v) :: l => σ.box k = v ∧ isB σ l
theorem isS_look {σ : AS} : ∀ {sl : List (Nat × SV)}, isS σ sl → ∀ t, lookS sl t = σ.s t ∨ lookS sl t = ⟨true, .any⟩
  | [], _, t => .inr rfl
  | (k, v) :: l, h, t => by
    simp only [lookS]
    cases hb : Nat.beq t k with
    | true => left; rw [Nat.eq_of_beq_eq_true hb]; exact h.1.symm
    | false => exact isS_look h.2 t
theorem isB_look {σ : AS} : ∀ {sl : List (Nat × List C)}, isB σ sl → ∀ t, lookB sl t = σ.box t ∨ lookB sl t = []
  | [], _, t => .inr rfl
  | (k, v) :: l, h, t => by
    simp only [lookB]
    cases hb : Nat.beq t k with
    | true => left; rw [Nat.eq_of_beq_eq_true hb]; exact h.1.symm
    | false => exact isB_look h.2 t
/-! ### a loop over written-out states -/
theorem AWp.loopM {P : Program} {Q : Exit → AS → Prop} {σ : AS} {c : Code} {α : Type} (mk : α → AS) (Pre : α → Prop) (μ : α → Nat) (x0 : α) (hp : Pre x0) (h0 : Le σ (mk x0))
    (hr : ∀ x, Pre x → AWp P c (AThen (fun σ' => ∃ y, Pre y ∧ μ y < μ x ∧ Le σ' (mk y)) Q) (mk x)) : AWp P (.loop c) Q σ := by
  refine AWp.le h0 ?_
  refine AWp.loop (fun σ => ∃ x, Pre x ∧ Le σ (mk x)) (fun σ => open Classical in if h : ∃ n, ∃ x, Pre x ∧ Le σ (mk x) ∧ μ x = n then Classical.choose (least h) else 0) ⟨x0, hp, Le.refl _⟩ ?_
  rintro σ ⟨x1, hx1, hl1⟩
  have hJ : ∃ n, ∃ x, Pre x ∧ Le σ (mk x) ∧ μ x = n := ⟨_, x1, hx1, hl1, rfl⟩
  obtain ⟨x, hx, hl, hμ⟩ := (Classical.choose_spec (least hJ)).1
  refine AWp.le hl (AWp.mono (hr x hx) ?_)
  intro e σ' h
  cases e with
  | normal =>
    obtain ⟨y, hy, hlt, hle⟩ := h
    refine ⟨⟨y, hy, hle⟩, ?_⟩
    have hJ' : ∃ n, ∃ x, Pre x ∧ Le σ' (mk x) ∧ μ x = n := ⟨_, y, hy, hle, rfl⟩
    simp only [dif_pos hJ, dif_pos hJ']
    rw [← hμ]
    exact Nat.lt_of_le_of_lt ((Classical.choose_spec (least hJ')).2 _ ⟨y, hy, hle, rfl⟩) hlt
  | _ => exact h

/-! ### the end of a function -/
def RetIs (ts : List Nat) (res : PV) : Exit → AS → Prop := fun e σ' => (e = .normal ∨ e = .ret) ∧ ∃ rs l, RetVs σ' ts rs l 0 ∧ disjL l = true ∧ (match rs with | [r] => r | _ => .tup rs) = res

theorem ASpec.body {P : Program} {f : FuncId} {fn : Func} {c : Code} {args : List PV} {res : PV} (hf : P.funcs[f]? = some fn) (hb : fn.body = some c) (ts : List Nat) (hres : fn.results = (ts.map ResultVar.tmp).toArray) (n : Nat) (hnn : fn.ntmps = n) (hn : Nat.ble args.length n = true) (hnf : Nat.ble n RR = true)
    (h : AWp P c (RetIs ts res) (initAS n args)) : ASpec P f args res :=
  ASpec.of_body hf hb ts hres (by rw [hnn]; exact Nat.le_of_ble_eq_true hn) (by rw [hnn]; exact Nat.le_of_ble_eq_true hnf) (by rw [hnn]; exact h)

theorem RetIs.sc {t : Nat} {x y : T} {e : Exit} {σ : AS} (he : e = .normal ∨ e = .ret) (hs : σ.s t = ⟨true, .one (.v x)⟩) (hx : x.sc = true) (h : x = y) : RetIs [t] (.one y) e σ :=
  ⟨he, [.one x], [], .cons hs (.one (.sc x _ hx)) (.nil _), rfl, by rw [h]⟩

/-! ### small helps -/
theorem hn {d n : Nat} (h : Nat.ble (d + 1) n = true) : d < n := Nat.le_of_ble_eq_true h
theorem ev_true {x : SV} {c : Bool} {u : V} (h : x = ⟨c, u⟩) (hc : c = true) : x = ⟨true, u⟩ := by rw [h, hc]

theorem AWp.lenLe {P : Program} {Q : Exit → AS → Prop} {σ : AS} {c : Code} (t : Nat) {e sz n : Nat} {f : Nat → List T} (hs : σ.s t = ⟨true, .one (.v (.sl e sz n f))⟩) (h : n ≤ 9223372036854775807 → AWp P c Q σ) : AWp P c Q σ := by
  intro w0 own0 a w own hI
  refine h ?_ w0 own0 a w own hI
  have := hI.evC (x := .tmp t) hs
  generalize a.eval (.tmp t) = v at this
  cases this with
  | nil => omega
  | emp => omega
  | fsl x hn hcap => simp only [maxLen] at hcap; omega

theorem AWp.strLe {P : Program} {Q : Exit → AS → Prop} {σ : AS} {c : Code} (t : Nat) {s : ByteArray} (hs : σ.s t = ⟨true, .one (.v (.str s))⟩) (h : s.size ≤ 9223372036854775807 → AWp P c Q σ) : AWp P c Q σ := by
  intro w0 own0 a w own hI
  refine h ?_ w0 own0 a w own hI
  have := Ok.fits (hI.evC (x := .tmp t) hs)
  simpa only [T.fits, maxLen] using this

theorem wrap_in {z : Int} (h0 : -9223372036854775808 ≤ z) (h1 : z ≤ 9223372036854775807) : IntKind.i64.wrap z = z := by
  exact IntWalk.i64_in z ⟨h0, h1⟩

/-- i + 1 of a counter -/
theorem step_inc {P : Program} {o : Oper} {σ : AS} {d : Nat} (hd : o.dst = some d) (hn : d < σ.n) {t ty : TypeId} {x y : Operand} (ho : o.op = .binOp .add t x y ty) {i : Nat}
    (hx : σ.ev x = ⟨true, .one (.v (.int .i64 (i : Int)))⟩) (hy : σ.ev y = ⟨true, .one (.v (.int .i64 1))⟩) (hi : i < 9223372036854775807) : Step P o σ (σ.setS d ⟨true, .one (.v (.int .i64 ((i + 1 : Nat) : Int)))⟩) := by
  have := step_add (P := P) hd hn ho hx hy
  rw [wrap_in (by omega) (by omega)] at this
  exact this
/-- a sum that fits -/
theorem step_addI {P : Program} {o : Oper} {σ : AS} {d : Nat} (hd : o.dst = some d) (hn : d < σ.n) {t ty : TypeId} {x y : Operand} (ho : o.op = .binOp .add t x y ty) {m n : Int}
    (hx : σ.ev x = ⟨true, .one (.v (.int .i64 m))⟩) (hy : σ.ev y = ⟨true, .one (.v (.int .i64 n))⟩) (h0 : -9223372036854775808 ≤ m + n) (h1 : m + n ≤ 9223372036854775807) : Step P o σ (σ.setS d ⟨true, .one (.v (.int .i64 (m + n)))⟩) := by
  have := step_add (P := P) hd hn ho hx hy
  rw [wrap_in h0 h1] at this
  exact this
end Go.Mh
