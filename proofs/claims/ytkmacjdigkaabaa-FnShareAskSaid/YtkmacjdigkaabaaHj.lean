/- Contracts of functions of the program, each met by its body; conditions stand in each statement. No condition. -/
import Derived.Test.YtkmacjdigkaabaaHg
import Derived.Sort.Grow
set_option linter.unusedVariables false
set_option linter.unusedSimpArgs false
set_option linter.unnecessarySimpa false
namespace Go.Mh
open Go

/-! ### a loop, from within -/
def lwp (P : Program) (c : Code) (Q : Exit → Act → World → Prop) (a : Act) (w : World) : Prop :=
  ∀ (b : Frame) (k : List Item) (cs : List Frame), ∃ e a' w', Q e a' w' ∧ Arrives P (lone (b.at a (.code c :: .inLoop c :: k)) cs w) b k cs e a' w'
theorem lwp.loop {P : Program} {Q : Exit → Act → World → Prop} {a : Act} {w : World} {c : Code} (h : lwp P c Q a w) : (Code.loop c).wp P Q a w := by
  intro b k cs
  obtain ⟨e, a', w', hq, harr⟩ := h b k cs
  exact ⟨e, a', w', hq, .of_steps (.one step_loop) harr⟩
theorem lwp.step {P : Program} {Q : Exit → Act → World → Prop} {a : Act} {w : World} {c : Code} (h : c.wp P (Exit.then (lwp P c Q) Q) a w) : lwp P c Q a w := by
  intro b k cs
  obtain ⟨e, a₁, w₁, hq, harr⟩ := h b (.inLoop c :: k) cs
  cases e with
  | normal =>
    obtain ⟨e₂, a₂, w₂, hq₂, harr₂⟩ := hq b k cs
    exact ⟨e₂, a₂, w₂, hq₂, .of_steps (Steps.trans harr (.one step_inLoop)) harr₂⟩
  | exit id => exact ⟨_, a₁, w₁, hq, .pass (x := .inLoop c) rfl (fun _ _ => .inl (by simp)) harr⟩
  | goto l => exact ⟨_, a₁, w₁, hq, .pass (x := .inLoop c) rfl (fun _ _ => .inl (by simp)) harr⟩
  | ret => exact ⟨_, a₁, w₁, hq, .pass (x := .inLoop c) rfl (fun _ _ => .inl (by simp)) harr⟩
  | panic ch => exact ⟨_, a₁, w₁, hq, .pass (x := .inLoop c) rfl (fun _ _ => .inl (by simp)) harr⟩
  | outgrown => exact ⟨_, a₁, w₁, hq, .pass (x := .inLoop c) rfl (fun _ _ => .inl (by simp)) harr⟩

def ALwp (P : Program) (c : Code) (Q : Exit → AS → Prop) (σ : AS) : Prop :=
  ∀ w0 own0 a w own, Inv w0 own0 σ a w own → lwp P c (fun e a' w' => ∃ σ' own', Q e σ' ∧ Inv w0 own0 σ' a' w' own') a w
section
variable {P : Program} {Q : Exit → AS → Prop} {σ : AS} {c : Code}
theorem ALwp.loop (h : ALwp P c Q σ) : AWp P (.loop c) Q σ := fun w0 own0 a w own hI => (h w0 own0 a w own hI).loop
theorem ALwp.step (h : AWp P c (AThen (ALwp P c Q) Q) σ) : ALwp P c Q σ := by
  intro w0 own0 a w own hI
  refine lwp.step (wp_mono (h w0 own0 a w own hI) ?_)
  rintro e a' w' ⟨σ', own', h1, h2⟩
  cases e with
  | normal => exact h1 w0 own0 a' w' own' h2
  | _ => exact ⟨σ', own', h1, h2⟩
theorem ALwp.le {σ' : AS} (hl : Le σ σ') (h : ALwp P c Q σ') : ALwp P c Q σ := by
  intro w0 own0 a w own hI
  obtain ⟨own', hI'⟩ := hl w0 own0 a w own hI
  exact h w0 own0 a w own' hI'
end

/-! ### the end is chosen on the way -/
def E (Φ : (Exit → AS → Prop) → Prop) (A : (Exit → AS → Prop) → Prop) : Prop := ∃ Q, Φ Q ∧ A Q
section
variable {Φ : (Exit → AS → Prop) → Prop}
theorem E.mono {A B : (Exit → AS → Prop) → Prop} (h : ∀ Q, B Q → A Q) (hB : E Φ B) : E Φ A := by
  obtain ⟨Q, h1, h2⟩ := hB
  exact ⟨Q, h1, h Q h2⟩
structure Hid (p : Prop) : Prop where
  out : p
theorem E.reg {A B : (Exit → AS → Prop) → Prop} (h : ∀ Q, Hid (B Q) → A Q) (hB : E Φ B) : E Φ A := E.mono (fun Q h1 => h Q ⟨h1⟩) hB
theorem E.cond {P : Program} {σ : AS} {K : (Exit → AS → Prop) → Exit → AS → Prop} {t : Nat} {b : Bool} {x y : Code} (hc : σ.s t = ⟨true, .one (.v (.bool b))⟩)
    (h1 : b = true → E Φ (fun Q => AWp P x (K Q) σ)) (h2 : b = false → E Φ (fun Q => AWp P y (K Q) σ)) : E Φ (fun Q => AWp P (.cond (.tmp t) x y) (K Q) σ) := by
  cases b with
  | true =>
    obtain ⟨Q, k1, k2⟩ := h1 rfl
    exact ⟨Q, k1, AWp.cond hc (fun _ => k2) (fun h => by cases h)⟩
  | false =>
    obtain ⟨Q, k1, k2⟩ := h2 rfl
    exact ⟨Q, k1, AWp.cond hc (fun h => by cases h) (fun _ => k2)⟩
theorem E.loop {P : Program} {σ : AS} {K : (Exit → AS → Prop) → Exit → AS → Prop} {c : Code} {α : Type} (mk : α → AS) (Pre : α → Prop) (μ : α → Nat) (x0 : α) (hp : Pre x0) (h0 : Le σ (mk x0))
    (hr : ∀ x, Pre x → (∀ y σ', Pre y → μ y < μ x → Le σ' (mk y) → E Φ (fun Q => ALwp P c (K Q) σ')) → E Φ (fun Q => AWp P c (AThen (ALwp P c (K Q)) (K Q)) (mk x))) : E Φ (fun Q => AWp P (.loop c) (K Q) σ) := by
  have key : ∀ n x, μ x = n → Pre x → E Φ (fun Q => ALwp P c (K Q) (mk x)) := by
    intro n
    induction n using Nat.strongRecOn with
    | _ n ih =>
      intro x hx hpx
      refine E.mono (fun Q h => ALwp.step h) (hr x hpx fun y σ' hy hlt hle => ?_)
      exact E.mono (fun Q h => ALwp.le hle h) (ih (μ y) (hx ▸ hlt) y rfl hy)
  exact E.mono (fun Q h => AWp.le h0 (ALwp.loop h)) (key _ x0 rfl hp)
theorem E.ret {ι : Type} {G : ι → Prop} {F : ι → Exit → AS → Prop} {e : Exit} {σ : AS} (i : ι) (h : F i e σ) (hG : G i) : E (fun Q => ∃ i, G i ∧ Q = F i) (fun Q => Q e σ) := ⟨F i, ⟨i, hG, rfl⟩, h⟩
end

theorem LSpec.ex {P : Program} {f : FuncId} {fn : Func} {c : Code} {e : Nat} {r : List T} {args : List PV} (hf : P.funcs[f]? = some fn) (hb : fn.body = some c) (ts : List Nat) (hres : fn.results = (ts.map ResultVar.tmp).toArray) (n : Nat) (hnn : fn.ntmps = n) (hn : Nat.ble (args.length + 1) n = true) (hnf : Nat.ble n RR = true)
    (hns : r.all noSl = true) {ι : Type} (r' : ι → List T) (res : ι → PV) (G : ι → Prop) (hns' : ∀ i, (r' i).all noSl = true) (hlen : ∀ i, (r' i).length = r.length)
    (h : E (fun Q => ∃ i, G i ∧ Q = RetIsL e (r' i) (RetIs ts (res i))) (fun Q => AWp P c Q (initL n e r args))) : ∃ i, G i ∧ LSpec P f e r (r' i) args (res i) := by
  obtain ⟨_, ⟨i, hG, rfl⟩, h⟩ := h
  exact ⟨i, hG, LSpec.body hf hb ts hres n hnn hn hnf hns (hns' i) (hlen i) h⟩
theorem LSpec.exC {P : Program} {f : FuncId} {fn : Func} {c : Code} {e : Nat} {r : List T} {args : List PV} (hf : P.funcs[f]? = some fn) (hb : fn.body = some c) (t0 ty : Nat) (ts : List Nat) (hres : fn.results = (ResultVar.cell t0 ty :: ts.map ResultVar.tmp).toArray) (ht0 : ts.all (fun t => !Nat.beq t t0) = true)
    (n : Nat) (hnn : fn.ntmps = n) (hn : Nat.ble (args.length + 1) n = true) (hnf : Nat.ble n RR = true)
    (hns : r.all noSl = true) {ι : Type} (r' : ι → List T) (res : ι → PV) (G : ι → Prop) (hns' : ∀ i, (r' i).all noSl = true) (hlen : ∀ i, (r' i).length = r.length)
    (h : E (fun Q => ∃ i, G i ∧ Q = RetIsLC P t0 ty ts (res i) e (r' i)) (fun Q => AWp P c Q (initL n e r args))) : ∃ i, G i ∧ LSpec P f e r (r' i) args (res i) := by
  obtain ⟨_, ⟨i, hG, rfl⟩, h⟩ := h
  exact ⟨i, hG, LSpec.bodyC hf hb t0 ty ts hres ht0 n hnn hn hnf hns (hns' i) (hlen i) h⟩
theorem ASpec.ex {P : Program} {f : FuncId} {fn : Func} {c : Code} {args : List PV} (hf : P.funcs[f]? = some fn) (hb : fn.body = some c) (ts : List Nat) (hres : fn.results = (ts.map ResultVar.tmp).toArray) (n : Nat) (hnn : fn.ntmps = n) (hn : Nat.ble args.length n = true) (hnf : Nat.ble n RR = true)
    {ι : Type} (res : ι → PV) (G : ι → Prop)
    (h : E (fun Q => ∃ i, G i ∧ Q = RetIs ts (res i)) (fun Q => AWp P c Q (initAS n args))) : ∃ i, G i ∧ ASpec P f args (res i) := by
  obtain ⟨_, ⟨i, hG, rfl⟩, h⟩ := h
  exact ⟨i, hG, ASpec.body hf hb ts hres n hnn hn hnf h⟩
theorem ASpec.exC {P : Program} {f : FuncId} {fn : Func} {c : Code} {args : List PV} (hf : P.funcs[f]? = some fn) (hb : fn.body = some c) (t0 ty : Nat) (ts : List Nat) (hres : fn.results = (ResultVar.cell t0 ty :: ts.map ResultVar.tmp).toArray) (ht0 : ts.all (fun t => !Nat.beq t t0) = true)
    (n : Nat) (hnn : fn.ntmps = n) (hn : Nat.ble args.length n = true) (hnf : Nat.ble n RR = true) {ι : Type} (res : ι → PV) (G : ι → Prop)
    (h : E (fun Q => ∃ i, G i ∧ Q = RetIsC P t0 ty ts (res i)) (fun Q => AWp P c Q (initAS n args))) : ∃ i, G i ∧ ASpec P f args (res i) := by
  obtain ⟨_, ⟨i, hG, rfl⟩, h⟩ := h
  exact ⟨i, hG, ASpec.bodyC hf hb t0 ty ts hres ht0 n hnn hn hnf h⟩

/-! ### the reader: a code, and the place in it -/
def bt (b : List UInt8) (i : Nat) : Nat := (b.getD i 0).toNat
theorem bt_lt (b : List UInt8) (i : Nat) : bt b i < 256 := (b.getD i 0).toNat_lt
def bytesT (e : Nat) (b : List UInt8) : T := .sl e 1 b.length (fun i => [.int .u8 (bt b i : Nat)])
def rdR (e : Nat) (b : List UInt8) (p : Nat) : List T := [.fz (bytesT e b), .int .i64 (p : Nat)]

theorem bytes_take (b : List UInt8) (n : Nat) : ∀ q, q < (b.take n).length → (fun i => [T.int .u8 (bt b i : Nat)]) (0 + q) = (fun i => [T.int .u8 (bt (b.take n) i : Nat)]) q := by
  intro q hq
  rw [List.length_take] at hq
  have : bt b (0 + q) = bt (b.take n) q := by
    simp only [bt, List.getD_eq_getElem?_getD, List.getElem?_take, Nat.zero_add, if_pos (show q < n by omega)]
  simp only [this]
/-- one cell of a lent row is written -/
theorem step_store_L {P : Program} {o : Oper} {σ : AS} {t : Nat} {x y : Operand} (hd : o.dst = none) (ho : o.op = .store t x y) (ht : cellsSz P t = some (0 + 1)) {d k j e : Nat} {r r' : List T} {v : T}
    (hx : σ.ev x = ⟨true, .one (.eptr ⟨.arr d k, []⟩ 0 j)⟩) (hp : σ.arr d k = ptT e r) (hj : Nat.ble (j + 1) r.length = true) (hy : σ.ev y = ⟨true, .one (.v v)⟩) (hr : r.set j (toT (.v v)) = r') (hs : v.solid = true := by rfl) :
    Step P o σ (σ.setArr d k (ptT e r')) := by
  subst hr
  have h := step_store_1 (P := P) hd ho ht hx hp (by omega) (Nat.le_of_ble_eq_true hj) hy hs
  refine h.le (Le.eqv rfl rfl rfl fun x y => ?_)
  rw [setArr_arr, setArr_arr]
  split
  · have hl : (r.set j (toT (.v v))).length = r.length := List.length_set ..
    simp only [ptT, hl]
    refine .rows fun i hi => ?_
    have : i = 0 := by omega
    subst this
    simp [setRow]
  · exact .refl _

/-- remainders and quotients of counters -/
theorem step_remN {P : Program} {o : Oper} {σ : AS} {d : Nat} (hd : o.dst = some d) (hn : d < σ.n) {t ty : TypeId} {x y : Operand} (ho : o.op = .binOp .rem t x y ty) {k : IntKind} {m n : Nat}
    (hx : σ.ev x = ⟨true, .one (.v (.int k (m : Nat)))⟩) (hy : σ.ev y = ⟨true, .one (.v (.int k (n : Nat)))⟩) (h0 : 0 < n) : Step P o σ (σ.setS d ⟨true, .one (.v (.int k ((m % n : Nat) : Int)))⟩) := by
  have := step_rem (P := P) hd hn ho hx hy (by omega)
  rwa [show ((m : Int).tmod (n : Int)) = ((m % n : Nat) : Int) from rfl] at this
theorem step_quoN {P : Program} {o : Oper} {σ : AS} {d : Nat} (hd : o.dst = some d) (hn : d < σ.n) {t ty : TypeId} {x y : Operand} (ho : o.op = .binOp .quo t x y ty) {m n : Nat}
    (hx : σ.ev x = ⟨true, .one (.v (.int .i64 (m : Nat)))⟩) (hy : σ.ev y = ⟨true, .one (.v (.int .i64 (n : Nat)))⟩) (h0 : 0 < n) (hm : m ≤ 9223372036854775807) : Step P o σ (σ.setS d ⟨true, .one (.v (.int .i64 ((m / n : Nat) : Int)))⟩) := by
  have := step_quo (P := P) hd hn ho hx hy (by omega)
  rw [show ((m : Int).tdiv (n : Int)) = ((m / n : Nat) : Int) from rfl] at this
  have h2 : m / n ≤ m := Nat.div_le_self m n
  generalize m / n = z at this h2 ⊢
  rwa [wrap_in (by omega) (by omega)] at this

theorem bits_xor_nat (a b : Nat) (ha : a < 9223372036854775808) (hb : b < 9223372036854775808) : IntKind.i64.wrap ((BitVec.ofInt IntKind.i64.bits (a : Int) ^^^ BitVec.ofInt IntKind.i64.bits (b : Int)).toNat : Nat) = ((a ^^^ b : Nat) : Int) := by
  have hx : a ^^^ b < 2 ^ 63 := Nat.xor_lt_two_pow (by omega) (by omega)
  have h1 : (BitVec.ofInt IntKind.i64.bits (a : Int)).toNat = a := by
    show (BitVec.ofInt 64 (a : Int)).toNat = a
    rw [BitVec.ofInt_natCast, BitVec.toNat_ofNat]; omega
  have h2 : (BitVec.ofInt IntKind.i64.bits (b : Int)).toNat = b := by
    show (BitVec.ofInt 64 (b : Int)).toNat = b
    rw [BitVec.ofInt_natCast, BitVec.toNat_ofNat]; omega
  rw [BitVec.toNat_xor, h1, h2]
  exact wrap_in (by omega) (by omega)
theorem step_xorN {P : Program} {o : Oper} {σ : AS} {d : Nat} (hd : o.dst = some d) (hn : d < σ.n) {t ty : TypeId} {x y : Operand} (ho : o.op = .binOp .xor t x y ty) {m n : Nat}
    (hx : σ.ev x = ⟨true, .one (.v (.int .i64 (m : Nat)))⟩) (hy : σ.ev y = ⟨true, .one (.v (.int .i64 (n : Nat)))⟩) (hm : m ≤ 9223372036854775807) (hk : n ≤ 9223372036854775807) : Step P o σ (σ.setS d ⟨true, .one (.v (.int .i64 ((m ^^^ n : Nat) : Int)))⟩) :=
  step_bin hd hn ho hx hy rfl rfl rfl trivial fun w => by
    have := bits_xor_nat m n (by omega) (by omega)
    simpa [eqGuard, binOp, T.val, Op.intBits] using this

theorem step_addN {P : Program} {o : Oper} {σ : AS} {d : Nat} (hd : o.dst = some d) (hn : d < σ.n) {t ty : TypeId} {x y : Operand} {m n : Nat} (ho : o.op = .binOp .add t x y ty)
    (hx : σ.ev x = ⟨true, .one (.v (.int .i64 (m : Nat)))⟩) (hy : σ.ev y = ⟨true, .one (.v (.int .i64 (n : Nat)))⟩) (h : m + n ≤ 9223372036854775807) : Step P o σ (σ.setS d ⟨true, .one (.v (.int .i64 ((m + n : Nat) : Int)))⟩) := by
  have := step_add (P := P) hd hn ho hx hy
  rwa [wrap_in (by omega) (by omega), ← Int.natCast_add] at this
theorem step_mulN {P : Program} {o : Oper} {σ : AS} {d : Nat} (hd : o.dst = some d) (hn : d < σ.n) {t ty : TypeId} {x y : Operand} {m n : Nat} (ho : o.op = .binOp .mul t x y ty)
    (hx : σ.ev x = ⟨true, .one (.v (.int .i64 (m : Nat)))⟩) (hy : σ.ev y = ⟨true, .one (.v (.int .i64 (n : Nat)))⟩) (h : m * n ≤ 9223372036854775807) : Step P o σ (σ.setS d ⟨true, .one (.v (.int .i64 ((m * n : Nat) : Int)))⟩) := by
  have := step_mul (P := P) hd hn ho hx hy
  rw [← Int.natCast_mul] at this
  rwa [wrap_in (by omega) (by omega)] at this
theorem step_convN {P : Program} {o : Oper} {σ : AS} {d : Nat} (hd : o.dst = some d) (hn : d < σ.n) {s t : TypeId} {x : Operand} (ho : o.op = .convert s t x) {k : IntKind} {n : Nat} (hs : ∃ D, P.underlying s = some D) (ht : P.underlying t = some (.int .i64)) (hx : σ.ev x = ⟨true, .one (.v (.int k (n : Nat)))⟩) (h : n ≤ 9223372036854775807) :
    Step P o σ (σ.setS d ⟨true, .one (.v (.int .i64 (n : Nat)))⟩) := by
  have := step_convInt (P := P) hd hn ho hs ht hx
  rwa [wrap_in (by omega) (by omega)] at this
/-! ### literals -/
def RowsEq (r g : Nat → List T) : Nat → Nat → Prop
  | 0, _ => True
  | n + 1, i => r i = g i ∧ RowsEq r g n (i + 1)
theorem RowsEq.get {r g : Nat → List T} : ∀ {n k : Nat}, RowsEq r g n k → ∀ i, i < n → r (k + i) = g (k + i)
  | 0, _, _, i, hi => absurd hi (by omega)
  | n + 1, k, h, 0, _ => h.1
  | n + 1, k, h, i + 1, hi => by
    have := RowsEq.get h.2 i (by omega)
    rwa [show k + (i + 1) = k + 1 + i by omega]
theorem rowsE {r g : Nat → List T} {n : Nat} (h : RowsEq r g n 0) : ∀ i, i < n → r i = g i := fun i hi => by
  have := h.get i hi
  rwa [Nat.zero_add] at this
theorem Le.retellArr {σ : AS} (d k : Nat) {t' : T} (h : Eqv (σ.arr d k) t') : Le σ (σ.setArr d k t') := by
  refine Le.eqv rfl rfl rfl fun a b => ?_
  rw [setArr_arr]
  split
  · rename_i e
    rw [e.1, e.2]
    exact h
  · exact .refl _

/-- a call under a condition that lends a reader -/
theorem guardL {P : Program} {ops : Array Oper} {o : Oper} {rest : List Oper} {σ : AS} {K : AS → Prop} {j t d : Nat} {want cj b : Bool} {u : V} {d1 k1 : Nat} {y : T} (hg : o.guard = some (j, want)) (hj : (ops[j]?).bind (·.dst) = some t) (ht : σ.s t = ⟨cj, .one (.v (.bool b))⟩)
    (hd : o.dst = some d) (hn : d < σ.n) (h : cj = true → b = want → Step P o σ ((σ.setArr d1 k1 y).setS d ⟨true, u⟩)) (h0 : (cj && (b == want)) = false → σ.arr d1 k1 = y) (hr : ARun P ops rest ((σ.setArr d1 k1 y).setS d ⟨cj && (b == want), u⟩) K) : ARun P ops (o :: rest) σ K := by
  cases hc : (cj && (b == want)) with
  | false =>
    have e1 : σ.setArr d1 k1 y = σ := by
      refine AS.ext_at rfl fun l => ?_
      cases l with
      | s t => rfl
      | b t => rfl
      | a t l =>
        simp only [AS.at, setArr_arr]
        split
        · rename_i e; rw [e.1, e.2]; exact (h0 hc).symm
        · rfl
    rw [e1] at hr
    refine ARun.cons (GStep.guard hg hj ht hd hn fun h1 h2 => ?_) hr
    rw [h1, h2] at hc
    simp at hc
  | true =>
    rw [hc] at hr
    refine ARun.cons ?_ hr
    intro w0 own0 a w own hI K Q hK
    simp only [Bool.and_eq_true, beq_iff_eq] at hc
    obtain ⟨rfl, rfl⟩ := hc
    have hs := hI.slots t
    rw [ht] at hs
    have hv : a.tmps.getD t undef = .bool b := by
      have : Ok w own none (a.tmps.getD t undef) (.bool b) := hs
      exact Ok.sc this rfl
    have hlt : a.tmps[t]? = some (.bool b) := by
      rw [Array.getD_eq_getD_getElem?] at hv
      cases hx : a.tmps[t]? with
      | none => rw [hx] at hv; simp [undef] at hv
      | some x => rw [hx] at hv; simp at hv; rw [hv]
    have hy : yielded ops a.tmps j = some b := by simp only [yielded, hj, Option.bind_some, hlt]
    simp only [Region.wanted, hg]
    rw [hy]
    simp only [beq_self_eq_true, if_true]
    exact h rfl rfl w0 own0 a w own hI K Q hK

end Go.Mh

set_option linter.unusedVariables false
namespace Go.Mh
open Go

/-! ### parts of owned arrays -/
section
variable {P : Program} {o : Oper} {σ : AS} {d : Nat} (hd : o.dst = some d) (hn : d < σ.n)
include hd hn
end

/-! ### a row is cut out -/
/-! ### nil slices told in other words -/
inductive ReC : C → C → Prop where
  | refl (c : C) : ReC c c
  | nl : ReC (.v .nl) .nil
  | nlsl (e sz : Nat) (f : Nat → List T) : ReC (.v .nl) (.v (.sl e sz 0 f))
  | sl (e sz : Nat) (f : Nat → List T) : ReC .nil (.v (.sl e sz 0 f))
theorem ReC.ok {w own σ v c c'} (h : ReC c c') (k : OkC w own σ v c) : OkC w own σ v c' := by
  cases h with
  | refl => exact k
  | nl => have k' : Ok w own none v .nl := k; cases k'; exact rfl
  | nlsl e sz f => have k' : Ok w own none v .nl := k; cases k'; exact .nil e sz f
  | sl e sz f => have k' : v = .slice none 0 0 := k; rw [k']; exact .nil e sz f
theorem ReC.cell {w own σ d j v c c'} (h : ReC c c') (k : OkCell w own σ d j v c) : OkCell w own σ d j v c' := by
  cases h with
  | refl => exact k
  | nl => exact OkCell.of_C (ReC.ok (c := .v .nl) .nl k)
  | nlsl e sz f => exact OkCell.of_C (ReC.ok (c := .v .nl) (.nlsl e sz f) k)
  | sl e sz f => exact OkCell.of_C (ReC.ok (c := .nil) (.sl e sz f) k)
theorem ReC.tree {c c'} (h : ReC c c') : cellTree (some c) = cellTree (some c') := by cases h <;> rfl
inductive ReL : List C → List C → Prop where
  | nil : ReL [] []
  | cons {c c' : C} {l l' : List C} (h : ReC c c') (hs : ReL l l') : ReL (c :: l) (c' :: l')
theorem ReL.get {l l' : List C} (h : ReL l l') : l.length = l'.length ∧ ∀ (j : Nat) c', l'[j]? = some c' → ∃ c, l[j]? = some c ∧ ReC c c' := by
  induction h with
  | nil => exact ⟨rfl, fun j t' h => by simp at h⟩
  | cons h hs ih =>
    refine ⟨by simp [ih.1], fun j t' hj => ?_⟩
    cases j with
    | zero => simp only [List.getElem?_cons_zero, Option.some.injEq] at hj; subst hj; exact ⟨_, by simp, h⟩
    | succ j => obtain ⟨t, h1, h2⟩ := ih.2 j t' (by simpa using hj); exact ⟨t, by simpa using h1, h2⟩
theorem ReL.tree {l l' : List C} (h : ReL l l') (i : Nat) : cellTree (l[i]?) = cellTree (l'[i]?) := by
  induction h generalizing i with
  | nil => rfl
  | cons h hs ih =>
    cases i with
    | zero => exact h.tree
    | succ i => simpa using ih i
theorem Le.reAgg {σ : AS} (t : Nat) {cs cs' : List C} (hs : σ.s t = ⟨true, .agg cs⟩) (h : ReL cs cs') : Le σ (σ.setS t ⟨true, .agg cs'⟩) := by
  intro w0 own0 a w own hI
  refine ⟨own, hI.retell ?_⟩
  obtain ⟨xs, h1, h2, h3⟩ := hI.evV (x := .tmp t) hs
  exact ⟨xs, h1, h2.trans h.get.1, fun j c' hc => by
    obtain ⟨c, k1, k2⟩ := h.get.2 j c' hc
    exact k2.ok (h3 j c k1)⟩
theorem Le.reBox {σ : AS} (d : Nat) {cs cs' : List C} (hs : σ.box d = cs) (h : ReL cs cs') : Le σ (σ.setBox d cs') := by
  intro w0 own0 a w own hI
  subst hs
  refine ⟨own, hI.sameN rfl rfl rfl (fun p => ?_) (fun t => ?_) (fun t ht => ?_)⟩
  · obtain ⟨r, ps⟩ := p
    cases r with
    | arr t k => rfl
    | box t =>
      cases ps with
      | nil => rfl
      | cons x ps =>
        obtain ⟨i, l⟩ := x
        cases i with
        | succ i => rfl
        | zero =>
          simp only [AS.node, setBox_box]
          split
          · rename_i e; subst e; rw [h.tree]
          · rfl
  · rw [setBox_box]
    split
    · rename_i e; subst e
      have hl := h.get.1
      constructor
      · intro e; rw [e] at hl; exact List.eq_nil_of_length_eq_zero hl.symm
      · intro e; rw [e] at hl; exact List.eq_nil_of_length_eq_zero hl
    · exact Iff.rfl
  · rw [setBox_box] at ht ⊢
    split
    · rename_i e; subst e
      rw [if_pos rfl] at ht
      have hne : σ.box t ≠ [] := fun e0 => ht (by
        have hl := h.get.1
        rw [e0] at hl; exact List.eq_nil_of_length_eq_zero hl.symm)
      obtain ⟨b, c, e1, g1, g2, g3, g4⟩ := hI.boxes t hne
      refine ⟨b, c, e1, g1, g2, g3.trans h.get.1, fun j x hx => ?_⟩
      obtain ⟨c0, k1, k2⟩ := h.get.2 j x hx
      exact k2.cell (g4 j c0 k1)
    · rename_i e
      rw [if_neg e] at ht
      exact hI.boxes t ht

/-! ### roads that meet -/
theorem AWp.join {P : Program} {Q : Exit → AS → Prop} {σ : AS} {x y : Code} {α : Type} (mk : α → AS) (Pre : α → Prop) (J : ∀ z, Pre z → AWp P y Q (mk z)) (h : AWp P x (AThen (fun σ' => ∃ z, Pre z ∧ Le σ' (mk z)) Q) σ) : AWp P (.seq x y) Q σ := by
  refine AWp.seq (AWp.mono h fun e σ' hq => ?_)
  cases e with
  | normal => obtain ⟨z, h1, h2⟩ := hq; exact AWp.le h2 (J z h1)
  | _ => exact hq
theorem E.join {Φ : (Exit → AS → Prop) → Prop} {P : Program} {σ : AS} {K : (Exit → AS → Prop) → Exit → AS → Prop} {x y : Code} {α : Type} (mk : α → AS) (Pre : α → Prop) (J : ∀ z, Pre z → E Φ (fun Q => AWp P y (K Q) (mk z)))
    (h : (∀ z σ', Pre z → Le σ' (mk z) → E Φ (fun Q => AWp P y (K Q) σ')) → E Φ (fun Q => AWp P x (AThen (AWp P y (K Q)) (K Q)) σ)) : E Φ (fun Q => AWp P (.seq x y) (K Q) σ) :=
  E.mono (fun Q h => AWp.seq h) (h fun z σ' hz hl => E.mono (fun Q h => AWp.le hl h) (J z hz))

end Go.Mh

set_option linter.unusedVariables false
namespace Go.Mh
open Go

/-! ### permutations of places -/
/-! ### nil slices in rows told as slices that nobody writes -/
inductive TelC : T → T → Prop where
  | refl (t : T) : TelC t t
  | nlz (e sz : Nat) (f : Nat → List T) : TelC .nl (.fz (.sl e sz 0 f))
inductive Tel : T → T → Prop where
  | refl (t : T) : Tel t t
  | rows {e sz n : Nat} {f g : Nat → List T} (hl : ∀ i, i < n → (g i).length = (f i).length) (h : ∀ i j, i < n → TelC ((f i).getD j .dead) ((g i).getD j .dead)) : Tel (.sl e sz n f) (.sl e sz n g)
theorem TelC.ok {w own pl v t t'} (h : TelC t t') (k : Ok w own pl v t) : Ok w own pl v t' := by
  cases h with
  | refl => exact k
  | nlz e sz f => cases k; exact .fz (.nil e sz f)
theorem TelC.follow {t t' : T} (h : TelC t t') (ps : List (Nat × Nat)) {e sz n g} (hf : follow t' ps = .sl e sz n g) : ∃ f, follow t ps = .sl e sz n f := by
  cases h with
  | refl => exact ⟨g, hf⟩
  | nlz e sz f => cases ps <;> simp [Mh.follow] at hf
theorem Tel.of_sl {t : T} {e sz n : Nat} {g : Nat → List T} (h : Tel t (.sl e sz n g)) : ∃ f, t = .sl e sz n f ∧ (∀ i, i < n → (g i).length = (f i).length) ∧ ∀ i j, i < n → TelC ((f i).getD j .dead) ((g i).getD j .dead) := by
  cases h with
  | refl => exact ⟨g, rfl, fun _ _ => rfl, fun _ _ _ => .refl _⟩
  | rows hl h => exact ⟨_, rfl, hl, h⟩
theorem Tel.follow {t t' : T} (h : Tel t t') (ps : List (Nat × Nat)) {e sz n g} (hf : follow t' ps = .sl e sz n g) : ∃ f, follow t ps = .sl e sz n f := by
  cases h with
  | refl => exact ⟨g, hf⟩
  | @rows e' sz' n' f1 g1 hl h =>
    cases ps with
    | nil => simp only [Mh.follow, T.sl.injEq] at hf ⊢; obtain ⟨rfl, rfl, rfl, _⟩ := hf; exact ⟨f1, rfl, rfl, rfl, rfl⟩
    | cons x ps =>
      obtain ⟨i, j⟩ := x
      simp only [Mh.follow] at hf ⊢
      split at hf
      · rename_i hi
        rw [if_pos hi]
        exact (h i j hi).follow ps hf
      · cases hf
theorem Tel.ok {w own p v t t'} (h : Tel t t') (k : Ok w own (some p) v t) : Ok w own (some p) v t' := by
  cases h with
  | refl => exact k
  | rows hl h =>
    cases k with
    | nil => exact .nil _ _ _
    | osl ho hh hs hn hcap hl' hr => exact .osl ho hh hs hn hcap (fun i hi => (hl i hi).trans (hl' i hi)) (fun i j hi hj => (h i j hi).ok (hr i j hi hj))
theorem Le.tel {σ σ' : AS} (hn : σ.n = σ'.n) (hs : σ'.s = σ.s) (hb : σ'.box = σ.box) (ha : ∀ d k, Tel (σ.arr d k) (σ'.arr d k)) : Le σ σ' := by
  intro w0 own0 a w own h
  have hnode : ∀ p e sz n' f, σ'.node p = .sl e sz n' f → ∃ g, σ.node p = .sl e sz n' g := by
    intro p e sz n' f hp
    obtain ⟨r, ps⟩ := p
    cases r with
    | arr d k => exact (ha d k).follow ps hp
    | box d =>
      cases ps with
      | nil => simp [AS.node] at hp
      | cons x ps =>
        obtain ⟨i, j⟩ := x
        cases i with
        | succ i => simp [AS.node] at hp
        | zero => simp only [AS.node, hb] at hp ⊢; exact ⟨f, hp⟩
  have hk : ∀ p, KeepP w w own own σ σ' p := fun p => ⟨fun e sz n' f hp => hnode p e sz n' f hp, fun d _ hd => by rw [← hb]; exact hd, fun _ b hb' => ⟨hb', fun c e hc => ⟨c, hc, rfl⟩⟩⟩
  refine ⟨own, h.trans ⟨rfl, rfl, rfl, Nat.le_refl _⟩ (fun _ _ _ => rfl) (fun b hb => ⟨hb, rfl⟩) (fun k => ?_) h.inj (fun b p hp => ⟨(h.rng b p hp).1, .inl (by rw [hp]; simp)⟩) hn.symm (fun t ht => ?_) (fun d hd => ?_) (fun d k e sz n' f hd => ?_) (Kept.of fun b k hb => ⟨hb, rfl⟩)⟩
  · have h1 := ha FF k
    have h2 := h.noff k
    rw [h2] at h1
    generalize σ'.arr FF k = x at h1
    cases h1; rfl
  · rw [hs]; exact ht.keepAll hk
  · rw [hb] at hd ⊢
    obtain ⟨b, c, e, h1, h2, h3, h4⟩ := h.boxes d hd
    exact ⟨b, c, e, h1, h2, h3, fun j x hx => (h4 j x hx).keepAll hk⟩
  · have h1 := ha d k
    rw [hd] at h1
    obtain ⟨g, hg, hl, hfg⟩ := h1.of_sl
    obtain ⟨v, hv⟩ := h.arrs d k e sz n' g hg
    exact ⟨v, Tel.ok (.rows hl hfg) hv⟩
theorem Le.telArr {σ : AS} (d k : Nat) {t' : T} (h : Tel (σ.arr d k) t') : Le σ (σ.setArr d k t') :=
  Le.tel rfl rfl rfl fun a b => by
    rw [setArr_arr]
    split
    · rename_i e; rw [e.1, e.2]; exact h
    · exact .refl _

inductive TelS : T → T → Prop where
  | refl (t : T) : TelS t t
  | nlz (e sz : Nat) (f : Nat → List T) : TelS .nl (.fz (.sl e sz 0 f))
  | nls (e sz : Nat) (f : Nat → List T) : TelS .nl (.sl e sz 0 f)
theorem TelS.ok {w own pl v t t'} (h : TelS t t') (k : Ok w own pl v t) : Ok w own pl v t' := by
  cases h with
  | refl => exact k
  | nlz e sz f => cases k; exact .fz (.nil e sz f)
  | nls e sz f => cases k; exact .nil e sz f
end Go.Mh
