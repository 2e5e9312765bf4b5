/- Contracts of functions of the program, each met by its body; conditions stand in each statement. No condition. -/
import Derived.Test.YtkmacjdigkaabaaHg
set_option linter.unusedVariables false
set_option linter.unusedSimpArgs false
set_option linter.unnecessarySimpa false
namespace Go.Mh
open Go

/-! ### a loop, from within -/
def lwp (P : Program) (c : Code) (Q : Exit → Act → World → Prop) (a : Act) (w : World) : Prop :=
  ∀ (b : Frame) (k : List Item) (cs : List Frame), ∃ e a' w', Q e a' w' ∧ Arrives P (lone (b.at a (.code c :: .inLoop c :: k)) cs w) b k cs e a' w'
theorem lwp.loop {P : Program} {Q : Exit → Act → World → Prop} {a : Act} {w : World} {c : Code} (h : lwp P c Q a w) : (Code.loop c).wp P Q a w := by
  intro b k cs
  obtain ⟨e, a', w', hq, harr⟩ := h b k cs
  exact ⟨e, a', w', hq, .of_steps (.one step_loop) harr⟩
theorem lwp.step {P : Program} {Q : Exit → Act → World → Prop} {a : Act} {w : World} {c : Code} (h : c.wp P (Exit.then (lwp P c Q) Q) a w) : lwp P c Q a w := by
  intro b k cs
  obtain ⟨e, a₁, w₁, hq, harr⟩ := h b (.inLoop c :: k) cs
  cases e with
  | normal =>
    obtain ⟨e₂, a₂, w₂, hq₂, harr₂⟩ := hq b k cs
    exact ⟨e₂, a₂, w₂, hq₂, .of_steps (Steps.trans harr (.one step_inLoop)) harr₂⟩
  | exit id => exact ⟨_, a₁, w₁, hq, .pass (x := .inLoop c) rfl (fun _ _ => .inl (by simp)) harr⟩
  | goto l => exact ⟨_, a₁, w₁, hq, .pass (x := .inLoop c) rfl (fun _ _ => .inl (by simp)) harr⟩
  | ret => exact ⟨_, a₁, w₁, hq, .pass (x := .inLoop c) rfl (fun _ _ => .inl (by simp)) harr⟩
  | panic ch => exact ⟨_, a₁, w₁, hq, .pass (x := .inLoop c) rfl (fun _ _ => .inl (by simp)) harr⟩
  | outgrown => exact ⟨_, a₁, w₁, hq, .pass (x := .inLoop c) rfl (fun _ _ => .inl (by simp)) harr⟩

def ALwp (P : Program) (c : Code) (Q : Exit → AS → Prop) (σ : AS) : Prop :=
  ∀ w0 own0 a w own, Inv w0 own0 σ a w own → lwp P c (fun e a' w' => ∃ σ' own', Q e σ' ∧ Inv w0 own0 σ' a' w' own') a w
section
variable {P : Program} {Q : Exit → AS → Prop} {σ : AS} {c : Code}
theorem ALwp.loop (h : ALwp P c Q σ) : AWp P (.loop c) Q σ := fun w0 own0 a w own hI => (h w0 own0 a w own hI).loop
theorem ALwp.step (h : AWp P c (AThen (ALwp P c Q) Q) σ) : ALwp P c Q σ := by
  intro w0 own0 a w own hI
  refine lwp.step (wp_mono (h w0 own0 a w own hI) ?_)
  rintro e a' w' ⟨σ', own', h1, h2⟩
  cases e with
  | normal => exact h1 w0 own0 a' w' own' h2
  | _ => exact ⟨σ', own', h1, h2⟩
theorem ALwp.le {σ' : AS} (hl : Le σ σ') (h : ALwp P c Q σ') : ALwp P c Q σ := by
  intro w0 own0 a w own hI
  obtain ⟨own', hI'⟩ := hl w0 own0 a w own hI
  exact h w0 own0 a w own' hI'
end

/-! ### the end is chosen on the way -/
def E (Φ : (Exit → AS → Prop) → Prop) (A : (Exit → AS → Prop) → Prop) : Prop := ∃ Q, Φ Q ∧ A Q
section
variable {Φ : (Exit → AS → Prop) → Prop}
theorem E.mono {A B : (Exit → AS → Prop) → Prop} (h : ∀ Q, B Q → A Q) (hB : E Φ B) : E Φ A := by
  obtain ⟨Q, h1, h2⟩ := hB
  exact ⟨Q, h1, h Q h2⟩
structure Hid (p : Prop) : Prop where
  out : p
theorem E.reg {A B : (Exit → AS → Prop) → Prop} (h : ∀ Q, Hid (B Q) → A Q) (hB : E Φ B) : E Φ A := E.mono (fun Q h1 => h Q ⟨h1⟩) hB
theorem E.cond {P : Program} {σ : AS} {K : (Exit → AS → Prop) → Exit → AS → Prop} {t : Nat} {b : Bool} {x y : Code} (hc : σ.s t = ⟨true, .one (.v (.bool b))⟩)
    (h1 : b = true → E Φ (fun Q => AWp P x (K Q) σ)) (h2 : b = false → E Φ (fun Q => AWp P y (K Q) σ)) : E Φ (fun Q => AWp P (.cond (.tmp t) x y) (K Q) σ) := by
  cases b with
  | true =>
    obtain ⟨Q, k1, k2⟩ := h1 rfl
    exact ⟨Q, k1, AWp.cond hc (fun _ => k2) (fun h => by cases h)⟩
  | false =>
    obtain ⟨Q, k1, k2⟩ := h2 rfl
    exact ⟨Q, k1, AWp.cond hc (fun h => by cases h) (fun _ => k2)⟩
theorem E.loop {P : Program} {σ : AS} {K : (Exit → AS → Prop) → Exit → AS → Prop} {c : Code} {α : Type} (mk : α → AS) (Pre : α → Prop) (μ : α → Nat) (x0 : α) (hp : Pre x0) (h0 : Le σ (mk x0))
    (hr : ∀ x, Pre x → (∀ y σ', Pre y → μ y < μ x → Le σ' (mk y) → E Φ (fun Q => ALwp P c (K Q) σ')) → E Φ (fun Q => AWp P c (AThen (ALwp P c (K Q)) (K Q)) (mk x))) : E Φ (fun Q => AWp P (.loop c) (K Q) σ) := by
  have key : ∀ n x, μ x = n → Pre x → E Φ (fun Q => ALwp P c (K Q) (mk x)) := by
    intro n
    induction n using Nat.strongRecOn with
    | _ n ih =>
      intro x hx hpx
      refine E.mono (fun Q h => ALwp.step h) (hr x hpx fun y σ' hy hlt hle => ?_)
      exact E.mono (fun Q h => ALwp.le hle h) (ih (μ y) (hx ▸ hlt) y rfl hy)
  exact E.mono (fun Q h => AWp.le h0 (ALwp.loop h)) (key _ x0 rfl hp)
theorem E.ret {ι : Type} {G : ι → Prop} {F : ι → Exit → AS → Prop} {e : Exit} {σ : AS} (i : ι) (h : F i e σ) (hG : G i) : E (fun Q => ∃ i, G i ∧ Q = F i) (fun Q => Q e σ) := ⟨F i, ⟨i, hG, rfl⟩, h⟩
end

theorem LSpec.ex {P : Program} {f : FuncId} {fn : Func} {c : Code} {e : Nat} {r : List T} {args : List PV} (hf : P.funcs[f]? = some fn) (hb : fn.body = some c) (ts : List Nat) (hres : fn.results = (ts.map ResultVar.tmp).toArray) (n : Nat) (hnn : fn.ntmps = n) (hn : Nat.ble (args.length + 1) n = true) (hnf : Nat.ble n RR = true)
    (hns : r.all noSl = true) {ι : Type} (r' : ι → List T) (res : ι → PV) (G : ι → Prop) (hns' : ∀ i, (r' i).all noSl = true) (hlen : ∀ i, (r' i).length = r.length)
    (h : E (fun Q => ∃ i, G i ∧ Q = RetIsL e (r' i) (RetIs ts (res i))) (fun Q => AWp P c Q (initL n e r args))) : ∃ i, G i ∧ LSpec P f e r (r' i) args (res i) := by
  obtain ⟨_, ⟨i, hG, rfl⟩, h⟩ := h
  exact ⟨i, hG, LSpec.body hf hb ts hres n hnn hn hnf hns (hns' i) (hlen i) h⟩
theorem LSpec.exC {P : Program} {f : FuncId} {fn : Func} {c : Code} {e : Nat} {r : List T} {args : List PV} (hf : P.funcs[f]? = some fn) (hb : fn.body = some c) (t0 ty : Nat) (ts : List Nat) (hres : fn.results = (ResultVar.cell t0 ty :: ts.map ResultVar.tmp).toArray) (ht0 : ts.all (fun t => !Nat.beq t t0) = true)
    (n : Nat) (hnn : fn.ntmps = n) (hn : Nat.ble (args.length + 1) n = true) (hnf : Nat.ble n RR = true)
    (hns : r.all noSl = true) {ι : Type} (r' : ι → List T) (res : ι → PV) (G : ι → Prop) (hns' : ∀ i, (r' i).all noSl = true) (hlen : ∀ i, (r' i).length = r.length)
    (h : E (fun Q => ∃ i, G i ∧ Q = RetIsLC P t0 ty ts (res i) e (r' i)) (fun Q => AWp P c Q (initL n e r args))) : ∃ i, G i ∧ LSpec P f e r (r' i) args (res i) := by
  obtain ⟨_, ⟨i, hG, rfl⟩, h⟩ := h
  exact ⟨i, hG, LSpec.bodyC hf hb t0 ty ts hres ht0 n hnn hn hnf hns (hns' i) (hlen i) h⟩
theorem ASpec.ex {P : Program} {f : FuncId} {fn : Func} {c : Code} {args : List PV} (hf : P.funcs[f]? = some fn) (hb : fn.body = some c) (ts : List Nat) (hres : fn.results = (ts.map ResultVar.tmp).toArray) (n : Nat) (hnn : fn.ntmps = n) (hn : Nat.ble args.length n = true) (hnf : Nat.ble n RR = true)
    {ι : Type} (res : ι → PV) (G : ι → Prop)
    (h : E (fun Q => ∃ i, G i ∧ Q = RetIs ts (res i)) (fun Q => AWp P c Q (initAS n args))) : ∃ i, G i ∧ ASpec P f args (res i) := by
  obtain ⟨_, ⟨i, hG, rfl⟩, h⟩ := h
  exact ⟨i, hG, ASpec.body hf hb ts hres n hnn hn hnf h⟩
theorem ASpec.exC {P : Program} {f : FuncId} {fn : Func} {c : Code} {args : List PV} (hf : P.funcs[f]? = some fn) (hb : fn.body = some c) (t0 ty : Nat) (ts : List Nat) (hres : fn.results = (ResultVar.cell t0 ty :: ts.map ResultVar.tmp).toArray) (ht0 : ts.all (fun t => !Nat.beq t t0) = true)
    (n : Nat) (hnn : fn.ntmps = n) (hn : Nat.ble args.length n = true) (hnf : Nat.ble n RR = true) {ι : Type} (res : ι → PV) (G : ι → Prop)
    (h : E (fun Q => ∃ i, G i ∧ Q = RetIsC P t0 ty ts (res i)) (fun Q => AWp P c Q (initAS n args))) : ∃ i, G i ∧ ASpec P f args (res i) := by
  obtain ⟨_, ⟨i, hG, rfl⟩, h⟩ := h
  exact ⟨i, hG, ASpec.bodyC hf hb t0 ty ts hres ht0 n hnn hn hnf h⟩

/-! ### the reader: a code, and the place in it -/
def bt (b : List UInt8) (i : Nat) : Nat := (b.getD i 0).toNat
theorem bt_lt (b : List UInt8) (i : Nat) : bt b i < 256 := (b.getD i 0).toNat_lt
def bytesT (e : Nat) (b : List UInt8) : T := .sl e 1 b.length (fun i => [.int .u8 (bt b i : Nat)])
def rdR (e : Nat) (b : List UInt8) (p : Nat) : List T := [.fz (bytesT e b), .int .i64 (p : Nat)]

theorem bytes_take (b : List UInt8) (n : Nat) : ∀ q, q < (b.take n).length → (fun i => [T.int .u8 (bt b i : Nat)]) (0 + q) = (fun i => [T.int .u8 (bt (b.take n) i : Nat)]) q := by
  intro q hq
  rw [List.length_take] at hq
  have : bt b (0 + q) = bt (b.take n) q := by
    simp only [bt, List.getD_eq_getElem?_getD, List.getElem?_take, Nat.zero_add, if_pos (show q < n by omega)]
  simp only [this]
/-- one cell of a lent row is written -/
theorem step_store_L {P : Program} {o : Oper} {σ : AS} {t : Nat} {x y : Operand} (hd : o.dst = none) (ho : o.op = .store t x y) (ht : cellsSz P t = some (0 + 1)) {d k j e : Nat} {r r' : List T} {v : T}
    (hx : σ.ev x = ⟨true, .one (.eptr ⟨.arr d k, []⟩ 0 j)⟩) (hp : σ.arr d k = ptT e r) (hj : Nat.ble (j + 1) r.length = true) (hy : σ.ev y = ⟨true, .one (.v v)⟩) (hr : r.set j (toT (.v v)) = r') (hs : v.solid = true := by rfl) :
    Step P o σ (σ.setArr d k (ptT e r')) := by
  subst hr
  have h := step_store_1 (P := P) hd ho ht hx hp (by omega) (Nat.le_of_ble_eq_true hj) hy hs
  refine h.le (Le.eqv rfl rfl rfl fun x y => ?_)
  rw [setArr_arr, setArr_arr]
  split
  · have hl : (r.set j (toT (.v v))).length = r.length := List.length_set ..
    simp only [ptT, hl]
    refine .rows fun i hi => ?_
    have : i = 0 := by omega
    subst this
    simp [setRow]
  · exact .refl _

/-- remainders and quotients of counters -/
theorem step_remN {P : Program} {o : Oper} {σ : AS} {d : Nat} (hd : o.dst = some d) (hn : d < σ.n) {t ty : TypeId} {x y : Operand} (ho : o.op = .binOp .rem t x y ty) {k : IntKind} {m n : Nat}
    (hx : σ.ev x = ⟨true, .one (.v (.int k (m : Nat)))⟩) (hy : σ.ev y = ⟨true, .one (.v (.int k (n : Nat)))⟩) (h0 : 0 < n) : Step P o σ (σ.setS d ⟨true, .one (.v (.int k ((m % n : Nat) : Int)))⟩) := by
  have := step_rem (P := P) hd hn ho hx hy (by omega)
  rwa [show ((m : Int).tmod (n : Int)) = ((m % n : Nat) : Int) from rfl] at this
theorem step_quoN {P : Program} {o : Oper} {σ : AS} {d : Nat} (hd : o.dst = some d) (hn : d < σ.n) {t ty : TypeId} {x y : Operand} (ho : o.op = .binOp .quo t x y ty) {m n : Nat}
    (hx : σ.ev x = ⟨true, .one (.v (.int .i64 (m : Nat)))⟩) (hy : σ.ev y = ⟨true, .one (.v (.int .i64 (n : Nat)))⟩) (h0 : 0 < n) (hm : m ≤ 9223372036854775807) : Step P o σ (σ.setS d ⟨true, .one (.v (.int .i64 ((m / n : Nat) : Int)))⟩) := by
  have := step_quo (P := P) hd hn ho hx hy (by omega)
  rw [show ((m : Int).tdiv (n : Int)) = ((m / n : Nat) : Int) from rfl] at this
  have h2 : m / n ≤ m := Nat.div_le_self m n
  generalize m / n = z at this h2 ⊢
  rwa [wrap_in (by omega) (by omega)] at this

theorem bits_xor_nat (a b : Nat) (ha : a < 9223372036854775808) (hb : b < 9223372036854775808) : IntKind.i64.wrap ((BitVec.ofInt IntKind.i64.bits (a : Int) ^^^ BitVec.ofInt IntKind.i64.bits (b : Int)).toNat : Nat) = ((a ^^^ b : Nat) : Int) := by
  have hx : a ^^^ b < 2 ^ 63 := Nat.xor_lt_two_pow (by omega) (by omega)
  have h1 : (BitVec.ofInt IntKind.i64.bits (a : Int)).toNat = a := by
    show (BitVec.ofInt 64 (a : Int)).toNat = a
    rw [BitVec.ofInt_natCast, BitVec.toNat_ofNat]; omega
  have h2 : (BitVec.ofInt IntKind.i64.bits (b : Int)).toNat = b := by
    show (BitVec.ofInt 64 (b : Int)).toNat = b
    rw [BitVec.ofInt_natCast, BitVec.toNat_ofNat]; omega
  rw [BitVec.toNat_xor, h1, h2]
  exact wrap_in (by omega) (by omega)
theorem step_xorN {P : Program} {o : Oper} {σ : AS} {d : Nat} (hd : o.dst = some d) (hn : d < σ.n) {t ty : TypeId} {x y : Operand} (ho : o.op = .binOp .xor t x y ty) {m n : Nat}
    (hx : σ.ev x = ⟨true, .one (.v (.int .i64 (m : Nat)))⟩) (hy : σ.ev y = ⟨true, .one (.v (.int .i64 (n : Nat)))⟩) (hm : m ≤ 9223372036854775807) (hk : n ≤ 9223372036854775807) : Step P o σ (σ.setS d ⟨true, .one (.v (.int .i64 ((m ^^^ n : Nat) : Int)))⟩) :=
  step_bin hd hn ho hx hy rfl rfl rfl trivial fun w => by
    have := bits_xor_nat m n (by omega) (by omega)
    simpa [eqGuard, binOp, T.val, Op.intBits] using this

theorem step_addN {P : Program} {o : Oper} {σ : AS} {d : Nat} (hd : o.dst = some d) (hn : d < σ.n) {t ty : TypeId} {x y : Operand} {m n : Nat} (ho : o.op = .binOp .add t x y ty)
    (hx : σ.ev x = ⟨true, .one (.v (.int .i64 (m : Nat)))⟩) (hy : σ.ev y = ⟨true, .one (.v (.int .i64 (n : Nat)))⟩) (h : m + n ≤ 9223372036854775807) : Step P o σ (σ.setS d ⟨true, .one (.v (.int .i64 ((m + n : Nat) : Int)))⟩) := by
  have := step_add (P := P) hd hn ho hx hy
  rwa [wrap_in (by omega) (by omega), ← Int.natCast_add] at this
theorem step_mulN {P : Program} {o : Oper} {σ : AS} {d : Nat} (hd : o.dst = some d) (hn : d < σ.n) {t ty : TypeId} {x y : Operand} {m n : Nat} (ho : o.op = .binOp .mul t x y ty)
    (hx : σ.ev x = ⟨true, .one (.v (.int .i64 (m : Nat)))⟩) (hy : σ.ev y = ⟨true, .one (.v (.int .i64 (n : Nat)))⟩) (h : m * n ≤ 9223372036854775807) : Step P o σ (σ.setS d ⟨true, .one (.v (.int .i64 ((m * n : Nat) : Int)))⟩) := by
  have := step_mul (P := P) hd hn ho hx hy
  rw [← Int.natCast_mul] at this
  rwa [wrap_in (by omega) (by omega)] at this
theorem step_convN {P : Program} {o : Oper} {σ : AS} {d : Nat} (hd : o.dst = some d) (hn : d < σ.n) {s t : TypeId} {x : Operand} (ho : o.op = .convert s t x) {k : IntKind} {n : Nat} (hs : ∃ D, P.underlying s = some D) (ht : P.underlying t = some (.int .i64)) (hx : σ.ev x = ⟨true, .one (.v (.int k (n : Nat)))⟩) (h : n ≤ 9223372036854775807) :
    Step P o σ (σ.setS d ⟨true, .one (.v (.int .i64 (n : Nat)))⟩) := by
  have := step_convInt (P := P) hd hn ho hs ht hx
  rwa [wrap_in (by omega) (by omega)] at this
/-! ### literals -/
def RowsEq (r g : Nat → List T) : Nat → Nat → Prop
  | 0, _ => True
  | n + 1, i => r i = g i ∧ RowsEq r g n (i + 1)
theorem RowsEq.get {r g : Nat → List T} : ∀ {n k : Nat}, RowsEq r g n k → ∀ i, i < n → r (k + i) = g (k + i)
  | 0, _, _, i, hi => absurd hi (by omega)
  | n + 1, k, h, 0, _ => h.1
  | n + 1, k, h, i + 1, hi => by
    have := RowsEq.get h.2 i (by omega)
    rwa [show k + (i + 1) = k + 1 + i by omega]
theorem rowsE {r g : Nat → List T} {n : Nat} (h : RowsEq r g n 0) : ∀ i, i < n → r i = g i := fun i hi => by
  have := h.get i hi
  rwa [Nat.zero_add] at this
/-- an array told anew -/
theorem Le.toArr {τ : AS} {d : Nat} {x : SV} {e sz n : Nat} {f g : Nat → List T} (t' : T) (h : τ.arr d 0 = .sl e sz n f) (ht : t' = .sl e sz n g) (hg : RowsEq f g n 0) : Le (τ.setS d x) ((τ.setArr d 0 t').setS d x) := by
  subst ht
  refine Le.eqv rfl rfl rfl fun a b => ?_
  show Eqv (τ.arr a b) ((τ.setArr d 0 _).arr a b)
  rw [setArr_arr]
  split
  · rename_i e
    rw [e.1, e.2, h]
    exact .rows (rowsE hg)
  · exact .refl _

theorem Le.retellArr {σ : AS} (d k : Nat) {t' : T} (h : Eqv (σ.arr d k) t') : Le σ (σ.setArr d k t') := by
  refine Le.eqv rfl rfl rfl fun a b => ?_
  rw [setArr_arr]
  split
  · rename_i e
    rw [e.1, e.2]
    exact h
  · exact .refl _

/-- a call under a condition that lends a reader -/
theorem guardL {P : Program} {ops : Array Oper} {o : Oper} {rest : List Oper} {σ : AS} {K : AS → Prop} {j t d : Nat} {want cj b : Bool} {u : V} {d1 k1 : Nat} {y : T} (hg : o.guard = some (j, want)) (hj : (ops[j]?).bind (·.dst) = some t) (ht : σ.s t = ⟨cj, .one (.v (.bool b))⟩)
    (hd : o.dst = some d) (hn : d < σ.n) (h : cj = true → b = want → Step P o σ ((σ.setArr d1 k1 y).setS d ⟨true, u⟩)) (h0 : (cj && (b == want)) = false → σ.arr d1 k1 = y) (hr : ARun P ops rest ((σ.setArr d1 k1 y).setS d ⟨cj && (b == want), u⟩) K) : ARun P ops (o :: rest) σ K := by
  cases hc : (cj && (b == want)) with
  | false =>
    have e1 : σ.setArr d1 k1 y = σ := by
      refine AS.ext_at rfl fun l => ?_
      cases l with
      | s t => rfl
      | b t => rfl
      | a t l =>
        simp only [AS.at, setArr_arr]
        split
        · rename_i e; rw [e.1, e.2]; exact (h0 hc).symm
        · rfl
    rw [e1] at hr
    refine ARun.cons (GStep.guard hg hj ht hd hn fun h1 h2 => ?_) hr
    rw [h1, h2] at hc
    simp at hc
  | true =>
    rw [hc] at hr
    refine ARun.cons ?_ hr
    intro w0 own0 a w own hI K Q hK
    simp only [Bool.and_eq_true, beq_iff_eq] at hc
    obtain ⟨rfl, rfl⟩ := hc
    have hs := hI.slots t
    rw [ht] at hs
    have hv : a.tmps.getD t undef = .bool b := by
      have : Ok w own none (a.tmps.getD t undef) (.bool b) := hs
      exact Ok.sc this rfl
    have hlt : a.tmps[t]? = some (.bool b) := by
      rw [Array.getD_eq_getD_getElem?] at hv
      cases hx : a.tmps[t]? with
      | none => rw [hx] at hv; simp [undef] at hv
      | some x => rw [hx] at hv; simp at hv; rw [hv]
    have hy : yielded ops a.tmps j = some b := by simp only [yielded, hj, Option.bind_some, hlt]
    simp only [Region.wanted, hg]
    rw [hy]
    simp only [beq_self_eq_true, if_true]
    exact h rfl rfl w0 own0 a w own hI K Q hK

end Go.Mh
