/- Plain operations as steps between told states. No condition. -/
import Derived.Test.YtkmacjdigkaabaaFb
import Derived.Deep.MidRow
import Derived.Laws.Slices
import Derived.Laws.Small
import Derived.Laws.StructEq
set_option linter.unusedVariables false
set_option linter.unusedSimpArgs false
set_option linter.unnecessarySimpa false
namespace Go.Mh
open Go

/-! ### operands -/
def constC : Value → C
  | .int k n => .v (.int k n)
  | .bool b => .v (.bool b)
  | .string s => match Nat.ble s.size maxLen with | true => .v (.str s) | false => .any
  | .slice none 0 0 => .nil
  | _ => .any

def AS.ev (σ : AS) : Operand → SV
  | .tmp t => σ.s t
  | .const v => ⟨true, .one (constC v)⟩
  | .func f => ⟨true, .one (.fn f [])⟩
  | .global _ => ⟨true, .any⟩

theorem constC_ok {w own σ} (v : Value) : OkC w own σ v (constC v) := by
  unfold constC
  split
  · exact .int _ _
  · exact .bool _
  · split
    · rename_i h; exact .str _ (Nat.le_of_ble_eq_true h)
    · trivial
  · rfl
  · trivial

section
variable {w0 : World} {own0 : Own} {σ : AS} {a : Act} {w : World} {own : Own} (h : Inv w0 own0 σ a w own)
include h

theorem Inv.ev (x : Operand) : OkS w own σ (a.eval x) (σ.ev x) := by
  cases x with
  | tmp t => exact h.slots t
  | const v => exact constC_ok v
  | func f => exact ⟨#[], rfl, rfl, fun j d hd => by simp at hd⟩
  | global g => exact trivial

theorem Inv.evV {x : Operand} {u : V} (hx : σ.ev x = ⟨true, u⟩) : OkV w own σ (a.eval x) u := by
  have := h.ev x
  rw [hx] at this
  exact this

theorem Inv.evC {x : Operand} {c : C} (hx : σ.ev x = ⟨true, .one c⟩) : OkC w own σ (a.eval x) c := h.evV hx
end

def T.val : T → Value
  | .int k n => .int k n
  | .bool b => .bool b
  | .str s => .string s
  | .nl => .slice none 0 0
  | _ => undef
def T.sc : T → Bool
  | .int .. => true
  | .bool _ => true
  | .str _ => true
  | .nl => true
  | _ => false

theorem Ok.sc {w own pl v t} (h : Ok w own pl v t) (ht : t.sc = true) : v = t.val := by
  cases h <;> first | rfl | cases ht
def T.fits : T → Prop
  | .str s => s.size ≤ maxLen
  | _ => True
theorem Ok.of_sc {w own pl} {t : T} (ht : t.sc = true) (hf : t.fits) : Ok w own pl t.val t := by
  cases t <;> first | exact .int _ _ | exact .bool _ | exact .str _ hf | exact .nl | cases ht
theorem Ok.fits {w own pl v t} (h : Ok w own pl v t) : t.fits := by cases h <;> first | trivial | assumption

theorem Inv.evS {w0 own0 σ a w own} (h : Inv w0 own0 σ a w own) {x : Operand} {t : T} (hx : σ.ev x = ⟨true, .one (.v t)⟩) (ht : t.sc = true) : a.eval x = t.val :=
  Ok.sc (h.evC hx) ht

/-! ### steps -/
def Step (P : Program) (o : Oper) (σ σ' : AS) : Prop :=
  ∀ w0 own0 a w own, Inv w0 own0 σ a w own → ∀ (K : Act → World → Prop) (Q : Exit → Act → World → Prop), (∀ a' w' own', Inv w0 own0 σ' a' w' own' → K a' w') → o.wp P a w K Q

theorem Step.value {P : Program} {o : Oper} {σ : AS} {d : Nat} {x : SV} (hd : o.dst = some d) (hn : d < σ.n)
    (h : ∀ w0 own0 a w own, Inv w0 own0 σ a w own → ∃ v, (execOp a.eval o).run P w = .ok (.value v) w ∧ OkS w own σ v x) : Step P o σ (σ.setS d x) := by
  intro w0 own0 a w own hI K Q hK
  obtain ⟨v, hr, hv⟩ := h w0 own0 a w own hI
  unfold Oper.wp
  rw [hr]
  simp only [Oper.upon, hd]
  exact hK _ _ _ (hI.put hn hv)

section
variable {P : Program} {o : Oper} {σ : AS} {d : Nat} (hd : o.dst = some d) (hn : d < σ.n)
include hd hn

theorem step_move {x : Operand} (ho : o.op = .move x) : Step P o σ (σ.setS d (σ.ev x)) :=
  Step.value hd hn fun w0 own0 a w own hI => ⟨a.eval x, by simp [execOp, ho], hI.ev x⟩

theorem step_assign {x : Operand} (ho : o.op = .assign x) : Step P o σ (σ.setS d (σ.ev x)) :=
  Step.value hd hn fun w0 own0 a w own hI => ⟨a.eval x, by simp [execOp, ho], hI.ev x⟩

theorem step_pick {c x y : Operand} (ho : o.op = .pick c x y) {b bx b' cx cy : Bool} (hc : σ.ev c = ⟨true, .one (.v (.bool b))⟩)
    (hx : σ.ev x = ⟨cx, .one (.v (.bool bx))⟩) (hy : σ.ev y = ⟨cy, .one (.v (.bool b'))⟩) (h1 : b = true → cx = true) (h2 : b = false → cy = true) :
    Step P o σ (σ.setS d ⟨true, .one (.v (.bool (match b with | true => bx | false => b')))⟩) :=
  Step.value hd hn fun w0 own0 a w own hI => by
    have e1 := hI.evS hc rfl
    cases b with
    | true =>
      have := h1 rfl; subst this
      have e2 := hI.evS hx rfl
      exact ⟨.bool bx, by simp [execOp, ho, e1, e2, T.val, asBool], .bool _⟩
    | false =>
      have := h2 rfl; subst this
      have e2 := hI.evS hy rfl
      exact ⟨.bool b', by simp [execOp, ho, e1, e2, T.val, asBool], .bool _⟩

theorem step_bin {op : BinOp} {t ty : TypeId} {x y : Operand} (ho : o.op = .binOp op t x y ty) {tx tz tr : T}
    (hx : σ.ev x = ⟨true, .one (.v tx)⟩) (hy : σ.ev y = ⟨true, .one (.v tz)⟩) (sx : tx.sc = true) (sy : tz.sc = true) (sr : tr.sc = true) (fr : tr.fits)
    (hr : ∀ w, (do eqGuard op t x y tx.val tz.val; binOp op t tx.val tz.val : Sem Value).run P w = .ok tr.val w) :
    Step P o σ (σ.setS d ⟨true, .one (.v tr)⟩) :=
  Step.value hd hn fun w0 own0 a w own hI => by
    have e1 := hI.evS hx sx
    have e2 := hI.evS hy sy
    have := hr w
    simp only [Sem.run_bind] at this
    exact ⟨tr.val, by simp only [execOp, ho, e1, e2, Sem.run_bind, this, Result.andThen_ok, Sem.run_pure], Ok.of_sc sr fr⟩

theorem step_add {t ty : TypeId} {x y : Operand} (ho : o.op = .binOp .add t x y ty) {k : IntKind} {m n : Int}
    (hx : σ.ev x = ⟨true, .one (.v (.int k m))⟩) (hy : σ.ev y = ⟨true, .one (.v (.int k n))⟩) : Step P o σ (σ.setS d ⟨true, .one (.v (.int k (k.wrap (m + n))))⟩) :=
  step_bin hd hn ho hx hy rfl rfl rfl trivial fun w => by simp [eqGuard, binOp, T.val, Op.intArith]
theorem step_sub {t ty : TypeId} {x y : Operand} (ho : o.op = .binOp .sub t x y ty) {k : IntKind} {m n : Int}
    (hx : σ.ev x = ⟨true, .one (.v (.int k m))⟩) (hy : σ.ev y = ⟨true, .one (.v (.int k n))⟩) : Step P o σ (σ.setS d ⟨true, .one (.v (.int k (k.wrap (m - n))))⟩) :=
  step_bin hd hn ho hx hy rfl rfl rfl trivial fun w => by simp [eqGuard, binOp, T.val, Op.intArith]
theorem step_mul {t ty : TypeId} {x y : Operand} (ho : o.op = .binOp .mul t x y ty) {k : IntKind} {m n : Int}
    (hx : σ.ev x = ⟨true, .one (.v (.int k m))⟩) (hy : σ.ev y = ⟨true, .one (.v (.int k n))⟩) : Step P o σ (σ.setS d ⟨true, .one (.v (.int k (k.wrap (m * n))))⟩) :=
  step_bin hd hn ho hx hy rfl rfl rfl trivial fun w => by simp [eqGuard, binOp, T.val, Op.intArith]
theorem step_quo {t ty : TypeId} {x y : Operand} (ho : o.op = .binOp .quo t x y ty) {k : IntKind} {m n : Int}
    (hx : σ.ev x = ⟨true, .one (.v (.int k m))⟩) (hy : σ.ev y = ⟨true, .one (.v (.int k n))⟩) (h0 : n ≠ 0) : Step P o σ (σ.setS d ⟨true, .one (.v (.int k (k.wrap (m.tdiv n))))⟩) :=
  step_bin hd hn ho hx hy rfl rfl rfl trivial fun w => by simp [eqGuard, binOp, T.val, Op.intDiv, h0]
theorem step_rem {t ty : TypeId} {x y : Operand} (ho : o.op = .binOp .rem t x y ty) {k : IntKind} {m n : Int}
    (hx : σ.ev x = ⟨true, .one (.v (.int k m))⟩) (hy : σ.ev y = ⟨true, .one (.v (.int k n))⟩) (h0 : n ≠ 0) : Step P o σ (σ.setS d ⟨true, .one (.v (.int k (m.tmod n)))⟩) :=
  step_bin hd hn ho hx hy rfl rfl rfl trivial fun w => by simp [eqGuard, binOp, T.val, Op.intDiv, h0]
theorem step_lss {t ty : TypeId} {x y : Operand} (ho : o.op = .binOp .lss t x y ty) {k : IntKind} {m n : Int}
    (hx : σ.ev x = ⟨true, .one (.v (.int k m))⟩) (hy : σ.ev y = ⟨true, .one (.v (.int k n))⟩) : Step P o σ (σ.setS d ⟨true, .one (.v (.bool (decide (m < n))))⟩) :=
  step_bin hd hn ho hx hy rfl rfl rfl trivial fun w => by simp [eqGuard, binOp, T.val, Op.intCmp]
theorem step_leq {t ty : TypeId} {x y : Operand} (ho : o.op = .binOp .leq t x y ty) {k : IntKind} {m n : Int}
    (hx : σ.ev x = ⟨true, .one (.v (.int k m))⟩) (hy : σ.ev y = ⟨true, .one (.v (.int k n))⟩) : Step P o σ (σ.setS d ⟨true, .one (.v (.bool (decide (m ≤ n))))⟩) :=
  step_bin hd hn ho hx hy rfl rfl rfl trivial fun w => by simp [eqGuard, binOp, T.val, Op.intCmp]
theorem step_gtr {t ty : TypeId} {x y : Operand} (ho : o.op = .binOp .gtr t x y ty) {k : IntKind} {m n : Int}
    (hx : σ.ev x = ⟨true, .one (.v (.int k m))⟩) (hy : σ.ev y = ⟨true, .one (.v (.int k n))⟩) : Step P o σ (σ.setS d ⟨true, .one (.v (.bool (decide (m > n))))⟩) :=
  step_bin hd hn ho hx hy rfl rfl rfl trivial fun w => by simp [eqGuard, binOp, T.val, Op.intCmp]
theorem step_geq {t ty : TypeId} {x y : Operand} (ho : o.op = .binOp .geq t x y ty) {k : IntKind} {m n : Int}
    (hx : σ.ev x = ⟨true, .one (.v (.int k m))⟩) (hy : σ.ev y = ⟨true, .one (.v (.int k n))⟩) : Step P o σ (σ.setS d ⟨true, .one (.v (.bool (decide (m ≥ n))))⟩) :=
  step_bin hd hn ho hx hy rfl rfl rfl trivial fun w => by simp [eqGuard, binOp, T.val, Op.intCmp]
theorem step_eql {t ty : TypeId} {x y : Operand} (ho : o.op = .binOp .eql t x y ty) {k : IntKind} {m n : Int}
    (hx : σ.ev x = ⟨true, .one (.v (.int k m))⟩) (hy : σ.ev y = ⟨true, .one (.v (.int k n))⟩) : Step P o σ (σ.setS d ⟨true, .one (.v (.bool (m == n)))⟩) :=
  step_bin hd hn ho hx hy rfl rfl rfl trivial fun w => by simp [eqGuard, binOp, T.val, Op.intCmp]
theorem step_neq {t ty : TypeId} {x y : Operand} (ho : o.op = .binOp .neq t x y ty) {k : IntKind} {m n : Int}
    (hx : σ.ev x = ⟨true, .one (.v (.int k m))⟩) (hy : σ.ev y = ⟨true, .one (.v (.int k n))⟩) : Step P o σ (σ.setS d ⟨true, .one (.v (.bool (m != n)))⟩) :=
  step_bin hd hn ho hx hy rfl rfl rfl trivial fun w => by simp [eqGuard, binOp, T.val, Op.intCmp]

-- strings
def strEq (x y : ByteArray) : Bool := x.toList == y.toList
omit hd hn in
theorem str_bin (op : BinOp) (t : TypeId) (x y : Operand) (m n : ByteArray) (w : World) :
    (do eqGuard op t x y (.string m) (.string n); binOp op t (.string m) (.string n) : Sem Value).run P w = (Op.stringOp op m n).run P w := by
  cases op <;> simp [eqGuard, binOp]

theorem step_seql {t ty : TypeId} {x y : Operand} (ho : o.op = .binOp .eql t x y ty) {m n : ByteArray}
    (hx : σ.ev x = ⟨true, .one (.v (.str m))⟩) (hy : σ.ev y = ⟨true, .one (.v (.str n))⟩) : Step P o σ (σ.setS d ⟨true, .one (.v (.bool (strEq m n)))⟩) :=
  step_bin hd hn ho hx hy rfl rfl rfl trivial fun w => (str_bin _ t x y m n w).trans (by simp [Op.stringOp, strEq, T.val])
theorem step_sneq {t ty : TypeId} {x y : Operand} (ho : o.op = .binOp .neq t x y ty) {m n : ByteArray}
    (hx : σ.ev x = ⟨true, .one (.v (.str m))⟩) (hy : σ.ev y = ⟨true, .one (.v (.str n))⟩) : Step P o σ (σ.setS d ⟨true, .one (.v (.bool (!strEq m n)))⟩) :=
  step_bin hd hn ho hx hy rfl rfl rfl trivial fun w => (str_bin _ t x y m n w).trans (by simp [Op.stringOp, strEq, T.val])
theorem step_sadd {t ty : TypeId} {x y : Operand} (ho : o.op = .binOp .add t x y ty) {m n : ByteArray}
    (hx : σ.ev x = ⟨true, .one (.v (.str m))⟩) (hy : σ.ev y = ⟨true, .one (.v (.str n))⟩) (hs : m.size + n.size ≤ 9223372036854775807) : Step P o σ (σ.setS d ⟨true, .one (.v (.str (m ++ n)))⟩) :=
  step_bin hd hn ho hx hy rfl rfl rfl (by simp only [T.fits, ByteArray.size_append, maxLen]; omega) fun w => by
    have : ¬ (((m.size + n.size : Nat) : Int) > IntKind.i64.max) := by simp only [IntKind.max, IntKind.signed, IntKind.bits]; simp; omega
    exact (str_bin _ t x y m n w).trans (by simp only [Op.stringOp, if_neg this, T.val, Sem.run_pure])

theorem step_not {t : TypeId} {x : Operand} (ho : o.op = .unOp .not t x) {b : Bool} (hx : σ.ev x = ⟨true, .one (.v (.bool b))⟩) : Step P o σ (σ.setS d ⟨true, .one (.v (.bool (!b)))⟩) :=
  Step.value hd hn fun w0 own0 a w own hI => ⟨.bool (!b), by simp [execOp, ho, hI.evS hx rfl, T.val, Op.unary], .bool _⟩
theorem step_convInt {s t : TypeId} {x : Operand} (ho : o.op = .convert s t x) {k k' : IntKind} {n : Int} (hs : ∃ D, P.underlying s = some D) (ht : P.underlying t = some (.int k')) (hx : σ.ev x = ⟨true, .one (.v (.int k n))⟩) :
    Step P o σ (σ.setS d ⟨true, .one (.v (.int k' (k'.wrap n)))⟩) :=
  Step.value hd hn fun w0 own0 a w own hI => ⟨.int k' (k'.wrap n), by
    obtain ⟨D, hD⟩ := hs
    simp [execOp, ho, hI.evS hx rfl, T.val, convert, run_underlying hD, run_underlying ht, Conv.intToInt], .int _ _⟩

theorem step_len_str {t : TypeId} {x : Operand} (ho : o.op = .call { callee := .builtin .len, args := #[x], argTypes := #[t] }) (ht : P.underlying t = some .string) {s : ByteArray} (hx : σ.ev x = ⟨true, .one (.v (.str s))⟩) :
    Step P o σ (σ.setS d ⟨true, .one (.v (.int .i64 s.size))⟩) :=
  Step.value hd hn fun w0 own0 a w own hI => ⟨.int .i64 s.size, by
    simp [execOp, ho, resolve, invoke, builtin, hI.evS hx rfl, T.val, Builtin.len_, run_underlying ht, goInt], .int _ _⟩

theorem step_index_str {t : TypeId} {x y : Operand} (ho : o.op = .index t x y) (ht : P.underlying t = some .string) {s : ByteArray} {k : IntKind} {i : Int}
    (hx : σ.ev x = ⟨true, .one (.v (.str s))⟩) (hy : σ.ev y = ⟨true, .one (.v (.int k i))⟩) (h0 : 0 ≤ i) (h1 : i < s.size) :
    Step P o σ (σ.setS d ⟨true, .one (.v (.int .u8 ((s.data.getD i.toNat 0).toNat : Int)))⟩) :=
  Step.value hd hn fun w0 own0 a w own hI => ⟨.int .u8 ((s.data.getD i.toNat 0).toNat : Int), by
    have hlt : i.toNat < s.size := by omega
    have hlt' : i.toNat < s.data.size := hlt
    have e : s[i.toNat]? = some (s.data.getD i.toNat 0) := by
      rw [getElem?_pos s i.toNat hlt]
      simp only [Array.getD, hlt', dif_pos]
      rfl
    simp [execOp, ho, hI.evS hx rfl, hI.evS hy rfl, T.val, Instr.index, asIntOf, run_underlying ht, h0, e], .int _ _⟩

theorem step_extract {x : Operand} {ix : Nat} (ho : o.op = .extract x ix) {vs : List V} {u : V} (hx : σ.ev x = ⟨true, .tup vs⟩) (hu : vs[ix]? = some u) (hf : ∀ l, u ≠ .tup l) : Step P o σ (σ.setS d ⟨true, u⟩) :=
  Step.value hd hn fun w0 own0 a w own hI => by
    obtain ⟨xs, h1, h2, h3⟩ := hI.evV hx
    have hlt : ix < xs.size := by rw [h2]; exact (List.getElem?_eq_some_iff.1 hu).1
    refine ⟨xs.getD ix undef, ?_, ?_⟩
    · simp [execOp, ho, h1, Instr.extract, hlt]
    · have := h3 ix u hu
      show OkV _ _ _ _ u
      cases u with
      | tup l => exact absurd rfl (hf l)
      | one c => exact this
      | agg c => exact this
      | any => trivial
end

end Go.Mh
