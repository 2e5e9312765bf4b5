/- Loads, fields, indexes and lengths as steps. No condition. -/
import Derived.Test.YtkmacjdigkaabaaFc
set_option linter.unusedVariables false
set_option linter.unusedSimpArgs false
set_option linter.unnecessarySimpa false
namespace Go.Mh
open Go

/-! ### facts on types, as functions that the kernel runs -/
def fieldOff (P : Program) (s : TypeId) (f : Nat) : Option Nat :=
  match P.underlying s with
  | some (.struct fs) => match fs[f]? with
    | some fd => match P.info? fd.type with
      | some i => if i.size = 0 then none else some fd.offset
      | none => none
    | none => none
  | _ => none
def scalarB (P : Program) (t : TypeId) : Bool :=
  match P.underlying t with
  | some (.struct _) => false
  | some (.array _ _) => false
  | some _ => true
  | none => false
def structSz (P : Program) (t : TypeId) : Option Nat :=
  match P.underlying t with
  | some (.struct _) => (P.info? t).map (·.size)
  | _ => none
structure SlT where
  e : Nat
  sz : Nat
  by' : Nat
  deriving DecidableEq
def sliceT (P : Program) (t : TypeId) : Option SlT :=
  match P.underlying t with
  | some (.slice e) => match P.info? e with
    | some i => match i.zero with
      | some z => if z.cells.size = i.size ∧ 0 < i.size then some ⟨e, i.size, i.bytes⟩ else none
      | none => none
    | none => none
  | _ => none

theorem sliceT_spec {P : Program} {t : TypeId} {e sz by' : Nat} (h : sliceT P t = some ⟨e, sz, by'⟩) :
    P.underlying t = some (.slice e) ∧ ∃ i z, P.info? e = some i ∧ i.zero = some z ∧ i.size = sz ∧ i.bytes = by' ∧ z.cells.size = sz ∧ 0 < sz := by
  unfold sliceT at h
  split at h
  · rename_i e' he
    split at h
    · rename_i i hi
      split at h
      · rename_i z hz
        split at h
        · rename_i hc
          simp only [Option.some.injEq, SlT.mk.injEq] at h
          obtain ⟨rfl, rfl, rfl⟩ := h
          exact ⟨he, i, z, hi, hz, rfl, rfl, hc.1, hc.2⟩
        · cases h
      · cases h
    · cases h
  · cases h

theorem run_info {P : Program} {w : World} {t : TypeId} {i : TypeInfo} (h : P.info? t = some i) : (typeInfo t).run P w = .ok i w := by simp [typeInfo, h]

theorem run_fieldAt {P : Program} {w : World} {s f off : Nat} (h : fieldOff P s f = some off) (b o : Nat) :
    (Instr.fieldAt s (.pointer (some ⟨b, o, none⟩)) f).run P w = .ok (.pointer (some ⟨b, o + off, none⟩)) w := by
  unfold fieldOff at h
  split at h
  · rename_i fs hu
    split at h
    · rename_i fd hfd
      split at h
      · rename_i i hi
        split at h
        · cases h
        · rename_i hs
          simp only [Option.some.injEq] at h
          subst h
          simp only [Instr.fieldAt, Sem.run_bind, run_underlying hu, Result.andThen_ok, hfd, Instr.sureAddr, Sem.run_pure, fieldPlace, sizeOf, run_info hi, if_neg hs]
          congr 3
          unfold Addr.add
          split <;> simp_all
      · cases h
    · cases h
  · cases h

theorem run_isAgg_scalar {P : Program} {w : World} {t : TypeId} (h : scalarB P t = true) : (isAgg t).run P w = .ok false w := by
  unfold scalarB at h
  split at h
  · cases h
  · cases h
  · rename_i D h1 h2 hD
    simp only [isAgg, Sem.run_bind, run_underlying hD, Result.andThen_ok]
    cases D <;> first | rfl | exact (h1 _ rfl).elim | exact (h2 _ _ rfl).elim
  · cases h

theorem run_load_scalar {P : Program} {w : World} {t : TypeId} {a : Addr} {v : Value} (h : scalarB P t = true) (hc : w.cell? a = some v) : (loadVar t a).run P w = .ok v w := by
  simp only [loadVar, Sem.run_bind, run_isAgg_scalar h, Result.andThen_ok, Bool.false_eq_true, if_false]
  simp [load, Sem.run, hc]

theorem structSz_spec {P : Program} {t : TypeId} {m : Nat} (h : structSz P t = some m) : ∃ fs, P.underlying t = some (.struct fs) ∧ ∃ i, P.info? t = some i ∧ i.size = m := by
  unfold structSz at h
  split at h
  · rename_i fs hu
    simp only [Option.map_eq_some_iff] at h
    exact ⟨fs, hu, h⟩
  · cases h

theorem run_load_struct {P : Program} {w : World} {t : TypeId} {b o m : Nat} (cs : List Value) (h : structSz P t = some m) (hm : cs.length = m)
    (hc : ∀ j, j < m → w.cell? ⟨b, o + j, none⟩ = some (cs.getD j undef)) : (loadVar t ⟨b, o, none⟩).run P w = .ok (.agg cs.toArray) w := by
  obtain ⟨fs, hu, i, hi, hs⟩ := structSz_spec h
  refine run_loadVar_mid (P := P) w b o t cs (.struct fs) ?_ hu rfl (by rw [hi]; simp [hs, hm])
  intro j v hv
  have hj : j < cs.length := (List.getElem?_eq_some_iff.1 hv).1
  rw [hc j (by omega)]
  simp [List.getD_eq_getElem?_getD, hv]

/-! ### from a place to its block -/
theorem follow_ok {w own} : ∀ (ps : List (Nat × Nat)) {p : Place} {v : Value} {t : T} {e sz n : Nat} {f : Nat → List T},
    Ok w own (some p) v t → follow t ps = .sl e sz n f → ∃ v', Ok w own (some ⟨p.r, p.p ++ ps⟩) v' (.sl e sz n f)
  | [], p, v, t, e, sz, n, f, h, hn => by
    simp only [follow] at hn
    subst hn
    exact ⟨v, by simpa using h⟩
  | (i, j) :: ps, p, v, t, e, sz, n, f, h, hn => by
    cases t with
    | sl e' sz' n' f' =>
      simp only [follow] at hn
      split at hn
      · rename_i hi
        cases h with
        | nil => omega
        | osl ho hh hs hn' hcap hl hr =>
          have hj : j < sz' := by
            rcases Nat.lt_or_ge j sz' with h | h
            · exact h
            · have : (f' i).getD j .dead = .dead := by simp [List.getD_eq_getElem?_getD, List.getElem?_eq_none (by rw [hl i hi]; exact h)]
              rw [this] at hn
              cases ps <;> simp [follow] at hn
          obtain ⟨v', hv'⟩ := follow_ok ps (hr i j hi hj) hn
          exact ⟨v', by simpa [Place.push] using hv'⟩
      · cases hn
    | _ => simp [follow] at hn

theorem Inv.at {w0 own0 σ a w own} (h : Inv w0 own0 σ a w own) {p : Place} {e sz n f} (hn : σ.node p = .sl e sz n f) : ∃ v, Ok w own (some p) v (.sl e sz n f) := by
  obtain ⟨r, ps⟩ := p
  cases r with
  | arr d k =>
    simp only [AS.node] at hn
    have : ∃ e' sz' n' f', σ.arr d k = .sl e' sz' n' f' := by
      cases ht : σ.arr d k with
      | sl e' sz' n' f' => exact ⟨e', sz', n', f', rfl⟩
      | _ => rw [ht] at hn; cases ps <;> simp [follow] at hn
    obtain ⟨e', sz', n', f', ht⟩ := this
    obtain ⟨v, hv⟩ := h.arrs d k _ _ _ _ ht
    rw [ht] at hn
    obtain ⟨v', hv'⟩ := follow_ok ps hv hn
    exact ⟨v', by simpa using hv'⟩
  | box d =>
    cases ps with
    | nil => simp [AS.node] at hn
    | cons x ps =>
      obtain ⟨i, j⟩ := x
      cases i with
      | succ i => simp [AS.node] at hn
      | zero =>
        simp only [AS.node] at hn
        cases hc : (σ.box d)[j]? with
        | none => rw [hc] at hn; simp only [cellTree] at hn; cases ps <;> simp [follow] at hn
        | some c =>
          rw [hc] at hn
          cases c with
          | own t =>
            simp only [cellTree] at hn
            have hne : σ.box d ≠ [] := fun e => by rw [e] at hc; simp at hc
            obtain ⟨b, c, e', h1, h2, h3, h4⟩ := h.boxes d hne
            have := h4 j _ hc
            obtain ⟨v', hv'⟩ := follow_ok ps this hn
            exact ⟨v', by simpa using hv'⟩
          | _ => simp only [cellTree] at hn; cases ps <;> simp [follow] at hn

/-- what a reference gives in the world -/
theorem Inv.ref {w0 own0 σ a w own} (h : Inv w0 own0 σ a w own) {v : Value} {p : Place} {e sz n f} (hr : OkC w own σ v (.ref p)) (hn : σ.node p = .sl e sz n f) : Ok w own (some p) v (.sl e sz n f) := by
  obtain ⟨v', hv'⟩ := h.at hn
  rcases hr e sz n f hn with ⟨rfl, rfl⟩ | ⟨b, cap, c, rfl, h2, h3, h4, h5, h6⟩
  · exact .nil e sz f
  · cases hv' with
    | nil => exact .osl h2 h3 h4 h5 h6 (fun i hi => by omega) (fun i j hi => by omega)
    | osl ho hh hs hn' hcap hl hr' =>
      have := h.inj _ _ _ ho h2
      subst this
      rw [hh] at h3
      simp only [Option.some.injEq, Obj.cells.injEq, and_true] at h3
      subst h3
      exact .osl h2 hh h4 h5 h6 hl hr'

/-- a cell of an array at a place -/
theorem Ok.cell {w own p b n cap e sz f} (h : Ok w own (some p) (.slice (some ⟨b, 0, none⟩) n cap) (.sl e sz n f)) {i j : Nat} (hi : i < n) (hj : j < sz) :
    ∃ x, w.cell? ⟨b, i * sz + j, none⟩ = some x ∧ Ok w own (some (p.push i j)) x ((f i).getD j .dead) := by
  cases h with
  | osl ho hh hs hn hcap hl hr =>
    rename_i c
    refine ⟨c.getD (i * sz + j) undef, ?_, hr i j hi hj⟩
    have hlt : i * sz + j < c.size := hs.lt hn (mul_add_lt hi hj)
    simp [World.cell?, hh, Array.getD, hlt]

/-! ### how a cell reads -/
def look (d j : Nat) : C → C
  | .own _ => .ref ⟨.box d, [(0, j)]⟩
  | c => c
def lookL (d : Nat) : Nat → List C → List C
  | _, [] => []
  | j, c :: cs => look d j c :: lookL d (j + 1) cs
def lookT (p : Place) (i j : Nat) : T → C
  | .sl .. => .ref (p.push i j)
  | .fz t => .v t
  | .dead => .any
  | t => .v t
def lookTL (p : Place) (i : Nat) : Nat → List T → List C
  | _, [] => []
  | j, t :: ts => lookT p i j t :: lookTL p i (j + 1) ts
def lookF : T → C
  | .fz t => .v t
  | .dead => .any
  | t => .v t

theorem lookL_get (d : Nat) : ∀ (cs : List C) (j i : Nat), (lookL d j cs)[i]? = (cs[i]?).map (look d (j + i))
  | [], _, _ => by simp [lookL]
  | c :: cs, j, 0 => by simp [lookL]
  | c :: cs, j, i + 1 => by simp only [lookL, List.getElem?_cons_succ, lookL_get d cs (j + 1) i]; congr 2; omega
theorem lookL_len (d : Nat) : ∀ (cs : List C) (j : Nat), (lookL d j cs).length = cs.length
  | [], _ => rfl
  | c :: cs, j => by simp [lookL, lookL_len d cs]
theorem lookTL_get (p : Place) (r : Nat) : ∀ (cs : List T) (j i : Nat), (lookTL p r j cs)[i]? = (cs[i]?).map (lookT p r (j + i))
  | [], _, _ => by simp [lookTL]
  | c :: cs, j, 0 => by simp [lookTL]
  | c :: cs, j, i + 1 => by simp only [lookTL, List.getElem?_cons_succ, lookTL_get p r cs (j + 1) i]; congr 2; omega
theorem lookTL_len (p : Place) (r : Nat) : ∀ (cs : List T) (j : Nat), (lookTL p r j cs).length = cs.length
  | [], _ => rfl
  | c :: cs, j => by simp [lookTL, lookTL_len p r cs]

/-- an owned slice at a place, read as a reference -/
theorem Ok.hdr {w own p v e sz n f} (h : Ok w own (some p) v (.sl e sz n f)) : Hdr w own p e sz n v := by
  cases h with
  | nil => exact .inl ⟨rfl, rfl⟩
  | osl ho hh hs hn hcap hl hr => exact .inr ⟨_, _, _, rfl, ho, hh, hs, hn, hcap⟩

theorem look_ok {w own σ d j v c} (hc : (σ.box d)[j]? = some c) (h : OkCell w own σ d j v c) : OkC w own σ v (look d j c) := by
  cases c with
  | own t =>
    intro e sz n f hn
    simp only [AS.node, hc, cellTree, follow] at hn
    subst hn
    exact Ok.hdr h
  | v t => exact h
  | ref p => exact h
  | bptr d j => exact h
  | eptr p i j => exact h
  | sub p lo n full => exact h
  | ifc ty p => exact h
  | fptr e sz n f i j => exact h
  | fn f ds => exact h
  | nil => exact h
  | any => trivial

theorem follow_append : ∀ (ps : List (Nat × Nat)) (t : T) (q : List (Nat × Nat)), follow t (ps ++ q) = follow (follow t ps) q
  | [], t, q => by simp [follow]
  | (i, j) :: ps, t, q => by
    cases t with
    | sl e sz n f =>
      simp only [List.cons_append, follow]
      split
      · exact follow_append ps _ q
      · cases q with
        | nil => simp [follow]
        | cons x q => cases x; simp [follow]
    | _ => cases q with
      | nil => simp [follow]
      | cons x q => cases x; simp [follow]

theorem node_push (σ : AS) (p : Place) (i j : Nat) {e sz n f} (hn : σ.node p = .sl e sz n f) (hi : i < n) : σ.node (p.push i j) = (f i).getD j .dead := by
  obtain ⟨r, ps⟩ := p
  cases r with
  | arr d k => simp only [AS.node, Place.push] at hn ⊢; rw [follow_append, hn]; simp [follow, hi]
  | box d =>
    cases ps with
    | nil => simp [AS.node] at hn
    | cons x ps =>
      obtain ⟨i0, j0⟩ := x
      cases i0 with
      | succ i0 => simp [AS.node] at hn
      | zero => simp only [AS.node, Place.push, List.cons_append] at hn ⊢; rw [follow_append, hn]; simp [follow, hi]

theorem lookT_ok {w own σ p i j v t} (hn : σ.node (p.push i j) = t) (h : Ok w own (some (p.push i j)) v t) : OkC w own σ v (lookT p i j t) := by
  cases t with
  | sl e sz n f => intro e' sz' n' f' h'; rw [hn] at h'; cases h'; exact h.hdr
  | fz t => cases h with | fz h => exact h
  | dead => trivial
  | int k n => cases h; exact .int _ _
  | bool b => cases h; exact .bool _
  | str s => cases h; exact .str _ (by assumption)
  | nl => cases h; exact .nl

theorem lookF_ok {w own σ v t} (h : Ok w own none v t) : OkC w own σ v (lookF t) := by
  cases t with
  | fz t => cases h with | fz h => exact h
  | dead => trivial
  | sl e sz n f => exact h
  | int k n => exact h
  | bool b => exact h
  | str s => exact h
  | nl => exact h

section
variable {P : Program} {o : Oper} {σ : AS} {d : Nat} (hd : o.dst = some d) (hn : d < σ.n)
include hd hn

/-! ### addresses -/
theorem step_field_b {s f off : Nat} {x : Operand} (ho : o.op = .fieldAddr s x f) (hf : fieldOff P s f = some off) {b j : Nat} (hx : σ.ev x = ⟨true, .one (.bptr b j)⟩) (hb : σ.box b ≠ []) :
    Step P o σ (σ.setS d ⟨true, .one (.bptr b (j + off))⟩) :=
  Step.value hd hn fun w0 own0 a w own hI => by
    obtain ⟨bb, hv, hown⟩ := hI.evC hx hb
    exact ⟨_, by simp only [execOp, ho, hv, Sem.run_bind, run_fieldAt hf, Result.andThen_ok, Sem.run_pure], fun _ => ⟨bb, rfl, hown⟩⟩

theorem step_field_e {s f off : Nat} {x : Operand} (ho : o.op = .fieldAddr s x f) (hf : fieldOff P s f = some off) {p : Place} {i j : Nat} {e sz n : Nat} {g : Nat → List T} (hx : σ.ev x = ⟨true, .one (.eptr p i j)⟩) (hp : σ.node p = .sl e sz n g) :
    Step P o σ (σ.setS d ⟨true, .one (.eptr p i (j + off))⟩) :=
  Step.value hd hn fun w0 own0 a w own hI => by
    obtain ⟨bb, hv, hown⟩ := hI.evC hx e sz n g hp
    refine ⟨_, by simp only [execOp, ho, hv, Sem.run_bind, run_fieldAt hf, Result.andThen_ok, Sem.run_pure]; rfl, fun e' sz' n' g' hp' => ?_⟩
    rw [hp] at hp'; cases hp'
    exact ⟨bb, by simp only [Nat.add_assoc], hown⟩

theorem step_field_f {s f off : Nat} {x : Operand} (ho : o.op = .fieldAddr s x f) (hf : fieldOff P s f = some off) {e sz n : Nat} {g : Nat → List T} {i j : Nat} (hx : σ.ev x = ⟨true, .one (.fptr e sz n g i j)⟩) :
    Step P o σ (σ.setS d ⟨true, .one (.fptr e sz n g i (j + off))⟩) :=
  Step.value hd hn fun w0 own0 a w own hI => by
    obtain ⟨bb, oo, cap, h1, h2, hv⟩ := hI.evC hx
    exact ⟨_, by simp only [execOp, ho, hv, Sem.run_bind, run_fieldAt hf, Result.andThen_ok, Sem.run_pure]; rfl, ⟨bb, oo, cap, h1, h2, by simp only [Nat.add_assoc]⟩⟩

omit hd hn in
theorem run_indexAt {w : World} {t e sz by' : Nat} (ht : sliceT P t = some ⟨e, sz, by'⟩) (b off n cap : Nat) (k : IntKind) (i : Int) (h0 : 0 ≤ i) (h1 : i < n) :
    (Instr.indexAt t (.slice (some ⟨b, off, none⟩) n cap) (.int k i)).run P w = .ok (.pointer (some ⟨b, off + i.toNat * sz, none⟩)) w := by
  obtain ⟨hu, I, z, hi, hz, hs, hb, hzs, hsz⟩ := sliceT_spec ht
  simp only [Instr.indexAt, Sem.run_bind, asIntOf, Sem.run_pure, Result.andThen_ok, run_underlying hu]
  have : (0 ≤ i ∧ i < (n : Int)) := ⟨h0, h1⟩
  simp only [this, if_true, Sem.run_bind, sizeOf, run_info hi, Result.andThen_ok, Sem.run_pure, hs, Bool.and_false, and_self]
  congr 3
  unfold Addr.add
  split
  · rename_i h; simp [h]
  · rfl

theorem step_index_r {t e' sz by' : Nat} {x y : Operand} (ho : o.op = .indexAddr t x y) (ht : sliceT P t = some ⟨e', sz, by'⟩) {p : Place} {e n : Nat} {g : Nat → List T} {k : IntKind} {i : Int}
    (hx : σ.ev x = ⟨true, .one (.ref p)⟩) (hp : σ.node p = .sl e sz n g) (hy : σ.ev y = ⟨true, .one (.v (.int k i))⟩) (h0 : 0 ≤ i) (h1 : i < n) :
    Step P o σ (σ.setS d ⟨true, .one (.eptr p i.toNat 0)⟩) :=
  Step.value hd hn fun w0 own0 a w own hI => by
    have hv := hI.evC hx e sz n g hp
    have hy' := hI.evS hy rfl
    rcases hv with ⟨_, h⟩ | ⟨b, cap, c, hv, hown, hh, hs, hc, hm⟩
    · omega
    · refine ⟨_, by simp only [execOp, ho, hv, hy', T.val, Sem.run_bind, run_indexAt ht b 0 n cap k i h0 h1, Result.andThen_ok, Sem.run_pure]; rfl, fun e' sz' n' g' hp' => ?_⟩
      rw [hp] at hp'; cases hp'
      exact ⟨b, by simp, hown⟩

theorem step_index_f {t e' sz by' : Nat} {x y : Operand} (ho : o.op = .indexAddr t x y) (ht : sliceT P t = some ⟨e', sz, by'⟩) {e n : Nat} {g : Nat → List T} {k : IntKind} {i : Int}
    (hx : σ.ev x = ⟨true, .one (.v (.sl e sz n g))⟩) (hy : σ.ev y = ⟨true, .one (.v (.int k i))⟩) (h0 : 0 ≤ i) (h1 : i < n) :
    Step P o σ (σ.setS d ⟨true, .one (.fptr e sz n g i.toNat 0)⟩) :=
  Step.value hd hn fun w0 own0 a w own hI => by
    have hv := hI.evC hx
    have hy' := hI.evS hy rfl
    generalize hg : a.eval x = vx at hv
    cases hv with
    | nil => omega
    | @fsl b off n cap e sz f xx hc hcap hl hb hcc hr =>
      exact ⟨_, by simp only [execOp, ho, hg, hy', T.val, Sem.run_bind, run_indexAt ht b off n cap k i h0 h1, Result.andThen_ok, Sem.run_pure]; rfl,
        ⟨b, off, cap, .fsl xx hc hcap hl hb hcc hr, by omega, by simp⟩⟩
    | emp => omega

/-! ### loads -/
theorem step_load_b {t : TypeId} {x : Operand} (ho : o.op = .load t x) (ht : scalarB P t = true) {b j : Nat} {c : C} (hx : σ.ev x = ⟨true, .one (.bptr b j)⟩) (hc : (σ.box b)[j]? = some c) :
    Step P o σ (σ.setS d ⟨true, .one (look b j c)⟩) :=
  Step.value hd hn fun w0 own0 a w own hI => by
    have hne : σ.box b ≠ [] := fun e => by rw [e] at hc; simp at hc
    obtain ⟨bb, hv, hown⟩ := hI.evC hx hne
    obtain ⟨b', cc, e', h1, h2, h3, h4⟩ := hI.boxes b hne
    have := hI.inj _ _ _ hown h1
    subst this
    have hj : j < cc.size := by rw [h3]; exact (List.getElem?_eq_some_iff.1 hc).1
    have hcell : w.cell? ⟨bb, j, none⟩ = some (cc.getD j undef) := by simp [World.cell?, h2, Array.getD, hj]
    exact ⟨_, by simp only [execOp, ho, hv, Instr.loadAt, Instr.sureAddr, Sem.run_bind, Sem.run_pure, Result.andThen_ok, run_load_scalar ht hcell], look_ok hc (h4 j c hc)⟩

theorem step_loadS_b {t m : Nat} {x : Operand} (ho : o.op = .load t x) (ht : structSz P t = some m) {b j : Nat} {cs : List C} (hx : σ.ev x = ⟨true, .one (.bptr b j)⟩)
    (hc : ((σ.box b).drop j).take m = cs) (hm : cs.length = m) (h0 : 0 < m) :
    Step P o σ (σ.setS d ⟨true, .agg (lookL b j cs)⟩) :=
  Step.value hd hn fun w0 own0 a w own hI => by
    have hget : ∀ i c, cs[i]? = some c → (σ.box b)[j + i]? = some c := by
      intro i c hi
      rw [← hc, List.getElem?_take] at hi
      split at hi
      · rw [List.getElem?_drop] at hi; exact hi
      · cases hi
    have hne : σ.box b ≠ [] := fun e => by rw [e] at hc; simp at hc; subst hc; simp at hm; omega
    obtain ⟨bb, hv, hown⟩ := hI.evC hx hne
    obtain ⟨b', cc, e', h1, h2, h3, h4⟩ := hI.boxes b hne
    have := hI.inj _ _ _ hown h1
    subst this
    have hlen : ∀ i, i < m → j + i < cc.size := fun i hi => by
      rw [h3]
      have : i < cs.length := by omega
      exact (List.getElem?_eq_some_iff.1 (hget i _ (List.getElem?_eq_getElem this))).1
    refine ⟨.agg ((List.range m).map fun i => cc.getD (j + i) undef).toArray, ?_, ?_⟩
    · simp only [execOp, ho, hv, Instr.loadAt, Instr.sureAddr, Sem.run_bind, Sem.run_pure, Result.andThen_ok]
      rw [run_load_struct ((List.range m).map fun i => cc.getD (j + i) undef) ht (by simp) (fun i hi => by
        have := hlen i hi
        simp [World.cell?, h2, List.getD_eq_getElem?_getD, hi, this])]
      rfl
    · refine ⟨_, rfl, by simp [lookL_len, hm], fun i c hi => ?_⟩
      rw [lookL_get, Option.map_eq_some_iff] at hi
      obtain ⟨c0, hc0, rfl⟩ := hi
      have him : i < m := by rw [← hm]; exact (List.getElem?_eq_some_iff.1 hc0).1
      have e1 : (((List.range m).map fun i => cc.getD (j + i) undef).toArray).getD i undef = cc.getD (j + i) undef := by simp [him]
      rw [e1]
      exact look_ok (hget i c0 hc0) (h4 _ _ (hget i c0 hc0))

omit hd hn in
theorem ptr_block {w0 own0 a w own} (hI : Inv w0 own0 σ a w own) {p : Place} {e sz n : Nat} {g : Nat → List T} (hp : σ.node p = .sl e sz n g) {b : Nat} (hown : own b = some p) (h1 : 0 < n) :
    ∃ cap, Ok w own (some p) (.slice (some ⟨b, 0, none⟩) n cap) (.sl e sz n g) := by
  obtain ⟨v, hv⟩ := hI.at hp
  cases hv with
  | nil => omega
  | osl ho hh hs hc hcap hl hr =>
    have := hI.inj _ _ _ ho hown
    subst this
    exact ⟨_, .osl ho hh hs hc hcap hl hr⟩

theorem step_load_e {t : TypeId} {x : Operand} (ho : o.op = .load t x) (ht : scalarB P t = true) {p : Place} {i j e sz n : Nat} {g : Nat → List T} {c : T}
    (hx : σ.ev x = ⟨true, .one (.eptr p i j)⟩) (hp : σ.node p = .sl e sz n g) (hi : i < n) (hj : j < sz) (hc : (g i).getD j .dead = c) :
    Step P o σ (σ.setS d ⟨true, .one (lookT p i j c)⟩) :=
  Step.value hd hn fun w0 own0 a w own hI => by
    obtain ⟨b, hv, hown⟩ := hI.evC hx e sz n g hp
    obtain ⟨cap, hok⟩ := ptr_block hI hp hown (by omega)
    obtain ⟨v, hcell, hv'⟩ := hok.cell hi hj
    rw [hc] at hv'
    exact ⟨v, by simp only [execOp, ho, hv, Instr.loadAt, Instr.sureAddr, Sem.run_bind, Sem.run_pure, Result.andThen_ok, run_load_scalar ht hcell],
      lookT_ok (by rw [node_push σ p i j hp hi, hc]) hv'⟩

theorem step_loadS_e {t m : Nat} {x : Operand} (ho : o.op = .load t x) (ht : structSz P t = some m) {p : Place} {i j e sz n : Nat} {g : Nat → List T} {cs : List T}
    (hx : σ.ev x = ⟨true, .one (.eptr p i j)⟩) (hp : σ.node p = .sl e sz n g) (hi : i < n) (hj : j + m ≤ sz) (hc : ((g i).drop j).take m = cs) (hm : cs.length = m) :
    Step P o σ (σ.setS d ⟨true, .agg (lookTL p i j cs)⟩) :=
  Step.value hd hn fun w0 own0 a w own hI => by
    obtain ⟨b, hv, hown⟩ := hI.evC hx e sz n g hp
    obtain ⟨cap, hok⟩ := ptr_block hI hp hown (by omega)
    have hget : ∀ l c, cs[l]? = some c → (g i).getD (j + l) .dead = c := by
      intro l c hl
      rw [← hc, List.getElem?_take] at hl
      split at hl
      · rw [List.getElem?_drop] at hl; simp [List.getD_eq_getElem?_getD, hl]
      · cases hl
    have hcell : ∀ l, l < m → ∃ v, w.cell? ⟨b, i * sz + (j + l), none⟩ = some v ∧ Ok w own (some (p.push i (j + l))) v ((g i).getD (j + l) .dead) := fun l hl => hok.cell hi (by omega)
    refine ⟨.agg ((List.range m).map fun l => (w.cell? ⟨b, i * sz + (j + l), none⟩).getD undef).toArray, ?_, ?_⟩
    · simp only [execOp, ho, hv, Instr.loadAt, Instr.sureAddr, Sem.run_bind, Sem.run_pure, Result.andThen_ok]
      rw [run_load_struct ((List.range m).map fun l => (w.cell? ⟨b, i * sz + (j + l), none⟩).getD undef) ht (by simp) (fun l hl => by
        obtain ⟨v, h1, h2⟩ := hcell l hl
        rw [Nat.add_assoc, h1]
        simp [List.getD_eq_getElem?_getD, hl, h1])]
      rfl
    · refine ⟨_, rfl, by simp [lookTL_len, hm], fun l c hl => ?_⟩
      rw [lookTL_get, Option.map_eq_some_iff] at hl
      obtain ⟨c0, hc0, rfl⟩ := hl
      have hlm : l < m := by rw [← hm]; exact (List.getElem?_eq_some_iff.1 hc0).1
      obtain ⟨v, h1, h2⟩ := hcell l hlm
      have e1 : (((List.range m).map fun l => (w.cell? ⟨b, i * sz + (j + l), none⟩).getD undef).toArray).getD l undef = v := by simp [hlm, h1]
      rw [e1]
      rw [hget l c0 hc0] at h2
      exact lookT_ok (by rw [node_push σ p i _ hp hi, hget l c0 hc0]) h2

theorem step_load_f {t : TypeId} {x : Operand} (ho : o.op = .load t x) (ht : scalarB P t = true) {e sz n i j : Nat} {g : Nat → List T} {c : T}
    (hx : σ.ev x = ⟨true, .one (.fptr e sz n g i j)⟩) (hj : j < sz) (hc : (g i).getD j .dead = c) : Step P o σ (σ.setS d ⟨true, .one (lookF c)⟩) :=
  Step.value hd hn fun w0 own0 a w own hI => by
    obtain ⟨b, off, cap, hok, hi, hv⟩ := hI.evC hx
    cases hok with
    | emp => omega
    | fsl xx h1 h2 h3 h4 h5 h6 =>
      have hcell := h5 i j hi hj
      have hr := h6 i j hi hj
      rw [hc] at hr
      exact ⟨_, by simp only [execOp, ho, hv, Instr.loadAt, Instr.sureAddr, Sem.run_bind, Sem.run_pure, Result.andThen_ok, run_load_scalar ht hcell], lookF_ok hr⟩

theorem step_loadS_f {t m : Nat} {x : Operand} (ho : o.op = .load t x) (ht : structSz P t = some m) {e sz n i j : Nat} {g : Nat → List T} {cs : List T}
    (hx : σ.ev x = ⟨true, .one (.fptr e sz n g i j)⟩) (hj : j + m ≤ sz) (hc : ((g i).drop j).take m = cs) (hm : cs.length = m) : Step P o σ (σ.setS d ⟨true, .agg (cs.map lookF)⟩) :=
  Step.value hd hn fun w0 own0 a w own hI => by
    obtain ⟨b, off, cap, hok, hi, hv⟩ := hI.evC hx
    have hget : ∀ l c, cs[l]? = some c → (g i).getD (j + l) .dead = c := by
      intro l c hl
      rw [← hc, List.getElem?_take] at hl
      split at hl
      · rw [List.getElem?_drop] at hl; simp [List.getD_eq_getElem?_getD, hl]
      · cases hl
    cases hok with
    | emp => omega
    | fsl xx h1 h2 h3 h4 h5 h6 =>
      refine ⟨.agg ((List.range m).map fun l => xx i (j + l)).toArray, ?_, ?_⟩
      · simp only [execOp, ho, hv, Instr.loadAt, Instr.sureAddr, Sem.run_bind, Sem.run_pure, Result.andThen_ok]
        rw [run_load_struct ((List.range m).map fun l => xx i (j + l)) ht (by simp) (fun l hl => by
          have := h5 i (j + l) hi (by omega)
          rw [show off + i * sz + j + l = off + i * sz + (j + l) from by omega, this]
          simp [List.getD_eq_getElem?_getD, hl])]
        rfl
      · refine ⟨_, rfl, by simp [hm], fun l c hl => ?_⟩
        rw [List.getElem?_map, Option.map_eq_some_iff] at hl
        obtain ⟨c0, hc0, rfl⟩ := hl
        have hlm : l < m := by rw [← hm]; exact (List.getElem?_eq_some_iff.1 hc0).1
        have e1 : (((List.range m).map fun l => xx i (j + l)).toArray).getD l undef = xx i (j + l) := by simp [hlm]
        rw [e1]
        have := h6 i (j + l) hi (by omega)
        rw [hget l c0 hc0] at this
        exact lookF_ok this

/-! ### lengths, slicing of what is frozen -/
theorem step_len_r {t e' sz by' : Nat} {x : Operand} (ho : o.op = .call { callee := .builtin .len, args := #[x], argTypes := #[t] }) (ht : sliceT P t = some ⟨e', sz, by'⟩) {p : Place} {e n sz' : Nat} {g : Nat → List T}
    (hx : σ.ev x = ⟨true, .one (.ref p)⟩) (hp : σ.node p = .sl e sz' n g) : Step P o σ (σ.setS d ⟨true, .one (.v (.int .i64 n))⟩) :=
  Step.value hd hn fun w0 own0 a w own hI => by
    have hu := (sliceT_spec ht).1
    rcases hI.evC hx e sz' n g hp with ⟨h, rfl⟩ | ⟨b, cap, c, hv, _⟩
    · exact ⟨_, by simp [execOp, ho, resolve, invoke, builtin, h, Builtin.len_, run_underlying hu, goInt], .int _ _⟩
    · exact ⟨_, by simp [execOp, ho, resolve, invoke, builtin, hv, Builtin.len_, run_underlying hu, goInt], .int _ _⟩

theorem step_len_f {t e' sz by' : Nat} {x : Operand} (ho : o.op = .call { callee := .builtin .len, args := #[x], argTypes := #[t] }) (ht : sliceT P t = some ⟨e', sz, by'⟩) {e n sz' : Nat} {g : Nat → List T}
    (hx : σ.ev x = ⟨true, .one (.v (.sl e sz' n g))⟩) : Step P o σ (σ.setS d ⟨true, .one (.v (.int .i64 n))⟩) :=
  Step.value hd hn fun w0 own0 a w own hI => by
    have hu := (sliceT_spec ht).1
    have hv := hI.evC hx
    generalize hg : a.eval x = vx at hv
    cases hv with
    | nil => exact ⟨_, by simp [execOp, ho, resolve, invoke, builtin, hg, Builtin.len_, run_underlying hu, goInt], .int _ _⟩
    | fsl => exact ⟨_, by simp [execOp, ho, resolve, invoke, builtin, hg, Builtin.len_, run_underlying hu, goInt], .int _ _⟩
    | emp => exact ⟨_, by simp [execOp, ho, resolve, invoke, builtin, hg, Builtin.len_, run_underlying hu, goInt], .int _ _⟩

end

end Go.Mh
