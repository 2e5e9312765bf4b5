/- Parts of slices, of tuples and of structs, and struct literals. No condition. -/
import Derived.Test.YtkmacjdigkaabaaFy
set_option linter.unusedVariables false
set_option linter.unusedSimpArgs false
set_option linter.unnecessarySimpa false
namespace Go.Mh
open Go

/-! ### slices of slices that nobody writes -/
inductive BoundIs (σ : AS) : Option Operand → Nat → Nat → Prop where
  | dflt (m : Nat) : BoundIs σ none m m
  | val {y : Operand} {k : IntKind} {j : Nat} (m : Nat) (hy : σ.ev y = ⟨true, .one (.v (.int k (j : Int)))⟩) : BoundIs σ (some y) m j

theorem BoundIs.value {w0 own0 σ a w own} (hI : Inv w0 own0 σ a w own) {o : Option Operand} {m j : Nat} (h : BoundIs σ o m j) : (o.map a.eval = none ∧ j = m) ∨ ∃ k, o.map a.eval = some (.int k (j : Int)) := by
  cases h with
  | dflt => exact .inl ⟨rfl, rfl⟩
  | val m hy => exact .inr ⟨_, by rw [Option.map_some, hI.evS hy rfl]; rfl⟩

theorem run_sliceG {P : Program} {w : World} {t e sz by' : Nat} (ht : sliceT P t = some ⟨e, sz, by'⟩) (a : Option Addr) (len cap lo hi : Nat) {olo ohi : Option Value} (h1 : (olo = none ∧ lo = 0) ∨ ∃ k, olo = some (.int k (lo : Int))) (h2 : (ohi = none ∧ hi = len) ∨ ∃ k, ohi = some (.int k (hi : Int)))
    (hlc : len ≤ cap) (hlh : lo ≤ hi) (hhl : hi ≤ len) : (Instr.sliceAt t (.slice a len cap) olo ohi none).run P w = .ok (.slice (if cap = lo then a else a.map (·.add (lo * sz))) (hi - lo) (cap - lo)) w := by
  obtain ⟨hu, I, z, hi', hz, hs, hb, hzs, hsz⟩ := sliceT_spec ht
  have e1 : ∀ (k : IntKind) (c : BoundsCode), (Instr.sliceBound (.int k (hi : Int)) cap c).run P w = .ok hi w := fun k c => by
    have := run_sliceBound (P := P) w k (hi : Int) cap c (by omega) (by omega)
    simpa using this
  have e2 : ∀ (k : IntKind) (c : BoundsCode), (Instr.sliceBound (.int k (lo : Int)) hi c).run P w = .ok lo w := fun k c => by
    have := run_sliceBound (P := P) w k (lo : Int) hi c (by omega) (by omega)
    simpa using this
  rcases h1 with ⟨rfl, rfl⟩ | ⟨k, rfl⟩ <;> rcases h2 with ⟨rfl, rfl⟩ | ⟨k', rfl⟩
  · simp [Instr.sliceAt, run_underlying hu, Instr.slice, Instr.sliceBounds, sizeOf, run_info hi', hs]
  · simp only [Instr.sliceAt, Sem.run_bind, run_underlying hu, Result.andThen_ok, Instr.slice, Instr.sliceBounds, Sem.run_pure, if_true, e1, sizeOf, run_info hi', hs, Option.isSome_none]
  · simp only [Instr.sliceAt, Sem.run_bind, run_underlying hu, Result.andThen_ok, Instr.slice, Instr.sliceBounds, Sem.run_pure, Option.isSome_none, Bool.false_eq_true, if_false, e2, sizeOf, run_info hi', hs]
  · simp only [Instr.sliceAt, Sem.run_bind, run_underlying hu, Result.andThen_ok, Instr.slice, Instr.sliceBounds, Sem.run_pure, if_true, e1, Option.isSome_none, Bool.false_eq_true, if_false, e2, sizeOf, run_info hi', hs]

section
variable {P : Program} {o : Oper} {σ : AS} {d : Nat} (hd : o.dst = some d) (hn : d < σ.n)
include hd hn
/-- some rows of a slice that nobody writes, told by another tree -/
theorem step_sliceF {t e' sz by' : Nat} {x : Operand} {olo ohi : Option Operand} (ho : o.op = .slice t x olo ohi none) (ht : sliceT P t = some ⟨e', sz, by'⟩) {e n lo hi m : Nat} {g g' : Nat → List T} (t' : T)
    (hx : σ.ev x = ⟨true, .one (.v (.sl e sz n g))⟩) (hlo : BoundIs σ olo 0 lo) (hhi : BoundIs σ ohi n hi) (ht' : t' = .sl e sz m g') (hm : lo + m = hi) (hhn : hi ≤ n) (hg : ∀ q, q < m → g (lo + q) = g' q) :
    Step P o σ (σ.setS d ⟨true, .one (.v t')⟩) :=
  Step.value hd hn fun w0 own0 a w own hI => by
    subst ht'
    have hv := hI.evC hx
    have run := fun (ad : Option Addr) (cap : Nat) (hc : n ≤ cap) => run_sliceG (w := w) ht ad n cap lo hi (hlo.value hI) (hhi.value hI) hc (by omega) hhn
    have hex : ∀ v, (Instr.sliceAt t (a.eval x) (olo.map a.eval) (ohi.map a.eval) none).run P w = .ok v w → (execOp a.eval o).run P w = .ok (.value v) w := fun v hv => by
      simp only [execOp, ho, Option.map_none, Sem.run_bind, hv, Result.andThen_ok, Sem.run_pure]
    have hmm : hi - lo = m := by omega
    have hadd : ∀ (b off q : Nat), (⟨b, off, none⟩ : Addr).add q = ⟨b, off + q, none⟩ := fun b off q => by unfold Addr.add; split <;> simp_all
    generalize hgx : a.eval x = vx at hv
    rw [hgx] at hex
    cases hv with
    | nil =>
      have h0 : lo = 0 ∧ m = 0 := by omega
      obtain ⟨rfl, rfl⟩ := h0
      have r := run none 0 (by omega)
      rw [hmm, if_pos rfl] at r
      exact ⟨_, hex _ r, .nil _ _ _⟩
    | @emp ad cap _ _ _ hcap =>
      have h0 : lo = 0 ∧ m = 0 := by omega
      obtain ⟨rfl, rfl⟩ := h0
      have r := run (some ad) cap (by omega)
      rw [hmm] at r
      refine ⟨_, hex _ r, ?_⟩
      split
      · exact .emp _ _ _ _ (by omega)
      · simp only [Option.map_some]; exact .emp _ _ _ _ (by omega)
    | @fsl b off n cap e sz f xx h1' hcap h3 h4 h5 h6 =>
      have r := run (some ⟨b, off, none⟩) cap h1'
      rw [hmm] at r
      refine ⟨_, hex _ r, ?_⟩
      split
      · have h0 : m = 0 := by omega
        subst h0
        exact .emp _ _ _ _ (by omega)
      · simp only [Option.map_some, hadd]
        refine .fsl (fun i j => xx (lo + i) j) (by omega) (by omega) (fun i hi' => by rw [← hg i hi']; exact h3 _ (by omega)) (fun q q' => h4 (by omega) q') (fun i l hi' hl => ?_) (fun i l hi' hl => by rw [← hg i hi']; exact h6 _ _ (by omega) hl)
        have := h5 (lo + i) l (by omega) hl
        rw [Nat.add_mul, ← Nat.add_assoc] at this
        exact this

end

/-! ### parts of tuples and of structs -/
def fieldAt (P : Program) (t f : Nat) : Option (Nat × Nat) :=
  match P.underlying t with
  | some (.struct fs) => (fs[f]?).map fun x => (x.offset, x.type)
  | _ => none
section
variable {P : Program} {o : Oper} {σ : AS} {d : Nat} (hd : o.dst = some d) (hn : d < σ.n)
include hd hn
end

/-! ### struct literals -/
def structPl (P : Program) (t : TypeId) : Option (List (Nat × Nat)) :=
  match P.underlying t with
  | some (.struct fs) => fs.toList.mapM (fun f => (P.info? f.type).map fun i => (f.offset, i.size))
  | _ => none
def zeroCs (P : Program) (t : TypeId) : Option (List C) := (zeroOf P t).map fun z => z.cells.toList.map constC
def fillC (pl : List (Nat × Nat)) : List C → List (Nat × List C) → Option (List C)
  | cs, [] => some cs
  | cs, (i, l) :: r => match pl[i]? with
    | some (off, sz) => match Nat.beq l.length sz, Nat.ble (off + sz) cs.length with
      | true, true => fillC pl (setN cs off l) r
      | _, _ => none
    | none => none
inductive BParts (σ : AS) : List (Nat × Operand) → List (Nat × List C) → Prop where
  | nil : BParts σ [] []
  | cons {i : Nat} {y : Operand} {u : V} {cs : List C} {ps : List (Nat × Operand)} {rs : List (Nat × List C)} (hy : σ.ev y = ⟨true, u⟩) (hc : u.cells = cs) (hp : cs.all (solidC σ) = true) (h0 : (cs.length == 0) = false) (hs : BParts σ ps rs) : BParts σ ((i, y) :: ps) ((i, cs) :: rs)

theorem evSolid {w0 own0 σ a w own} (hI : Inv w0 own0 σ a w own) {y : Operand} {u : V} {cs : List C} (hy : σ.ev y = ⟨true, u⟩) (hcs : u.cells = cs) (hp : cs.all (solidC σ) = true) (h0 : (cs.length == 0) = false) :
    (a.eval y).cells.size = cs.length ∧ ∀ (k : Nat) c, cs[k]? = some c → OkC w own σ ((a.eval y).cells.getD k undef) c := by
  have hpl : ∀ (k : Nat) c, cs[k]? = some c → solidC σ c = true := fun k c hk => List.all_eq_true.1 hp c (List.mem_of_getElem? hk)
  have hv := hI.evV hy
  have h00 : cs.length ≠ 0 := by simpa using h0
  obtain ⟨m, hm⟩ : ∃ m, cs.length = m + 1 := ⟨cs.length - 1, by omega⟩
  refine ⟨?_, fun k c hk => hv.cell_solid (i := k) (c := c) (by rw [hcs]; exact hk) (hpl k c hk)⟩
  have := evCells_len hI (y := y) (m := m + 1) (by rw [hy]) (by rw [hy]; show u.cells.length = m + 1; rw [hcs, hm]) (by omega) (fun c hc => by
    rw [hy] at hc
    have hc' : u = .one c := hc
    subst hc'
    have : cs[0]? = some c := by rw [← hcs]; rfl
    exact hpl 0 c this)
  simp at this
  omega

theorem setN_get : ∀ (l cs : List C) (off k : Nat), off + l.length ≤ cs.length → (setN cs off l)[k]? = if off ≤ k ∧ k < off + l.length then l[k - off]? else cs[k]?
  | [], cs, off, k, _ => by
    simp only [setN, List.length_nil]
    rw [if_neg (by omega)]
  | c :: l, cs, off, k, h => by
    simp only [List.length_cons] at h
    simp only [setN, List.length_cons]
    rw [setN_get l (cs.set off c) (off + 1) k (by simp; omega)]
    by_cases h1 : k = off
    · subst h1
      rw [if_neg (by omega), if_pos (by omega), List.getElem?_set, if_pos rfl, if_pos (by omega), show k - k = 0 by omega]
      rfl
    · by_cases h2 : off + 1 ≤ k ∧ k < off + 1 + l.length
      · rw [if_pos h2, if_pos (by omega), show k - off = (k - (off + 1)) + 1 by omega]
        rfl
      · rw [if_neg h2, if_neg (by omega), List.getElem?_set, if_neg (by omega)]

theorem fill_ok {w0 own0 σ a w own} (hI : Inv w0 own0 σ a w own) {pl : List (Nat × Nat)} {ps : List (Nat × Operand)} {rs : List (Nat × List C)} (h : BParts σ ps rs) : ∀ {cs cs' : List C} {vals : Array Value}, fillC pl cs rs = some cs' → vals.size = cs.length → (∀ (j : Nat) c, cs[j]? = some c → OkC w own σ (vals.getD j undef) c) →
    ∃ r, Instr.fill (pl.toArray[·]?) vals (ps.map fun q => (q.1, a.eval q.2)) = some r ∧ r.size = cs'.length ∧ ∀ (j : Nat) c, cs'[j]? = some c → OkC w own σ (r.getD j undef) c := by
  induction h with
  | nil => intro cs cs' vals hf hl hv; cases hf; exact ⟨vals, rfl, hl, hv⟩
  | @cons i y u l ps rs hy hc hp h0 hs ih =>
    intro cs cs' vals hf hl hv
    simp only [fillC] at hf
    cases hpl : pl[i]? with
    | none => rw [hpl] at hf; cases hf
    | some q =>
      obtain ⟨off, sz⟩ := q
      rw [hpl] at hf
      simp only at hf
      cases hb1 : Nat.beq l.length sz with
      | false => rw [hb1] at hf; cases hf
      | true =>
        cases hb2 : Nat.ble (off + sz) cs.length with
        | false => rw [hb1, hb2] at hf; cases hf
        | true =>
          rw [hb1, hb2] at hf
          simp only at hf
          have e1 : l.length = sz := Nat.eq_of_beq_eq_true hb1
          have e2 : off + sz ≤ cs.length := Nat.le_of_ble_eq_true hb2
          obtain ⟨k1, k2⟩ := evSolid hI hy hc hp h0
          have hfold := fun x => foldl_set_get off (a.eval y).cells.toList 0 vals x
          have hz : ((a.eval y).cells.toList.zipIdx 0).foldl (fun cs (p : Value × Nat) => cs.setIfInBounds (off + p.2) p.1) vals = (a.eval y).cells.zipIdx.foldl (fun cs (p : Value × Nat) => cs.setIfInBounds (off + p.2) p.1) vals := by
            rw [← Array.foldl_toList, Array.toList_zipIdx]
          have hs1 := (hfold 0).1
          rw [hz] at hs1
          obtain ⟨r, g1, g2, g3⟩ := ih (vals := (a.eval y).cells.zipIdx.foldl (fun cs (p : Value × Nat) => cs.setIfInBounds (off + p.2) p.1) vals) hf (by rw [hs1, setN_len, hl]) (fun j c hj => by
            rw [setN_get l cs off j (by omega)] at hj
            have h2 := (hfold j).2.1
            have h3 := (hfold j).2.2
            rw [hz] at h2 h3
            have hll : (a.eval y).cells.toList.length = l.length := by simpa using k1
            split at hj
            · rename_i hin
              rw [h2 ⟨by omega, by omega, by omega⟩]
              have := k2 (j - off) c hj
              have e : (a.eval y).cells.toList.getD (j - off - 0) undef = (a.eval y).cells.getD (j - off) undef := by
                simp only [List.getD_eq_getElem?_getD, Array.getElem?_toList, Array.getD_eq_getD_getElem?, Nat.sub_zero]
              rw [e]; exact this
            · rename_i hout
              rw [h3 (by omega)]
              exact hv j c hj)
          refine ⟨r, ?_, g2, g3⟩
          simp only [List.map_cons, Instr.fill]
          have hpl' : pl.toArray[i]? = some (off, sz) := by simpa using hpl
          have hc1 : ¬ ((a.eval y).cells.size ≠ sz) := by simp [k1, e1]
          have hc2 : ¬ (off + (a.eval y).cells.size > vals.size) := by omega
          simp only [hpl', hc1, hc2, decide_false, Bool.or_self, Bool.false_eq_true, if_false]
          exact g1

theorem zeroCs_ok {P : Program} {t : TypeId} {cs : List C} (h : zeroCs P t = some cs) : ∃ I z, P.info? t = some I ∧ I.zero = some z ∧ z.cells.size = cs.length ∧ ∀ {w own σ} (j : Nat) c, cs[j]? = some c → OkC w own σ (z.cells.getD j undef) c := by
  simp only [zeroCs, zeroOf, Option.map_eq_some_iff, Option.bind_eq_some_iff] at h
  obtain ⟨z, ⟨I, hI, hz⟩, rfl⟩ := h
  refine ⟨I, z, hI, hz, by simp, fun {w own σ} j c hj => ?_⟩
  simp only [List.getElem?_map, Option.map_eq_some_iff, Array.getElem?_toList] at hj
  obtain ⟨v, hv, rfl⟩ := hj
  rw [Array.getD_eq_getD_getElem?, hv]
  exact constC_ok v

section
variable {P : Program} {o : Oper} {σ : AS} {d : Nat} (hd : o.dst = some d) (hn : d < σ.n)
include hd hn
theorem step_build {t : TypeId} {ps : List (Nat × Operand)} (ho : o.op = .build t ps.toArray) {pl : List (Nat × Nat)} (hpl : structPl P t = some pl) {cs0 : List C} (hz : zeroCs P t = some cs0) {rs : List (Nat × List C)} (hps : BParts σ ps rs) {cs : List C} (hf : fillC pl cs0 rs = some cs) :
    Step P o σ (σ.setS d ⟨true, .agg cs⟩) :=
  Step.value hd hn fun w0 own0 a w own hI => by
    obtain ⟨I, z, h1, h2, h3, h4⟩ := zeroCs_ok hz
    obtain ⟨r, k1, k2, k3⟩ := fill_ok hI hps (vals := z.cells) hf h3 (fun j c hj => h4 j c hj)
    refine ⟨.agg r, ?_, ⟨r, rfl, k2, k3⟩⟩
    have hb : P.built t ((ps.map fun q => (q.1, a.eval q.2)).toArray).toList = some r := by
      unfold structPl at hpl
      cases hu : P.underlying t with
      | none => rw [hu] at hpl; cases hpl
      | some D =>
        rw [hu] at hpl
        cases D <;> try (cases hpl; done)
        rename_i fs
        simp only at hpl
        simp only [Program.built, h1, hu, h2, hpl]
        exact k1
    have e1 : (ps.toArray.map fun x => (x.1, a.eval x.2)) = (ps.map fun q => (q.1, a.eval q.2)).toArray := by simp
    have hrun := run_build (P := P) w t (ps.map fun q => (q.1, a.eval q.2)).toArray r hb
    simp only [execOp, ho, Sem.run_bind]
    rw [e1, hrun]
    rfl

end

/-! ### arrays told in other words, at once -/
theorem Le.eqv {σ σ' : AS} (hn : σ.n = σ'.n) (hs : σ'.s = σ.s) (hb : σ'.box = σ.box) (ha : ∀ d k, Eqv (σ.arr d k) (σ'.arr d k)) : Le σ σ' := by
  intro w0 own0 a w own h
  have hnode : ∀ p e sz n' f, σ'.node p = .sl e sz n' f → ∃ g, σ.node p = .sl e sz n' g := by
    intro p e sz n' f hp
    obtain ⟨r, ps⟩ := p
    cases r with
    | arr d k => exact (ha d k).follow ps hp
    | box d =>
      cases ps with
      | nil => simp [AS.node] at hp
      | cons x ps =>
        obtain ⟨i, j⟩ := x
        cases i with
        | succ i => simp [AS.node] at hp
        | zero => simp only [AS.node, hb] at hp ⊢; exact ⟨f, hp⟩
  have hk : ∀ p, KeepP w w own own σ σ' p := fun p => ⟨fun e sz n' f hp => hnode p e sz n' f hp, fun d _ hd => by rw [← hb]; exact hd, fun _ b hb' => ⟨hb', fun c e hc => ⟨c, hc, rfl⟩⟩⟩
  refine ⟨own, h.trans ⟨rfl, rfl, rfl, Nat.le_refl _⟩ (fun _ _ _ => rfl) (fun b hb => ⟨hb, rfl⟩) (fun k => ?_) h.inj (fun b p hp => ⟨(h.rng b p hp).1, .inl (by rw [hp]; simp)⟩) hn.symm (fun t ht => ?_) (fun d hd => ?_) (fun d k e sz n' f hd => ?_) (Kept.of fun b k hb => ⟨hb, rfl⟩)⟩
  · have h1 := ha FF k
    have h2 := h.noff k
    rw [h2] at h1
    generalize σ'.arr FF k = x at h1
    cases h1; rfl
  · rw [hs]; exact ht.keepAll hk
  · rw [hb] at hd ⊢
    obtain ⟨b, c, e, h1, h2, h3, h4⟩ := h.boxes d hd
    exact ⟨b, c, e, h1, h2, h3, fun j x hx => (h4 j x hx).keepAll hk⟩
  · have h1 := ha d k
    rw [hd] at h1
    obtain ⟨g, hg, hfg⟩ := h1.of_sl
    obtain ⟨v, hv⟩ := h.arrs d k e sz n' g hg
    exact ⟨v, Eqv.ok (.rows hfg) hv⟩

theorem Le.eqvArr {σ : AS} {d k s : Nat} {t t' : T} {x : SV} (h : Eqv t t') : Le ((σ.setArr d k t).setS s x) ((σ.setArr d k t').setS s x) :=
  Le.eqv rfl rfl rfl (fun d' k' => by
    show Eqv ((σ.setArr d k t).arr d' k') ((σ.setArr d k t').arr d' k')
    rw [setArr_arr, setArr_arr]
    split
    · exact h
    · exact .refl _)

section
variable {P : Program} {o : Oper} {σ : AS} {dst : Nat} (hd : o.dst = some dst) (hn : dst < σ.n)
include hd hn
theorem step_buildVT {t len e sz by' : Nat} {ps : List (Nat × Operand)} {rs : List (List T)} (ho : o.op = .buildSlice t len ps.toArray) (ht : sliceT P t = some ⟨e, sz, by'⟩) (t' : T) {g' : Nat → List T}
    (hps : BRows σ sz 0 ps rs) (hlen : rs.length = len) (hsmall : Nat.ble (len * sz) 1024 = true) (ht' : t' = .sl e sz len g') (hg : ∀ i, i < len → rowsL rs i = g' i) : Step P o σ (σ.setS dst ⟨true, .one (.v t')⟩) := by
  subst ht'
  intro w0 own0 a w own hI K Q hK
  refine step_buildV hd hn ho ht hps hlen hsmall w0 own0 a w own hI K Q fun a' w' own' hI' => ?_
  refine hK a' w' own' ?_
  have hlt : dst < (σ.setS dst ⟨true, .one (.v (.sl e sz len (rowsL rs)))⟩).n := hn
  have e1 : ((σ.setS dst ⟨true, .one (.v (.sl e sz len (rowsL rs)))⟩).setS dst ⟨true, .one (.v (.sl e sz len g'))⟩) = σ.setS dst ⟨true, .one (.v (.sl e sz len g'))⟩ := by
    simp only [AS.setS, AS.mk.injEq, true_and, and_true]
    funext t
    cases Nat.beq t dst <;> rfl
  rw [← e1]
  refine hI'.retell ?_
  have hs := hI'.slots dst
  have h1 : (σ.setS dst ⟨true, .one (.v (.sl e sz len (rowsL rs)))⟩).s dst = ⟨true, .one (.v (.sl e sz len (rowsL rs)))⟩ := by simp [AS.setS]
  rw [h1] at hs
  have hv : Ok w' own' none (a'.tmps.getD dst undef) (.sl e sz len (rowsL rs)) := hs
  show Ok w' own' none (a'.tmps.getD dst undef) (.sl e sz len g')
  generalize a'.tmps.getD dst undef = v at hv
  cases hv with
  | nil => exact .nil _ _ _
  | emp a e sz f hcap => exact .emp a _ _ _ hcap
  | fsl x h1 h2 h3 h4 h5 h6 => exact .fsl x h1 h2 (fun i hi => by rw [← hg i hi]; exact h3 i hi) h4 h5 (fun i j hi hj => by rw [← hg i hi]; exact h6 i j hi hj)
end
theorem rows0 {r g : Nat → List T} : ∀ i, i < 0 → r i = g i := fun i hi => absurd hi (by omega)
theorem rows1 {r g : Nat → List T} (h : r 0 = g 0) : ∀ i, i < 1 → r i = g i := fun i hi => by
  obtain rfl : i = 0 := by omega
  exact h
theorem rows2 {r g : Nat → List T} (h : r 0 = g 0) (h1 : r 1 = g 1) : ∀ i, i < 2 → r i = g i := fun i hi => by
  rcases (by omega : i = 0 ∨ i = 1) with rfl | rfl
  · exact h
  · exact h1

theorem DRun.lastS {P : Program} {ops : Array Oper} {o : Oper} {σ : AS} {t : Nat} {x : SV} {K : AS → Prop} (hg : o.guard = none) (h : Step P o σ (σ.setS t x)) (hk : K (σ.setS t x)) : DRun P ops [o] [⟨[], [], true⟩] σ K :=
  DRun.last (σ' := σ.setS t x) hg rfl h hk

end Go.Mh
