/- From the contract of a law to what its row asks. No condition. -/
import Derived.Test.YtkmacjdigkaabaaFu
import Derived.ProofKit
import Derived.Deep.Slices
set_option linter.unusedVariables false
set_option linter.unusedSimpArgs false
set_option linter.unnecessarySimpa false
namespace Go.Mh
open Go Go.ChangeShapes Go.WideShapes Go.ChangeAt Go.RowKit Go.Deep

/-! ### how a law's arguments read -/
structure Rd (P : Program) (t : TypeId) (α : Type) (tr : α → List T) : Prop where
  len : ∀ v, (tr v).length = P.cellsOf t
  rd : ∀ {H : Type} {enc : TypeId × Value → H} {w : World} {spare : Nat → Bool} {held : Bool} {fuel : Nat} {cs : List Value} {x : DataW H × List MemPlace}, DataW.trod enc P w 0 spare held fuel t cs = some x →
    ∃ v : α, cs.length = (tr v).length ∧ ∀ j t', (tr v)[j]? = some t' → Ok w noOwn none (cs.getD j undef) t'

section
variable {P : Program} {t e : TypeId}

theorem Rd.int {k : IntKind} (ht : P.underlying t = some (.int k)) (hc : P.cellsOf t = 1) : Rd P t Int (fun n => [.int k n]) where
  len := fun _ => hc.symm
  rd := fun h => by
    obtain ⟨n, rfl, _, _⟩ := DataW.trod_int ht h
    refine ⟨n, rfl, fun j t' hj => ?_⟩
    cases j with
    | zero => cases hj; exact .int _ _
    | succ j => simp at hj
theorem Rd.bool (ht : P.underlying t = some .bool) (hc : P.cellsOf t = 1) : Rd P t Bool (fun n => [.bool n]) where
  len := fun _ => hc.symm
  rd := fun h => by
    obtain ⟨n, rfl, _⟩ := DataW.trod_bool ht h
    refine ⟨n, rfl, fun j t' hj => ?_⟩
    cases j with
    | zero => cases hj; exact .bool _
    | succ j => simp at hj
theorem Rd.str (ht : P.underlying t = some .string) (hc : P.cellsOf t = 1) : Rd P t ByteArray (fun n => [.str n]) where
  len := fun _ => hc.symm
  rd := fun h => by
    obtain ⟨n, rfl, _, hs⟩ := DataW.trod_string ht h
    refine ⟨n, rfl, fun j t' hj => ?_⟩
    cases j with
    | zero => cases hj; exact .str _ hs
    | succ j => simp at hj

theorem Rd.slice {α : Type} [Inhabited α] {tr : α → List T} {sz : Nat} (he : Rd P e α tr) (ht : P.underlying t = some (.slice e)) (hc : P.cellsOf t = 1) (hsz : P.cellsOf e = sz) (hpos : 0 < sz) :
    Rd P t (List α) (fun l => [.sl e sz l.length (fun i => tr (l.getD i default))]) where
  len := fun _ => hc.symm
  rd := fun {H enc w spare held fuel cs x} h => by
    subst hsz
    rcases open_slice ht h with ⟨rfl, _⟩ | ⟨a, len, cap, m, n, D, Pl, rfl, hb, hl, hm, hmm, _, hx⟩
    · refine ⟨[], rfl, fun j t' hj => ?_⟩
      cases j with
      | zero => cases hj; exact .nil _ _ _
      | succ j => simp at hj
    · have hlm : len ≤ m := by rw [hmm]; split <;> omega
      have hv : ∀ i, ∃ v : α, i < len → ∃ cs' : List Value, w.cells? 0 (a.add (i * P.cellsOf e)) (P.cellsOf e) = some cs' ∧ cs'.length = (tr v).length ∧ ∀ j t', (tr v)[j]? = some t' → Ok w noOwn none (cs'.getD j undef) t' := by
        intro i
        by_cases hi : i < len
        · obtain ⟨cs', h1, h2⟩ := hx i (by omega)
          obtain ⟨v, h3, h4⟩ := he.rd h2
          exact ⟨v, fun _ => ⟨cs', h1, h3, h4⟩⟩
        · exact ⟨default, fun h => absurd h hi⟩
      let V : Nat → α := fun i => Classical.choose (hv i)
      have hV : ∀ i, i < len → _ := fun i => Classical.choose_spec (hv i)
      refine ⟨(List.range len).map V, rfl, fun j t' hj => ?_⟩
      cases j with
      | succ j => simp at hj
      | zero =>
        simp only [List.getElem?_cons_zero, Option.some.injEq, List.length_map, List.length_range] at hj
        subst hj
        show Ok w noOwn none (.slice (some a) len cap) _
        by_cases h0 : len = 0
        · subst h0; exact .emp a _ _ _ hm
        · obtain ⟨b, off, sp⟩ := a
          have hcell : ∀ i j, i < len → j < P.cellsOf e → ∃ cs' : List Value, cs'.length = P.cellsOf e ∧ w.cell? ((⟨b, off, sp⟩ : Addr).add (i * P.cellsOf e) |>.add j) = some (cs'.getD j undef) ∧ ∀ t', (tr (V i))[j]? = some t' → Ok w noOwn none (cs'.getD j undef) t' := by
            intro i j hi hj
            obtain ⟨cs', h1, h2, h3⟩ := hV i hi
            obtain ⟨_, k2, k3⟩ := World.cells?_some h1
            refine ⟨cs', k2, ?_, fun t' ht' => h3 j t' ht'⟩
            rw [k3 j hj, List.getD_eq_getElem?_getD, List.getElem?_eq_getElem (by omega)]
            rfl
          have hsp : sp = none := by
            obtain ⟨cs', k1, k2, _⟩ := hcell 0 0 (by omega) hpos
            simp only [Nat.zero_mul, Addr.add, if_pos] at k2
            cases sp with
            | none => rfl
            | some q =>
              unfold World.cell? at k2
              split at k2
              · simp at k2
              · cases k2
          subst hsp
          have hadd : ∀ i j, (((⟨b, off, none⟩ : Addr).add (i * P.cellsOf e)).add j) = ⟨b, off + i * P.cellsOf e + j, none⟩ := by
            intro i j
            have h1 : ∀ (o k : Nat), (⟨b, o, none⟩ : Addr).add k = ⟨b, o + k, none⟩ := fun o k => by unfold Addr.add; split <;> simp_all
            rw [h1, h1]
          refine .fsl (fun i j => (w.cell? ⟨b, off + i * P.cellsOf e + j, none⟩).getD undef) hl hm (fun i hi => he.len _) (fun _ _ => rfl) (fun i j hi hj => ?_) (fun i j hi hj => ?_)
          · obtain ⟨cs', k1, k2, _⟩ := hcell i j hi hj
            rw [hadd] at k2
            rw [k2]; rfl
          · obtain ⟨cs', k1, k2, k3⟩ := hcell i j hi hj
            rw [hadd] at k2
            simp only [k2, Option.getD_some]
            have e1 : ((List.range len).map V).getD i default = V i := by simp [List.getD_eq_getElem?_getD, hi]
            rw [e1]
            have hlt : j < (tr (V i)).length := by rw [he.len]; exact hj
            have e2 : (tr (V i)).getD j .dead = (tr (V i))[j] := by rw [List.getD_eq_getElem?_getD, List.getElem?_eq_getElem hlt]; rfl
            rw [e2]
            exact k3 _ (List.getElem?_eq_getElem hlt)

/-- the fields of a struct, one behind the other -/
structure RdF (P : Program) (fs : List Field) (off : Nat) (α : Type) (tr : α → List T) : Prop where
  rd : ∀ {H : Type} {enc : TypeId × Value → H} {w : World} {spare : Nat → Bool} {held : Bool} {fuel : Nat} {cs : List Value} {xs : List (DataW H × List MemPlace)},
    (∀ (i : Nat) (f : Field), fs[i]? = some f → DataW.trod enc P w 0 spare held fuel f.type ((cs.drop f.offset).take (P.cellsOf f.type)) = xs[i]?) → fs.length = xs.length →
    ∃ v : α, ∀ j t', (tr v)[j]? = some t' → Ok w noOwn none (cs.getD (off + j) undef) t'
  len : ∀ v, (tr v).length = (fs.map fun f => P.cellsOf f.type).sum

theorem RdF.nil {off : Nat} : RdF P [] off Unit (fun _ => []) where
  rd := fun _ _ => ⟨(), fun j t' h => by simp at h⟩
  len := fun _ => rfl
theorem RdF.cons {f : Field} {fs : List Field} {off m : Nat} {α β : Type} {tr : α → List T} {tr' : β → List T} (h : Rd P f.type α tr) (ho : f.offset = off) (hm : P.cellsOf f.type = m) (hs : RdF P fs (off + m) β tr') :
    RdF P (f :: fs) off (α × β) (fun v => tr v.1 ++ tr' v.2) where
  len := fun v => by simp only [List.length_append, h.len, hs.len, List.map_cons, List.sum_cons]
  rd := fun {H enc w spare held fuel cs xs} hx hl => by
    subst hm
    match xs, hl with
    | [], hl => simp at hl
    | x :: xs, hl =>
      have h0 := hx 0 f rfl
      simp only [List.getElem?_cons_zero] at h0
      obtain ⟨v, k1, k2⟩ := h.rd h0
      obtain ⟨v', k3⟩ := hs.rd (cs := cs) (xs := xs) (fun i g hg => by have := hx (i + 1) g (by simpa using hg); simpa using this) (by simpa using hl)
      refine ⟨(v, v'), fun j t' hj => ?_⟩
      rw [List.getElem?_append] at hj
      split at hj
      · rename_i hlt
        have := k2 j t' hj
        rw [h.len] at hlt
        rw [List.getD_eq_getElem?_getD, List.getElem?_take, if_pos hlt, List.getElem?_drop, ho, ← List.getD_eq_getElem?_getD] at this
        exact this
      · rename_i hlt
        have := k3 _ t' hj
        rw [h.len] at hlt hj this
        rwa [show off + P.cellsOf f.type + (j - P.cellsOf f.type) = off + j by omega] at this

theorem Rd.struct {fs : List Field} {α β : Type} {tr : α → List T} {tr' : β → List T} {m : Nat} (ht : P.underlying t = some (.struct fs.toArray)) (hc : P.cellsOf t = m) (hf : RdF P fs 0 α tr) (hsum : (fs.map fun f => P.cellsOf f.type).sum = m) (g : α → β) (hg : ∀ v, tr' (g v) = tr v) (hlen : ∀ v, (tr' v).length = m) : Rd P t β tr' where
  len := fun v => by rw [hlen, hc]
  rd := fun h => by
    obtain ⟨xs, n, _, rfl, h1, h2, h3⟩ := DataW.trod_struct ht h
    obtain ⟨v, hv⟩ := hf.rd (fun i f hi => h3 i f (by simpa using hi)) (by simpa using h2.symm)
    refine ⟨g v, by rw [h1, hlen, hc], fun j t' hj => ?_⟩
    have := hv j t' (by rw [← hg]; exact hj)
    simpa using this
end

/-! ### an argument as it comes in -/
structure Arg (P : Program) (t : TypeId) (α : Type) (pv : α → PV) : Prop where
  get : ∀ {H : Type} {enc : TypeId × Value → H} {w : World} {base : Nat} {v : Value} {d : DataW H} {ps : List MemPlace}, Value.okWide P w .any base t v → DataW.Trod enc P w 0 (fun _ => true) true t v d ps → ∃ x : α, OkP w noOwn (fun _ => none) v (pv x)
section
variable {P : Program} {t : TypeId} {α : Type}
theorem one_cell {v : Value} {c : Value} (h : v.cells.toList = [c]) (hv : ∀ cs, v ≠ .agg cs) : v = c := by
  cases v <;> first | (exact absurd rfl (hv _)) | (simp only [Value.cells] at h; simpa using h)
theorem Arg.one {tr : α → T} (h : Rd P t α (fun v => [tr v])) (hn : ∀ (w : World) (base : Nat) (cs : Array Value), ¬ Value.okWide P w .any base t (.agg cs)) : Arg P t α (fun v => .one (tr v)) where
  get := fun {H enc w base v d ps} hval ⟨fuel, hd⟩ => by
    obtain ⟨x, h1, h2⟩ := h.rd hd
    have hlen : v.cells.toList.length = 1 := h1
    obtain ⟨c, hc⟩ := List.length_eq_one_iff.1 hlen
    have hvc := one_cell hc (fun cs e => hn w base cs (e ▸ hval))
    refine ⟨x, ?_⟩
    have := h2 0 (tr x) rfl
    rw [hc] at this
    rw [hvc]
    exact this
theorem noAgg_sl {e : TypeId} (ht : P.underlying t = some (.slice e)) (w : World) (base : Nat) (cs : Array Value) : ¬ Value.okWide P w .any base t (.agg cs) := by simp [Value.okWide, ht, Cell.okWide, Cell.ok]
theorem Arg.agg {tr : α → List T} {fs : Array Field} (h : Rd P t α tr) (ht : P.underlying t = some (.struct fs)) : Arg P t α (fun v => .agg (tr v)) where
  get := fun {H enc w base v d ps} hval ⟨fuel, hd⟩ => by
    simp only [Value.okWide, ht] at hval
    obtain ⟨cs, rfl, _, _⟩ := hval
    obtain ⟨x, h1, h2⟩ := h.rd hd
    refine ⟨x, cs, rfl, by simpa [Value.cells] using h1, fun j t' hj => ?_⟩
    have := h2 j t' hj
    have e : (Value.agg cs).cells.toList.getD j undef = cs.getD j undef := by simp only [Value.cells, List.getD_eq_getElem?_getD, Array.getElem?_toList, Array.getD_eq_getD_getElem?]
    rwa [e] at this
end

theorem Ok.noF {w : World} {v t} (h : Ok w noOwn none v t) : Ok w (ownF w (fun _ => false)) none v t := h.frozen ⟨fun b _ _ => ⟨by simp [ownF], rfl⟩⟩
theorem OkP.noF {w : World} {v u} (h : OkP w noOwn (fun _ => none) v u) : OkP w (ownF w (fun _ => false)) (fun _ => none) v u := by
  cases u with
  | one t => exact Ok.noF h
  | agg ts => obtain ⟨xs, h1, h2, h3⟩ := h; exact ⟨xs, h1, h2, fun j t ht => (h3 j t ht).noF⟩
  | tup vs => exact h

section
variable {H : Type} {enc : TypeId × Value → H} {P : Program}
theorem trodAll_below (hl : laidOutB P = true) {W W' : World} (hb : Below W.heap.size W W') : ∀ {ts : List TypeId} {vs : List Value} {ds : List (DataW H)} {ps : List MemPlace}, (∀ t ∈ ts, P.readableRec t = true ∧ t < P.types.size) → (∀ x ∈ ps, x.block < W.heap.size) →
    DataW.TrodAll enc P W 0 (fun _ => true) true ts vs ds ps → DataW.TrodAll enc P W' 0 (fun b => decide (b < W.heap.size)) true ts vs ds ps
  | [], vs, ds, ps, _, _, h => by
    obtain ⟨rfl, rfl, rfl⟩ := trodAll_nil h
    exact h
  | t :: ts, vs, ds, ps, ht, hlt, h => by
    obtain ⟨v, vs1, d, ds1, a, b, rfl, rfl, rfl, h1, h2⟩ := trodAll_cons h
    refine ⟨a, b, ?_, trodAll_below hl hb (fun t' ht' => ht t' (by simp [ht'])) (fun x hx => hlt x (by simp [hx])) h2, rfl⟩
    exact Below.trod hl (ht t (by simp)).1 (ht t (by simp)).2 h1 hb (fun x hx => hlt x (by simp [hx]))

/-- from a law's contract to what its row asks of a call -/
theorem law_post {f : FuncId} {fn : Func} {s : ChangeSpec} {apart : Bool} {tb : TypeId} (hl : laidOutB P = true) (hread0 : fn.params.toList.all (fun t => P.readableRec t && Nat.blt t P.types.size) = true) (hres : fn.resultTypes = #[tb]) (hbool : P.underlying tb = some .bool)
    (hvars : s.vars = []) {W : World} {args : Array Value} {ds gs : List (DataW H)} {before : List MemPlace} (hsr : (s.fn H (ds ++ gs)).results = [.lit (.bool true)]) (hsa : (s.fn H (ds ++ gs)).args = ds) (hsv : (s.fn H (ds ++ gs)).vars = [])
    (hW : DataW.Whole enc P fn.params.toList s.vars apart W args.toList ds gs before) {pvs : List PV} (hn : args.size = pvs.length) (hp : ∀ i u, pvs[i]? = some u → OkP W noOwn (fun _ => none) (args.getD i undef) u) (hspec : ASpec P f pvs (.one (.bool true))) :
    Calls P f args W fun e W' => ∃ v, e = .returned v ∧ s.post enc P fn apart true false false W args v W' := by
  have hread : ∀ t ∈ fn.params.toList, P.readableRec t = true ∧ t < P.types.size := fun t ht => by
    have := List.all_eq_true.1 hread0 t ht
    simpa only [Bool.and_eq_true, Nat.blt_eq] using this
  refine (hspec W (fun _ => false) args hn (fun i u hu => (hp i u hu).noF)).mono ?_
  rintro e W' ⟨v, own', rfl, hret, hok⟩
  have hv : v = .bool true := Ok.sc (t := .bool true) hok rfl
  subst hv
  have hb : Below W.heap.size W W' := ⟨hret.same.os, hret.same.tape, hret.same.output, hret.same.size, hret.old⟩
  have hlt := hW.lt
  have hW' := hW
  obtain ⟨p, q, h1, h2, rfl, h3, h4⟩ := hW
  rw [hvars] at h2
  obtain ⟨rfl, rfl⟩ := trodVars_none h2
  refine ⟨_, rfl, ds, [], p ++ [], [], p, [], hW', ?_, ?_, ?_, hb.frame _, fun h => by cases h⟩
  · rw [hsr, hres]
    refine ⟨[], [], ⟨1, ?_⟩, rfl, rfl⟩
    simp [DataW.trod, hbool, Value.cells]
  · rw [hsa]
    exact trodAll_below hl hb hread (fun x hx => hlt x (by simp [hx])) h1
  · rw [hsv, hvars]; rfl
end

end Go.Mh
