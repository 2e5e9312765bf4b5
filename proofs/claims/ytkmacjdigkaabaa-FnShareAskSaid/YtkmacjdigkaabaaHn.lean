/- Contracts of functions of the program, each met by its body; conditions stand in each statement. No condition. -/
import Derived.Test.YtkmacjdigkaabaaHj
import Derived.Test.YtkmacjdigkaabaaHa
import Derived.Shelf.SlSortFuncK.WholeK
import Derived.Shelf.GgSortFunc.Tiny
set_option linter.unusedVariables false
set_option linter.unusedSimpArgs false
set_option linter.unnecessarySimpa false
namespace Go.Mh
open Go Go.Sort Go.Shelf Go.Lib Go.Proofs

/-! ### the library's sort.Slice, for rows that bear a text -/
def RowV (k jn : Nat) : Type := {l : List Value // l.length = k ∧ (∀ v ∈ l, v.oneCell' = true) ∧ (jn < k → ∃ s, l[jn]? = some (.string s))}
instance (k jn : Nat) : Inhabited (RowV k jn) := ⟨⟨List.replicate k (.string ⟨#[]⟩), by simp, by intro v hv; rw [List.eq_of_mem_replicate hv]; rfl, fun h => ⟨⟨#[]⟩, by simp [h]⟩⟩⟩
end Go.Mh

set_option linter.unusedVariables false
namespace Go.Mh
open Go

/-! ### an append to a slice in a row; the result goes on at a root of its own -/
def detOwn (own : Own) (r : Root) (i j : Nat) (d : Nat) : Own := fun b => match own b with
  | some q => match q.r.beq r with
    | true => match q.p with
      | (i', j') :: s => match Nat.beq i' i, Nat.beq j' j with
        | true, true => some ⟨.arr d 0, s⟩
        | _, _ => some q
      | [] => some q
    | false => match Nat.beq q.r.num d with
      | true => none
      | false => some q
  | none => none
theorem detOwn_in {own : Own} {r : Root} {i j d b : Nat} {s : List (Nat × Nat)} (h : own b = some ⟨r, (i, j) :: s⟩) : detOwn own r i j d b = some ⟨.arr d 0, s⟩ := by
  simp only [detOwn, h, Root.beq_refl, Nat.beq_refl]
theorem detOwn_row {own : Own} {r : Root} {i j d b : Nat} {q : List (Nat × Nat)} (h : own b = some ⟨r, q⟩) (hq : ∀ s, q ≠ (i, j) :: s) : detOwn own r i j d b = some ⟨r, q⟩ := by
  simp only [detOwn, h, Root.beq_refl]
  cases q with
  | nil => rfl
  | cons x s =>
    obtain ⟨i', j'⟩ := x
    cases h1 : Nat.beq i' i with
    | true =>
      cases h2 : Nat.beq j' j with
      | true => exact absurd (by rw [Nat.eq_of_beq_eq_true h1, Nat.eq_of_beq_eq_true h2]) (hq s)
      | false => simp only [h1, h2]
    | false => simp only [h1]
theorem detOwn_off {own : Own} {r : Root} {i j d b : Nat} {q : Place} (h : own b = some q) (h1 : q.r ≠ r) (h2 : q.r.num ≠ d) : detOwn own r i j d b = some q := by
  simp only [detOwn, h, beq_root_false h1, beq_false h2]
theorem detOwn_some {own : Own} {r : Root} {i j d b : Nat} {y : Place} (h : detOwn own r i j d b = some y) :
    (∃ s, own b = some ⟨r, (i, j) :: s⟩ ∧ y = ⟨.arr d 0, s⟩) ∨ (own b = some y ∧ y.r = r ∧ ∀ s, y.p ≠ (i, j) :: s) ∨ (own b = some y ∧ y.r ≠ r ∧ y.r.num ≠ d) := by
  unfold detOwn at h
  cases ho : own b with
  | none => rw [ho] at h; cases h
  | some x =>
    obtain ⟨r', ps⟩ := x
    rw [ho] at h
    simp only at h
    cases h1 : r'.beq r with
    | true =>
      rw [h1] at h
      have := Root.beq_eq h1
      subst this
      cases ps with
      | nil => cases h; exact .inr (.inl ⟨rfl, rfl, fun s e => by cases e⟩)
      | cons z s =>
        obtain ⟨i', j'⟩ := z
        simp only at h
        cases h2 : Nat.beq i' i with
        | true =>
          cases h3 : Nat.beq j' j with
          | true =>
            rw [h2, h3] at h
            cases h
            exact .inl ⟨s, by rw [Nat.eq_of_beq_eq_true h2, Nat.eq_of_beq_eq_true h3], rfl⟩
          | false =>
            rw [h2, h3] at h
            cases h
            exact .inr (.inl ⟨rfl, rfl, fun s' e => by cases e; simp at h3⟩)
        | false =>
          rw [h2] at h
          cases h
          exact .inr (.inl ⟨rfl, rfl, fun s' e => by cases e; simp at h2⟩)
    | false =>
      rw [h1] at h
      cases h2 : Nat.beq r'.num d with
      | true => simp only [h2] at h; cases h
      | false =>
        simp only [h2] at h
        cases h
        refine .inr (.inr ⟨rfl, fun e => ?_, fun e => ?_⟩)
        · have e' : r' = r := e
          rw [e', Root.beq_refl] at h1; cases h1
        · have e' : r'.num = d := e
          rw [e', Nat.beq_refl] at h2; cases h2
theorem follow_deadA (s : List (Nat × Nat)) : follow .dead s = .dead := by cases s <;> rfl

theorem step_appendN {P : Program} {o : Oper} {σ : AS} {dst : Nat} (hd : o.dst = some dst) (hn : dst < σ.n) {t e sz by' n m : Nat} {x y : Operand} (ho : o.op = .call { callee := .builtin .append, args := #[x, y], argTypes := #[t, t] }) (ht : sliceT P t = some ⟨e, sz, by'⟩) (hfr : Free dst σ) {d k i j e0 sz0 n0 : Nat} {F : Nat → List T} {f g : Nat → List T} {e1 : Nat} {c : C}
    (hx : σ.ev x = ⟨true, .one (.ref (Place.push ⟨.arr d k, []⟩ i j))⟩) (hp : σ.arr d k = .sl e0 sz0 n0 F) (hi : i < n0) (hcell : (F i).getD j .dead = .sl e sz n f) (hy : σ.ev y = ⟨true, .one c⟩) (hc : ArgC σ c (.sl e1 sz m g)) (hfl : flatRows m g) (hb : (n + m) * by' ≤ 140737488355328) (hm : n + m ≤ 140737488355328) (hdd : Nat.beq d dst = false := by rfl) :
    Step P o σ (((σ.setArr d k (.sl e0 sz0 n0 (setRow F i j .dead))).setArr dst 0 (.sl e sz (n + m) (catF n f g))).setS dst ⟨true, .one (.ref ⟨.arr dst 0, []⟩)⟩) :=
  Step.make hd hn fun w0 own0 a w own hI0 => by
    have hdlt : dst < RR := by have := hI0.nf; omega
    have hdF : dst ≠ FF := by have := RR_lt_FF; omega
    have hdf : d ≠ FF := fun e => by subst e; rw [hI0.noff] at hp; cases hp
    have hdd' : d ≠ dst := fun e => by rw [e] at hdd; simp at hdd
    have hI := hI0.kill dst hdlt
    rw [hfr.kill] at hI
    generalize hown : killOwn own dst = own1 at hI
    have hpd : ∀ b q, own1 b = some q → q.r.num ≠ dst := fun b q hb e => by
      rw [← hown] at hb
      simp only [killOwn] at hb
      cases hq : own b with
      | none => rw [hq] at hb; cases hb
      | some q' =>
        rw [hq] at hb
        simp only [onRoot] at hb
        cases h2 : Nat.beq q'.r.num dst with
        | true => simp only [h2] at hb; cases hb
        | false => simp only [h2] at hb; cases hb; rw [e] at h2; simp at h2
    have hnd : σ.node (Place.push ⟨.arr d k, []⟩ i j) = .sl e sz n f := by
      rw [node_push σ ⟨.arr d k, []⟩ i j (e := e0) (sz := sz0) (n := n0) (f := F) (by simp only [AS.node, follow, hp]) hi]; exact hcell
    have hv := hI.ref (hI.evC hx) hnd
    obtain ⟨pl, hu⟩ := hc.okp hI (hI.evC hy)
    obtain ⟨v', w', own2, hr, h1, h2, h3, h4, h5, h6⟩ := append_core (P := P) (ty := o.type) ht hI.inj (fun b q hb => (hI.rng b q hb).1) hv hu hfl hb hm
    have hpp : (Place.push ⟨.arr d k, []⟩ i j) = ⟨.arr d k, [(i, j)]⟩ := rfl
    rw [hpp] at h3 h6
    let own3 := detOwn own2 (.arr d k) i j dst
    have h3' : ∀ b q, own1 b = some q → (∀ s, q ≠ ⟨.arr d k, (i, j) :: s⟩) → own3 b = some q ∧ w'.heap[b]? = w.heap[b]? := fun b q hb hq => by
      obtain ⟨g1, g2⟩ := h3 b q hb (fun s => by simpa using hq s)
      refine ⟨?_, g2⟩
      by_cases hqr : q.r = .arr d k
      · obtain ⟨r, ps⟩ := q
        simp only at hqr
        subst hqr
        exact detOwn_row g1 (fun s e => hq s (by rw [e]))
      · exact detOwn_off g1 hqr (hpd b q hb)
    have hf3 : Froz w' w' own2 own3 := ⟨fun b hb _ => ⟨by simp only [own3, detOwn, hb], rfl⟩⟩
    have hf : Froz w w' own1 own3 := ⟨fun b hb hlt => by
      obtain ⟨g1, g2⟩ := h2.h b hb hlt
      exact ⟨by simp only [own3, detOwn, g1], g2⟩⟩
    have hok : Ok w' own3 (some ⟨.arr dst 0, []⟩) v' (.sl e sz (n + m) (catF n f g)) := h6.moved hf3 (fun b s hb => ⟨by simpa using detOwn_in (s := s) (by simpa using hb), rfl⟩)
    have hinj : ∀ b b' q, own3 b = some q → own3 b' = some q → b = b' := fun b b' q hb hb' => by
      rcases detOwn_some hb with ⟨s, g1, g2⟩ | ⟨g1, g2, g3⟩ | ⟨g1, g2, g3⟩ <;> rcases detOwn_some hb' with ⟨s', l1, l2⟩ | ⟨l1, l2, l3⟩ | ⟨l1, l2, l3⟩
      · rw [g2] at l2; cases l2; exact h4 _ _ _ g1 l1
      · rw [g2] at l2; simp only [Root.arr.injEq] at l2; exact absurd l2.1.symm hdd'
      · rw [g2] at l3; exact absurd rfl l3
      · rw [l2] at g2; simp only [Root.arr.injEq] at g2; exact absurd g2.1.symm hdd'
      · exact h4 _ _ _ g1 l1
      · exact h4 _ _ _ g1 l1
      · rw [l2] at g3; exact absurd rfl g3
      · exact h4 _ _ _ g1 l1
      · exact h4 _ _ _ g1 l1
    have hrng : ∀ b q, own3 b = some q → b < w'.heap.size ∧ (own1 b ≠ none ∨ w.heap.size ≤ b) := fun b q hb => by
      rcases detOwn_some hb with ⟨s, g1, g2⟩ | ⟨g1, g2, g3⟩ | ⟨g1, g2, g3⟩ <;> exact h5 b _ g1
    let σ1 := (σ.setArr d k (.sl e0 sz0 n0 (setRow F i j .dead))).setArr dst 0 (.sl e sz (n + m) (catF n f g))
    have harr : ∀ d' k', σ1.arr d' k' = if d' = dst ∧ k' = 0 then .sl e sz (n + m) (catF n f g) else if d' = d ∧ k' = k then .sl e0 sz0 n0 (setRow F i j .dead) else σ.arr d' k' := fun d' k' => by
      show ((σ.setArr d k _).setArr dst 0 _).arr d' k' = _
      rw [setArr_arr, setArr_arr]
    have hK : ∀ p, onRoot dst p = false → KeepP w w' own1 own3 σ σ1 p := fun p hpn => by
      have hpn' : p.r.num ≠ dst := fun e => by simp [onRoot, e] at hpn
      obtain ⟨r, ps⟩ := p
      have hunder : ∀ s, ps = (i, j) :: s → r = .arr d k → σ1.node ⟨r, ps⟩ = .dead := fun s hs hr' => by
        subst hs; subst hr'
        simp only [AS.node, harr, if_neg (fun e0 : d = dst ∧ k = 0 => hdd' e0.1), and_self, if_true, follow, if_pos hi, Mh.setRow_self]
        have : ((F i).set j T.dead).getD j .dead = .dead := by
          rw [List.getD_eq_getElem?_getD, List.getElem?_set]
          simp only [if_true]
          split <;> rfl
        rw [this, follow_deadA]
      refine ⟨fun e' sz' n' f' hq => ?_, fun b hb => by cases hb; exact fun hb => hb, fun hal b hb => ?_⟩
      · cases r with
        | box b =>
          cases ps with
          | nil => simp [AS.node] at hq
          | cons x ps => obtain ⟨i', j'⟩ := x; cases i' with
            | zero => exact ⟨f', hq⟩
            | succ i' => simp [AS.node] at hq
        | arr d' k' =>
          have hne : ¬ (d' = dst ∧ k' = 0) := fun e0 => hpn' e0.1
          by_cases hdk : d' = d ∧ k' = k
          · obtain ⟨rfl, rfl⟩ := hdk
            simp only [AS.node, harr, if_neg hne, and_self, if_true] at hq
            obtain ⟨g', hg'⟩ := follow_setRow (fun s hs => by
              have := hunder s hs rfl
              simp only [AS.node, harr, if_neg hne, and_self, if_true] at this
              rw [this] at hq; cases hq) hq
            exact ⟨g', by simp only [AS.node, hp]; exact hg'⟩
          · simp only [AS.node, harr, if_neg hne, if_neg hdk] at hq
            exact ⟨f', hq⟩
      · have hnu : ∀ s, (⟨r, ps⟩ : Place) ≠ ⟨.arr d k, (i, j) :: s⟩ := fun s e0 => by
          cases e0
          rcases hal with ⟨e', sz', n', f', hq⟩ | ⟨b', hq, _⟩
          · rw [hunder s rfl rfl] at hq; cases hq
          · cases hq
        obtain ⟨g1, g2⟩ := h3' b _ hb hnu
        exact ⟨g1, fun cc ee hcc => ⟨cc, g2.trans hcc, rfl⟩⟩
    have hI1 : Inv w0 own0 σ1 a w' own3 := by
      refine hI.trans h1 (fun b hb hlt => (hf.h b hb hlt).2) (fun b hb => h3' b _ hb (fun s e0 => hdf (by simp only [FP, Place.mk.injEq, Root.arr.injEq] at e0; exact e0.1.1.symm)))
        (fun l => ?_) hinj hrng rfl (fun t' ht' => ?_) (fun t' ht' => ?_) (fun d' k' e' sz' n' f' hq => ?_) (Kept.of fun b l hb => h3' b _ hb (fun s e0 => by cases e0))
      · rw [harr, if_neg (fun e0 => hdF e0.1.symm), if_neg (fun e0 => hdf e0.1.symm)]; exact hI.noff l
      · have h7 := ht'.clr hf (onRoot dst) hK
        have h8 : (σ.s t').clr (onRoot dst) = σ.s t' := by
          have := congrArg (fun τ => τ.s t') hfr.kill
          exact this
        rw [h8] at h7
        exact h7
      · obtain ⟨b, cc, ee, k1, k2, k3, k4⟩ := hI.boxes t' ht'
        obtain ⟨g1, g2⟩ := h3' b _ k1 (fun s e0 => by cases e0)
        refine ⟨b, cc, ee, g1, g2.trans k2, k3, fun l x0 hx0 => ?_⟩
        have h7 := (k4 l x0 hx0).clr hf (onRoot dst) hK (fun b s hb => h3' b _ hb (fun s' e0 => by cases e0))
        have h8 : C.free dst x0 = true := List.all_eq_true.1 (hfr.noRef.2 t') x0 (List.mem_of_getElem? hx0)
        rw [C.free_clr h8] at h7
        exact h7
      · rw [harr] at hq
        split at hq
        · rename_i e0
          obtain ⟨rfl, rfl⟩ := e0
          cases hq
          exact ⟨v', hok⟩
        · split at hq
          · rename_i e0 e2
            obtain ⟨rfl, rfl⟩ := e2
            cases hq
            obtain ⟨v0, hv0⟩ := hI.arrs d' k' _ _ _ _ hp
            refine ⟨v0, ?_⟩
            cases hv0 with
            | nil => omega
            | osl ho' hh' hs' hn' hcap' hl' hr' =>
              obtain ⟨g1, g2⟩ := h3' _ _ ho' (fun s e0 => by cases e0)
              refine .osl g1 (g2.trans hh') hs' hn' hcap' (fun q hq => by rw [setRow_len]; exact hl' q hq) (fun q l hq hl => ?_)
              by_cases hql : q = i ∧ l = j
              · obtain ⟨rfl, rfl⟩ := hql
                have : (setRow F q l .dead q).getD l .dead = .dead := by
                  rw [Mh.setRow_self, List.getD_eq_getElem?_getD, List.getElem?_set]
                  simp only [if_true]
                  split <;> rfl
                rw [this]; exact .dead _
              · have : (setRow F i j .dead q).getD l .dead = (F q).getD l .dead := by
                  by_cases hqi : q = i
                  · subst hqi
                    rw [Mh.setRow_self, List.getD_eq_getElem?_getD, List.getD_eq_getElem?_getD, List.getElem?_set, if_neg (fun e0 => hql ⟨rfl, e0.symm⟩)]
                  · rw [Mh.setRow_other _ _ _ _ hqi]
                rw [this]
                refine (hr' q l hq hl).moved hf (fun b s hb => h3' b _ hb (fun s' e0 => hql ?_))
                simp only [Place.push, List.nil_append, List.cons_append, Place.mk.injEq, List.cons.injEq, Prod.mk.injEq, true_and] at e0
                exact e0.1
          · rename_i e0 e2
            obtain ⟨v0, hv0⟩ := hI.arrs d' k' _ _ _ _ hq
            exact ⟨v0, hv0.moved hf (fun b s hb => h3' b _ hb (fun s' e3 => e2 (by simp only [Place.mk.injEq, Root.arr.injEq] at e3; exact e3.1)))⟩
    refine ⟨v', w', own3, ?_, hI1, ?_⟩
    · simp only [execOp, ho, resolve, invoke, builtin, Sem.run_bind, Sem.run_pure, Result.andThen_ok, List.map_toArray, List.map_cons, List.map_nil, hr]
    · intro e' sz' n' f' hq
      have hq' : σ1.arr dst 0 = .sl e' sz' n' f' := hq
      rw [harr, if_pos ⟨rfl, rfl⟩] at hq'
      cases hq'
      exact hok.hdr

theorem FRun.madeA {P : Program} {ops : Array Oper} {o : Oper} {rest : List Oper} {dst d k : Nat} {A : List Nat} {R : List Loc} {rs : List DRow} {σ : AS} {y t : T} {K : AS → Prop} (hg : o.guard = none)
    (h : ∀ τ, τ.n = σ.n → (∀ l, l ∈ R → τ.at σ l) → Free dst τ → Step P o τ (((τ.setArr d k y).setArr dst 0 t).setS dst ⟨true, .one (.ref ⟨.arr dst 0, []⟩)⟩)) (hA : A.all (fun x => !Nat.beq dst x && !Nat.beq d x) = true)
    (hr : FRun P ops rest rs (((σ.setArr d k y).setArr dst 0 t).setS dst ⟨true, .one (.ref ⟨.arr dst 0, []⟩)⟩) K) :
    FRun P ops (o :: rest) (⟨⟨R, [.s dst, .a dst 0, .a d k], false⟩, some dst, A⟩ :: rs) σ K := by
  refine FRun.cons (σ' := ((σ.setArr d k y).setArr dst 0 t).setS dst ⟨true, .one (.ref ⟨.arr dst 0, []⟩)⟩) ⟨rfl, fun l hl => ?_, fun τ k1 k2 k3 => ?_, fun x hx l hl => ?_⟩ hr
  · have hm := DOp.mem_of_false hl
    simp only [List.mem_cons, List.not_mem_nil, or_false, not_or] at hm
    cases l with
    | s x =>
      simp only [AS.at, setS_s]
      rw [if_neg (fun e => hm.1 (by rw [e]))]
      rfl
    | b x => rfl
    | a x z =>
      show (((σ.setArr d k y).setArr dst 0 t).arr x z) = σ.arr x z
      rw [setArr_arr, if_neg (fun e => hm.2.1 (by rw [e.1, e.2])), setArr_arr, if_neg (fun e => hm.2.2 (by rw [e.1, e.2]))]
  · have h1 := h τ k1 (fun l hl => k2 l (Loc.mem_iff.2 hl)) (k3 dst rfl)
    have e : AS.patch τ (((σ.setArr d k y).setArr dst 0 t).setS dst ⟨true, .one (.ref ⟨.arr dst 0, []⟩)⟩) (DOp.wr ⟨R, [.s dst, .a dst 0, .a d k], false⟩) = (((τ.setArr d k y).setArr dst 0 t).setS dst ⟨true, .one (.ref ⟨.arr dst 0, []⟩)⟩) := by
      refine AS.ext_at rfl fun l => ?_
      cases hl : DOp.wr ⟨R, [.s dst, .a dst 0, .a d k], false⟩ l with
      | true =>
        refine AS.at_trans (AS.patch_in hl) ?_
        have hm := Loc.mem_iff.1 hl
        simp only [List.mem_cons, List.not_mem_nil, or_false] at hm
        rcases hm with rfl | rfl | rfl
        · simp only [AS.at, setS_s, if_true]
        · show ((σ.setArr d k y).setArr dst 0 _).arr dst 0 = ((τ.setArr d k y).setArr dst 0 _).arr dst 0
          simp only [setArr_arr, and_self, if_true]
        · show ((σ.setArr d k y).setArr dst 0 _).arr d k = ((τ.setArr d k y).setArr dst 0 _).arr d k
          simp only [setArr_arr, and_self, if_true]
      | false =>
        refine AS.at_trans (AS.patch_out hl) ?_
        have hm := DOp.mem_of_false hl
        simp only [List.mem_cons, List.not_mem_nil, or_false, not_or] at hm
        cases l with
        | s x =>
          simp only [AS.at, setS_s]
          rw [if_neg (fun e => hm.1 (by rw [e]))]
          rfl
        | b x => rfl
        | a x z =>
          show τ.arr x z = (((τ.setArr d k y).setArr dst 0 t).arr x z)
          rw [setArr_arr, if_neg (fun e => hm.2.1 (by rw [e.1, e.2])), setArr_arr, if_neg (fun e => hm.2.2 (by rw [e.1, e.2]))]
    rw [e]
    exact .plain hg h1
  · have hAx := List.all_eq_true.1 hA x hx
    simp only [Bool.and_eq_true, Bool.not_eq_true'] at hAx
    have hdx : dst ≠ x := fun e => by rw [e] at hAx; simp at hAx
    have hdx2 : d ≠ x := fun e => by rw [e] at hAx; simp at hAx
    have hm := Loc.mem_iff.1 hl
    simp only [List.mem_cons, List.not_mem_nil, or_false] at hm
    rcases hm with rfl | rfl | rfl
    · simp only [freeAt, setS_s, if_true]
      simp only [V.free, V.free1, C.free, C.places, List.all_cons, List.all_nil, Bool.and_true, Root.num, beq_false hdx, Bool.not_false]
    · intro e; exact absurd e hdx
    · intro e; exact absurd e hdx2

end Go.Mh

set_option linter.unusedVariables false
namespace Go.Mh
open Go

theorem LSpec.letGo {P : Program} {f : FuncId} {e : Nat} {r r' : List T} {args : List PV} {res res' : PV} (h : LSpec P f e r r' args res) (hz : FzR res res') : LSpec P f e r r' args res' := by
  intro w F b0 cap c vals hs hv0 hF hh hc h1 h2 hr hv
  refine (h w F b0 cap c vals hs hv0 hF hh hc h1 h2 hr hv).mono ?_
  rintro ex w' ⟨v, c', own', rfl, q1, q2, hret, q3, q4, hres⟩
  have hRF : RR ≠ FF := by decide
  have hf : Froz w' w' (mergeF w F own') (mergeF w F noOwn) := ⟨fun b hb _ => ⟨by unfold mergeF at *; split <;> rename_i hl; (rw [if_pos hl] at hb; exact hb); rfl, rfl⟩⟩
  refine ⟨v, c', noOwn, rfl, q1, q2, ⟨hret.same, hret.old, fun b p hb => (by cases hb), fun b b' p hb => (by cases hb)⟩, q3, fun j hj => (q4 j hj).frozen hf, ?_⟩
  have hg : ∀ k, Gone w' w' (mergeF w F own') (mergeF w F noOwn) ⟨.arr RR k, []⟩ := fun k b s hb => ⟨by
    unfold mergeF at *
    split <;> rename_i hl
    · rw [if_pos hl] at hb
      have := (ownF_some hb).2.2
      simp only [FP, Place.mk.injEq, Root.arr.injEq] at this
      exact absurd this.1.1 hRF
    · rfl, rfl⟩
  have one : ∀ {k : Nat} {v : Value} {t t' : T} {pl : Option Place}, FzT t t' → Ok w' (mergeF w F own') (some ⟨.arr RR k, []⟩) v t → Ok w' (mergeF w F noOwn) pl v t' := by
    intro k v t t' pl hz hv
    cases hz with
    | sc h0 => exact Ok.anyw hv h0
    | fz hz => exact .fz ((hv.freeze hf (hg k)).asFz hz)
  have oneP : ∀ {i : Nat} {v : Value} {u u' : PV}, FzP u u' → OkP w' (mergeF w F own') (resPl i) v u → OkP w' (mergeF w F noOwn) (resPl i) v u' := by
    intro i v u u' hz hv
    cases hz with
    | one h => exact one h hv
    | agg h =>
      obtain ⟨xs, h1, h2, h3⟩ := hv
      refine ⟨xs, h1, by rw [h2, h.get.1], fun j t' hj => ?_⟩
      obtain ⟨t, k1, k2⟩ := h.get.2 j t' hj
      exact one k2 (h3 j t k1)
  cases hz with
  | p hp =>
    cases hp with
    | one h0 => exact oneP (i := 0) (.one h0) hres
    | agg h0 => exact oneP (i := 0) (.agg h0) hres
  | tup h0 =>
    obtain ⟨xs, h1, h2, h3⟩ := hres
    refine ⟨xs, h1, by rw [h2, h0.get.1], fun i u' hu => ?_⟩
    obtain ⟨u, k1, k2⟩ := h0.get.2 i u' hu
    exact oneP k2 (h3 i u k1)

/-! ### a new variable, in a region that draws -/
theorem FRun.boxN {P : Program} {ops : Array Oper} {o : Oper} {rest : List Oper} {R : List Loc} {d : Nat} {A : List Nat} {ds : List DRow} {σ : AS} {x : List C} {K : AS → Prop} (hg : o.guard = none)
    (h : ∀ τ, τ.n = σ.n → (∀ l, l ∈ R → τ.at σ l) → Free d τ → Step P o τ ((τ.setBox d x).setS d ⟨true, .one (.bptr d 0)⟩)) (hA : A.all (fun r => x.all (C.free r) && !Nat.beq d r) = true) (hr : FRun P ops rest ds ((σ.setBox d x).setS d ⟨true, .one (.bptr d 0)⟩) K) : FRun P ops (o :: rest) (⟨⟨R, [.s d, .b d], false⟩, some d, A⟩ :: ds) σ K := by
  refine FRun.cons (σ' := (σ.setBox d x).setS d ⟨true, .one (.bptr d 0)⟩) ⟨rfl, fun l hl => ?_, fun τ k1 k2 k3 => ?_, fun r hx l hl => ?_⟩ hr
  · have hm := DOp.mem_of_false hl
    simp only [List.mem_cons, List.not_mem_nil, or_false, not_or] at hm
    cases l with
    | s u =>
      simp only [AS.at, setS_s]
      rw [if_neg (fun e => hm.1 (by rw [e]))]
      rfl
    | b u =>
      show (σ.setBox d x).box u = σ.box u
      rw [setBox_box, if_neg (fun e => hm.2 (by rw [e]))]
    | a u k => rfl
  · have h1 := h τ k1 (fun l hl => k2 l (Loc.mem_iff.2 hl)) (k3 d rfl)
    have e : AS.patch τ ((σ.setBox d x).setS d ⟨true, .one (.bptr d 0)⟩) (DOp.wr ⟨R, [.s d, .b d], false⟩) = (τ.setBox d x).setS d ⟨true, .one (.bptr d 0)⟩ := by
      refine AS.ext_at rfl fun l => ?_
      cases hl : DOp.wr ⟨R, [.s d, .b d], false⟩ l with
      | true =>
        refine AS.at_trans (AS.patch_in hl) ?_
        have hm := Loc.mem_iff.1 hl
        simp only [List.mem_cons, List.not_mem_nil, or_false] at hm
        rcases hm with rfl | rfl
        · simp only [AS.at, setS_s, if_true]
        · show (σ.setBox d x).box d = (τ.setBox d x).box d
          rw [setBox_box, setBox_box, if_pos rfl, if_pos rfl]
      | false =>
        refine AS.at_trans (AS.patch_out hl) ?_
        have hm := DOp.mem_of_false hl
        simp only [List.mem_cons, List.not_mem_nil, or_false, not_or] at hm
        cases l with
        | s u =>
          simp only [AS.at, setS_s]
          rw [if_neg (fun e => hm.1 (by rw [e]))]
          rfl
        | b u =>
          show τ.box u = (τ.setBox d x).box u
          rw [setBox_box, if_neg (fun e => hm.2 (by rw [e]))]
        | a u k => rfl
    rw [e]
    exact .plain hg h1
  · have hAx := List.all_eq_true.1 hA r hx
    simp only [Bool.and_eq_true, Bool.not_eq_true'] at hAx
    have hdx : d ≠ r := fun e => by rw [e] at hAx; simp at hAx
    have hm := Loc.mem_iff.1 hl
    simp only [List.mem_cons, List.not_mem_nil, or_false] at hm
    rcases hm with rfl | rfl
    · simp only [freeAt, setS_s, if_true]
      simp only [V.free, V.free1, C.free, C.places, List.all_cons, List.all_nil, Bool.and_true, Root.num, beq_false hdx, Bool.not_false]
    · refine ⟨?_, fun e => absurd e hdx⟩
      show ((σ.setBox d x).box d).all (C.free r) = true
      rw [setBox_box, if_pos rfl]; exact hAx.1
theorem step_allocN {P : Program} {o : Oper} {σ : AS} {d : Nat} (hd : o.dst = some d) (hn : d < σ.n) {t : TypeId} (ho : o.op = .alloc t) {m : Nat} (hz : zeroSz P t = some m) (hfr : Free d σ) : Step P o σ ((σ.setBox d (List.replicate m .any)).setS d ⟨true, .one (.bptr d 0)⟩) := by
  have h := step_alloc_p hd hn ho hz
  rw [hfr.kill] at h
  exact h

end Go.Mh

set_option linter.unusedVariables false
namespace Go.Mh
open Go

/-- an operation under a guard that is known to be met -/
theorem FRun.on {P : Program} {ops : Array Oper} {o : Oper} {rest : List Oper} {r : DRow} {rs : List DRow} {σ : AS} {K : AS → Prop} {j t : Nat} {want b : Bool} (hg : o.guard = some (j, want)) (hj : (ops[j]?).bind (·.dst) = some t)
    (hR : r.d.rd (.s t) = true) (ht : σ.s t = ⟨true, .one (.v (.bool b))⟩) (hb : b = want) (hr : FRun P ops ({ o with guard := none } :: rest) (r :: rs) σ K) : FRun P ops (o :: rest) (r :: rs) σ K := by
  obtain ⟨σ', h1, h2⟩ := hr
  subst hb
  refine ⟨σ', ⟨h1.n, h1.out, fun τ k1 k2 k3 => ?_, h1.av⟩, h2⟩
  intro w0 own0 a w own hI K Q hK
  have h := h1.go τ k1 k2 k3 w0 own0 a w own hI K Q hK
  simp only [Region.wanted, if_true] at h
  have hτ : τ.s t = ⟨true, .one (.v (.bool b))⟩ := (k2 (.s t) hR).trans ht
  have hs := hI.slots t
  rw [hτ] at hs
  have hv : a.tmps.getD t undef = .bool b := by
    have : Ok w own none (a.tmps.getD t undef) (.bool b) := hs
    exact Ok.sc this rfl
  have hlt : a.tmps[t]? = some (.bool b) := by
    rw [Array.getD_eq_getD_getElem?] at hv
    cases hx : a.tmps[t]? with
    | none => rw [hx] at hv; simp [undef] at hv
    | some x => rw [hx] at hv; simp at hv; rw [hv]
  have hy : yielded ops a.tmps j = some b := by simp only [yielded, hj, Option.bind_some, hlt]
  have hw : Region.wanted o (yielded ops a.tmps) = true := by simp [Region.wanted, hg, hy]
  rw [if_pos hw]
  exact h
/-- an operation under a guard that is known not to be met -/
theorem FRun.off {P : Program} {ops : Array Oper} {o : Oper} {rest : List Oper} {R : List Loc} {A : List Nat} {ds : List DRow} {σ : AS} {K : AS → Prop} {j t d : Nat} {want b : Bool} (u : V) (hg : o.guard = some (j, want)) (hj : (ops[j]?).bind (·.dst) = some t)
    (hm : (Loc.s t).mem R = true) (ht : σ.s t = ⟨true, .one (.v (.bool b))⟩) (hb : b ≠ want) (hd : o.dst = some d) (hn : d < σ.n) (hA : A.all (fun d => u.free d) = true)
    (hr : FRun P ops rest ds (σ.setS d ⟨false, u⟩) K) : FRun P ops (o :: rest) (⟨⟨R, [.s d], false⟩, none, A⟩ :: ds) σ K := by
  have h1 : DStep P ops o σ ⟨R, [.s d], false⟩ (σ.setS d ⟨false, u⟩) := DStep.slot fun τ k1 k2 => by
    have h := GStep.guard (P := P) (u := u) hg hj (rdS k2 hm ht) hd (rdN k1 hn) (fun _ e => absurd e hb)
    rwa [show (true && (b == want)) = false by simp [hb]] at h
  refine FRun.cons ⟨h1.n, h1.out, fun τ k1 k2 _ => h1.go τ k1 k2, fun x hx l hl => ?_⟩ hr
  have : l ∈ [Loc.s d] := Loc.mem_iff.1 hl
  simp only [List.mem_cons, List.not_mem_nil, or_false] at this
  subst this
  simp only [freeAt, setS_s, if_true]
  exact List.all_eq_true.1 hA x hx
end Go.Mh
