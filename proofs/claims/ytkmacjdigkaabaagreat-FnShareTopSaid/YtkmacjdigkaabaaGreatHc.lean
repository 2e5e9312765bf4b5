/- Contracts of functions of the program, each met by its body; conditions stand in each statement. No condition. -/
import Derived.Test.YtkmacjdigkaabaaGreatHa
set_option linter.unusedVariables false
set_option linter.unusedSimpArgs false
set_option linter.unnecessarySimpa false
namespace Go.Mh
open Go

/-! ### what is made out of other roots goes on at a root of its own -/
theorem C.free_of_clr {d : Nat} {g : Place → Bool} {c : C} (h : c.free d = true) : (c.clr g).free d = true := by
  simp only [C.free, List.all_eq_true] at h ⊢
  exact fun p hp => h p (C.clr_places hp).1
theorem V.free1_of_clr {d : Nat} {g : Place → Bool} {v : V} (h : v.free1 d = true) : (v.clr1 g).free1 d = true := by
  cases v with
  | one c => exact C.free_of_clr (c := c) h
  | agg cs =>
    simp only [V.free1, V.clr1, List.all_map, List.all_eq_true, Function.comp] at h ⊢
    exact fun c hc => C.free_of_clr (h c hc)
  | tup vs => exact h
  | any => rfl
theorem V.free_of_clr {d : Nat} {g : Place → Bool} {v : V} (h : v.free d = true) : (v.clr g).free d = true := by
  cases v with
  | tup vs =>
    simp only [V.free, V.clr, List.all_map, List.all_eq_true, Function.comp] at h ⊢
    exact fun c hc => V.free1_of_clr (h c hc)
  | one c => exact V.free1_of_clr (v := .one c) h
  | agg cs => exact V.free1_of_clr (v := .agg cs) h
  | any => rfl
theorem NoRef.clr {d : Nat} {σ : AS} (h : NoRef d σ) (g : Place → Bool) : (∀ t, ((σ.s t).clr g).clr (onRoot d) = (σ.s t).clr g) ∧ ∀ t, ((σ.box t).map (C.clr g)).map (C.clr (onRoot d)) = (σ.box t).map (C.clr g) := by
  refine ⟨fun t => ?_, fun t => ?_⟩
  · unfold SV.clr
    rw [V.free_clr (V.free_of_clr (h.1 t))]
  · rw [List.map_map]
    exact List.map_congr_left fun c hc => C.free_clr (C.free_of_clr (List.all_eq_true.1 (h.2 t) c hc))

theorem Inv.toFresh {w0 own0 σ σ1 a w own} (h : Inv w0 own0 σ1 a w own) {g : Place → Bool} {G : Nat → Nat → Bool} {s k d e sz n : Nat} {f : Nat → List T}
    (e0 : σ1.n = σ.n) (e2 : ∀ t, σ1.s t = (σ.s t).clr g) (e3 : ∀ t, σ1.box t = (σ.box t).map (C.clr g))
    (ht : σ1.arr s k = .sl e sz n f) (ha : ∀ d' k', ¬ (d' = s ∧ k' = k) → σ1.arr d' k' = (σ.goneArr G).arr d' k') (hG : G s k = true) (hGd : G d 0 = false) (hg : ∀ p, g p = true → goneP G p = true)
    (hfree : NoRef d σ) (hdr : d ≠ RR) (hdf : d ≠ FF) (hsr : s ≠ RR) (hsf : s ≠ FF) :
    Inv w0 own0 ((σ.goneArr G).setArr d 0 (.sl e sz n f)) a w (reOwn own (.arr s k) ⟨.arr d 0, []⟩) := by
  have hf := reOwn_froz w own (.arr s k) ⟨.arr d 0, []⟩
  obtain ⟨c1, c2⟩ := hfree.clr g
  have hunder : ∀ p : Place, p.r ≠ .arr d 0 → under ⟨.arr d 0, []⟩ p = false := fun p hp => by simp [under, beq_root_false (fun e => hp e.symm)]
  have hkeep : ∀ b (p : Place), own b = some p → p.r ≠ .arr s k → p.r ≠ .arr d 0 → reOwn own (.arr s k) ⟨.arr d 0, []⟩ b = some p := fun b p hb h1 h2 => reOwn_keep hb h1 (hunder p h2)
  have hbox : ∀ t, σ1.box t = (((σ.goneArr G).setArr d 0 (.sl e sz n f)).mapC g).box t := e3
  have harr : ∀ d' k', ¬ (d' = d ∧ k' = 0) → ((((σ.goneArr G).setArr d 0 (.sl e sz n f)).mapC g).arr d' k' = .dead ∧ (d' = s ∧ k' = k)) ∨ (((σ.goneArr G).setArr d 0 (.sl e sz n f)).mapC g).arr d' k' = σ1.arr d' k' ∧ ¬ (d' = s ∧ k' = k) := fun d' k' hne => by
    by_cases hs : d' = s ∧ k' = k
    · obtain ⟨rfl, rfl⟩ := hs
      left
      refine ⟨?_, rfl, rfl⟩
      show ((σ.goneArr G).setArr d 0 (.sl e sz n f)).arr d' k' = .dead
      rw [setArr_arr, if_neg hne]
      simp only [AS.goneArr, hG]
    · right
      refine ⟨?_, hs⟩
      show ((σ.goneArr G).setArr d 0 (.sl e sz n f)).arr d' k' = σ1.arr d' k'
      rw [setArr_arr, if_neg hne, ha d' k' hs]
  have hnode : ∀ p : Place, p.r.num ≠ d → (((((σ.goneArr G).setArr d 0 (.sl e sz n f)).mapC g).node p = .dead ∧ p.r = .arr s k) ∨ (((σ.goneArr G).setArr d 0 (.sl e sz n f)).mapC g).node p = σ1.node p ∧ p.r ≠ .arr s k) := fun p hp => by
    obtain ⟨r, ps⟩ := p
    cases r with
    | arr d' k' =>
      rcases harr d' k' (fun e => hp e.1) with ⟨h1, h2, h3⟩ | ⟨h1, h2⟩
      · left; exact ⟨by simp only [AS.node, h1, follow_dead], by rw [h2, h3]⟩
      · right; exact ⟨by simp only [AS.node, h1], fun e => h2 (by simpa using e)⟩
    | box b =>
      right
      refine ⟨?_, by simp⟩
      cases ps with
      | nil => rfl
      | cons x ps => obtain ⟨i, j⟩ := x; cases i <;> simp only [AS.node, hbox]
  have hk : ∀ p, onRoot d p = false → KeepP w w own (reOwn own (.arr s k) ⟨.arr d 0, []⟩) σ1 (((σ.goneArr G).setArr d 0 (.sl e sz n f)).mapC g) p := fun p hp => by
    have hp' : p.r.num ≠ d := fun e => by simp [onRoot, e] at hp
    have hpr : p.r ≠ .arr d 0 := fun e => hp' (by rw [e]; rfl)
    refine ⟨fun e' sz' n' f' hq => ?_, fun t _ hb h0 => hb (by rw [← hbox]; exact h0), fun hal b hb => ?_⟩
    · rcases hnode p hp' with ⟨h1, _⟩ | ⟨h1, _⟩
      · rw [h1] at hq; cases hq
      · exact ⟨f', by rw [← h1]; exact hq⟩
    · refine ⟨hkeep b p hb (fun e => ?_) hpr, fun c e hc => ⟨c, hc, rfl⟩⟩
      rcases hal with ⟨e', sz', n', f', hq⟩ | ⟨t, rfl, _⟩
      · rcases hnode p hp' with ⟨h1, _⟩ | ⟨_, h2⟩
        · rw [h1] at hq; cases hq
        · exact h2 e
      · cases e
  have hmv : ∀ p : Place, p.r ≠ .arr s k → p.r ≠ .arr d 0 → Moved w w own (reOwn own (.arr s k) ⟨.arr d 0, []⟩) p p := fun p h1 h2 b s' hb => ⟨hkeep b _ hb h1 h2, rfl⟩
  have hA : Inv w0 own0 (((σ.goneArr G).setArr d 0 (.sl e sz n f)).mapC g) a w (reOwn own (.arr s k) ⟨.arr d 0, []⟩) := by
    refine h.trans ⟨rfl, rfl, rfl, Nat.le_refl _⟩ (fun _ _ _ => rfl) (fun b hb => ⟨hkeep b _ hb (by simp [FP]; intro e; exact absurd e.symm hsf) (by simp [FP]; intro e; exact absurd e.symm hdf), rfl⟩)
      (fun l => ?_) (reOwn_inj h.inj _ _) (fun b p hb => ?_) e0.symm (fun t hs => ?_) (fun t hb => ?_) (fun d' k' e' sz' n' f' hq => ?_) (Kept.of fun b k' hb => ⟨hkeep b _ hb (by simp; intro e; exact absurd e.symm hsr) (by simp; intro e; exact absurd e.symm hdr), rfl⟩)
    · rcases harr FF l (fun e => hdf e.1.symm) with ⟨h1, _⟩ | ⟨h1, _⟩
      · exact h1
      · rw [h1]; exact h.noff l
    · rcases reOwn_some hb with ⟨s', h1, _⟩ | ⟨h1, _, _⟩
      · exact ⟨(h.rng b _ h1).1, .inl (by rw [h1]; simp)⟩
      · exact ⟨(h.rng b _ h1).1, .inl (by rw [h1]; simp)⟩
    · have h2 := hs.clr hf _ hk
      rw [e2, c1] at h2
      exact h2
    · rw [← hbox] at hb
      obtain ⟨b, c, e', k1, k2, k3, k4⟩ := h.boxes t hb
      refine ⟨b, c, e', hkeep b _ k1 (by simp) (by simp), k2, by rw [k3, hbox], fun j x hx => ?_⟩
      have hx' : (((σ.box t).map (C.clr g)).map (C.clr (onRoot d)))[j]? = some x := by rw [c2]; exact hx
      simp only [List.getElem?_map, Option.map_eq_some_iff] at hx'
      obtain ⟨x1, ⟨x0, hx0, rfl⟩, rfl⟩ := hx'
      exact (k4 j (x0.clr g) (by rw [e3, List.getElem?_map, hx0]; rfl)).clr hf _ hk (hmv _ (by simp) (by simp))
    · by_cases hd0 : d' = d ∧ k' = 0
      · obtain ⟨rfl, rfl⟩ := hd0
        have hq' : ((σ.goneArr G).setArr d' 0 (.sl e sz n f)).arr d' 0 = .sl e' sz' n' f' := hq
        rw [setArr_arr, if_pos ⟨rfl, rfl⟩] at hq'
        cases hq'
        obtain ⟨v, hv⟩ := h.arrs s k _ _ _ _ ht
        exact ⟨v, hv.moved hf (fun b s' hb => ⟨reOwn_src hb, rfl⟩)⟩
      · rcases harr d' k' hd0 with ⟨h1, _⟩ | ⟨h1, h2⟩
        · rw [h1] at hq; cases hq
        · rw [h1] at hq
          obtain ⟨v, hv⟩ := h.arrs d' k' _ _ _ _ hq
          exact ⟨v, hv.moved hf (hmv _ (fun e => h2 (by simpa using e)) (fun e => hd0 (by simpa using e)))⟩
  refine hA.unclr g rfl rfl (fun _ => rfl) (fun _ => rfl) (fun p hp hal => ?_) (fun t => ?_)
  · have hq := hg p hp
    obtain ⟨r, ps⟩ := p
    cases r with
    | box b => cases hq
    | arr d' k' =>
      have hG' : G d' k' = true := hq
      have hne : ¬ (d' = d ∧ k' = 0) := fun e => by rw [e.1, e.2, hGd] at hG'; cases hG'
      rcases hal with ⟨e', sz', n', f', hq⟩ | ⟨t, ht, _⟩
      · simp only [AS.node] at hq
        rw [setArr_arr, if_neg hne] at hq
        simp only [AS.goneArr, hG', follow_dead] at hq
        cases hq
      · cases ht
  · cases hb : g ⟨.box t, []⟩ with
    | false => rfl
    | true => have := hg _ hb; cases this

theorem Le.freshen {τ σ1 : AS} {g : Place → Bool} {G : Nat → Nat → Bool} {s k d e sz n : Nat} {f : Nat → List T} (e0 : σ1.n = τ.n) (hs : σ1.s d = ⟨true, .one (.ref ⟨.arr s k, []⟩)⟩) (e2 : ∀ t, t ≠ d → σ1.s t = (τ.s t).clr g) (e3 : ∀ t, σ1.box t = (τ.box t).map (C.clr g))
    (ht : σ1.arr s k = .sl e sz n f) (ha : ∀ d' k', ¬ (d' = s ∧ k' = k) → σ1.arr d' k' = (τ.goneArr G).arr d' k') (hG : G s k = true) (hGd : G d 0 = false) (hg : ∀ p, g p = true → goneP G p = true)
    (hfree : NoRef d τ) (hdn : d < τ.n) (hsr : Nat.beq s RR = false) :
    Le σ1 (((τ.goneArr G).setArr d 0 (.sl e sz n f)).setS d ⟨true, .one (.ref ⟨.arr d 0, []⟩)⟩) := by
  intro w0 own0 a w own h
  have hdr : d ≠ RR := by have := h.nf; omega
  have hdf : d ≠ FF := by have := h.nf; have := RR_lt_FF; omega
  have hsr' : s ≠ RR := fun e => by subst e; simp at hsr
  have hsf : s ≠ FF := fun e => by subst e; rw [h.noff] at ht; cases ht
  have h1 := h.retell (t := d) (x := ⟨true, .any⟩) trivial
  have h2 := h1.toFresh (σ := τ.setS d ⟨true, .any⟩) (g := g) (G := G) (s := s) (k := k) (d := d) e0 (fun t => by
      rw [setS_s, setS_s]
      by_cases htd : t = d
      · rw [if_pos htd, if_pos htd]; rfl
      · rw [if_neg htd, if_neg htd]; exact e2 t htd) e3 ht ha hG hGd hg ⟨fun t => by
      rw [setS_s]
      split
      · rfl
      · exact hfree.1 t, hfree.2⟩ hdr hdf hsr' hsf
  have hv : OkC w own σ1 (a.tmps.getD d undef) (.ref ⟨.arr s k, []⟩) := h.evC (x := .tmp d) hs
  have h3 := h2.retell (t := d) (x := ⟨true, .one (.ref ⟨.arr d 0, []⟩)⟩) (by
    intro e' sz' n' f' hq
    have hq' : (((τ.setS d ⟨true, .any⟩).goneArr G).setArr d 0 (.sl e sz n f)).arr d 0 = .sl e' sz' n' f' := hq
    rw [setArr_arr, if_pos ⟨rfl, rfl⟩] at hq'
    cases hq'
    rcases hv _ _ _ _ (show σ1.node ⟨.arr s k, []⟩ = _ from ht) with h4 | ⟨b, cap, c, q1, q2, q3, q4, q5, q6⟩
    · exact .inl h4
    · exact .inr ⟨b, cap, c, q1, reOwn_src (by simpa using q2), q3, q4, q5, q6⟩)
  refine ⟨reOwn own (.arr s k) ⟨.arr d 0, []⟩, ?_⟩
  have e : (((τ.setS d ⟨true, .any⟩).goneArr G).setArr d 0 (.sl e sz n f)).setS d ⟨true, .one (.ref ⟨.arr d 0, []⟩)⟩ = ((τ.goneArr G).setArr d 0 (.sl e sz n f)).setS d ⟨true, .one (.ref ⟨.arr d 0, []⟩)⟩ := by
    refine AS.ext_at rfl fun l => ?_
    cases l with
    | s t =>
      simp only [AS.at, setS_s]
      split
      · rfl
      · rename_i hh
        show (τ.setS d ⟨true, .any⟩).s t = τ.s t
        rw [setS_s, if_neg hh]
    | b t => rfl
    | a t k => rfl
  rw [← e]
  exact h3

theorem goneR_one (s k d' k' : Nat) : goneR [(s, k)] d' k' = isRoot s k d' k' := by simp [goneR, isRoot]
/-- append: the result goes on at a root of its own -/
theorem step_appendF {P : Program} {o : Oper} {σ : AS} {dst : Nat} (hd : o.dst = some dst) (hn : dst < σ.n) {t e sz by' n m : Nat} {x y : Operand} (ho : o.op = .call { callee := .builtin .append, args := #[x, y], argTypes := #[t, t] }) (ht : sliceT P t = some ⟨e, sz, by'⟩) {s k : Nat} {f g : Nat → List T} {e1 : Nat} {c : C} (hfr : Free dst σ)
    (hx : σ.ev x = ⟨true, .one (.ref ⟨.arr s k, []⟩)⟩) (hp : σ.arr s k = .sl e sz n f) (hy : σ.ev y = ⟨true, .one c⟩) (hc : ArgC σ c (.sl e1 sz m g)) (hfl : flatRows m g) (hb : (n + m) * by' ≤ 140737488355328) (hm : n + m ≤ 140737488355328) (hsr : Nat.beq s RR = false := by rfl) (hne : goneR [(s, k)] dst 0 = false := by rfl) :
    Step P o σ (((σ.goneArr (goneR [(s, k)])).setArr dst 0 (.sl e sz (n + m) (catF n f g))).setS dst ⟨true, .one (.ref ⟨.arr dst 0, []⟩)⟩) := by
  refine (step_append hd hn ho ht hx hp hy hc hfl hb hm hsr).le ?_
  refine Le.freshen (g := onArr s k) (s := s) (k := k) rfl (by rw [setS_s, if_pos rfl]) (fun t htd => by rw [setS_s, if_neg htd]; rfl) (fun t => rfl) (by
    show ((σ.mapC (onArr s k)).setArr s k _).arr s k = _
    rw [setArr_arr, if_pos ⟨rfl, rfl⟩]) (fun d' k' hq => by
    show ((σ.mapC (onArr s k)).setArr s k _).arr d' k' = _
    rw [setArr_arr, if_neg hq]
    show σ.arr d' k' = _
    simp only [AS.goneArr, goneR_one]
    rw [isRoot_false (fun e => hq (by simpa using e))]) (by simp [goneR]) hne (fun p hp => ?_) hfr.noRef hn hsr
  have := Root.beq_eq hp
  obtain ⟨r, ps⟩ := p
  simp only at this
  subst this
  simp [goneP, goneR]
/-- what makes an array out of other roots, in a region that draws -/
theorem FRun.made {P : Program} {ops : Array Oper} {o : Oper} {rest : List Oper} {d : Nat} {A : List Nat} {R : List Loc} {L : List (Nat × Nat)} {rs : List DRow} {σ : AS} {t : T} {K : AS → Prop} (hg : o.guard = none)
    (h : ∀ τ, τ.n = σ.n → (∀ l, l ∈ R → τ.at σ l) → Free d τ → Step P o τ (((τ.goneArr (goneR L)).setArr d 0 t).setS d ⟨true, .one (.ref ⟨.arr d 0, []⟩)⟩)) (hA : A.all (fun x => !Nat.beq d x) = true)
    (hr : FRun P ops rest rs (((σ.goneArr (goneR L)).setArr d 0 t).setS d ⟨true, .one (.ref ⟨.arr d 0, []⟩)⟩) K) :
    FRun P ops (o :: rest) (⟨⟨R, .s d :: .a d 0 :: L.map (fun x => Loc.a x.1 x.2), false⟩, some d, A⟩ :: rs) σ K := by
  have hnr : ∀ x y, (.a x y : Loc) ∈ L.map (fun x => Loc.a x.1 x.2) ↔ goneR L x y = true := fun x y => by
    simp only [List.mem_map, goneR, List.any_eq_true, Bool.and_eq_true]
    constructor
    · rintro ⟨z, h1, h2⟩; simp only [Loc.a.injEq] at h2; exact ⟨z, h1, by rw [h2.1]; simp, by rw [h2.2]; simp⟩
    · rintro ⟨z, h1, h2, h3⟩; exact ⟨z, h1, by rw [Nat.eq_of_beq_eq_true h2, Nat.eq_of_beq_eq_true h3]⟩
  have hns : ∀ x, (.s x : Loc) ∉ L.map (fun x => Loc.a x.1 x.2) := fun x h => by
    simp only [List.mem_map] at h; obtain ⟨z, _, h⟩ := h; cases h
  have hnb : ∀ x, (.b x : Loc) ∉ L.map (fun x => Loc.a x.1 x.2) := fun x h => by
    simp only [List.mem_map] at h; obtain ⟨z, _, h⟩ := h; cases h
  refine FRun.cons (σ' := ((σ.goneArr (goneR L)).setArr d 0 t).setS d ⟨true, .one (.ref ⟨.arr d 0, []⟩)⟩) ⟨rfl, fun l hl => ?_, fun τ k1 k2 k3 => ?_, fun x hx l hl => ?_⟩ hr
  · have hm := DOp.mem_of_false hl
    simp only [List.mem_cons, not_or] at hm
    cases l with
    | s x =>
      simp only [AS.at, setS_s]
      rw [if_neg (fun e => hm.1 (by rw [e]))]
      rfl
    | b x => rfl
    | a x y =>
      show (((σ.goneArr (goneR L)).setArr d 0 t).arr x y) = σ.arr x y
      rw [setArr_arr, if_neg (fun e => hm.2.1 (by rw [e.1, e.2]))]
      have : goneR L x y = false := by
        cases hh : goneR L x y with
        | false => rfl
        | true => exact absurd ((hnr x y).2 hh) hm.2.2
      simp only [AS.goneArr, this]
  · have h1 := h τ k1 (fun l hl => k2 l (Loc.mem_iff.2 hl)) (k3 d rfl)
    have e : AS.patch τ (((σ.goneArr (goneR L)).setArr d 0 t).setS d ⟨true, .one (.ref ⟨.arr d 0, []⟩)⟩) (DOp.wr ⟨R, .s d :: .a d 0 :: L.map (fun x => Loc.a x.1 x.2), false⟩) = (((τ.goneArr (goneR L)).setArr d 0 t).setS d ⟨true, .one (.ref ⟨.arr d 0, []⟩)⟩) := by
      refine AS.ext_at rfl fun l => ?_
      cases hl : DOp.wr ⟨R, .s d :: .a d 0 :: L.map (fun x => Loc.a x.1 x.2), false⟩ l with
      | true =>
        refine AS.at_trans (AS.patch_in hl) ?_
        have hm := Loc.mem_iff.1 hl
        simp only [List.mem_cons] at hm
        rcases hm with rfl | rfl | hm
        · simp only [AS.at, setS_s, if_true]
        · show ((σ.goneArr _).setArr d 0 _).arr d 0 = ((τ.goneArr _).setArr d 0 _).arr d 0
          rw [setArr_arr, setArr_arr, if_pos ⟨rfl, rfl⟩, if_pos ⟨rfl, rfl⟩]
        · cases l with
          | s x => exact absurd hm (hns x)
          | b x => exact absurd hm (hnb x)
          | a x y =>
            show ((σ.goneArr _).setArr d 0 _).arr x y = ((τ.goneArr _).setArr d 0 _).arr x y
            rw [setArr_arr, setArr_arr]
            split
            · rfl
            · simp only [AS.goneArr, (hnr x y).1 hm]
      | false =>
        refine AS.at_trans (AS.patch_out hl) ?_
        have hm := DOp.mem_of_false hl
        simp only [List.mem_cons, not_or] at hm
        cases l with
        | s x =>
          simp only [AS.at, setS_s]
          rw [if_neg (fun e => hm.1 (by rw [e]))]
          rfl
        | b x => rfl
        | a x y =>
          show τ.arr x y = (((τ.goneArr (goneR L)).setArr d 0 t).arr x y)
          rw [setArr_arr, if_neg (fun e => hm.2.1 (by rw [e.1, e.2]))]
          have : goneR L x y = false := by
            cases hh : goneR L x y with
            | false => rfl
            | true => exact absurd ((hnr x y).2 hh) hm.2.2
          simp only [AS.goneArr, this]
    rw [e]
    exact .plain hg h1
  · have hdx : d ≠ x := fun e => by have := List.all_eq_true.1 hA x hx; rw [e] at this; simp at this
    have hm := Loc.mem_iff.1 hl
    simp only [List.mem_cons] at hm
    rcases hm with rfl | rfl | hm
    · simp only [freeAt, setS_s, if_true]
      simp only [V.free, V.free1, C.free, C.places, List.all_cons, List.all_nil, Bool.and_true, Root.num, beq_false hdx, Bool.not_false]
    · intro e; exact absurd e hdx
    · cases l with
      | s x => exact absurd hm (hns x)
      | b x => exact absurd hm (hnb x)
      | a y k =>
        intro e
        show (((σ.goneArr (goneR L)).setArr d 0 _).arr y k) = .dead
        rw [setArr_arr, if_neg (fun e' => hdx (e'.1.symm.trans e))]
        simp only [AS.goneArr, (hnr y k).1 hm]

/-- a slice literal without rows is an array of its own -/
theorem step_buildE {P : Program} {o : Oper} {σ : AS} {d : Nat} (hd : o.dst = some d) (hn : d < σ.n) {t e sz by' : Nat} (ho : o.op = .buildSlice t 0 ([] : List (Nat × Operand)).toArray) (ht : sliceT P t = some ⟨e, sz, by'⟩) (hfr : Free d σ) (f : Nat → List T) :
    Step P o σ (((σ.goneArr (goneR [])).setArr d 0 (.sl e sz 0 f)).setS d ⟨true, .one (.ref ⟨.arr d 0, []⟩)⟩) := by
  have h := step_buildSlice (ps := []) hd hn ho ht (by rw [Nat.zero_mul]; rfl) (by simp) (by simp) (by intro q hq; cases hq) rfl
  simp only [Go.Mh.buildN, hfr.kill] at h
  exact h.le (Le.eqvArr (.rows (fun i hi => absurd hi (by omega))))

end Go.Mh

set_option linter.unusedVariables false
namespace Go.Mh
open Go

/-! ### what lies below an array is let go -/
theorem pathEq_refl : ∀ (p : List (Nat × Nat)), pathEq p p = true
  | [] => rfl
  | (i, j) :: p => by simp [pathEq, pathEq_refl p]
theorem pathEq_cons (p : List (Nat × Nat)) : ∀ (x : Nat × Nat) (s : List (Nat × Nat)), pathEq p (p ++ x :: s) = false := by
  induction p with
  | nil => intro x s; rfl
  | cons y p ih => intro x s; obtain ⟨i, j⟩ := y; simp [pathEq, ih]
def dropBelow (own : Own) (p : Place) : Own := fun b => match own b with
  | some q => match under p q && !pathEq p.p q.p with | true => none | false => some q
  | none => none
theorem dropBelow_some {own : Own} {p q : Place} {b : Nat} (h : dropBelow own p b = some q) : own b = some q := by
  unfold dropBelow at h
  cases hb : own b with
  | none => simp [hb] at h
  | some x =>
    simp only [hb] at h
    cases hu : under p x && !pathEq p.p x.p with
    | true => rw [hu] at h; cases h
    | false => rw [hu] at h; exact h
theorem dropBelow_keep {own : Own} {p q : Place} {b : Nat} (h : own b = some q) (hu : (under p q && !pathEq p.p q.p) = false) : dropBelow own p b = some q := by
  simp only [dropBelow, h, hu]
theorem dropBelow_self {own : Own} {p : Place} {b : Nat} (h : own b = some p) : dropBelow own p b = some p := dropBelow_keep h (by simp [pathEq_refl])
theorem dropBelow_off {own : Own} {p q : Place} {b : Nat} (h : own b = some q) (hu : under p q = false) : dropBelow own p b = some q := dropBelow_keep h (by simp [hu])
theorem dropBelow_root {own : Own} {p : Place} {r : Root} {b : Nat} (h : own b = some ⟨r, []⟩) : dropBelow own p b = some ⟨r, []⟩ := dropBelow_keep h (by
  obtain ⟨r', ps⟩ := p
  cases ps with
  | nil => simp [pathEq]
  | cons x ps => obtain ⟨i, j⟩ := x; simp [under, isPre])

theorem Le.fzBelow {σ : AS} (p : Place) {e sz n : Nat} {f : Nat → List T} (g : Nat → List T) (hn : σ.node p = .sl e sz n f) (hl : ∀ i, i < n → (g i).length = (f i).length)
    (hz : ∀ i j, i < n → Fz ((f i).getD j .dead) ((g i).getD j .dead) ∧ noSl ((g i).getD j .dead) = true) : Le σ (((σ.updNode p (.sl e sz n g)).mapC (belowB p)).goneArr (fun _ _ => false)) := by
  intro w0 own0 a w own h
  have hf : Froz w w own (dropBelow own p) := ⟨fun b hb _ => ⟨by simp [dropBelow, hb], rfl⟩⟩
  refine ⟨dropBelow own p, h.upd hn (.sl e sz n g) ⟨rfl, rfl, rfl, Nat.le_refl _⟩ hf (fun _ _ => false) (by cases p with | mk r ps => cases r <;> rfl) (fun b q hb hq _ => ⟨dropBelow_off hb hq, rfl⟩) (fun v hv => ?_) (belowB p) (fun q _ => by cases q with | mk r ps => cases r <;> rfl)
    (fun q hq => ?_) (fun _ => rfl) (fun b b' q hb hb' => h.inj b b' q (dropBelow_some hb) (dropBelow_some hb')) (fun b q hb => ⟨(h.rng b q (dropBelow_some hb)).1, .inl (by rw [dropBelow_some hb]; simp)⟩) (Kept.of fun b k hb => ⟨dropBelow_root hb, rfl⟩)⟩
  · cases hv with
    | nil => exact .nil _ _ _
    | osl ho hh hs hn' hcap hl' hr =>
      refine .osl (dropBelow_self ho) hh hs hn' hcap (fun i hi => (hl i hi).trans (hl' i hi)) (fun i j hi hj => ?_)
      obtain ⟨z1, z2⟩ := hz i j hi
      refine Ok.place (Ok.asFz z1 ((hr i j hi hj).freeze hf (fun b s hb => ⟨?_, rfl⟩))) z2 _
      have e1 : (⟨(p.push i j).r, (p.push i j).p ++ s⟩ : Place) = ⟨p.r, p.p ++ (i, j) :: s⟩ := by simp [Place.push]
      rw [e1] at hb
      simp only [dropBelow, hb, under_self, pathEq_cons, Bool.not_false, Bool.and_self]
  · rcases belowB_false hq with rfl | hp
    · refine ⟨fun e' sz' n' f' hq' => ?_, fun t0 _ hb e0 => hb (by have := updNode_box_len σ q (.sl e sz n g) t0; rw [e0] at this; exact List.eq_nil_of_length_eq_zero this), fun _ b hb => ⟨dropBelow_self hb, fun c e hc => ⟨c, hc, rfl⟩⟩⟩
      rw [updNode_self σ q _ hn] at hq'
      cases hq'
      exact ⟨f, hn⟩
    · exact ⟨fun e' sz' n' f' hq' => updNode_off σ p q _ (not_under hp) hq', fun t0 _ hb e0 => hb (by have := updNode_box_len σ p (.sl e sz n g) t0; rw [e0] at this; exact List.eq_nil_of_length_eq_zero this), fun _ b hb => ⟨dropBelow_off hb (not_under hp), fun c e hc => ⟨c, hc, rfl⟩⟩⟩

/-! ### in regions that draw -/
theorem rdNode {τ σ : AS} {R : List Loc} (hr : ∀ l, l ∈ R → τ.at σ l) {d k : Nat} {ps : List (Nat × Nat)} (hm : (Loc.a d k).mem R = true) : τ.node ⟨.arr d k, ps⟩ = σ.node ⟨.arr d k, ps⟩ := by
  have h : τ.arr d k = σ.arr d k := hr (.a d k) (Loc.mem_iff.1 hm)
  simp only [AS.node, h]
theorem rdNodePush {τ σ : AS} {R : List Loc} (hr : ∀ l, l ∈ R → τ.at σ l) {d k i j e sz n : Nat} {f : Nat → List T} (hm : (Loc.a d k).mem R = true) (hn : σ.arr d k = .sl e sz n f) (hi : i < n) : τ.node (Place.push ⟨.arr d k, []⟩ i j) = (f i).getD j .dead := by
  have h := node_push τ ⟨.arr d k, []⟩ i j (e := e) (sz := sz) (n := n) (f := f) (by rw [rdNode hr hm]; simp only [AS.node, follow, hn]) hi
  exact h
theorem call_freshC {P : Program} {o : Oper} {σ : AS} {d : Nat} (hd : o.dst = some d) (hn : d < σ.n) {f : FuncId} {xs : List Operand} {ats : Array TypeId} (ho : o.op = .call { callee := .value (.func f), args := xs.toArray, argTypes := ats }) (hc : callOk P f = true)
    {args : List PV} {t : T} (ha : ArgVs σ xs args) (hs : ASpec P f args (.one t)) (ht : isSl t = true) (hcl : Clean t) :
    Step P o σ (((σ.kill d).setArr d 0 t).setS d ⟨true, .one (.ref ⟨.arr d 0, []⟩)⟩) := by
  have h := call_stepC hd hn ho hc ha hs rfl (by intro x hx; have hx' : x ∈ [t] := hx; rw [List.mem_singleton] at hx'; rw [hx']; exact hcl)
  obtain ⟨e, sz, n, g, rfl⟩ := isSl_spec ht
  have e1 : (σ.kill d).setRoots d (.one (.sl e sz n g)) = (σ.kill d).setArr d 0 (.sl e sz n g) := by
    refine AS.ext_at rfl fun l => ?_
    cases l with
    | s t => rfl
    | b t => rfl
    | a x y =>
      simp only [AS.at, AS.setRoots, setArr_arr, AS.kill]
      by_cases hx : x = d
      · subst hx
        cases y with
        | zero => simp [rootAt, rootIn, rootT]
        | succ y => simp [rootAt, rootIn]
      · rw [beq_false hx]; simp [hx]
  rw [e1] at h
  exact h

/-- one plain cell of a root array's row is written -/
theorem step_store_1 {P : Program} {o : Oper} {σ : AS} {t : Nat} {x y : Operand} (hd : o.dst = none) (ho : o.op = .store t x y) (ht : cellsSz P t = some (0 + 1)) {d k i j e sz n : Nat} {f : Nat → List T} {v : T}
    (hx : σ.ev x = ⟨true, .one (.eptr ⟨.arr d k, []⟩ i j)⟩) (hp : σ.arr d k = .sl e sz n f) (hi : i < n) (hj : j + 1 ≤ sz) (hy : σ.ev y = ⟨true, .one (.v v)⟩) (hs : v.solid = true := by rfl) :
    Step P o σ (σ.setArr d k (.sl e sz n (setRow f i j (toT (.v v))))) := by
  have hn : σ.node ⟨.arr d k, []⟩ = .sl e sz n f := by simp only [AS.node, follow, hp]
  have h := step_store_e (P := P) hd ho ht hx hn hi hj (by rw [hy]) (by rw [hy]; rfl) (by
    simp only [storeOkNA, hy, V.cells, List.getElem?_cons_zero, storeOkA, Bool.and_true, solidC, hs])
  have e1 : storeNA ⟨.arr d k, []⟩ i j y (0 + 1) 0 σ = σ.setArr d k (.sl e sz n (setRow f i j (toT (.v v)))) := by
    simp only [storeNA, hy, V.cells, List.getElem?_cons_zero, storeA1, hn, Nat.add_zero, AS.updNode, updT]
  rw [e1] at h
  exact h

/-! ### references to arrays in rows, put into variables -/
theorem boxAll_cons {σ : AS} {c : C} {cs : List C} (h : boxC σ c = true) (hs : cs.all (boxC σ) = true) : (c :: cs).all (boxC σ) = true := by simp [h, hs]
theorem boxC_push {σ : AS} {d k i j e sz n : Nat} {f : Nat → List T} (hn : σ.arr d k = .sl e sz n f) (hi : i < n) (hr : isSl ((f i).getD j .dead) = true) : boxC σ (.ref (Place.push ⟨.arr d k, []⟩ i j)) = true := by
  simp only [boxC, Place.push, List.nil_append, hn, follow, if_pos hi]
  exact hr

end Go.Mh
